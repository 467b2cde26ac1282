/- PutB; SpA; Fits; SpB (merged by group.py) -/
import Derived.Test.YtcbainmpikcfjaaQ07
import Derived.RegionTactic
import Derived.ChangeAlike
import Derived.StillTailTactics
namespace Go.Proofs.Ytcbainmpikcfjaa
section
open Go.RowKit
set_option linter.unusedVariables false
set_option maxRecDepth 20000

theorem bytesF_ins (f : Nat → Cel) (pos : Nat) (c : Cel) : ∀ n, bytesF (insF f pos c) n = if n ≤ pos then bytesF f n else bytesF f (n - 1) + c.2.size := by
  intro n
  induction n with
  | zero => simp [bytesF]
  | succ n ih =>
    have e : bytesF (insF f pos c) (n + 1) = bytesF (insF f pos c) n + (insF f pos c n).2.size := rfl
    rw [e, ih]
    unfold insF
    by_cases h1 : n < pos
    · rw [if_pos (by omega), if_pos h1, if_pos (by omega)]
      rfl
    · by_cases h2 : n = pos
      · subst h2
        rw [if_pos (by omega), if_neg (by omega), if_pos rfl, if_neg (by omega)]
        rfl
      · rw [if_neg (by omega), if_neg h1, if_neg h2, if_neg (by omega)]
        obtain ⟨d, rfl⟩ : ∃ d, n = d + 1 := ⟨n - 1, by omega⟩
        simp only [Nat.add_sub_cancel]
        have e2 : bytesF f (d + 1) = bytesF f d + (f d).2.size := rfl
        rw [e2]
        omega
theorem lastF_ins {f : Nat → Cel} {n : Nat} {x : Int} {pos : Nat} (hp : PosI n f x pos) (hx : 1 ≤ x) (s : ByteArray) : lastF (insF f pos (x, s)) (n + 1) = if x ≤ lastF f n then lastF f n else x := by
  have hle := hp.le
  unfold lastF
  rw [if_neg (by omega), Nat.add_sub_cancel]
  unfold insF
  by_cases h0 : n = 0
  · subst h0
    obtain rfl : pos = 0 := by omega
    simp
    omega
  · rw [if_neg h0]
    by_cases h1 : n = pos
    · subst h1
      rw [if_neg (by omega), if_pos rfl]
      have := hp.below (n - 1) (by omega)
      rw [if_neg (by omega)]
    · rw [if_neg (by omega), if_neg h1]
      have := hp.above (n - 1) (by omega) (by omega)
      rw [if_pos this]
theorem roomF_ins {f : Nat → Cel} {n : Nat} {x : Int} {pos : Nat} (hp : PosI n f x pos) (hx : 1 ≤ x) (s : ByteArray) (size : Int) :
    roomF size (insF f pos (x, s)) (n + 1) = size - 2 - 4 * (if x ≤ lastF f n then lastF f n else x) - bytesF f n - s.size := by
  have hle := hp.le
  unfold roomF
  have e : bytesF (insF f pos (x, s)) (n + 1) = bytesF f n + s.size := by
    rw [bytesF_ins, if_neg (by omega), Nat.add_sub_cancel]
  rw [lastF_ins hp hx, e]
  omega

/-- what Put gives -/
def putRes (size n : Nat) (f : Nat → Cel) (pos : Nat) (s : ByteArray) : ByteArray × Int × Int :=
  if nextF f n ≤ 200 then (if roomF size (insF f pos (nextF f n, s)) (n + 1) < 0 then (⟨#[]⟩, 0, 13) else (⟨(bufF size (n + 1) (insF f pos (nextF f n, s)) (n + 1)).toArray⟩, nextF f n, 0)) else (⟨#[]⟩, 0, 13)
def put3 (r : ByteArray × Int × Int) : Ending := .returned (.tuple #[.string r.1, .int .i64 r.2.1, .int .i64 r.2.2])
theorem next_miss {f : Nat → Cel} {n pos : Nat} (hg : ¬ AnyBad f n) : ¬ (pos < n ∧ (f pos).1 = (nextF f n : Int)) := fun h => (nextI hg n (Nat.le_refl _)).free pos h.1 h.2

theorem put_empty (p : ByteArray) (s : ByteArray) (w : World) (hv : ValidR p) (hs : s.toList = []) :
    Calls Try.prog 41 #[.string p, .string s] w fun e w' => e = put3 (⟨#[]⟩, 0, 1) ∧ Ext w w' := by
  obtain ⟨z1, z2⟩ := sizes_of hv
  go_enter Try.func41, Try.ntmps41
  go_wp2_with (go_at_call 48; refine (valid_any p _ (by omega)).mono ?_; rintro e w1 ⟨rfl, hx1⟩; rw [decide_eq_true hv])
  go_ret3
  exact ⟨rfl, hx1⟩
theorem put_ok (p : ByteArray) (s : ByteArray) (w : World) (hv : ValidR p) (hs : s.toList ≠ []) (hs2 : s.size ≤ 140737488355328) (pos : Nat) (hp : PosI (cnt p) (cel p) (nextF (cel p) (cnt p)) pos) :
    Calls Try.prog 41 #[.string p, .string s] w fun e w' => e = put3 (putRes p.size (cnt p) (cel p) pos s) ∧ Ext w w' := by
  obtain ⟨z1, z2⟩ := sizes_of hv
  have hs0 : 0 < s.size := by
    rw [ne_eq, toList_nil] at hs
    omega
  have d3 : s.toList.isEmpty = false := by simpa using hs
  clear hs
  have hN := fun W => next_ok p W hv
  have hG := cel_good hv
  have hge := (nextI hG _ (Nat.le_refl _)).ge
  by_cases h2 : nextF (cel p) (cnt p) ≤ 200
  · simp only [h2, if_true] at hN
    have hP := fun W => put_new p (nextF (cel p) (cnt p)) s W hv hs0 hs2 ⟨by omega, by omega⟩ pos hp (next_miss hG)
    unfold putRes
    rw [if_pos h2]
    unfold filledRes at hP
    by_cases hr : roomF p.size (insF (cel p) pos (nextF (cel p) (cnt p), s)) (cnt p + 1) < 0
    · simp only [hr, if_true] at hP ⊢
      go_enter Try.func41, Try.ntmps41
      go_wp2_with (first
        | (go_at_call 48; refine (valid_any p _ (by omega)).mono ?_; rintro e w1 ⟨rfl, hx1⟩; rw [decide_eq_true hv])
        | (go_at_call 57; refine (hN _).mono ?_; rintro e w2 ⟨rfl, hx2⟩)
        | (go_at_call 58; refine (hP _).mono ?_; rintro e w3 ⟨rfl, hx3⟩))
      go_ret3
      exact ⟨rfl, (hx1.trans hx2).trans hx3⟩
    · simp only [hr, if_false] at hP ⊢
      go_enter Try.func41, Try.ntmps41
      go_wp2_with (first
        | (go_at_call 48; refine (valid_any p _ (by omega)).mono ?_; rintro e w1 ⟨rfl, hx1⟩; rw [decide_eq_true hv])
        | (go_at_call 57; refine (hN _).mono ?_; rintro e w2 ⟨rfl, hx2⟩)
        | (go_at_call 58; refine (hP _).mono ?_; rintro e w3 ⟨rfl, hx3⟩))
      go_ret3
      exact ⟨rfl, (hx1.trans hx2).trans hx3⟩
  · simp only [h2, if_false] at hN
    unfold putRes
    rw [if_neg h2]
    go_enter Try.func41, Try.ntmps41
    go_wp2_with (first
      | (go_at_call 48; refine (valid_any p _ (by omega)).mono ?_; rintro e w1 ⟨rfl, hx1⟩; rw [decide_eq_true hv])
      | (go_at_call 57; refine (hN _).mono ?_; rintro e w2 ⟨rfl, hx2⟩))
    go_ret3
    exact ⟨rfl, hx1.trans hx2⟩
end
section
open Go.RowKit
set_option linter.unusedVariables false
set_option maxRecDepth 20000
set_option maxRecDepth 20000

def nthB (l : List ByteArray) (i : Nat) : ByteArray := l.getD i ⟨#[]⟩
def nthL (l : List UInt8) (i : Nat) : UInt8 := l.getD i 0
/-- an area's block: its levels, its size, its slice of pages -/
structure ArB (w : World) (A : Nat) (lv : List UInt8) (size : Nat) (v : Value) : Prop where
  heap : w.heap[A]? = some (.cells (lv.map (fun b => Value.int .u8 b.toNat) ++ [.int .i64 size, v]).toArray 66 (0, 0))
  len : lv.length = 200
theorem ArB.lt {w : World} {A : Nat} {lv : List UInt8} {size : Nat} {v : Value} (h : ArB w A lv size v) : A < w.heap.size := (Array.getElem?_eq_some_iff.1 h.heap).1
theorem ArB.same {w w' : World} {A : Nat} {lv : List UInt8} {size : Nat} {v : Value} (h : ArB w A lv size v) (e : w'.heap[A]? = w.heap[A]?) : ArB w' A lv size v := ⟨e.trans h.heap, h.len⟩
theorem ArB.ext {w w' : World} {A : Nat} {lv : List UInt8} {size : Nat} {v : Value} (h : ArB w A lv size v) (hx : Ext w w') : ArB w' A lv size v := h.same (hx.block h.lt)
theorem ArB.level {w : World} {A : Nat} {lv : List UInt8} {size : Nat} {v : Value} (h : ArB w A lv size v) (i : Nat) (hi : i < 200) : w.cell? ⟨A, i, none⟩ = some (.int .u8 (nthL lv i).toNat) := by
  have hl := h.len
  have h1 : i < lv.length := by omega
  simp [nthL, World.cell?, h.heap, List.getElem?_append, h1]
theorem ArB.sizeC {w : World} {A : Nat} {lv : List UInt8} {size : Nat} {v : Value} (h : ArB w A lv size v) : w.cell? ⟨A, 200, none⟩ = some (.int .i64 size) := by
  have hl := h.len
  simp [World.cell?, h.heap, hl]
theorem ArB.pagesC {w : World} {A : Nat} {lv : List UInt8} {size : Nat} {v : Value} (h : ArB w A lv size v) : w.cell? ⟨A, 201, none⟩ = some v := by
  have hl := h.len
  simp [World.cell?, h.heap, hl]
theorem ArB.free {w : World} {A : Nat} {lv : List UInt8} {size : Nat} {v : Value} (h : ArB w A lv size v) (i : Nat) : w.frozen? ⟨A, i, none⟩ = false := by simp [World.frozen?, h.heap]
theorem ArB.setLevel {w : World} {A : Nat} {lv : List UInt8} {size : Nat} {v : Value} (h : ArB w A lv size v) (i : Nat) (hi : i < 200) (b : UInt8) : ArB (w.setCell ⟨A, i, none⟩ (.int .u8 b.toNat)) A (lv.set i b) size v := by
  have hl := h.len
  refine ⟨?_, by simpa using hl⟩
  rw [heap_setCell_same w A i _ _ _ h.heap]
  congr 2
  apply Array.ext'
  rw [Array.toList_setIfInBounds]
  simp only [List.map_set]
  rw [List.set_append_left _ _ (by simp [hl, hi])]
theorem ArB.setPages {w : World} {A : Nat} {lv : List UInt8} {size : Nat} {v : Value} (h : ArB w A lv size v) (u : Value) : ArB (w.setCell ⟨A, 201, none⟩ u) A lv size u := by
  have hl := h.len
  refine ⟨?_, hl⟩
  rw [heap_setCell_same w A 201 _ _ _ h.heap]
  congr 2
  apply Array.ext'
  rw [Array.toList_setIfInBounds]
  simp only
  rw [List.set_append_right _ _ (by simp [hl])]
  simp [hl]

/-- the room of a page, and its level -/
noncomputable def roomP (p : ByteArray) : Int := roomF p.size (cel p) (cnt p)
noncomputable def levP (size : Nat) (p : ByteArray) : Nat := (roomP p * 8 / (size : Int)).toNat
theorem roomP_le {p : ByteArray} (hv : ValidR p) : 0 ≤ roomP p ∧ roomP p ≤ p.size - 2 := by
  unfold roomP
  have h1 := cel_room hv
  have h2 := topF_in p hv.1.2.2 _ hv.2.1
  have h3 := cel_sum hv
  omega
theorem levP_le {p : ByteArray} (hv : ValidR p) : levP p.size p ≤ 8 := by
  obtain ⟨z1, z2⟩ := sizes_of hv
  have h := roomP_le hv
  unfold levP
  have : roomP p * 8 / (p.size : Int) ≤ 8 := by
    refine Int.le_trans (Int.ediv_le_ediv (by omega) (b := 8 * p.size) (by omega)) ?_
    rw [Int.mul_ediv_cancel _ (by omega)]
    omega
  omega


theorem pages_is (A : Nat) (lv : List UInt8) (size : Nat) (P : Option Addr) (n cap : Nat) (w : World) (h : ArB w A lv size (.slice P n cap)) :
    Calls Try.prog 27 #[.pointer (some ⟨A, 0, none⟩)] w fun e w' => e = .returned (.int .i64 n) ∧ w = w' := by
  have g := h.pagesC
  go_enter Try.func27, Try.ntmps27
  go_wp2
  go_ret
  exact ⟨rfl, rfl⟩
theorem asked_is (A : Nat) (lv : List UInt8) (size : Nat) (P : Option Addr) (n cap : Nat) (x : Int) (w : World) (h : ArB w A lv size (.slice P n cap)) (hn : n ≤ 9223372036854775807) :
    Calls Try.prog 42 #[.pointer (some ⟨A, 0, none⟩), .int .i64 x] w fun e w' => e = .returned (.int .i64 (if 0 ≤ x ∧ x < n then 0 else 7)) ∧ w = w' := by
  have g := h.pagesC
  by_cases h0 : x < 0
  · rw [if_neg (by omega)]
    go_enter Try.func42, Try.ntmps42
    go_wp2
    go_ret
    exact ⟨rfl, rfl⟩
  · by_cases h1 : x < n
    · rw [if_pos ⟨by omega, h1⟩]
      go_enter Try.func42, Try.ntmps42
      go_wp2
      go_ret
      exact ⟨rfl, rfl⟩
    · rw [if_neg (by omega)]
      have h2 : (n : Int) ≤ x := by omega
      go_enter Try.func42, Try.ntmps42
      go_wp2
      go_ret
      exact ⟨rfl, rfl⟩

theorem u8_of (x : Int) (h0 : 0 ≤ x) (h1 : x ≤ 255) : x = ((UInt8.ofNat x.toNat).toNat : Int) := by
  simp only [UInt8.toNat_ofNat']
  rw [Nat.mod_eq_of_lt (by omega)]
  omega
theorem note_any (A : Nat) (lv : List UInt8) (size : Nat) (v : Value) (n : Nat) (room : Int) (w : World) (h : ArB w A lv size v) (hn : n < 200) (h0 : 0 ≤ room) (h1 : room ≤ size) (hz : 32 ≤ size ∧ size ≤ 4096) :
    Calls Try.prog 36 #[.pointer (some ⟨A, 0, none⟩), .int .i64 n, .int .i64 room, .int .i64 size] w fun e w' =>
      e = .returned (.tuple #[]) ∧ ArB w' A (lv.set n (UInt8.ofNat (room * 8 / (size : Int)).toNat)) size v ∧ Upd w A w' := by
  obtain ⟨z1, z2⟩ := hz
  have hq0 : 0 ≤ room * 8 / (size : Int) := Int.ediv_nonneg (by omega) (by omega)
  have hq1 : room * 8 / (size : Int) ≤ 8 := by
    refine Int.le_trans (Int.ediv_le_ediv (by omega) (b := 8 * size) (by omega)) ?_
    rw [Int.mul_ediv_cancel _ (by omega)]
    omega
  have g := h.level n hn
  have f := h.free n
  have hst := h.setLevel n hn (UInt8.ofNat (room * 8 / (size : Int)).toNat)
  rw [← u8_of _ hq0 (by omega)] at hst
  have c1 : (n : Int) < 200 := by omega
  have c2 : ¬ (size : Int) = 0 := by omega
  have c3 : ((size : Int) == 0) = false := by simpa using c2
  have k1 : IntKind.i64.wrap (room * 8) = room * 8 := IntWalk.i64_in _ ⟨by omega, by omega⟩
  have k2 : (room * 8).tdiv (size : Int) = room * 8 / (size : Int) := by rw [Int.tdiv_eq_ediv_of_nonneg (by omega)]
  have k3 : IntKind.i64.wrap (room * 8 / (size : Int)) = room * 8 / (size : Int) := IntWalk.i64_in _ ⟨by omega, by omega⟩
  have k4 : IntKind.u8.wrap (room * 8 / (size : Int)) = room * 8 / (size : Int) := by
    simp only [IntKind.wrap, IntKind.signed, IntKind.bits]
    simp
    omega
  generalize room * 8 / (size : Int) = q at *
  go_enter Try.func36, Try.ntmps36
  go_wp2
  go_region
  go_end0
  exact ⟨rfl, ⟨hst.heap, hst.len⟩, (Upd.setCell _ _ _ _).drew⟩

/-- a slice of texts, read -/
structure SlS (w : World) (P : Option Addr) (l : List ByteArray) : Prop where
  at_ : ∀ i, i < l.length → ∃ b off, P = some ⟨b, off, none⟩ ∧ w.cell? ⟨b, off + i, none⟩ = some (.string (nthB l i))
theorem SlS.ext {w w' : World} {P : Option Addr} {l : List ByteArray} (h : SlS w P l) (hx : Ext w w') : SlS w' P l :=
  ⟨fun i hi => by obtain ⟨b, off, e, h1⟩ := h.at_ i hi; exact ⟨b, off, e, hx.cell h1⟩⟩
theorem Upd.level {a b : World} {A : Nat} (h : Upd a A b) {g : Nat} (hne : g ≠ A) {o : Obj} (hg : a.heap[g]? = some o) : b.heap[g]? = some o := h.heap hg hne

theorem noted_any (A : Nat) (lv : List UInt8) (size : Nat) (P : Option Addr) (len cap : Nat) (l : List ByteArray) (n : Nat) (w : World) (h : ArB w A lv size (.slice P len cap)) (hs : SlS w P l) (hl : l.length = len) (hn : n < len) (hn2 : n < 200) (hv : ValidR (nthB l n)) (hz : (nthB l n).size = size) :
    Calls Try.prog 25 #[.pointer (some ⟨A, 0, none⟩), .int .i64 n] w fun e w' =>
      e = .returned (.tuple #[]) ∧ ArB w' A (lv.set n (UInt8.ofNat (levP size (nthB l n)))) size (.slice P len cap) ∧ Upd w A w' := by
  obtain ⟨b, off, rfl, hc⟩ := hs.at_ n (by omega)
  generalize nthB l n = p at *
  subst hz
  obtain ⟨z1, z2⟩ := sizes_of hv
  have hF : ∀ W, Calls Try.prog 35 #[.string p] W fun e w' => e = .returned (.tuple #[.int .i64 (roomP p), .int .i64 0]) ∧ Ext W w' := fun W => free_ok p W hv
  have hr := roomP_le hv
  have g1 := h.pagesC
  have c1 : (n : Int) < len := by omega
  go_enter Try.func25, Try.ntmps25
  go_wp2_with (go_at_call 35; refine (hF _).mono ?_; rintro e w1 ⟨rfl, hx1⟩)
  have h1 := h.ext hx1
  have g2 := h1.sizeC
  have hN := fun (W : World) (hW : ArB W A lv p.size (.slice (some ⟨b, off, none⟩) len cap)) => note_any A lv p.size _ n (roomP p) W hW hn2 hr.1 (by omega) ⟨z1, z2⟩
  go_region_with (go_at_call 36; refine (hN _ (by exact ⟨h1.heap, h1.len⟩)).mono ?_; rintro e w2 ⟨rfl, h2, hu2⟩)
  go_end0
  exact ⟨rfl, h2, (Upd.of_ext hx1.drew A).trans hu2⟩


theorem may_is (A : Nat) (lv : List UInt8) (size : Nat) (v : Value) (n : Nat) (bytes : Int) (w : World) (h : ArB w A lv size v) (hn : n < 200) (h0 : 0 ≤ bytes) (h1 : bytes ≤ 4096) (hz : 32 ≤ size ∧ size ≤ 4096) :
    Calls Try.prog 55 #[.pointer (some ⟨A, 0, none⟩), .int .i64 n, .int .i64 bytes, .int .i64 size] w fun e w' =>
      e = .returned (.bool (decide (bytes * 8 / (size : Int) ≤ (nthL lv n).toNat))) ∧ ∃ m, w' = w.drewN m := by
  obtain ⟨z1, z2⟩ := hz
  have g := h.level n hn
  have c0 := UInt8.toNat_lt (nthL lv n)
  generalize (nthL lv n).toNat = q at *
  have c1 : (n : Int) < 200 := by omega
  have c2 : wrap64 (q : Int) = q := wrap_byte q (by omega)
  have c3 : ((size : Int) == 0) = false := by simp; omega
  have c4 : ¬ (size : Int) = 0 := by omega
  have hq0 : 0 ≤ bytes * 8 / (size : Int) := Int.ediv_nonneg (by omega) (by omega)
  have hq1 : bytes * 8 / (size : Int) ≤ 32768 := Int.le_trans (Int.ediv_le_self _ (by omega)) (by omega)
  have k1 : IntKind.i64.wrap (bytes * 8) = bytes * 8 := IntWalk.i64_in _ ⟨by omega, by omega⟩
  have k2 : (bytes * 8).tdiv (size : Int) = bytes * 8 / (size : Int) := by rw [Int.tdiv_eq_ediv_of_nonneg (by omega)]
  have k3 : IntKind.i64.wrap (bytes * 8 / (size : Int)) = bytes * 8 / (size : Int) := IntWalk.i64_in _ ⟨by omega, by omega⟩
  have k5 : IntKind.i64.wrap (q : Int) = q := IntWalk.i64_in _ ⟨by omega, by omega⟩
  generalize bytes * 8 / (size : Int) = t at *
  go_enter Try.func55, Try.ntmps55
  go_wp2
  go_quiet (fail)
  go_wp2
  go_ret
  exact ⟨rfl, _, rfl⟩
end
section
open Go.RowKit
set_option linter.unusedVariables false
set_option maxRecDepth 20000
set_option maxRecDepth 20000

/-- the greater of the least free line and the last one -/
noncomputable def topLine (p : ByteArray) : Int := if (nextF (cel p) (cnt p) : Int) ≤ lastF (cel p) (cnt p) then lastF (cel p) (cnt p) else nextF (cel p) (cnt p)
/-- whether a page has place for so many bytes -/
noncomputable def holdsB (p : ByteArray) (b : Int) : Bool := decide (nextF (cel p) (cnt p) ≤ 200) && decide (0 ≤ (p.size : Int) - 2 - 4 * topLine p - bytesF (cel p) (cnt p) - b)
theorem ret_fits {a b : Bool} (h : a = b) : Ending.returned (.tuple #[.bool a, .int .i64 0]) = .returned (.tuple #[.bool b, .int .i64 0]) := by rw [h]

set_option maxHeartbeats 1000000 in
theorem fits_any (p : ByteArray) (b : Int) (w : World) (hv : ValidR p) (hb0 : 1 ≤ b) (hb : b ≤ 140737488355328) :
    Calls Try.prog 56 #[.string p, .int .i64 b] w fun e w' => e = .returned (.tuple #[.bool (holdsB p b), .int .i64 0]) ∧ Ext w w' := by
  obtain ⟨z1, z2⟩ := sizes_of hv
  have hN := fun W => next_ok p W hv
  have hC := fun W => cells_of p W hv
  have hG := cel_good hv
  have hn := cnt_le hv
  have hsum := cel_sum hv
  have hI := nextI hG _ (Nat.le_refl _)
  have i1 := hI.ge
  have i2 := hI.le
  have hl := last_of_good hG
  have hmono := fun k (hk : k ≤ cnt p) => bytesF_mono (cel p) hk
  unfold holdsB topLine
  have hbl : bytesF (cel p) (cnt p) ≤ p.size := by omega
  clear hsum hI
  generalize cnt p = n at *
  generalize hf : cel p = f at *
  clear hf
  by_cases h2 : nextF f n ≤ 200
  · simp only [h2, if_true] at hN
    rw [decide_eq_true h2, Bool.true_and]
    have c2 : (nextF f n : Int) ≤ 200 := by omega
    have c3 : ¬ b < 0 := by omega
    have c4 : (b == 0) = false := by simp; omega
    by_cases h3 : (p.size : Int) < b
    · rw [decide_eq_false (by split <;> omega)]
      clear hmono
      generalize nextF f n = m at *
      go_enter Try.func56, Try.ntmps56
      go_wp2_with (go_at_call 57; refine (hN _).mono ?_; rintro e w1 ⟨rfl, hx1⟩)
      go_ret2
      exact ⟨rfl, hx1⟩
    · have hM : ∃ M : Int, (if (nextF f n : Int) ≤ lastF f n then lastF f n else nextF f n) = M ∧ 1 ≤ M ∧ M ≤ 200 := ⟨_, rfl, by split <;> omega, by split <;> omega⟩
      obtain ⟨M, hM, hM1, hM2⟩ := hM
      rw [hM]
      have HM := Lib.hid hM
      clear hM
      rcases Nat.eq_zero_or_pos n with h0 | h0
      · subst h0
        have eM : M = nextF f 0 := by
          rw [← HM.out]
          have : lastF f 0 = 0 := by simp [lastF]
          rw [if_neg (by omega)]
        have HE := Lib.hid eM
        clear eM hmono
        have hb0' : bytesF f 0 = 0 := rfl
        rw [hb0']
        clear hb0'
        generalize nextF f 0 = m at *
        go_enter Try.func56, Try.ntmps56
        go_wp2_with (first
          | (go_at_call 57; refine (hN _).mono ?_; rintro e w1 ⟨rfl, hx1⟩)
          | (go_at_call 50; refine (hC _).mono ?_; rintro e w2 ⟨A, cap, rfl, hs, hx2⟩))
        go_loopw [10, 55] (fun s i wr => i = .int .i64 0 ∧ s = .int .i64 0 ∧ Ext w wr) (fun _ _ _ => 0)
        case atStart => exact ⟨rfl, rfl, hx1.trans hx2⟩
        case round =>
          obtain ⟨rfl, rfl, her⟩ := hrel
          go_wp2
          go_ret2
          refine ⟨ret_fits ?_, her⟩
          rw [decide_eq_decide, HE.out]
          omega
      · have hlast : lastF f n = (f (n - 1)).1 := by simp [lastF]; omega
        have hd : ((n : Int) - 1).toNat = n - 1 := by omega
        have c5 : (0 : Int) < n := by omega
        have HL := Lib.hid hlast
        clear hlast
        have hgd := fun k hk => good_at hG k hk
        generalize nextF f n = m at *
        go_enter Try.func56, Try.ntmps56
        go_wp2_with (first
          | (go_at_call 57; refine (hN _).mono ?_; rintro e w1 ⟨rfl, hx1⟩)
          | (go_at_call 50; refine (hC _).mono ?_; rintro e w2 ⟨A, cap, rfl, hs, hx2⟩; obtain ⟨bb, off, rfl, g1, g2⟩ := hs.at_ (n - 1) (by omega); rw [← HL.out] at g1))
        all_goals (
          go_loopw [10, 55] (fun s i wr => ∃ k : Nat, k ≤ n ∧ i = .int .i64 k ∧ s = .int .i64 (bytesF f k) ∧ Ext w2 wr) (fun _ i _ => n - (intOf i).toNat)
          case atStart => exact ⟨0, by omega, rfl, by simp [bytesF], Ext.refl _⟩
          case round =>
            obtain ⟨k, hk, rfl, rfl, her⟩ := hrel
            by_cases hlt : k < n
            · obtain ⟨b', off', e', q1w, q2w⟩ := hs.at_ k hlt
              obtain ⟨rfl, rfl⟩ : bb = b' ∧ off = off' := by simpa using e'
              clear e'
              have q1 := her.cell q1w
              have q2 := her.cell q2w
              have m1 := hmono (k + 1) (by omega)
              have m2 : bytesF f (k + 1) = bytesF f k + (f k).2.size := rfl
              have m3 : bytesF f k + (f k).2.size ≤ bytesF f n := by omega
              have H2 := Lib.hid m2
              clear m1 m2 hmono
              go_wp2
              go_roundw
              case rel => exact ⟨k + 1, by omega, by go_num, by rw [H2.out]; go_num, her.alloc _⟩
              case measure => simp [intOf]; omega
            · obtain rfl : k = n := by omega
              clear hmono HL
              go_wp2
              go_ret2
              refine ⟨ret_fits ?_, (hx1.trans hx2).trans her⟩
              have hE := HM.out
              rw [decide_eq_decide]
              split at hE <;> omega)
  · simp only [h2, if_false] at hN
    rw [decide_eq_false h2, Bool.false_and]
    have c3 : ¬ b < 0 := by omega
    clear hmono
    generalize nextF f n = m at *
    go_enter Try.func56, Try.ntmps56
    go_wp2_with (go_at_call 57; refine (hN _).mono ?_; rintro e w1 ⟨rfl, hx1⟩)
    go_ret2
    exact ⟨rfl, hx1⟩
end
section
open Go.RowKit
set_option linter.unusedVariables false
set_option maxRecDepth 20000
set_option maxRecDepth 20000
attribute [local go_sem] Oper.semAt_some

/-- which page is found near one for so many bytes -/
def FindR (l : List ByteArray) (near : Nat) (b : Int) (r : Int × Int) : Prop :=
  (∃ i, i < l.length ∧ holdsB (nthB l ((near + i) % l.length)) b = true ∧ (∀ j, j < i → holdsB (nthB l ((near + j) % l.length)) b = false) ∧ r = ((((near + i) % l.length : Nat) : Int), 0)) ∨
  ((∀ j, j < l.length → holdsB (nthB l ((near + j) % l.length)) b = false) ∧ r = (0, 13))
theorem findR_some (l : List ByteArray) (near : Nat) (b : Int) : ∃ r, FindR l near b r := by
  by_cases h : ∃ i, i < l.length ∧ holdsB (nthB l ((near + i) % l.length)) b = true
  · obtain ⟨i, ⟨h1, h2⟩, hmin⟩ := least_of (Q := fun i => i < l.length ∧ holdsB (nthB l ((near + i) % l.length)) b = true) h
    refine ⟨((((near + i) % l.length : Nat) : Int), 0), .inl ⟨i, h1, h2, fun j hj => ?_, rfl⟩⟩
    cases hb : holdsB (nthB l ((near + j) % l.length)) b with
    | false => rfl
    | true => exact absurd ⟨by omega, hb⟩ (hmin j hj)
  · refine ⟨(0, 13), .inr ⟨fun j hj => ?_, rfl⟩⟩
    cases hb : holdsB (nthB l ((near + j) % l.length)) b with
    | false => rfl
    | true => exact absurd ⟨j, hj, hb⟩ h

theorem near_any (A : Nat) (near : Int) (w : World) :
    Calls Try.prog 54 #[.pointer (some ⟨A, 0, none⟩), .int .i64 near] w fun e w' => e = .returned (.func (.func 68) #[] #[.pointer (some ⟨w.heap.size, 0, none⟩), .pointer (some ⟨w.heap.size + 1, 0, none⟩)]) ∧
      Boxed w' w.heap.size 44 (.pointer (some ⟨A, 0, none⟩)) ∧ Boxed w' (w.heap.size + 1) 3 (.int .i64 near) ∧ Ext w w' ∧ w'.heap.size = w.heap.size + 2 := by
  go_enter Try.func54, Try.ntmps54
  go_wp2
  go_ret
  refine ⟨rfl, (Boxed.new _ _ _).alloc _, ?_, ((Ext.refl w).alloc _).alloc _, by simp [World.size_alloc]⟩
  have := Boxed.new (w.alloc (.cells #[.pointer (some ⟨A, 0, none⟩)] 44)) 3 (.int .i64 near)
  rw [World.size_alloc] at this
  exact this

set_option maxHeartbeats 4000000 in
theorem near_seq (A ca cf near n cap : Nat) (P : Option Addr) (hn : n ≤ 200) (hne : near < n) :
    SeqP Try.prog 68 #[.pointer (some ⟨ca, 0, none⟩), .pointer (some ⟨cf, 0, none⟩)] (fun i => #[.int .i64 (((near + i) % n : Nat) : Int)]) n
      (fun W => W.cell? ⟨ca, 0, none⟩ = some (.pointer (some ⟨A, 0, none⟩)) ∧ W.cell? ⟨cf, 0, none⟩ = some (.int .i64 near) ∧ W.cell? ⟨A, 201, none⟩ = some (.slice P n cap)) := by
  intro l J Jx Jp W hJ hJx hK hY h0
  obtain ⟨h1, h2, h3⟩ := hK 0 W h0
  refine callsIn_of_wp Try.func68 rfl trivial ?_ rfl
  simp only [Try.ntmps68, List.size_toArray, List.length_cons, List.length_nil, Nat.reduceAdd, Nat.reduceSub, Array.replicate_succ, Array.replicate_zero, List.push_toArray, List.append_toArray, List.nil_append, List.cons_append]
  gi_wp2
  gi_loopw [10] (fun i wr => ∃ k : Nat, k ≤ n ∧ i = .int .i64 k ∧ J k wr) (fun i _ => n - (intOf i).toNat)
  case atStart => exact ⟨0, by omega, rfl, h0⟩
  case round =>
    obtain ⟨k, hk, rfl, hj⟩ := hrel
    by_cases hlt : k < n
    · obtain ⟨g1, g2, g3⟩ := hK _ _ hj
      have hjd := hJ _ _ _ hj (Ext.drew (Ext.refl wr))
      obtain ⟨fn, tmps, assign, body, hy, hR⟩ := hY k wr.drew hjd hlt
      have e1 : (((near + k) % n : Nat) : Int) = ((near : Int) + k) % (n : Int) := by simp
      rw [e1] at hy
      have k1 : IntKind.i64.wrap ((near : Int) + k) = near + k := IntWalk.i64_in _ ⟨by omega, by omega⟩
      have k2 : ((near : Int) + k).tmod (n : Int) = (near + k) % n := Int.tmod_eq_emod_of_nonneg (by omega)
      have k3 : ((n : Int) == 0) = false := by simp; omega
      have k4 : ¬ (n : Int) = 0 := by omega
      have k5 : IntKind.i64.wrap (((near : Int) + k) % (n : Int)) = (near + k) % n := IntWalk.i64_in _ ⟨by have := Int.emod_nonneg ((near : Int) + k) k4; omega, by have := Int.emod_lt_of_pos ((near : Int) + k) (show (0 : Int) < n by omega); omega⟩
      clear e1
      gi_wp2
      gi_region_with (first
        | (refine ⟨rfl, ?_⟩; refine hR.mono ?_; intro e W3 h3; rcases yield_cases h3 with ⟨ch, rfl, hp3⟩ | ⟨t, rfl, h4⟩; exact ⟨rfl, .inr ⟨k, ch, hlt, rfl, hp3⟩⟩; skip))
      all_goals (
        clear h3
        rcases h4 with ⟨rfl, hj3⟩ | ⟨rfl, hx3⟩
        · gi_wp2
          go_roundw
          case rel => exact ⟨k + 1, by omega, by go_num, hj3⟩
          case measure => simp [intOf]; omega
        · gi_wp2
          refine bodyPost_ret (results_none rfl _ _ _) rfl ?_
          exact .inl ⟨⟨_, rfl⟩, .inr ⟨k, hlt, hx3⟩⟩)
    · obtain rfl : k = n := by omega
      gi_wp2
      go_end0
      exact .inl ⟨⟨_, rfl⟩, .inl hj⟩

/-- A region of a round: reads, then one call: the plain walk serves. -/
theorem wpIn_round_still_tail {P : Program} {r id : Nat} {Q : Exit → Act → World → Prop} {a : Act} {w : World} {l : List Oper} (n : Nat) (hnd : l.toArray.all noDefer = true) (hQ : ¬ LetsOut Q) (hm : P.follows .mixedOrders = true) (hB : Region.lexTailB .any l.toArray n = true)
    (h : wpStill P l.toArray w.drew (fun a' => wpList P l.toArray Q (l.drop n) a' w.drew) (l.take n) a) : (Code.region id l.toArray true).wpIn (Fence.wide.inRound r) 0 P Q a w := by
  simp only [Region.lexTailB, Bool.and_eq_true, decide_eq_true_eq] at hB
  obtain ⟨⟨⟨⟨hsel, hn⟩, hs⟩, hc⟩, hlex⟩ := hB
  have hn' : n < l.length := by simpa using hn
  have htl : (l.take n).length = n := by simp; omega
  have hdl : (l.drop n).length = l.toArray.size - n := by simp
  have inv0 : HeadInv .any l.toArray n (Array.replicate l.toArray.size false) :=
    ⟨by simp, fun j oj _ hl => (by rw [getD_replicate_false] at hl; cases hl), fun t _ ht => getD_in (by simpa using ht) (getD_replicate_false _ _)⟩
  have H := wpAnyL_lex (md := .any) (g := l.toArray.size - n) hsel hs hc hn (l.take n) 0 _ a (fun j hj => by
    have hj' : j < n := by rw [htl] at hj; exact hj
    simp [hj']) (by simpa using htl) inv0 (by rw [htl]; exact hlex) h
  have := wpAny_of_head (Q' := Q) (g := l.toArray.size - n) (fun listed a' hL => by
    have := wpAny_of_seq (md := .any) (Q' := Q) (l.drop n) n listed a' w.drew (fun j => by simp [List.getElem?_drop]) (by rw [hdl]; exact hL.1) hL.2
    rwa [hdl] at this) _ _ _ H
  rw [htl, show n + (l.toArray.size - n) = l.toArray.size by omega] at this
  exact wpIn_region_any hm (wpAnyIn_round_of_plain hnd hQ _ _ _ _ this)

/-- an area in memory: its block, the block of its pages, its size and its pages -/
structure Sp (w : World) (A g : Nat) (size : Nat) (l : List ByteArray) (lv : List UInt8) (cap : Nat) : Prop where
  ar : ArB w A lv size (.slice (some ⟨g, 0, none⟩) l.length cap)
  own : w.ownsRow 0 9 1 (.slice (some ⟨g, 0, none⟩) l.length cap) l.length (l.map .string)
  ne : A ≠ g
  lev : ∀ i, i < l.length → nthL lv i = UInt8.ofNat (levP size (nthB l i))
  good : ∀ i, i < l.length → ValidR (nthB l i) ∧ (nthB l i).size = size
  pos : 1 ≤ l.length
  le : l.length ≤ 200
  sz : sizeB (size : Int) = true
theorem slS_of_row {w : World} {base g cap : Nat} {l : List ByteArray} (h : w.ownsRow base 9 1 (.slice (some ⟨g, 0, none⟩) l.length cap) l.length (l.map .string)) : SlS w (some ⟨g, 0, none⟩) l :=
  ⟨fun i hi => ⟨g, 0, rfl, by
    have := h.cellAt i (by omega)
    rw [Nat.zero_add, this]
    simp [nthB, List.getD_eq_getElem?_getD, List.getElem?_eq_getElem hi]⟩⟩
theorem Sp.sls {w : World} {A g size cap : Nat} {l : List ByteArray} {lv : List UInt8} (h : Sp w A g size l lv cap) : SlS w (some ⟨g, 0, none⟩) l := slS_of_row h.own
theorem Sp.ext {w w' : World} {A g size cap : Nat} {l : List ByteArray} {lv : List UInt8} (h : Sp w A g size l lv cap) (hx : Ext w w') : Sp w' A g size l lv cap :=
  ⟨h.ar.ext hx, ownsRow_ext h.own hx, h.ne, h.lev, h.good, h.pos, h.le, h.sz⟩
theorem Sp.sizes {w : World} {A g size cap : Nat} {l : List ByteArray} {lv : List UInt8} (h : Sp w A g size l lv cap) : 32 ≤ size ∧ size ≤ 4096 := by have := h.sz; simp [sizeB] at this; omega
theorem Sp.level {w : World} {A g size cap : Nat} {l : List ByteArray} {lv : List UInt8} (h : Sp w A g size l lv cap) (i : Nat) (hi : i < l.length) : ((nthL lv i).toNat : Int) = roomP (nthB l i) * 8 / (size : Int) := by
  obtain ⟨hv, hz⟩ := h.good i hi
  obtain ⟨z1, z2⟩ := h.sizes
  rw [h.lev i hi]
  have h1 := levP_le hv
  rw [hz] at h1
  simp only [UInt8.toNat_ofNat']
  rw [Nat.mod_eq_of_lt (by omega)]
  unfold levP
  have h0 : 0 ≤ roomP (nthB l i) * 8 / (size : Int) := Int.ediv_nonneg (by have := (roomP_le hv).1; omega) (by omega)
  omega
/-- a page that is not worth looking at does not hold the bytes -/
theorem holds_may {p : ByteArray} (hv : ValidR p) (b : Int) (h : holdsB p b = true) : b * 8 / (p.size : Int) ≤ roomP p * 8 / (p.size : Int) := by
  obtain ⟨z1, z2⟩ := sizes_of hv
  unfold holdsB topLine at h
  simp only [Bool.and_eq_true, decide_eq_true_eq] at h
  refine Int.ediv_le_ediv (by omega) ?_
  unfold roomP roomF
  obtain ⟨_, h2⟩ := h
  split at h2 <;> omega
end
end Go.Proofs.Ytcbainmpikcfjaa
