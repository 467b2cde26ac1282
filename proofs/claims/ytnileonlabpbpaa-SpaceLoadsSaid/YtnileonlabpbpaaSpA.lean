/- Areas in memory; Size, Pages, asked, Page, Level, note, noted, may. -/
import Derived.Test.YtnileonlabpbpaaPutB
import Derived.RegionTactic
import Derived.ChangeAlike
namespace Go.Proofs.Ytnileonlabpbpaa
open Go.RowKit
set_option linter.unusedVariables false
set_option maxRecDepth 20000
set_option maxRecDepth 20000

def nthB (l : List ByteArray) (i : Nat) : ByteArray := l.getD i ⟨#[]⟩
def nthL (l : List UInt8) (i : Nat) : UInt8 := l.getD i 0
/-- an area's block: its levels, its size, its slice of pages -/
structure ArB (w : World) (A : Nat) (lv : List UInt8) (size : Nat) (v : Value) : Prop where
  heap : w.heap[A]? = some (.cells (lv.map (fun b => Value.int .u8 b.toNat) ++ [.int .i64 size, v]).toArray 56 (0, 0))
  len : lv.length = 200
theorem ArB.lt {w : World} {A : Nat} {lv : List UInt8} {size : Nat} {v : Value} (h : ArB w A lv size v) : A < w.heap.size := (Array.getElem?_eq_some_iff.1 h.heap).1
theorem ArB.same {w w' : World} {A : Nat} {lv : List UInt8} {size : Nat} {v : Value} (h : ArB w A lv size v) (e : w'.heap[A]? = w.heap[A]?) : ArB w' A lv size v := ⟨e.trans h.heap, h.len⟩
theorem ArB.ext {w w' : World} {A : Nat} {lv : List UInt8} {size : Nat} {v : Value} (h : ArB w A lv size v) (hx : Ext w w') : ArB w' A lv size v := h.same (hx.block h.lt)
theorem ArB.level {w : World} {A : Nat} {lv : List UInt8} {size : Nat} {v : Value} (h : ArB w A lv size v) (i : Nat) (hi : i < 200) : w.cell? ⟨A, i, none⟩ = some (.int .u8 (nthL lv i).toNat) := by
  have hl := h.len
  have h1 : i < lv.length := by omega
  simp [nthL, World.cell?, h.heap, List.getElem?_append, h1]
theorem ArB.sizeC {w : World} {A : Nat} {lv : List UInt8} {size : Nat} {v : Value} (h : ArB w A lv size v) : w.cell? ⟨A, 200, none⟩ = some (.int .i64 size) := by
  have hl := h.len
  simp [World.cell?, h.heap, hl]
theorem ArB.pagesC {w : World} {A : Nat} {lv : List UInt8} {size : Nat} {v : Value} (h : ArB w A lv size v) : w.cell? ⟨A, 201, none⟩ = some v := by
  have hl := h.len
  simp [World.cell?, h.heap, hl]
theorem ArB.free {w : World} {A : Nat} {lv : List UInt8} {size : Nat} {v : Value} (h : ArB w A lv size v) (i : Nat) : w.frozen? ⟨A, i, none⟩ = false := by simp [World.frozen?, h.heap]
theorem ArB.setLevel {w : World} {A : Nat} {lv : List UInt8} {size : Nat} {v : Value} (h : ArB w A lv size v) (i : Nat) (hi : i < 200) (b : UInt8) : ArB (w.setCell ⟨A, i, none⟩ (.int .u8 b.toNat)) A (lv.set i b) size v := by
  have hl := h.len
  refine ⟨?_, by simpa using hl⟩
  rw [heap_setCell_same w A i _ _ _ h.heap]
  congr 2
  apply Array.ext'
  rw [Array.toList_setIfInBounds]
  simp only [List.map_set]
  rw [List.set_append_left _ _ (by simp [hl, hi])]
theorem ArB.setPages {w : World} {A : Nat} {lv : List UInt8} {size : Nat} {v : Value} (h : ArB w A lv size v) (u : Value) : ArB (w.setCell ⟨A, 201, none⟩ u) A lv size u := by
  have hl := h.len
  refine ⟨?_, hl⟩
  rw [heap_setCell_same w A 201 _ _ _ h.heap]
  congr 2
  apply Array.ext'
  rw [Array.toList_setIfInBounds]
  simp only
  rw [List.set_append_right _ _ (by simp [hl])]
  simp [hl]

/-- the room of a page, and its level -/
noncomputable def roomP (p : ByteArray) : Int := roomF p.size (cel p) (cnt p)
noncomputable def levP (size : Nat) (p : ByteArray) : Nat := (roomP p * 8 / (size : Int)).toNat
theorem roomP_le {p : ByteArray} (hv : ValidR p) : 0 ≤ roomP p ∧ roomP p ≤ p.size - 2 := by
  unfold roomP
  have h1 := cel_room hv
  have h2 := topF_in p hv.1.2.2 _ hv.2.1
  have h3 := cel_sum hv
  omega
theorem levP_le {p : ByteArray} (hv : ValidR p) : levP p.size p ≤ 8 := by
  obtain ⟨z1, z2⟩ := sizes_of hv
  have h := roomP_le hv
  unfold levP
  have : roomP p * 8 / (p.size : Int) ≤ 8 := by
    refine Int.le_trans (Int.ediv_le_ediv (by omega) (b := 8 * p.size) (by omega)) ?_
    rw [Int.mul_ediv_cancel _ (by omega)]
    omega
  omega

theorem size_is (A : Nat) (lv : List UInt8) (size : Nat) (v : Value) (w : World) (h : ArB w A lv size v) :
    Calls Try.prog 22 #[.pointer (some ⟨A, 0, none⟩)] w fun e w' => e = .returned (.int .i64 size) ∧ w = w' := by
  have g := h.sizeC
  go_enter Try.func22, Try.ntmps22
  go_wp2
  go_ret
  exact ⟨rfl, rfl⟩
theorem pages_is (A : Nat) (lv : List UInt8) (size : Nat) (P : Option Addr) (n cap : Nat) (w : World) (h : ArB w A lv size (.slice P n cap)) :
    Calls Try.prog 23 #[.pointer (some ⟨A, 0, none⟩)] w fun e w' => e = .returned (.int .i64 n) ∧ w = w' := by
  have g := h.pagesC
  go_enter Try.func23, Try.ntmps23
  go_wp2
  go_ret
  exact ⟨rfl, rfl⟩
theorem asked_is (A : Nat) (lv : List UInt8) (size : Nat) (P : Option Addr) (n cap : Nat) (x : Int) (w : World) (h : ArB w A lv size (.slice P n cap)) (hn : n ≤ 9223372036854775807) :
    Calls Try.prog 30 #[.pointer (some ⟨A, 0, none⟩), .int .i64 x] w fun e w' => e = .returned (.int .i64 (if 0 ≤ x ∧ x < n then 0 else 7)) ∧ w = w' := by
  have g := h.pagesC
  by_cases h0 : x < 0
  · rw [if_neg (by omega)]
    go_enter Try.func30, Try.ntmps30
    go_wp2
    go_ret
    exact ⟨rfl, rfl⟩
  · by_cases h1 : x < n
    · rw [if_pos ⟨by omega, h1⟩]
      go_enter Try.func30, Try.ntmps30
      go_wp2
      go_ret
      exact ⟨rfl, rfl⟩
    · rw [if_neg (by omega)]
      have h2 : (n : Int) ≤ x := by omega
      go_enter Try.func30, Try.ntmps30
      go_wp2
      go_ret
      exact ⟨rfl, rfl⟩

theorem u8_of (x : Int) (h0 : 0 ≤ x) (h1 : x ≤ 255) : x = ((UInt8.ofNat x.toNat).toNat : Int) := by
  simp only [UInt8.toNat_ofNat']
  rw [Nat.mod_eq_of_lt (by omega)]
  omega
theorem note_any (A : Nat) (lv : List UInt8) (size : Nat) (v : Value) (n : Nat) (room : Int) (w : World) (h : ArB w A lv size v) (hn : n < 200) (h0 : 0 ≤ room) (h1 : room ≤ size) (hz : 32 ≤ size ∧ size ≤ 4096) :
    Calls Try.prog 38 #[.pointer (some ⟨A, 0, none⟩), .int .i64 n, .int .i64 room, .int .i64 size] w fun e w' =>
      e = .returned (.tuple #[]) ∧ ArB w' A (lv.set n (UInt8.ofNat (room * 8 / (size : Int)).toNat)) size v ∧ Upd w A w' := by
  obtain ⟨z1, z2⟩ := hz
  have hq0 : 0 ≤ room * 8 / (size : Int) := Int.ediv_nonneg (by omega) (by omega)
  have hq1 : room * 8 / (size : Int) ≤ 8 := by
    refine Int.le_trans (Int.ediv_le_ediv (by omega) (b := 8 * size) (by omega)) ?_
    rw [Int.mul_ediv_cancel _ (by omega)]
    omega
  have g := h.level n hn
  have f := h.free n
  have hst := h.setLevel n hn (UInt8.ofNat (room * 8 / (size : Int)).toNat)
  rw [← u8_of _ hq0 (by omega)] at hst
  have c1 : (n : Int) < 200 := by omega
  have c2 : ¬ (size : Int) = 0 := by omega
  have c3 : ((size : Int) == 0) = false := by simpa using c2
  have k1 : IntKind.i64.wrap (room * 8) = room * 8 := IntWalk.i64_in _ ⟨by omega, by omega⟩
  have k2 : (room * 8).tdiv (size : Int) = room * 8 / (size : Int) := by rw [Int.tdiv_eq_ediv_of_nonneg (by omega)]
  have k3 : IntKind.i64.wrap (room * 8 / (size : Int)) = room * 8 / (size : Int) := IntWalk.i64_in _ ⟨by omega, by omega⟩
  have k4 : IntKind.u8.wrap (room * 8 / (size : Int)) = room * 8 / (size : Int) := by
    simp only [IntKind.wrap, IntKind.signed, IntKind.bits]
    simp
    omega
  generalize room * 8 / (size : Int) = q at *
  go_enter Try.func38, Try.ntmps38
  go_wp2
  go_region
  go_end0
  exact ⟨rfl, ⟨hst.heap, hst.len⟩, (Upd.setCell _ _ _ _).drew⟩

/-- a slice of texts, read -/
structure SlS (w : World) (P : Option Addr) (l : List ByteArray) : Prop where
  at_ : ∀ i, i < l.length → ∃ b off, P = some ⟨b, off, none⟩ ∧ w.cell? ⟨b, off + i, none⟩ = some (.string (nthB l i))
theorem SlS.ext {w w' : World} {P : Option Addr} {l : List ByteArray} (h : SlS w P l) (hx : Ext w w') : SlS w' P l :=
  ⟨fun i hi => by obtain ⟨b, off, e, h1⟩ := h.at_ i hi; exact ⟨b, off, e, hx.cell h1⟩⟩
theorem Upd.level {a b : World} {A : Nat} (h : Upd a A b) {g : Nat} (hne : g ≠ A) {o : Obj} (hg : a.heap[g]? = some o) : b.heap[g]? = some o := h.heap hg hne

theorem noted_any (A : Nat) (lv : List UInt8) (size : Nat) (P : Option Addr) (len cap : Nat) (l : List ByteArray) (n : Nat) (w : World) (h : ArB w A lv size (.slice P len cap)) (hs : SlS w P l) (hl : l.length = len) (hn : n < len) (hn2 : n < 200) (hv : ValidR (nthB l n)) (hz : (nthB l n).size = size) :
    Calls Try.prog 17 #[.pointer (some ⟨A, 0, none⟩), .int .i64 n] w fun e w' =>
      e = .returned (.tuple #[]) ∧ ArB w' A (lv.set n (UInt8.ofNat (levP size (nthB l n)))) size (.slice P len cap) ∧ Upd w A w' := by
  obtain ⟨b, off, rfl, hc⟩ := hs.at_ n (by omega)
  generalize nthB l n = p at *
  subst hz
  obtain ⟨z1, z2⟩ := sizes_of hv
  have hF : ∀ W, Calls Try.prog 37 #[.string p] W fun e w' => e = .returned (.tuple #[.int .i64 (roomP p), .int .i64 0]) ∧ Ext W w' := fun W => free_ok p W hv
  have hr := roomP_le hv
  have g1 := h.pagesC
  have c1 : (n : Int) < len := by omega
  go_enter Try.func17, Try.ntmps17
  go_wp2_with (go_at_call 37; refine (hF _).mono ?_; rintro e w1 ⟨rfl, hx1⟩)
  have h1 := h.ext hx1
  have g2 := h1.sizeC
  have hN := fun (W : World) (hW : ArB W A lv p.size (.slice (some ⟨b, off, none⟩) len cap)) => note_any A lv p.size _ n (roomP p) W hW hn2 hr.1 (by omega) ⟨z1, z2⟩
  go_region_with (go_at_call 38; refine (hN _ (by exact ⟨h1.heap, h1.len⟩)).mono ?_; rintro e w2 ⟨rfl, h2, hu2⟩)
  go_end0
  exact ⟨rfl, h2, (Upd.of_ext hx1.drew A).trans hu2⟩
theorem page_is (A : Nat) (lv : List UInt8) (size : Nat) (P : Option Addr) (len cap : Nat) (l : List ByteArray) (x : Int) (w : World) (h : ArB w A lv size (.slice P len cap)) (hs : SlS w P l) (hl : l.length = len) (hn : len ≤ 9223372036854775807) :
    Calls Try.prog 26 #[.pointer (some ⟨A, 0, none⟩), .int .i64 x] w fun e w' => e = (if 0 ≤ x ∧ x < len then .returned (.tuple #[.string (nthB l x.toNat), .int .i64 0]) else .returned (.tuple #[.string ⟨#[]⟩, .int .i64 7])) ∧ w = w' := by
  have hA := fun W hW => asked_is A lv size P len cap x W hW hn
  by_cases hx : 0 ≤ x ∧ x < len
  · simp only [hx, if_true, and_self] at hA ⊢
    obtain ⟨n, rfl⟩ : ∃ n : Nat, x = n := ⟨x.toNat, by omega⟩
    obtain ⟨b, off, rfl, hc⟩ := hs.at_ n (by omega)
    rw [Int.toNat_natCast]
    generalize nthB l n = p at *
    have g1 := h.pagesC
    have c1 : (n : Int) < len := hx.2
    clear hx
    go_enter Try.func26, Try.ntmps26
    go_wp2_with (go_at_call 30; refine (hA _ h).mono ?_; rintro e w1 ⟨rfl, rfl⟩)
    go_ret2
    exact ⟨rfl, rfl⟩
  · simp only [hx, if_false] at hA ⊢
    go_enter Try.func26, Try.ntmps26
    go_wp2_with (go_at_call 30; refine (hA _ h).mono ?_; rintro e w1 ⟨rfl, rfl⟩)
    go_ret2
    exact ⟨rfl, rfl⟩
theorem level_is (A : Nat) (lv : List UInt8) (size : Nat) (P : Option Addr) (len cap : Nat) (x : Int) (w : World) (h : ArB w A lv size (.slice P len cap)) (hn : len ≤ 200) :
    Calls Try.prog 27 #[.pointer (some ⟨A, 0, none⟩), .int .i64 x] w fun e w' => e = (if 0 ≤ x ∧ x < len then .returned (.tuple #[.int .i64 (nthL lv x.toNat).toNat, .int .i64 0]) else .returned (.tuple #[.int .i64 0, .int .i64 7])) ∧ w = w' := by
  have hA := fun W hW => asked_is A lv size P len cap x W hW (by omega)
  by_cases hx : 0 ≤ x ∧ x < len
  · simp only [hx, if_true, and_self] at hA ⊢
    obtain ⟨n, rfl⟩ : ∃ n : Nat, x = n := ⟨x.toNat, by omega⟩
    rw [Int.toNat_natCast]
    have g1 := h.level n (by omega)
    have c0 := UInt8.toNat_lt (nthL lv n)
    generalize (nthL lv n).toNat = q at *
    have c1 : (n : Int) < 200 := by omega
    have c2 : wrap64 (q : Int) = q := wrap_byte q (by omega)
    clear hx
    go_enter Try.func27, Try.ntmps27
    go_wp2_with (go_at_call 30; refine (hA _ h).mono ?_; rintro e w1 ⟨rfl, rfl⟩)
    go_ret2
    exact ⟨rfl, rfl⟩
  · simp only [hx, if_false] at hA ⊢
    go_enter Try.func27, Try.ntmps27
    go_wp2_with (go_at_call 30; refine (hA _ h).mono ?_; rintro e w1 ⟨rfl, rfl⟩)
    go_ret2
    exact ⟨rfl, rfl⟩
theorem may_is (A : Nat) (lv : List UInt8) (size : Nat) (v : Value) (n : Nat) (bytes : Int) (w : World) (h : ArB w A lv size v) (hn : n < 200) (h0 : 0 ≤ bytes) (h1 : bytes ≤ 4096) (hz : 32 ≤ size ∧ size ≤ 4096) :
    Calls Try.prog 42 #[.pointer (some ⟨A, 0, none⟩), .int .i64 n, .int .i64 bytes, .int .i64 size] w fun e w' =>
      e = .returned (.bool (decide (bytes * 8 / (size : Int) ≤ (nthL lv n).toNat))) ∧ ∃ m, w' = w.drewN m := by
  obtain ⟨z1, z2⟩ := hz
  have g := h.level n hn
  have c0 := UInt8.toNat_lt (nthL lv n)
  generalize (nthL lv n).toNat = q at *
  have c1 : (n : Int) < 200 := by omega
  have c2 : wrap64 (q : Int) = q := wrap_byte q (by omega)
  have c3 : ((size : Int) == 0) = false := by simp; omega
  have c4 : ¬ (size : Int) = 0 := by omega
  have hq0 : 0 ≤ bytes * 8 / (size : Int) := Int.ediv_nonneg (by omega) (by omega)
  have hq1 : bytes * 8 / (size : Int) ≤ 32768 := Int.le_trans (Int.ediv_le_self _ (by omega)) (by omega)
  have k1 : IntKind.i64.wrap (bytes * 8) = bytes * 8 := IntWalk.i64_in _ ⟨by omega, by omega⟩
  have k2 : (bytes * 8).tdiv (size : Int) = bytes * 8 / (size : Int) := by rw [Int.tdiv_eq_ediv_of_nonneg (by omega)]
  have k3 : IntKind.i64.wrap (bytes * 8 / (size : Int)) = bytes * 8 / (size : Int) := IntWalk.i64_in _ ⟨by omega, by omega⟩
  have k5 : IntKind.i64.wrap (q : Int) = q := IntWalk.i64_in _ ⟨by omega, by omega⟩
  generalize bytes * 8 / (size : Int) = t at *
  go_enter Try.func42, Try.ntmps42
  go_wp2
  go_quiet (fail)
  go_wp2
  go_ret
  exact ⟨rfl, _, rfl⟩
end Go.Proofs.Ytnileonlabpbpaa
