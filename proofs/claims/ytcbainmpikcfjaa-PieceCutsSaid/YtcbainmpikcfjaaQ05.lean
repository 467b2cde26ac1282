/- PageB; PageC; MathB; LawA; ReadA; ReadB; Fills (merged by group.py) -/
import Derived.Test.YtcbainmpikcfjaaQ02
import Derived.Test.YtcbainmpikcfjaaQ04
import Derived.Deep.RegionHeld3
import Derived.Maps.AppendAt
namespace Go.Proofs.Ytcbainmpikcfjaa
section
open Go.RowKit
set_option linter.unusedVariables false
set_option maxRecDepth 20000

def needsF (f : Nat → Cel) (n : Nat) : Int := 2 + 4 * lastF f n + bytesF f n
theorem needs_any (A : Option Addr) (cap n : Nat) (f : Nat → Cel) (w : World) (hn : n ≤ 200) (hs : SlC w A n f) (hsz : ∀ i, i < n → (f i).2.size ≤ 140737488355328)
    (hl0 : -4096 ≤ lastF f n) (hl1 : lastF f n ≤ 4096) :
    Calls Try.prog 59 #[.slice A n cap] w fun e w' => e = .returned (.int .i64 (needsF f n)) ∧ Ext w w' := by
  have hb := bytesF_le f n hsz
  have hmul : n * 140737488355328 ≤ 200 * 140737488355328 := Nat.mul_le_mul_right _ (by omega)
  by_cases h0 : n = 0
  · have e0 : needsF f n = 2 := by simp [needsF, h0, lastF, bytesF]
    have E0 := Lib.hid e0
    clear e0
    subst h0
    go_enter Try.func59, Try.ntmps59
    go_wp2
    go_loopw [3, 21] (fun s i wr => i = .int .i64 0 ∧ s = .int .i64 2 ∧ Ext w wr) (fun _ _ _ => 0)
    case atStart => exact ⟨rfl, rfl, Ext.refl w⟩
    case round =>
      obtain ⟨rfl, rfl, her⟩ := hrel
      go_wp2
      go_ret
      exact ⟨ret_int E0.out.symm, her⟩
  · have hlast := hs.at_ (n - 1) (by omega)
    obtain ⟨b, off, rfl, h1, h2⟩ := hlast
    have el : lastF f n = (f (n - 1)).1 := by simp [lastF, h0]
    have hn0 : 0 < n := by omega
    rw [← el] at h1
    have E0 := Lib.hid el
    clear el h0
    have hd : ((n : Int) - 1).toNat = n - 1 := by omega
    go_enter Try.func59, Try.ntmps59
    go_wp2
    go_loopw [3, 21] (fun s i wr => ∃ k : Nat, k ≤ n ∧ i = .int .i64 k ∧ s = .int .i64 (2 + 4 * lastF f n + bytesF f k) ∧ Ext w wr) (fun _ i _ => n - (intOf i).toNat)
    case atStart => exact ⟨0, by omega, rfl, by simp [bytesF], Ext.refl w⟩
    case round =>
      obtain ⟨k, hk, rfl, rfl, her⟩ := hrel
      by_cases hlt : k < n
      · obtain ⟨b', off', e', g1w, g2w⟩ := hs.at_ k hlt
        obtain ⟨rfl, rfl⟩ : b = b' ∧ off = off' := by simpa using e'
        clear e'
        have g1 := her.cell g1w
        have g2 := her.cell g2w
        have m1 := bytesF_mono f (show k + 1 ≤ n by omega)
        have m2 : bytesF f (k + 1) = bytesF f k + (f k).2.size := rfl
        have m3 : bytesF f k + (f k).2.size ≤ bytesF f n := by omega
        have H2 := Lib.hid m2
        clear m1 m2
        go_wp2
        go_roundw
        case rel => exact ⟨k + 1, by omega, by go_num, by rw [H2.out]; go_num, (her.alloc _)⟩
        case measure => simp [intOf]; omega
      · obtain rfl : k = n := by omega
        go_wp2
        go_ret
        exact ⟨rfl, her⟩

theorem splice_comm (B : List UInt8) (i j : Nat) (x y : List UInt8) (h : i + x.length ≤ j) (hj : j + y.length ≤ B.length) : splice (splice B i x) j y = splice (splice B j y) i x := by
  have l1 : (splice B i x).length = B.length := length_splice _ _ _ (by omega)
  have l2 : (splice B j y).length = B.length := length_splice _ _ _ hj
  apply List.ext_getElem?
  intro k
  have g : ∀ (C : List UInt8) (m : Nat) (z : List UInt8), m + z.length ≤ C.length → ∀ k, (splice C m z)[k]? = if k < m then C[k]? else if k < m + z.length then z[k - m]? else C[k]? := by
    intro C m z hm k
    unfold splice
    by_cases c1 : k < m
    · rw [if_pos c1, List.getElem?_append_left (by simp; omega), List.getElem?_take_of_lt c1]
    · rw [if_neg c1, List.getElem?_append_right (by simp; omega)]
      have hmin : min m C.length = m := by omega
      simp only [List.length_take, hmin]
      by_cases c2 : k < m + z.length
      · rw [if_pos c2, List.getElem?_append_left (by omega)]
      · rw [if_neg c2, List.getElem?_append_right (by omega), List.getElem?_drop]
        congr 1; omega
  rw [g _ _ _ (by omega), g _ _ _ (by omega), g _ _ _ (by omega), g _ _ _ (by omega)]
  by_cases a1 : k < i <;> by_cases a2 : k < i + x.length <;> by_cases a3 : k < j <;> by_cases a4 : k < j + y.length <;> simp [a1, a2, a3, a4] <;> omega
/-- the three writes of a cell in the program's order -/
theorem step_comm (B d : List UInt8) (L e m : Nat) (hL : 1 ≤ L) (he : 4 * L + 2 ≤ e) (hd : e + d.length ≤ B.length) :
    splice (splice (splice B e d) (4 * L - 2) (ent m)) (4 * L) (ent d.length) = splice (splice (splice B (4 * L - 2) (ent m)) (4 * L) (ent d.length)) e d := by
  have l1 : (splice B (4 * L - 2) (ent m)).length = B.length := length_splice _ _ _ (by show _ + 2 ≤ _; omega)
  rw [← splice_comm B (4 * L - 2) e (ent m) d (by show _ + 2 ≤ _; omega) hd]
  rw [← splice_comm (splice B (4 * L - 2) (ent m)) (4 * L) e (ent d.length) d (by show _ + 2 ≤ _; omega) (by rw [l1]; exact hd)]

def filledRes (size n : Nat) (f : Nat → Cel) : ByteArray × Int :=
  if roomF size f n < 0 then (⟨#[]⟩, 13) else (⟨(bufF size n f n).toArray⟩, 0)
structure Good (n : Nat) (f : Nat → Cel) : Prop where
  pos : ∀ i, i < n → 1 ≤ (f i).1
  le : ∀ i, i < n → (f i).1 ≤ lastF f n
  last : lastF f n ≤ 200
  data : ∀ i, i < n → 0 < (f i).2.size ∧ (f i).2.size ≤ 140737488355328
theorem Good.last0 {n : Nat} {f : Nat → Cel} (h : Good n f) : 0 ≤ lastF f n := by
  unfold lastF
  by_cases h0 : n = 0
  · simp [h0]
  · rw [if_neg h0]; have := h.pos (n - 1) (by omega); omega

theorem filled_full (size : Nat) (A : Option Addr) (cap n : Nat) (f : Nat → Cel) (w : World) (hn : n ≤ 200) (hs : SlC w A n f) (hg : Good n f) (hz : size ≤ 4096) (hr : roomF size f n < 0) :
    Calls Try.prog 47 #[.int .i64 size, .slice A n cap] w fun e w' => e = .returned (.tuple #[.string ⟨#[]⟩, .int .i64 13]) ∧ Ext w w' := by
  have l0 := hg.last0
  have l1 := hg.last
  have hr' : (size : Int) < needsF f n := by unfold roomF at hr; unfold needsF; omega
  go_enter Try.func47, Try.ntmps47
  go_wp2_with (go_at_call 59; refine (needs_any _ _ _ f _ hn hs (fun i hi => (hg.data i hi).2) (by omega) (by omega)).mono ?_; rintro e w1 ⟨rfl, he1⟩)
  go_ret2
  exact ⟨rfl, he1⟩

theorem buf_zero (size : Nat) (f : Nat → Cel) (h : 2 ≤ size) : bufF size 0 f 0 = List.replicate size 0 := by
  obtain ⟨m, rfl⟩ : ∃ m, size = m + 2 := ⟨size - 2, by omega⟩
  simp only [bufF, lastF, if_true, splice, ent]
  show [] ++ ([hi8 0, lo8 0] ++ List.drop (0 + 2) (List.replicate (m + 2) 0)) = _
  have e1 : hi8 0 = 0 := rfl
  have e2 : lo8 0 = 0 := rfl
  rw [e1, e2]
  rfl

theorem filled_none (size : Nat) (A : Option Addr) (cap : Nat) (f : Nat → Cel) (w : World) (hf : Fit size 0 f) :
    Calls Try.prog 47 #[.int .i64 size, .slice A 0 cap] w fun e w' => e = .returned (.tuple #[.string ⟨(bufF size 0 f 0).toArray⟩, .int .i64 0]) ∧ Ext w w' := by
  have z1 := hf.size_le
  have z2 := hf.size_ge
  have e0 : needsF f 0 = 2 := by simp [needsF, lastF, bytesF]
  have HB := Lib.hid (buf_zero size f (by omega))
  go_enter Try.func47, Try.ntmps47
  go_wp2_with (first
    | (go_at_call 59; refine (needs_any _ _ _ f _ (by omega) ⟨fun i hi => by omega⟩ (fun i hi => by omega) (by simp [lastF]) (by simp [lastF])).mono ?_; rintro e w1 ⟨rfl, he1⟩)
    | (refine wpList_make_bytes rfl _ _ rfl size rfl rfl (by omega) ?_; intro g w2 hg2 hb2 he2))
  go_loopw [32] (fun i wr => i = .int .i64 0 ∧ BB wr g (List.replicate size 0) ∧ Ext w wr) (fun _ _ => 0)
  case atStart => exact ⟨rfl, hb2, he1.trans he2⟩
  case round =>
    obtain ⟨rfl, hbr, her⟩ := hrel
    go_wp2_with (refine wpList_text_bb rfl _ rfl g size size _ rfl hbr (by simp) ?_)
    go_ret2
    exact ⟨by rw [HB.out]; rfl, her⟩

set_option maxHeartbeats 1000000 in
theorem filled_fits (size : Nat) (A : Option Addr) (cap n : Nat) (f : Nat → Cel) (w : World) (hn0 : 0 < n) (hn : n ≤ 200) (hs : SlC w A n f) (hg : Good n f) (hf : Fit size n f) :
    Calls Try.prog 47 #[.int .i64 size, .slice A n cap] w fun e w' => e = .returned (.tuple #[.string ⟨(bufF size n f n).toArray⟩, .int .i64 0]) ∧ Ext w w' := by
  have l0 := hg.last0
  have l1 := hg.last
  have z1 := hf.size_le
  have z2 := hf.size_ge
  have hroom := hf.room
  have hr' : ¬ (size : Int) < needsF f n := by unfold needsF; omega
  obtain ⟨b, off, rfl, h1w, h2w⟩ := hs.at_ (n - 1) (by omega)
  have el : lastF f n = (f (n - 1)).1 := by unfold lastF; rw [if_neg (by omega)]
  rw [← el] at h1w
  have hbl : b < w.heap.size := block_lt h1w
  have hd : ((n : Int) - 1).toNat = n - 1 := by omega
  clear el h2w
  go_enter Try.func47, Try.ntmps47
  go_wp2_with (first
    | (go_at_call 59; refine (needs_any _ _ _ f _ hn hs (fun i hi => (hg.data i hi).2) (by omega) (by omega)).mono ?_; rintro e w1 ⟨rfl, he1⟩)
    | (refine wpList_make_bytes rfl _ _ rfl size rfl rfl (by omega) ?_; intro g w2 hg2 hb2 he2; have h1x := (he1.trans he2).cell h1w)
    | (go_at_call 60; refine (put_any _ _ _ _ _ _ hb2 (by simp) (by omega) (by omega) (by omega) (by omega) (by omega)).mono ?_; rintro e w3 ⟨rfl, hb3, hu3⟩))
  have he3 : Ext w w3 := Upd.ext (he1.trans he2) hu3 (by have := he1.size; omega)
  have hbg : b < g := by have := he1.size; omega
  have hwg : w.heap.size ≤ g := by have := he1.size; omega
  have hb0 : BB w3 g (bufF size n f 0) := hb3
  clear hb3 hb2 hu3 h1x
  go_loopw [7, 32] (fun e i wr => ∃ k : Nat, k ≤ n ∧ i = .int .i64 k ∧ e = .int .i64 ((size : Int) - bytesF f k) ∧ BB wr g (bufF size n f k) ∧ Ext w wr) (fun _ i _ => n - (intOf i).toNat)
  case atStart => exact ⟨0, by omega, rfl, by simp [bytesF], hb0, he3⟩
  case round =>
    obtain ⟨k, hk, rfl, rfl, hbr, her⟩ := hrel
    clear hb0 he3
    by_cases hlt : k < n
    · obtain ⟨b', off', e', g1w, g2w⟩ := hs.at_ k hlt
      obtain ⟨rfl, rfl⟩ : b = b' ∧ off = off' := by simpa using e'
      clear e'
      have g1 := her.cell g1w
      have g2 := her.cell g2w
      have p1 := hg.pos k hlt
      have p2 := hg.le k hlt
      have p3 := (hg.data k hlt).1
      have m1 := bytesF_mono f (show k + 1 ≤ n by omega)
      have m2 : bytesF f (k + 1) = bytesF f k + (f k).2.size := rfl
      have m3 : bytesF f k + (f k).2.size ≤ bytesF f n := by omega
      obtain ⟨L, hL⟩ := Int.eq_ofNat_of_zero_le (show 0 ≤ (f k).1 by omega)
      rw [hL] at g1 p1 p2
      have HB := Lib.hid (length_bufF size n f hf k hk)
      have H2 := Lib.hid m2
      have HL := Lib.hid hL
      clear m1 m2 hL
      go_wp2
      have c0 := World.cell?_alloc_mark wr #[.int .i64 (L : Int), .string (f k).2] 91 (0, 0) 0
      have c1 := World.cell?_alloc_mark wr #[.int .i64 (L : Int), .string (f k).2] 91 (0, 0) 1
      have he4 := her.alloc (.cells #[.int .i64 (L : Int), .string (f k).2] 91)
      have hb4 := hbr.alloc (.cells #[.int .i64 (L : Int), .string (f k).2] 91)
      have hcg : wr.heap.size ≠ g := fun e => by have := hbr.lt; omega
      clear hbr her g1 g2
      generalize wr.alloc (.cells #[.int .i64 (L : Int), .string (f k).2] 91) = w4 at *
      generalize wr.heap.size = c at *
      replace c0 : w4.cell? ⟨c, 0, none⟩ = some (.int .i64 (L : Int)) := c0
      replace c1 : w4.cell? ⟨c, 1, none⟩ = some (.string (f k).2) := c1
      have q1 : ((f k).2.size : Int) ≤ (size : Int) - bytesF f k := by omega
      have q2 : (size : Int) - bytesF f k - (f k).2.size ≤ (size : Int) := by omega
      have q3 : ((size : Int) - bytesF f k - (f k).2.size).toNat = size - bytesF f k - (f k).2.size := by omega
      have q4 : ¬ size = size - bytesF f k - (f k).2.size := by omega
      go_region_law (refine step_copy_str rfl _ _ rfl g (size - bytesF f k - (f k).2.size) (size - (size - bytesF f k - (f k).2.size)) (size - (size - bytesF f k - (f k).2.size)) _ _ rfl rfl hb4.drew ?_ ?_ ?_; (omega); (rw [HB.out]; omega); intro w5 hb5 hu5)
      have he5 : Ext w w5 := Upd.ext he4.drew hu5 hwg
      have d0 := Upd.cell (a := w4.drew) hu5 (p := ⟨c, 0, none⟩) c0 hcg
      have d1 := Upd.cell (a := w4.drew) hu5 (p := ⟨c, 1, none⟩) c1 hcg
      have L5 : (splice (bufF size n f k) (size - bytesF f k - (f k).2.size) (f k).2.data.toList).length = size := by
        rw [length_splice _ _ _ (by rw [HB.out]; have : (f k).2.data.toList.length = (f k).2.size := by simp
                                    omega)]; exact HB.out
      have H5 := Lib.hid L5
      clear L5 hu5 he4 hb4 c0 c1 q1 q2 q3 q4
      go_wp2_with fail
      refine (put_any _ _ _ _ _ _ hb5 H5.out (by omega) (by omega) (by omega) (by omega) (by omega)).mono ?_
      rintro e w6 ⟨rfl, hb6, hu6⟩
      have he6 := Upd.ext he5 hu6 hwg
      have d0' := hu6.cell d0 hcg
      have d1' := hu6.cell d1 hcg
      have L6 := length_splice (splice (bufF size n f k) (size - bytesF f k - (f k).2.size) (f k).2.data.toList) ((2 : Int) + 4 * ((L : Int) - 1)).toNat (ent ((size : Int) - bytesF f k - (f k).2.size).toNat) (by rw [H5.out]; show _ + 2 ≤ size; omega)
      rw [H5.out] at L6
      have H6 := Lib.hid L6
      clear L6 hu6 he5 d0 d1
      go_wp2_with fail
      refine (put_any _ _ _ _ _ _ hb6 H6.out (by omega) (by omega) (by omega) (by omega) (by omega)).mono ?_
      rintro e w7 ⟨rfl, hb7, hu7⟩
      have he7 := Upd.ext he6 hu7 hwg
      have hb7' : BB w7 g (bufF size n f (k + 1)) := by
        have e0 : (f k).2.data.toList.length = (f k).2.size := by simp
        have e1 : size - bytesF f (k + 1) = size - bytesF f k - (f k).2.size := by rw [H2.out]; omega
        have e2 : ((size : Int) - bytesF f k - (f k).2.size).toNat = size - bytesF f k - (f k).2.size := by omega
        have e3 : ((2 : Int) + 4 * ((L : Int) - 1)).toNat = 4 * L - 2 := by omega
        have e4 : ((2 : Int) + 4 * ((L : Int) - 1) + 2).toNat = 4 * L := by omega
        have e5 : (((f k).2.size : Nat) : Int).toNat = (f k).2.data.toList.length := by rw [e0]; rfl
        rw [e2, e3, e4, e5, step_comm _ _ L _ _ (by omega) (by omega) (by rw [HB.out, e0]; omega)] at hb7
        unfold bufF
        rw [e1, HL.out]
        rw [e0] at hb7
        exact hb7
      clear hb7 hu7 he6 hb6 hb5
      go_wp2_with fail
      go_roundw
      case rel => exact ⟨k + 1, by omega, by go_num, by rw [H2.out]; go_num, hb7', he7⟩
      case measure => simp [intOf]; omega
    · obtain rfl : k = n := by omega
      go_wp2_with (refine wpList_text_bb rfl _ rfl g size size _ rfl hbr (length_bufF size _ f hf _ (Nat.le_refl _)) ?_)
      go_ret2
      exact ⟨rfl, her⟩
end
section
open Go.RowKit
set_option linter.unusedVariables false
set_option maxRecDepth 20000

theorem good_of {f : Nat → Cel} {n : Nat} (h : ¬ AnyBad f n) (hsz : ∀ i, i < n → (f i).2.size ≤ 140737488355328) : Good n f :=
  ⟨fun i hi => (good_at h i hi).1, fun i hi => by unfold lastF; rw [if_neg (by omega)]; exact lines_up h i (n - 1) (by omega) (by omega), (last_of_good h).2, fun i hi => ⟨(good_at h i hi).2.2, hsz i hi⟩⟩

set_option maxHeartbeats 2000000 in
theorem fill_any (size : Int) (A : Option Addr) (cap n : Nat) (f : Nat → Cel) (w : World) (hz0 : -9223372036854775808 ≤ size) (hz1 : size ≤ 9223372036854775807) (hn : n ≤ 200) (hs : SlC w A n f) (hsz : ∀ i, i < n → (f i).2.size ≤ 140737488355328) (hli : ∀ i, i < n → -9223372036854775808 ≤ (f i).1 ∧ (f i).1 ≤ 9223372036854775807) :
    Calls Try.prog 34 #[.int .i64 size, .slice A n cap] w fun e w' => e = .returned (.tuple #[.string (fillRes size n f).1, .int .i64 (fillRes size n f).2]) ∧ Ext w w' := by
  go_enter Try.func34, Try.ntmps34
  go_wp2
  go_loopw [10] (fun i wr => ∃ k : Nat, k ≤ n ∧ i = .int .i64 k ∧ ¬ AnyBad f k ∧ Ext w wr) (fun i _ => n - (intOf i).toNat)
  case atStart => exact ⟨0, by omega, rfl, fun ⟨i, hi, _⟩ => by omega, Ext.refl w⟩
  case round =>
    obtain ⟨k, hk, rfl, hgood, her⟩ := hrel
    have HG := Lib.hid hgood
    clear hgood
    by_cases hlt : k < n
    · obtain ⟨b, off, rfl, h1w, h2w⟩ := hs.at_ k hlt
      have h1 := her.cell h1w
      have h2 := her.cell h2w
      have hl := hli k hlt
      have t5 : (f k).2.toList = [] ↔ (f k).2.size = 0 := toList_nil _
      replace her := her.alloc (.cells #[.int .i64 (f k).1, .string (f k).2] 91)
      cases c1 : lineB (f k).1
      · have e1 : (f k).1 < 1 ∨ 200 < (f k).1 := by simp [lineB] at c1; omega
        clear t5
        go_wp2_with fail
        go_quiet ((go_at_call 45; first | exact quiet_left (line_any _ _ hl.1 hl.2) | exact quiet_add_left (line_any _ _ hl.1 hl.2)))
        go_wp2
        go_ret2
        have hb : AnyBad f n := ⟨k, hlt, by unfold BadF; omega⟩
        exact ⟨ret_pair (by simp [fillRes, hb]) (by simp [fillRes, hb]), her.drewN _⟩
      have e1 : 1 ≤ (f k).1 ∧ (f k).1 ≤ 200 := by simpa [lineB] using c1
      have e5 : (f k).2.size = 0 ∨ 0 < (f k).2.size := by omega
      rcases e5 with c5 | c5
      · have d5 : (f k).2.toList = [] := t5.2 c5
        have d6 : (f k).2.toList.isEmpty = true := by rw [d5]; rfl
        clear t5
        go_wp2_with fail
        go_quiet ((go_at_call 45; first | exact quiet_left (line_any _ _ hl.1 hl.2) | exact quiet_add_left (line_any _ _ hl.1 hl.2)))
        go_wp2
        go_ret2
        have hb : AnyBad f n := ⟨k, hlt, .inr (.inr (.inr c5))⟩
        exact ⟨ret_pair (by simp [fillRes, hb]) (by simp [fillRes, hb]), her.drewN _⟩
      have d5 : (f k).2.toList.isEmpty = false := by
        cases hq : (f k).2.toList with
        | nil => have := t5.1 hq; omega
        | cons x l => rfl
      clear t5
      by_cases c3 : k = 0
      · have d3 : decide (0 < k) = false := by simp [c3]
        have d3' : decide ((0 : Int) < (k : Int)) = false := by simp [c3]
        have c3' : ¬ 0 < k := by omega
        have HN := Lib.hid (show ¬ BadF f k by unfold BadF; omega)
        clear c3
        go_wp2_with fail
        go_quiet ((go_at_call 45; first | exact quiet_left (line_any _ _ hl.1 hl.2) | exact quiet_add_left (line_any _ _ hl.1 hl.2)))
        go_wp2
        go_roundw
        case rel =>
          refine ⟨k + 1, by omega, by go_num, ?_, her.drewN _⟩
          rintro ⟨i, hi, hb⟩
          rcases Nat.lt_or_ge i k with h | h
          · exact HG.out ⟨i, h, hb⟩
          · obtain rfl : i = k := by omega
            exact HN.out hb
        case measure => simp [intOf]; omega
      have c3' : 0 < k := by omega
      have d3 : decide (0 < k) = true := by simp [c3']
      have d3' : decide ((0 : Int) < (k : Int)) = true := by simp [c3']
      obtain ⟨b', off', e', g1w, g2w⟩ := hs.at_ (k - 1) (by omega)
      obtain ⟨rfl, rfl⟩ : b = b' ∧ off = off' := by simpa using e'
      clear e' g2w
      have g1 := her.cell g1w
      by_cases c4 : (f k).1 ≤ (f (k - 1)).1
      · have d4 : decide ((f k).1 ≤ (f (k - 1)).1) = true := by simp [c4]
        go_wp2_with fail
        go_quiet ((go_at_call 45; first | exact quiet_left (line_any _ _ hl.1 hl.2) | exact quiet_add_left (line_any _ _ hl.1 hl.2)))
        go_wp2
        go_ret2
        have hb : AnyBad f n := ⟨k, hlt, .inr (.inr (.inl ⟨c3', c4⟩))⟩
        exact ⟨ret_pair (by simp [fillRes, hb]) (by simp [fillRes, hb]), her.drewN _⟩
      · have d4 : decide ((f k).1 ≤ (f (k - 1)).1) = false := by simp; omega
        have HN := Lib.hid (show ¬ BadF f k by unfold BadF; omega)
        go_wp2_with fail
        go_quiet ((go_at_call 45; first | exact quiet_left (line_any _ _ hl.1 hl.2) | exact quiet_add_left (line_any _ _ hl.1 hl.2)))
        go_wp2
        go_roundw
        case rel =>
          refine ⟨k + 1, by omega, by go_num, ?_, her.drewN _⟩
          rintro ⟨i, hi, hb⟩
          rcases Nat.lt_or_ge i k with h | h
          · exact HG.out ⟨i, h, hb⟩
          · obtain rfl : i = k := by omega
            exact HN.out hb
        case measure => simp [intOf]; omega
    · obtain rfl : k = n := by omega
      have hA : ¬ AnyBad f k := HG.out
      have hL := last_of_good hA
      have hgd := good_of hA hsz
      have hsr := hs.ext her
      cases hz : sizeB size
      · have hr : fillRes size k f = (⟨#[]⟩, 7) := by simp [fillRes, hA, hz]
        have HR := Lib.hid hr
        clear hr hA
        go_wp2_with (go_at_call 46; refine (size_any _ _ hz0 hz1).mono ?_; rintro e w' ⟨rfl, rfl⟩)
        go_ret2
        exact ⟨by rw [HR.out]; rfl, her⟩
      · have hz' := hz
        simp only [sizeB, Bool.and_eq_true, decide_eq_true_eq] at hz'
        have z1 : 32 ≤ size := hz'.1.1
        have z2 : size ≤ 4096 := hz'.1.2
        clear hz'
        obtain ⟨sz, hsz'⟩ := Int.eq_ofNat_of_zero_le (show 0 ≤ size by omega)
        subst hsz'
        by_cases hm : roomF sz f k < 0
        · have hr : fillRes sz k f = (⟨#[]⟩, 13) := by simp [fillRes, hA, hz, hm]
          have HR := Lib.hid hr
          clear hr hA
          go_wp2_with (first
            | (go_at_call 46; refine (size_any _ _ hz0 hz1).mono ?_; rintro e w' ⟨rfl, rfl⟩)
            | (go_at_call 47; refine (filled_full _ _ _ _ f _ (by omega) hsr hgd (by omega) hm).mono ?_; rintro e w' ⟨rfl, hb⟩))
          go_ret2
          exact ⟨by rw [HR.out]; rfl, her.trans hb⟩
        · have hF : Fit sz k f := fit_of_good hA (by omega) hz hm
          have hr : fillRes sz k f = (⟨(bufF sz k f k).toArray⟩, 0) := by simp [fillRes, hA, hz, hm]
          have HR := Lib.hid hr
          clear hr hA
          rcases Nat.eq_zero_or_pos k with h0 | h0
          · subst h0
            go_wp2_with (first
              | (go_at_call 46; refine (size_any _ _ hz0 hz1).mono ?_; rintro e w' ⟨rfl, rfl⟩)
              | (go_at_call 47; refine (filled_none _ _ _ f _ hF).mono ?_; rintro e w' ⟨rfl, hb⟩))
            go_ret2
            exact ⟨by rw [HR.out]; rfl, her.trans hb⟩
          · go_wp2_with (first
              | (go_at_call 46; refine (size_any _ _ hz0 hz1).mono ?_; rintro e w' ⟨rfl, rfl⟩)
              | (go_at_call 47; refine (filled_fits _ _ _ _ f _ h0 (by omega) hsr hgd hF).mono ?_; rintro e w' ⟨rfl, hb⟩))
            go_ret2
            exact ⟨by rw [HR.out]; rfl, her.trans hb⟩

theorem new_any (size : Int) (w : World) (hz0 : -9223372036854775808 ≤ size) (hz1 : size ≤ 9223372036854775807) :
    Calls Try.prog 24 #[.int .i64 size] w fun e w' => e = .returned (.tuple #[.string (fillRes size 0 fun _ => (0, ⟨#[]⟩)).1, .int .i64 (fillRes size 0 fun _ => (0, ⟨#[]⟩)).2]) ∧ Ext w w' := by
  go_enter Try.func24, Try.ntmps24
  go_wp2_with (go_at_call 34; refine (fill_any _ _ _ 0 (fun _ => (0, ⟨#[]⟩)) _ hz0 hz1 (by omega) ⟨fun i hi => by omega⟩ (fun i hi => by omega) (fun i hi => by omega)).mono ?_; rintro e w' ⟨rfl, hb⟩)
  go_ret2
  exact ⟨rfl, hb⟩
end
section
open Go.RowKit
set_option linter.unusedVariables false
set_option maxRecDepth 20000

/-- byte i of a list of bytes as a number -/
def bl (L : List UInt8) (i : Nat) : Nat := (L.getD i 0).toNat
theorem bt_bl (L : List UInt8) (i : Nat) : bt ⟨L.toArray⟩ i = bl L i := rfl
theorem bl_splice (L : List UInt8) (k : Nat) (cs : List UInt8) (h : k + cs.length ≤ L.length) (j : Nat) : bl (splice L k cs) j = if k ≤ j ∧ j < k + cs.length then bl cs (j - k) else bl L j := by
  unfold bl splice
  rw [List.getD_eq_getElem?_getD, List.getD_eq_getElem?_getD, List.getD_eq_getElem?_getD]
  by_cases h1 : j < k
  · rw [if_neg (by omega), List.getElem?_append_left (by simp; omega), List.getElem?_take_of_lt h1]
  · by_cases h2 : j < k + cs.length
    · rw [if_pos ⟨by omega, h2⟩, List.getElem?_append_right (by simp; omega), List.getElem?_append_left (by simp; omega)]
      have : j - (List.take k L).length = j - k := by simp; omega
      rw [this]
    · rw [if_neg (by omega), List.getElem?_append_right (by simp; omega), List.getElem?_append_right (by simp; omega), List.getElem?_drop]
      have : k + cs.length + (j - (List.take k L).length - cs.length) = j := by simp; omega
      rw [this]
theorem bl_ent0 (v : Nat) (h : v < 65536) : 256 * bl (ent v) 0 + bl (ent v) 1 = v := by
  have h1 : v / 256 < 256 := by omega
  have h2 : v % 256 < 256 := by omega
  simp [bl, ent, hi8, lo8]
  omega

def lineN (f : Nat → Cel) (i : Nat) : Nat := (f i).1.toNat
theorem line_lt {f : Nat → Cel} {n : Nat} (h : ¬ AnyBad f n) : ∀ i j, i < j → j < n → (f i).1 < (f j).1 := by
  intro i j hij hj
  have h1 := lines_up h i (j - 1) (by omega) (by omega)
  have h3 : ¬ BadF f j := fun hb => h ⟨j, hj, hb⟩
  unfold BadF at h3
  omega

/-- the bytes of the buffer behind k cells -/
structure BufI (size n : Nat) (f : Nat → Cel) (k : Nat) (L : List UInt8) : Prop where
  len : L.length = size
  head : 256 * bl L 0 + bl L 1 = (lastF f n).toNat
  offs : ∀ i, i < k → 256 * bl L (4 * lineN f i - 2) + bl L (4 * lineN f i - 1) = size - bytesF f (i + 1)
  lens : ∀ i, i < k → 256 * bl L (4 * lineN f i) + bl L (4 * lineN f i + 1) = (f i).2.size
  data : ∀ i, i < k → ∀ j, j < (f i).2.size → bl L (size - bytesF f (i + 1) + j) = bt (f i).2 j
  zero : ∀ j, 2 ≤ j → j < size - bytesF f k → (∀ i, i < k → ¬ (4 * lineN f i - 2 ≤ j ∧ j < 4 * lineN f i + 2)) → bl L j = 0

theorem bufI (size n : Nat) (f : Nat → Cel) (hg : ¬ AnyBad f n) (hf : Fit size n f) : ∀ k, k ≤ n → BufI size n f k (bufF size n f k) := by
  have z0 := hf.size_ge
  have z1 := hf.size_le
  have hroom := hf.room
  have hl := last_of_good hg
  intro k
  induction k with
  | zero =>
    intro _
    have hen : (ent (lastF f n).toNat).length = 2 := rfl
    have hs : ∀ j, bl (bufF size n f 0) j = if 0 ≤ j ∧ j < 0 + (ent (lastF f n).toNat).length then bl (ent (lastF f n).toNat) (j - 0) else bl (List.replicate size 0) j :=
      fun j => bl_splice _ _ _ (by rw [hen]; simp; omega) j
    have hzr : ∀ j, bl (List.replicate size (0 : UInt8)) j = 0 := by
      intro j
      unfold bl
      rw [List.getD_eq_getElem?_getD, List.getElem?_replicate]
      split <;> rfl
    refine ⟨length_bufF size n f hf 0 (by omega), ?_, fun i hi => by omega, fun i hi => by omega, fun i hi => by omega, fun j h1 h2 _ => ?_⟩
    · rw [hs, hs, if_pos (by rw [hen]; omega), if_pos (by rw [hen]; omega)]
      exact bl_ent0 _ (by omega)
    · rw [hs, if_neg (by rw [hen]; omega)]
      exact hzr j
  | succ k ih =>
    intro hk
    have I := ih (by omega)
    have hgk := good_at hg k (by omega)
    have hlk : lineN f k = (f k).1.toNat := rfl
    have hle := hf.le k (by omega)
    have hb1 : bytesF f (k + 1) = bytesF f k + (f k).2.size := rfl
    have hb2 := bytesF_mono f hk
    have e1 : (ent (size - bytesF f (k + 1))).length = 2 := rfl
    have e2 : (ent (f k).2.size).length = 2 := rfl
    have e3 : (f k).2.data.toList.length = (f k).2.size := by simp
    obtain ⟨A, hA⟩ : ∃ A, splice (bufF size n f k) (4 * (f k).1.toNat - 2) (ent (size - bytesF f (k + 1))) = A := ⟨_, rfl⟩
    obtain ⟨B, hB⟩ : ∃ B, splice A (4 * (f k).1.toNat) (ent (f k).2.size) = B := ⟨_, rfl⟩
    have lA : A.length = size := by rw [← hA, length_splice _ _ _ (by rw [I.len, e1]; omega)]; exact I.len
    have lB : B.length = size := by rw [← hB, length_splice _ _ _ (by rw [lA, e2]; omega)]; exact lA
    have hL : bufF size n f (k + 1) = splice B (size - bytesF f (k + 1)) (f k).2.data.toList := by rw [← hB, ← hA]; rfl
    have sA : ∀ j, bl A j = if 4 * lineN f k - 2 ≤ j ∧ j < 4 * lineN f k - 2 + 2 then bl (ent (size - bytesF f (k + 1))) (j - (4 * lineN f k - 2)) else bl (bufF size n f k) j := fun j => by
      rw [← hA]; exact bl_splice _ _ _ (by rw [I.len, e1]; omega) j
    have sB : ∀ j, bl B j = if 4 * lineN f k ≤ j ∧ j < 4 * lineN f k + 2 then bl (ent (f k).2.size) (j - 4 * lineN f k) else bl A j := fun j => by
      rw [← hB]; exact bl_splice _ _ _ (by rw [lA, e2]; omega) j
    have sL : ∀ j, bl (bufF size n f (k + 1)) j = if size - bytesF f (k + 1) ≤ j ∧ j < size - bytesF f (k + 1) + (f k).2.size then bl (f k).2.data.toList (j - (size - bytesF f (k + 1))) else bl B j := fun j => by
      rw [hL, bl_splice _ _ _ (by rw [lB, e3]; omega) j, e3]
    have far : ∀ j, ¬ (size - bytesF f (k + 1) ≤ j ∧ j < size - bytesF f (k + 1) + (f k).2.size) → ¬ (4 * lineN f k - 2 ≤ j ∧ j < 4 * lineN f k + 2) → bl (bufF size n f (k + 1)) j = bl (bufF size n f k) j := fun j h1 h2 => by
      rw [sL, if_neg h1, sB, if_neg (by omega), sA, if_neg (by omega)]
    have hline : ∀ i, i < k → lineN f i < lineN f k ∧ 1 ≤ lineN f i := fun i hi => by
      have := line_lt hg i k hi (by omega)
      have := good_at hg i (by omega)
      unfold lineN
      omega
    refine ⟨length_bufF size n f hf (k + 1) hk, ?_, fun i hi => ?_, fun i hi => ?_, fun i hi j hj => ?_, fun j h1 h2 h3 => ?_⟩
    · rw [far 0 (by omega) (by omega), far 1 (by omega) (by omega)]; exact I.head
    · by_cases hik : i = k
      · subst hik
        rw [sL, if_neg (by omega), sB, if_neg (by omega), sA, if_pos (by omega), sL, if_neg (by omega), sB, if_neg (by omega), sA, if_pos (by omega)]
        have e5 : 4 * lineN f i - 2 - (4 * lineN f i - 2) = 0 := by omega
        have e6 : 4 * lineN f i - 1 - (4 * lineN f i - 2) = 1 := by omega
        rw [e5, e6]
        exact bl_ent0 _ (by omega)
      · have := hline i (by omega)
        rw [far _ (by omega) (by omega), far _ (by omega) (by omega)]
        exact I.offs i (by omega)
    · by_cases hik : i = k
      · subst hik
        rw [sL, if_neg (by omega), sB, if_pos (by omega), sL, if_neg (by omega), sB, if_pos (by omega)]
        have e5 : 4 * lineN f i - 4 * lineN f i = 0 := by omega
        have e6 : 4 * lineN f i + 1 - 4 * lineN f i = 1 := by omega
        rw [e5, e6]
        exact bl_ent0 _ (by omega)
      · have := hline i (by omega)
        rw [far _ (by omega) (by omega), far _ (by omega) (by omega)]
        exact I.lens i (by omega)
    · by_cases hik : i = k
      · subst hik
        rw [sL, if_pos (by omega), Nat.add_sub_cancel_left]
        rfl
      · have hb3 := bytesF_mono f (show i + 1 ≤ k by omega)
        have hb4 : bytesF f (i + 1) = bytesF f i + (f i).2.size := rfl
        rw [far _ (by omega) (by omega)]
        exact I.data i (by omega) j hj
    · have h4 := h3 k (by omega)
      rw [far j (by omega) h4]
      exact I.zero j h1 (by omega) (fun i hi => h3 i (by omega))

theorem twoF_bl (L : List UInt8) (i : Nat) : twoF ⟨L.toArray⟩ i = 256 * bl L i + bl L (i + 1) := rfl

/-- behind k slots, c cells have come -/
structure SlotI (size n : Nat) (f : Nat → Cel) (P : ByteArray) (k c : Nat) : Prop where
  c_le : c ≤ n
  below : ∀ i, i < c → lineN f i ≤ k
  above : ∀ i, c ≤ i → i < n → k < lineN f i
  used : usedL P k = (List.range c).map f
  top : topF P k = size - bytesF f c
  last : lastS P k = if c = 0 then 0 else lineN f (c - 1)
  good : goodS P k

theorem built_slots (size n : Nat) (f : Nat → Cel) (hg : ¬ AnyBad f n) (hf : Fit size n f) (P : ByteArray) (hP : P = ⟨(bufF size n f n).toArray⟩) : ∀ k, k ≤ (lastF f n).toNat → ∃ c, SlotI size n f P k c := by
  have z0 := hf.size_ge
  have z1 := hf.size_le
  have hroom := hf.room
  have hl := last_of_good hg
  have I := bufI size n f hg hf n (Nat.le_refl _)
  have hsz : P.size = size := by rw [hP]; exact I.len
  have h0 : twoF P 0 = (lastF f n).toNat := by rw [hP, twoF_bl]; exact I.head
  have t2 : ∀ i, twoF P i = 256 * bl (bufF size n f n) i + bl (bufF size n f n) (i + 1) := fun i => by rw [hP, twoF_bl]
  intro k
  induction k with
  | zero => exact fun _ => ⟨0, by omega, fun i hi => by omega, fun i _ hi => by have := good_at hg i hi; unfold lineN; omega, rfl, by simp [topF, hsz, bytesF], rfl, fun i hi => by omega⟩
  | succ k ih =>
    intro hk
    obtain ⟨c, J⟩ := ih (by omega)
    by_cases hc : c < n ∧ lineN f c = k + 1
    · obtain ⟨hc1, hc2⟩ := hc
      have hgc := good_at hg c hc1
      have o1 := I.offs c hc1
      have o2 := I.lens c hc1
      rw [hc2] at o1 o2
      rw [show 4 * (k + 1) - 2 = 2 + 4 * k by omega, show 4 * (k + 1) - 1 = 2 + 4 * k + 1 by omega] at o1
      rw [show 4 * (k + 1) = 4 + 4 * k by omega] at o2
      have ho : twoF P (2 + 4 * k) = size - bytesF f (c + 1) := by rw [t2]; exact o1
      have hn : twoF P (4 + 4 * k) = (f c).2.size := by rw [t2]; exact o2
      have hb1 : bytesF f (c + 1) = bytesF f c + (f c).2.size := rfl
      have hb2 := bytesF_mono f (show c + 1 ≤ n by omega)
      have hnf : ¬ freeS P k := fun h => by have := h.2; omega
      have htop := J.top
      refine ⟨c + 1, by omega, fun i hi => ?_, fun i h1 h2 => ?_, ?_, ?_, ?_, goodS_succ J.good ?_⟩
      · by_cases e : i = c
        · rw [e]; omega
        · have := J.below i (by omega); omega
      · have := line_lt hg c i (by omega) h2
        have := good_at hg i h2
        unfold lineN at hc2 ⊢
        omega
      · have hne : ¬ twoF P (4 + 4 * k) = 0 := by omega
        simp only [usedL, hne, if_false, J.used, List.range_succ, List.map_append, List.map_cons, List.map_nil]
        congr 2
        refine Prod.ext ?_ ?_
        · show ((k : Int) + 1) = (f c).1
          unfold lineN at hc2
          omega
        · show P.extract (twoF P (2 + 4 * k)) (twoF P (2 + 4 * k) + twoF P (4 + 4 * k)) = (f c).2
          rw [ho, hn]
          have hsx : (P.extract (size - bytesF f (c + 1)) (size - bytesF f (c + 1) + (f c).2.size)).size = (f c).2.size := by
            rw [ByteArray.size_extract, hsz]; omega
          refine page_ext hsx fun j hj => ?_
          rw [hsx] at hj
          rw [bt_extract _ _ _ _ (by rw [hsz]; omega) (by omega), hP, bt_bl]
          exact I.data c hc1 j hj
      · simp only [topF, hnf, if_false, ho]
      · simp only [lastS, hnf, if_false]
        rw [if_neg (by omega), Nat.add_sub_cancel, hc2]
      · unfold badS
        rintro ⟨_, h | h | h⟩ <;> omega
    · have hne : ∀ i, i < n → lineN f i ≠ k + 1 := fun i hi e => by
        by_cases h1 : i < c
        · have := J.below i h1; omega
        · have h2 : i ≠ c := fun h => hc (by subst h; exact ⟨hi, e⟩)
          have h3 := J.above c (Nat.le_refl _) (by omega)
          have h4 := line_lt hg c i (by omega) hi
          have h5 := good_at hg c (by omega)
          unfold lineN at e h3
          omega
      have hzero : ∀ j, 2 + 4 * k ≤ j → j < 6 + 4 * k → bl (bufF size n f n) j = 0 := fun j h1 h2 => I.zero j (by omega) (by omega) (fun i hi => by
        have := hne i hi
        have := good_at hg i hi
        have h6 : 1 ≤ lineN f i := by unfold lineN; omega
        omega)
      have hfr : freeS P k := by
        constructor
        · rw [t2, hzero _ (by omega) (by omega), hzero _ (by omega) (by omega)]
        · rw [t2, hzero _ (by omega) (by omega), hzero _ (by omega) (by omega)]
      refine ⟨c, J.c_le, fun i hi => by have := J.below i hi; omega, fun i h1 h2 => by have := J.above i h1 h2; have := hne i h2; omega, ?_, ?_, ?_, goodS_succ J.good (fun hb => hb.1 hfr)⟩
      · simp only [usedL, hfr.2, if_true]; exact J.used
      · simp only [topF, hfr, if_true]; exact J.top
      · simp only [lastS, hfr, if_true]; exact J.last

/-- **What Fill builds is a page with these cells.** -/
theorem built_page (size n : Nat) (f : Nat → Cel) (hg : ¬ AnyBad f n) (hf : Fit size n f) (hs : sizeB size = true) (P : ByteArray) (hP : P = ⟨(bufF size n f n).toArray⟩) :
    P.size = size ∧ ValidR P ∧ usedL P (twoF P 0) = (List.range n).map f := by
  have z0 := hf.size_ge
  have z1 := hf.size_le
  have hroom := hf.room
  have hl := last_of_good hg
  have I := bufI size n f hg hf n (Nat.le_refl _)
  have hsz : P.size = size := by rw [hP]; exact I.len
  have h0 : twoF P 0 = (lastF f n).toNat := by rw [hP, twoF_bl]; exact I.head
  obtain ⟨c, J⟩ := built_slots size n f hg hf P hP _ (Nat.le_refl _)
  have hcn : c = n := by
    apply Classical.byContradiction
    intro hne
    have hlt : c < n := by have := J.c_le; omega
    have h1 := J.above c (Nat.le_refl _) hlt
    have h2 := hf.le c hlt
    unfold lineN at h1
    omega
  subst hcn
  rw [← h0] at J
  refine ⟨hsz, ⟨⟨by rw [hsz]; exact hs, by rw [h0]; omega, by rw [h0, hsz]; omega⟩, J.good, ?_, fun j h1 h2 => ?_⟩, J.used⟩
  · rw [J.last, h0]
    unfold lastF lineN
    split
    · rfl
    · rfl
  · rw [J.top] at h1
    rw [hP, bt_bl]
    refine I.zero j (by omega) h1 (fun i hi => ?_)
    have := hf.le i hi
    have := good_at hg i hi
    rw [h0] at h2
    unfold lineN
    omega
end
section
open Go.RowKit
set_option linter.unusedVariables false
set_option maxRecDepth 20000

/-- cell i of a list -/
def nthC (l : List Cel) (i : Nat) : Cel := l.getD i (0, ⟨#[]⟩)
theorem flatC_get (l : List Cel) : ∀ i, i < l.length → (flatC l)[i * 2]? = some (.int .i64 (nthC l i).1) ∧ (flatC l)[i * 2 + 1]? = some (.string (nthC l i).2) := by
  induction l with
  | nil => intro i hi; simp at hi
  | cons c l ih =>
    intro i hi
    cases i with
    | zero => simp [flatC, nthC]
    | succ i =>
      have := ih i (by simpa using hi)
      have e : (i + 1) * 2 = i * 2 + 1 + 1 := by omega
      rw [e]
      simpa [flatC, nthC] using this
theorem slC_of_row {w : World} {base : Nat} {v : Value} {l : List Cel} (h : w.ownsRow base 91 2 v l.length (flatC l)) : ∃ A cap, v = .slice A l.length cap ∧ SlC w A l.length (nthC l) := by
  rcases h.2 with ⟨hv, h0⟩ | ⟨g, cap, cur, hv, _⟩
  · exact ⟨none, 0, by rw [hv, h0], ⟨fun i hi => by omega⟩⟩
  · subst hv
    refine ⟨some ⟨g, 0, none⟩, cap, rfl, ⟨fun i hi => ⟨g, 0, rfl, ?_, ?_⟩⟩⟩
    · have := h.cellAt (i * 2) (by omega)
      rw [Nat.zero_add, this]; exact (flatC_get l i hi).1
    · have := h.cellAt (i * 2 + 1) (by omega)
      rw [Nat.zero_add, this]; exact (flatC_get l i hi).2

theorem cells_any (p : ByteArray) (w : World) (hv : ValidR p) :
    Calls Try.prog 50 #[.string p] w fun e w' => ∃ A cap, e = .returned (.slice A (usedL p (twoF p 0)).length cap) ∧ SlC w' A (usedL p (twoF p 0)).length (nthC (usedL p (twoF p 0))) ∧ Ext w w' := by
  have hz : 32 ≤ p.size ∧ p.size ≤ 4096 := by have := hv.1.1; simp [sizeB] at this; omega
  have hc : (w.alloc (.cells #[.string p] 9)).cell? ⟨w.heap.size, 0, none⟩ = some (.string p) := (Boxed.new w 9 (.string p)).cell
  have hmf : ∀ (fn : Fn) (first cap : Array Value) (w : World), (Instr.makeFunc fn first cap).run Try.prog w = .ok (.func fn first cap) w := fun _ _ _ _ => rfl
  go_enter Try.func50, Try.ntmps50
  go_wp2_with (go_at_call 64; refine (gather_any p _ _ hz.1 hz.2 hv.1.2.2 hc (fun k hk => slot_le hv k hk)).mono ?_; rintro e w1 ⟨v, rfl, hown, hx⟩)
  obtain ⟨A, cap, rfl, hs⟩ := slC_of_row hown
  go_wp2
  go_ret
  exact ⟨A, cap, rfl, hs, ((Ext.refl w).alloc _).trans hx⟩



/-- cells that are not too large to look at -/
def smallB (n : Nat) (f : Nat → Cel) : Bool := decide (n ≤ 60) && decide (bytesF f n ≤ 6000)

theorem toList_ne {a b : ByteArray} (h : a ≠ b) : (a.toList == b.toList) = false := by
  cases hb : (a.toList == b.toList) with
  | false => rfl
  | true =>
    have he : a.toList = b.toList := eq_of_beq hb
    rw [Lib.toList_data, Lib.toList_data] at he
    exact absurd (ByteArray.ext (Array.toList_inj.1 he)) h



/-- the one cell of the example -/
def awakeF (i : Nat) : Cel := (1, ⟨#[97, 98]⟩)
def awakeP : ByteArray := ⟨#[0, 1, 0, 30, 0, 2, 0, 0, 0, 0, 0, 0, 0, 0, 0, 0, 0, 0, 0, 0, 0, 0, 0, 0, 0, 0, 0, 0, 0, 0, 97, 98]⟩
theorem awake_fill : fillRes 32 1 awakeF = (awakeP, 0) := by
  have h1 : ¬ AnyBad awakeF 1 := by
    rintro ⟨i, hi, hb⟩
    obtain rfl : i = 0 := by omega
    unfold BadF awakeF at hb
    simp at hb
    revert hb
    decide
  have h2 : ¬ sizeB 32 = false := by decide
  have h3 : ¬ roomF 32 awakeF 1 < 0 := by decide
  simp only [fillRes, h1, h2, h3, if_false]
  rfl
theorem fill_awake (A : Option Addr) (w : World) (hs : SlC w A 1 awakeF) :
    Calls Try.prog 34 #[.int .i64 32, .slice A 1 1] w fun e w' => e = .returned (.tuple #[.string awakeP, .int .i64 0]) ∧ Ext w w' :=
  (fill_any 32 A 1 1 awakeF w (by omega) (by omega) (by omega) hs (fun i hi => by show 2 ≤ _; omega) (fun i hi => ⟨by show _ ≤ (1 : Int); omega, by show (1 : Int) ≤ _; omega⟩)).mono fun e w' h => by
    rw [awake_fill] at h
    exact h
end
section
open Go.RowKit
set_option linter.unusedVariables false
set_option maxRecDepth 20000

theorem WrongR.uniq {p : ByteArray} {a e b g : Nat} (h : WrongR p a e) (k : WrongR p b g) : a = b ∧ e = g := by
  rcases h with ⟨h1, ha, he⟩ | ⟨h1, h2, ha, he⟩ | ⟨h1, ⟨i, hi, hg, hb, ha⟩, he⟩ | ⟨h1, h2, h3, ha, he⟩ | ⟨h1, h2, h3, ⟨i, g1, g2, g3, g4, ha⟩, he⟩ | ⟨h1, h2, h3, h4, ha, he⟩ <;>
  rcases k with ⟨k1, ka, ke⟩ | ⟨k1, k2, ka, ke⟩ | ⟨k1, ⟨j, kj, kg, kb, ka⟩, ke⟩ | ⟨k1, k2, k3, ka, ke⟩ | ⟨k1, k2, k3, ⟨j, r1, r2, r3, r4, ka⟩, ke⟩ | ⟨k1, k2, k3, k4, ka, ke⟩
  all_goals first
    | exact ⟨by omega, by omega⟩
    | exact absurd (h1.symm.trans k1) (by decide)
    | exact absurd (h1.symm.trans k1.1) (by decide)
    | exact absurd (k1.symm.trans h1.1) (by decide)
    | exact absurd k1.2 h2
    | exact absurd h1.2 k2
    | (have := good_bad hg hb kg kb; subst this; exact ⟨by omega, by omega⟩)
    | exact absurd hb (k2 i hi)
    | exact absurd kb (h2 j kj)
    | exact absurd (h4 j r1 r2) r4
    | exact absurd (k4 i g1 g2) g4
    | (have hij : i = j := by
        rcases Nat.lt_trichotomy i j with h | h | h
        · exact absurd (r3 i g1 h) g4
        · exact h
        · exact absurd (g3 j r1 h) r4
       subst hij
       exact ⟨by omega, by omega⟩)




theorem ret_at {a b : Int} (h : a = b) : Ending.returned (.tuple #[.int .i64 a, .int .i64 12]) = .returned (.tuple #[.int .i64 b, .int .i64 12]) := by rw [h]
theorem slot_case {p : ByteArray} (j : Nat) (h : ¬ badS p (topF p j) j) :
    (twoF p (2 + 4 * j) = 0 ∧ twoF p (4 + 4 * j) = 0 ∧ topF p (j + 1) = topF p j) ∨
    (twoF p (4 + 4 * j) ≠ 0 ∧ twoF p (2 + 4 * j) + twoF p (4 + 4 * j) = topF p j ∧ 2 + 4 * twoF p 0 ≤ twoF p (2 + 4 * j) ∧ topF p (j + 1) = twoF p (2 + 4 * j)) := by
  by_cases hf : freeS p j
  · exact .inl ⟨hf.1, hf.2, by simp [topF, hf]⟩
  · right
    unfold badS at h
    have h' : ¬ (twoF p (4 + 4 * j) = 0 ∨ twoF p (2 + 4 * j) + twoF p (4 + 4 * j) ≠ topF p j ∨ twoF p (2 + 4 * j) < 2 + 4 * twoF p 0) := fun h'' => h ⟨hf, h''⟩
    exact ⟨by omega, by omega, by omega, by simp [topF, hf]⟩
theorem twoF_lt (p : ByteArray) (i : Nat) : twoF p i < 65536 := by have := bt_lt p i; have := bt_lt p (i + 1); unfold twoF; omega
end
section
open Go.RowKit
set_option linter.unusedVariables false
set_option maxRecDepth 20000
end
section
open Go.RowKit
set_option linter.unusedVariables false
set_option maxRecDepth 20000

theorem fill_ok {size : Int} {n : Nat} {f : Nat → Cel} (h60 : n ≤ 200) (h : (fillRes size n f).2 = 0) :
    ¬ AnyBad f n ∧ sizeB size = true ∧ Fit size.toNat n f ∧ ((size.toNat : Nat) : Int) = size ∧ (fillRes size n f).1 = ⟨(bufF size.toNat n f n).toArray⟩ := by
  by_cases h1 : AnyBad f n
  · simp [fillRes, h1] at h
  · by_cases h2 : sizeB size = false
    · simp [fillRes, h1, h2] at h
    · by_cases h3 : roomF size f n < 0
      · simp [fillRes, h1, h2, h3] at h
      · have hs : sizeB size = true := by simpa using h2
        have hz : 32 ≤ size ∧ size ≤ 4096 := by simp [sizeB] at hs; omega
        have hc : ((size.toNat : Nat) : Int) = size := by omega
        exact ⟨h1, hs, fit_of_good h1 (by omega) (by rw [hc]; exact hs) (by rw [hc]; exact h3), hc, by simp [fillRes, h1, hs, h3]⟩
theorem range_nth (n : Nat) (f : Nat → Cel) : ((List.range n).map f).length = n ∧ ∀ i, i < n → nthC ((List.range n).map f) i = f i := by
  refine ⟨by simp, fun i hi => ?_⟩
  simp [nthC, List.getD_eq_getElem?_getD, hi]
end
end Go.Proofs.Ytcbainmpikcfjaa
