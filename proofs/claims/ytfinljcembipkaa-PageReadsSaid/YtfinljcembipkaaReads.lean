/- PageReads returns true. -/
import Derived.Test.YtfinljcembipkaaReadF
namespace Go.Proofs.Ytfinljcembipkaa
open Go.RowKit
set_option linter.unusedVariables false

/-- a slice of ints, read -/
structure IntS (w : World) (A : Option Addr) (n : Nat) (g : Nat → Int) : Prop where
  at_ : ∀ i, i < n → ∃ b off, A = some ⟨b, off, none⟩ ∧ w.cell? ⟨b, off + i, none⟩ = some (.int .i64 (g i))
theorem IntS.ext {w w' : World} {A : Option Addr} {n : Nat} {g : Nat → Int} (h : IntS w A n g) (he : Ext w w') : IntS w' A n g :=
  ⟨fun i hi => by obtain ⟨b, off, e, h1⟩ := h.at_ i hi; exact ⟨b, off, e, he.cell h1⟩⟩
theorem intS_of_row {w : World} {base : Nat} {v : Value} {l : List Cel} (h : w.ownsRow base 3 1 v l.length (flatI l)) : ∃ A cap, v = .slice A l.length cap ∧ IntS w A l.length (fun i => (nthC l i).1) := by
  rcases h.2 with ⟨hv, h0⟩ | ⟨g, cap, cur, hv, _⟩
  · exact ⟨none, 0, by rw [hv, h0], ⟨fun i hi => by omega⟩⟩
  · subst hv
    refine ⟨some ⟨g, 0, none⟩, cap, rfl, ⟨fun i hi => ⟨g, 0, rfl, ?_⟩⟩⟩
    have := h.cellAt i (by omega)
    rw [Nat.zero_add, this]
    simp [flatI, nthC, List.getD_eq_getElem?_getD, List.getElem?_eq_getElem hi]

theorem lines_ok (p : ByteArray) (w : World) (hv : ValidR p) :
    Calls Try.prog 23 #[.string p] w fun e w' => ∃ A cap, e = .returned (.tuple #[.slice A (cnt p) cap, .int .i64 0]) ∧ IntS w' A (cnt p) (fun i => (cel p i).1) ∧ Ext w w' := by
  obtain ⟨z1, z2⟩ := sizes_of hv
  go_enter Try.func23, Try.ntmps23
  go_wp2_with (first
    | (go_at_call 20; refine (valid_any p _ (by omega)).mono ?_; rintro e w1 ⟨rfl, hx1⟩; rw [decide_eq_true hv])
    | (go_at_call 57; refine (gatherI_any p _ z1 z2 hv.1.2.2).mono ?_; rintro e w2 ⟨v, rfl, hown, hx2⟩))
  obtain ⟨A, cap, rfl, hs⟩ := intS_of_row hown
  go_wp2
  go_ret2
  exact ⟨A, cap, rfl, hs, hx1.trans hx2⟩
theorem lines_no (p : ByteArray) (w : World) (hp : p.size ≤ 140737488355328) (hv : ¬ ValidR p) :
    Calls Try.prog 23 #[.string p] w fun e w' => e = .returned (.tuple #[.slice none 0 0, .int .i64 1]) ∧ Ext w w' := by
  go_enter Try.func23, Try.ntmps23
  go_wp2_with (go_at_call 20; refine (valid_any p _ hp).mono ?_; rintro e w1 ⟨rfl, hx1⟩; rw [decide_eq_false hv])
  go_ret2
  exact ⟨rfl, hx1⟩

theorem wrong_both (p : ByteArray) (hp : p.size ≤ 140737488355328) : ∃ a e : Int,
    (∀ w, Calls Try.prog 18 #[.string p] w fun e' w' => e' = .returned (.tuple #[.int .i64 a, .int .i64 e]) ∧ Ext w w') ∧
    (∀ w, Calls Try.prog 19 #[.string p] w fun e' w' => e' = .returned (.tuple #[.int .i64 a, .int .i64 e]) ∧ Ext w w') := by
  obtain ⟨a, e, hw, _⟩ := wrong_any p default hp
  refine ⟨a, e, fun w => ?_, fun w => ?_⟩
  · obtain ⟨b, g, hw', hc⟩ := wrong_any p w hp
    obtain ⟨rfl, rfl⟩ := hw.uniq hw'
    exact hc
  · obtain ⟨b, g, hw', hc⟩ := refWrong_any p w hp
    obtain ⟨rfl, rfl⟩ := hw.uniq hw'
    exact hc
theorem next_both (p : ByteArray) (hv : ValidR p) : ∃ x y : Int,
    (∀ w, Calls Try.prog 26 #[.string p] w fun e' w' => e' = .returned (.tuple #[.int .i64 x, .int .i64 y]) ∧ Ext w w') ∧
    (∀ w, Calls Try.prog 27 #[.string p] w fun e' w' => e' = .returned (.tuple #[.int .i64 x, .int .i64 y]) ∧ Ext w w') := by
  have h1 := fun w => next_ok p w hv
  have h2 := fun w => refNext_ok p w hv
  by_cases h : nextF (cel p) (cnt p) ≤ 200
  · simp only [h, if_true] at h1 h2
    exact ⟨_, _, h1, h2⟩
  · simp only [h, if_false] at h1 h2
    exact ⟨_, _, h1, h2⟩
theorem fill_of (p : ByteArray) (hv : ValidR p) (A : Option Addr) (cap : Nat) (w : World) (hs : SlC w A (cnt p) (cel p)) :
    Calls Try.prog 16 #[.int .i64 p.size, .slice A (cnt p) cap] w fun e w' => e = .returned (.tuple #[.string p, .int .i64 0]) ∧ Ext w w' := by
  have hz := sizes_of hv
  have hg := cel_good hv
  have := fill_any p.size A cap (cnt p) (cel p) w (by omega) (by omega) (cnt_le hv) hs (cel_size hv) (fun i hi => by have := good_at hg i hi; omega)
  rw [fill_cells hv] at this
  exact this

set_option maxHeartbeats 4000000 in
theorem reads_any (p : ByteArray) (w : World) (hp : p.size ≤ 140737488355328) :
    Calls Try.prog 5 #[.string p] w fun e w' => e = .returned (.bool true) ∧ Ext w w' := by
  by_cases hbig : 4200 < p.size
  · have d1 : (4200 : Int) < p.size := by omega
    go_enter Try.func5, Try.ntmps5
    go_wp2_with (go_at_call 10; refine (awake_any _).mono ?_; rintro e w2 ⟨rfl, hx2⟩)
    go_ret
    exact ⟨rfl, hx2⟩
  have d1 : ¬ (4200 : Int) < p.size := by omega
  obtain ⟨a, e0, hW, hRW⟩ := wrong_both p hp
  have hV := fun W => valid_any p W hp
  have hRV := fun W => refValid_any p W hp
  by_cases hv : ValidR p
  · rw [decide_eq_true hv] at hV hRV
    have hC := fun W => Cells_ok p W hv
    have hRC := fun W => refCells_of p W hv
    have hC' : ∀ W, Calls Try.prog 11 #[.string p] W fun e w' => ∃ A cap, e = .returned (.tuple #[.slice A (cnt p) cap, .int .i64 0]) ∧ SlC w' A (cnt p) (cel p) ∧ Ext W w' := hC
    have hF := fill_of p hv
    have hL := fun W => lines_ok p W hv
    have hFr := fun W => free_ok p W hv
    have hRFr := fun W => refFree_ok p W hv
    obtain ⟨x, y, hN, hRN⟩ := next_both p hv
    have hn := cnt_le hv
    clear hC hv
    generalize roomF p.size (cel p) (cnt p) = r at *
    generalize cnt p = n at *
    generalize cel p = f at *
    have ne1 : ∀ s : ByteArray, (s.toList != s.toList) = false := fun s => by simp
    go_enter Try.func5, Try.ntmps5
    go_wp2_with (first
      | (go_at_call 18; refine (hW _).mono ?_; rintro e w1 ⟨rfl, hx1⟩)
      | (go_at_call 19; refine (hRW _).mono ?_; rintro e w2 ⟨rfl, hx2⟩; have k2 := Ext.trans hx1 hx2)
      | (go_at_call 20; refine (hV _).mono ?_; rintro e w3 ⟨rfl, hx3⟩; have k3 := Ext.trans k2 hx3)
      | (go_at_call 21; refine (hRV _).mono ?_; rintro e w4 ⟨rfl, hx4⟩; have k4 := Ext.trans k3 hx4)
      | (go_at_call 11; refine (hC' _).mono ?_; rintro e w5 ⟨A, ca, rfl, hs, hx5⟩; have k5 := Ext.trans k4 hx5)
      | (go_at_call 22; refine (hRC _).mono ?_; rintro e w6 ⟨B, cb, rfl, ht, hx6⟩; have k6 := Ext.trans k5 hx6; have hs6 := hs.ext hx6)
      | (go_at_call 12; refine (same_yes A B ca cb n f f _ (by omega) hs6 ht (fun i hi => rfl)).mono ?_; rintro e w7 ⟨rfl, hx7⟩; have k7 := Ext.trans k6 hx7; have hs7 := hs6.ext hx7; have ht7 := ht.ext hx7)
      | (go_at_call 16; refine (hF A ca _ hs7).mono ?_; rintro e w8 ⟨rfl, hx8⟩; have k8 := Ext.trans k7 hx8; have ht8 := ht7.ext hx8)
      | (go_at_call 23; refine (hL _).mono ?_; rintro e w9 ⟨C, cc, rfl, hi9, hx9⟩; have k9 := Ext.trans k8 hx9; have ht9 := ht8.ext hx9))
    go_loopw [12] (fun i wr => ∃ k : Nat, k ≤ n ∧ i = .int .i64 k ∧ Ext w9 wr) (fun i _ => n - (intOf i).toNat)
    case atStart => exact ⟨0, by omega, rfl, Ext.refl _⟩
    case round =>
      obtain ⟨k, hk, rfl, hx⟩ := hrel
      by_cases hlt : k < n
      · obtain ⟨b, off, rfl, h1, h2⟩ := ht9.at_ k hlt
        obtain ⟨b', off', rfl, g1⟩ := hi9.at_ k hlt
        replace h1 := hx.cell h1
        replace g1 := hx.cell g1
        clear h2
        go_wp2
        go_quiet (fail)
        go_wp2
        exact ⟨⟨k + 1, by omega, by go_num, hx.drewN _⟩, by simp [intOf]; omega⟩
      · obtain rfl : k = n := by omega
        have k10 := Ext.trans k9 hx
        go_wp2_with (first
          | (go_at_call 24; refine (hFr _).mono ?_; rintro e v1 ⟨rfl, r1⟩)
          | (go_at_call 25; refine (hRFr _).mono ?_; rintro e v2 ⟨rfl, r2⟩)
          | (go_at_call 26; refine (hN _).mono ?_; rintro e v3 ⟨rfl, r3⟩)
          | (go_at_call 27; refine (hRN _).mono ?_; rintro e v4 ⟨rfl, r4⟩)
          | (go_at_call 10; refine (awake_any _).mono ?_; rintro e v5 ⟨rfl, r5⟩))
        go_ret
        exact ⟨rfl, ((((k10.trans r1).trans r2).trans r3).trans r4).trans r5⟩
  · rw [decide_eq_false hv] at hV hRV
    have hC := fun W => Cells_no p W hp hv
    have hRC := fun W => refCells_no p W hp hv
    have hL := fun W => lines_no p W hp hv
    have hFr := fun W => free_no p W hp hv
    have hRFr := fun W => refFree_no p W hp hv
    have hN := fun W => next_no p W hp hv
    have hRN := fun W => refNext_no p W hp hv
    have hs0 : ∀ W, SlC W none 0 (fun _ => ((0, ⟨#[]⟩) : Cel)) := fun W => ⟨fun i hi => by omega⟩
    clear hv
    go_enter Try.func5, Try.ntmps5
    go_wp2_with (first
      | (go_at_call 18; refine (hW _).mono ?_; rintro e w1 ⟨rfl, hx1⟩)
      | (go_at_call 19; refine (hRW _).mono ?_; rintro e w2 ⟨rfl, hx2⟩; have k2 := Ext.trans hx1 hx2)
      | (go_at_call 20; refine (hV _).mono ?_; rintro e w3 ⟨rfl, hx3⟩; have k3 := Ext.trans k2 hx3)
      | (go_at_call 21; refine (hRV _).mono ?_; rintro e w4 ⟨rfl, hx4⟩; have k4 := Ext.trans k3 hx4)
      | (go_at_call 11; refine (hC _).mono ?_; rintro e w5 ⟨rfl, hx5⟩; have k5 := Ext.trans k4 hx5)
      | (go_at_call 22; refine (hRC _).mono ?_; rintro e w6 ⟨rfl, hx6⟩; have k6 := Ext.trans k5 hx6)
      | (go_at_call 12; refine (same_yes none none 0 0 0 _ _ _ (by omega) (hs0 _) (hs0 _) (fun i hi => rfl)).mono ?_; rintro e w7 ⟨rfl, hx7⟩; have k7 := Ext.trans k6 hx7)
      | (go_at_call 23; refine (hL _).mono ?_; rintro e w9 ⟨rfl, hx9⟩; have k9 := Ext.trans k7 hx9))
    go_loopw [12] (fun i wr => i = .int .i64 0 ∧ Ext w9 wr) (fun _ _ => 0)
    case atStart => exact ⟨rfl, Ext.refl _⟩
    case round =>
      obtain ⟨rfl, hx⟩ := hrel
      have k10 := Ext.trans k9 hx
      go_wp2_with (first
        | (go_at_call 24; refine (hFr _).mono ?_; rintro e v1 ⟨rfl, r1⟩)
        | (go_at_call 25; refine (hRFr _).mono ?_; rintro e v2 ⟨rfl, r2⟩)
        | (go_at_call 26; refine (hN _).mono ?_; rintro e v3 ⟨rfl, r3⟩)
        | (go_at_call 27; refine (hRN _).mono ?_; rintro e v4 ⟨rfl, r4⟩)
        | (go_at_call 10; refine (awake_any _).mono ?_; rintro e v5 ⟨rfl, r5⟩))
      go_ret
      exact ⟨rfl, ((((k10.trans r1).trans r2).trans r3).trans r4).trans r5⟩
end Go.Proofs.Ytfinljcembipkaa
