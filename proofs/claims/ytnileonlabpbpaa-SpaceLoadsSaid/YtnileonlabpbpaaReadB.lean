/- The reference's Valid, CellsOf, Cells. -/
import Derived.Test.YtnileonlabpbpaaReadA
import Derived.Maps.AppendAt
namespace Go.Proofs.Ytnileonlabpbpaa
open Go.RowKit
set_option linter.unusedVariables false
set_option maxRecDepth 20000


set_option maxHeartbeats 2000000 in
theorem refCellsOf_any (p : ByteArray) (w : World) (hv : ValidR p) :
    Calls Try.prog 56 #[.string p] w fun e w' => ∃ v, e = .returned v ∧ w'.ownsRow w.heap.size 85 2 v (usedL p (twoF p 0)).length (flatC (usedL p (twoF p 0))) ∧ Ext w w' := by
  have hz : 32 ≤ p.size ∧ p.size ≤ 4096 := by have := hv.1.1; simp [sizeB] at this; omega
  obtain ⟨z1, z2⟩ := hz
  have hN := hv.1.2.2
  have hsl := slot_le hv
  clear hv
  obtain ⟨i0, hi, hz0, hz1, hz2⟩ := info_parts Try.infoC
  go_enter Try.func56, Try.ntmps56
  go_wp2
  go_loopw [3, 4] (fun o k wr => ∃ j : Nat, j ≤ twoF p 0 ∧ k = .int .i64 (j + 1) ∧ wr.ownsRow w.heap.size 85 2 o (usedL p j).length (flatC (usedL p j)) ∧ Ext w wr) (fun _ k _ => twoF p 0 + 1 - (intOf k).toNat)
  case atStart => exact ⟨0, by omega, rfl, World.ownsRow_nil _ _ _ _, Ext.refl w⟩
  case round =>
    obtain ⟨j, hj, rfl, hown, hx⟩ := hrel
    by_cases hlt : j < twoF p 0
    · have hs := hsl j hlt
      have c1 := twoF_lt p (2 + 4 * j)
      have c2 := twoF_lt p (4 + 4 * j)
      have hul := usedL_length p j
      have eu : usedL p (j + 1) = if twoF p (4 + 4 * j) = 0 then usedL p j else usedL p j ++ [cellS p j] := rfl
      by_cases l0 : twoF p (4 + 4 * j) = 0
      · rw [if_pos l0] at eu
        have HE := Lib.hid eu
        clear eu
        go_wp2_with (first
          | (go_at_call 18; refine (refTwo_at p _ 0 _ (by omega) (by omega) (by omega)).mono ?_; rintro e w1 ⟨rfl, n1, rfl⟩)
          | (go_at_call 18; refine (refTwo_at p _ (2 + 4 * j) _ (by omega) (by omega) (by omega)).mono ?_; rintro e w1 ⟨rfl, n2, rfl⟩)
          | (go_at_call 18; refine (refTwo_at p _ (4 + 4 * j) _ (by omega) (by omega) (by omega)).mono ?_; rintro e w2 ⟨rfl, n3, rfl⟩))
        all_goals exact ⟨⟨j + 1, by omega, by go_num, by rw [HE.out]; exact ownsRow_ext hown ((Ext.refl _).drewN _), hx.drewN _⟩, by simp [intOf]; omega⟩
      · rw [if_neg l0] at eu
        obtain ⟨off, hoff⟩ : ∃ off, twoF p (2 + 4 * j) = off := ⟨_, rfl⟩
        obtain ⟨len, hlen⟩ : ∃ len, twoF p (4 + 4 * j) = len := ⟨_, rfl⟩
        have hcs : cellS p j = ((j : Int) + 1, p.extract off (off + len)) := by unfold cellS; rw [hoff, hlen]
        rw [hcs] at eu
        rw [hoff] at c1 hs
        rw [hlen] at c2 hs l0
        have HE := Lib.hid eu
        have HO := Lib.hid hoff
        have HL := Lib.hid hlen
        clear eu hoff hlen hcs
        have q1 : (0 : Int) ≤ off := by omega
        have q2 : (off : Int) ≤ off + len := by omega
        have q3 : (off : Int) + len ≤ p.size := by omega
        have q4 : (0 : Int) < len := by omega
        have q5 : ((off : Int) + len).toNat = off + len := by omega
        go_wp2_with (first
          | (go_at_call 18; refine (refTwo_at p _ 0 _ (by omega) (by omega) (by omega)).mono ?_; rintro e w1 ⟨rfl, n1, rfl⟩)
          | (go_at_call 18; refine (refTwo_at p _ (2 + 4 * j) _ (by omega) (by omega) (by omega)).mono ?_; rintro e w1 ⟨rfl, n2, rfl⟩; rw [HO.out])
          | (go_at_call 18; refine (refTwo_at p _ (4 + 4 * j) _ (by omega) (by omega) (by omega)).mono ?_; rintro e w2 ⟨rfl, n3, rfl⟩; rw [HL.out])
          | (refine wpList_append_own_at _ rfl (.tmp 24) (.tmp 33) 81 rfl w.heap.size 85 i0 _ 2 24 Try.underlying81 hi hz0 hz1 hz2 rfl (by decide) _ _ _ rfl (ownsRow_ext hown (by exact ((Ext.refl _).drewN _).alloc _)) ⟨_, 0, none⟩ 1 1 [.int .i64 (j + 1), .string (p.extract off (off + len))] rfl rfl (two_cells _ _ _ _) (by simp [Value.oneCell']) (by simp only [maxLen]; omega) (by omega) (by have := hx.size; simp [World.size_alloc]; omega) ?_
             intro v' w7 hown7 hgrow hnil hat))
        all_goals (
          have hxa := (hx.drewN (n1 + n2 + n3)).alloc (.cells #[.int .i64 (j + 1), .string (p.extract off (off + len))] 85)
          exact ⟨⟨j + 1, by omega, by go_num, by rw [HE.out, flatC_snoc, List.length_append]; exact hown7, Below.grown hxa hgrow hxa.size (fun k hk => (hown.lt k hk).1)⟩, by simp [intOf]; omega⟩)
    · obtain rfl : j = twoF p 0 := by omega
      go_wp2_with (go_at_call 18; refine (refTwo_at p _ 0 _ (by omega) (by omega) (by omega)).mono ?_; rintro e w1 ⟨rfl, n1, rfl⟩)
      go_ret
      exact ⟨_, rfl, ownsRow_ext hown ((Ext.refl _).drewN _), hx.drewN _⟩



end Go.Proofs.Ytnileonlabpbpaa
