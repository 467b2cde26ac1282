/- Whole of the reference. -/
import Derived.Test.YtpobjheodlkkiaaGreatDoorTxE
namespace Go.Proofs.YtpobjheodlkkiaaGreatDoor
open Go.RowKit
set_option linter.unusedVariables false
set_option linter.unusedSimpArgs false
set_option linter.unusedSectionVars false
set_option maxRecDepth 100000
attribute [local go_sem] Oper.semAt_some

theorem rwhole_any (s : ByteArray) (hs : s.size ≤ 140737488355328) (w : World) :
    Calls Tryz.prog 23 #[.string s] w fun e w' => e = .returned (.tuple #[.int .i64 (wholeF s.data.toList).1, .bool (wholeF s.data.toList).2]) ∧ w = w' := by
  have hN := rnum_any s 0 (Nat.zero_le _) hs w
  have e : numAt s 0 = numF s.data.toList := by unfold numAt; rw [List.drop_zero]
  have hl : s.data.toList.length = s.size := by simp
  unfold wholeF
  rw [e] at hN
  rw [hl]
  generalize numF s.data.toList = r at *
  obtain ⟨r1, r2⟩ := r
  simp only at hN ⊢
  clear e hl
  have hN' : Calls Tryz.prog 36 #[.string s, .int .i64 0] w fun e w' => e = .returned (.tuple #[.int .i64 r1, .int .i64 r2]) ∧ w = w' := hN
  clear hN
  by_cases h1 : 0 < r2
  · by_cases h2 : r2 = s.size
    · have h2' : (r2 == (s.size : Int)) = true := by rw [h2]; simp
      have HR := Lib.hid (show (decide (0 < r2) && decide (r2 = s.size)) = true from by simp [h1, h2]; omega)
      clear h2
      go_enter Tryz.func23, Tryz.ntmps23
      go_wp2_with (go_at_call 36; refine hN'.mono ?_; rintro e w1 ⟨rfl, rfl⟩)
      go_ret2
      exact ⟨by rw [HR.out]; rfl, rfl⟩
    · have h2' : (r2 == (s.size : Int)) = false := by rw [beq_eq_false_iff_ne]; exact h2
      have HR := Lib.hid (show (decide (0 < r2) && decide (r2 = s.size)) = false from by simp [h2])
      clear h2
      go_enter Tryz.func23, Tryz.ntmps23
      go_wp2_with (go_at_call 36; refine hN'.mono ?_; rintro e w1 ⟨rfl, rfl⟩)
      go_ret2
      exact ⟨by rw [HR.out]; rfl, rfl⟩
  · have HR := Lib.hid (show (decide (0 < r2) && decide (r2 = s.size)) = false from by simp [h1])
    go_enter Tryz.func23, Tryz.ntmps23
    go_wp2_with (go_at_call 36; refine hN'.mono ?_; rintro e w1 ⟨rfl, rfl⟩)
    go_ret2
    exact ⟨by rw [HR.out]; rfl, rfl⟩
end Go.Proofs.YtpobjheodlkkiaaGreatDoor
