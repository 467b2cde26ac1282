/- Rings: awake, light; the law of ChainWrong. -/
import Derived.Test.YtpobjheodlkkiaaGreatDoorChS
namespace Go.Proofs.YtpobjheodlkkiaaGreatDoor
open Go.RowKit Go.Sort Go.Maps
set_option linter.unusedVariables false
set_option maxRecDepth 20000
set_option linter.unusedSimpArgs false
set_option linter.unusedSectionVars false
set_option maxRecDepth 20000
attribute [local go_sem] Oper.semAt_some

theorem sort_awake : sortI [5, 2, 9] = [2, 5, 9] := sortI_eq (by simp) (by decide)
theorem built_awake : builtF 5 [2, 9] = [(2, 9, 5, 5), (5, 2, 9, 5), (9, 5, 2, 5)] := by
  unfold builtF
  rw [sort_awake]
  decide
theorem make_awake : makeE 5 [2, 9] = 0 ∧ makeL 5 [2, 9] = [(2, 9, 5, 5), (5, 2, 9, 5), (9, 5, 2, 5)] := by
  have h : makeE 5 [2, 9] = 0 := by decide
  exact ⟨h, by unfold makeL; rw [h, if_pos rfl, built_awake]⟩
set_option maxHeartbeats 4000000 in
theorem awake_any (w : World) : Calls Tryz.prog 4 #[] w fun e w' => e = .returned (.bool true) ∧ Ext w w' := by
  have hs : SlI (w.alloc (.cells #[.int .i64 2, .int .i64 9] 3)) (some ⟨w.heap.size, 0, none⟩) 2 [2, 9] := by
    obtain ⟨P, c, e, h⟩ := (OwnG.lit (e := 3) elemI.hk (w := w) (base := w.heap.size) [2, 9] rfl rfl (Nat.le_refl _) (by simp)).slG elemI (by simp)
    injection e with e1 e2 e3
    subst e1 e3
    exact h
  have hm := make_any (some ⟨w.heap.size, 0, none⟩) 2 5 [2, 9] _ hs (fun e => by cases e) (by simp) ⟨by omega, by omega⟩
  have hG := fun (op : BinOp) (u v : Operand) (xs ys : Array Value) (W : World) => run_eqGuard_agg (P := Tryz.prog) W op 33 u v xs ys (by kernel_rfl)
  go_enter Tryz.func4, Tryz.ntmps4
  go_wp2_with (go_at_call 10; refine hm.mono ?_; rintro e w1 ⟨⟨v, rfl, Q1, c1, rfl, s1, hq1⟩, hx1⟩; rw [make_awake.1]; rw [make_awake.2] at s1 ⊢; obtain ⟨b1, of1, rfl, g0, g1, g2, g3⟩ := s1.lkAt 0 (by simp); obtain ⟨b2, of2, hP2, k0, k1, k2, k3⟩ := s1.lkAt 2 (by simp); injection hP2 with hP2; injection hP2 with hP21 hP22; subst hP21 hP22; simp [nthL] at g0 g1 g2 g3 k0 k1 k2 k3)
  go_ret
  exact ⟨rfl, ((Ext.refl _).alloc _).trans hx1⟩

end Go.Proofs.YtpobjheodlkkiaaGreatDoor
