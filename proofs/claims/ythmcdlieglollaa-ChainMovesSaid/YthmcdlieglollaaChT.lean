/- Rings: awake, light; the law of ChainWrong. -/
import Derived.Test.YthmcdlieglollaaChS
namespace Go.Proofs.Ythmcdlieglollaa
open Go.RowKit Go.Sort Go.Maps
set_option linter.unusedVariables false
set_option linter.unusedSimpArgs false
set_option linter.unusedSectionVars false
set_option maxRecDepth 20000
attribute [local go_sem] Oper.semAt_some

theorem sort_awake : sortI [5, 2, 9] = [2, 5, 9] := sortI_eq (by simp) (by decide)
theorem built_awake : builtF 5 [2, 9] = [(2, 9, 5, 5), (5, 2, 9, 5), (9, 5, 2, 5)] := by
  unfold builtF
  rw [sort_awake]
  decide
theorem make_awake : makeE 5 [2, 9] = 0 ∧ makeL 5 [2, 9] = [(2, 9, 5, 5), (5, 2, 9, 5), (9, 5, 2, 5)] := by
  have h : makeE 5 [2, 9] = 0 := by decide
  exact ⟨h, by unfold makeL; rw [h, if_pos rfl, built_awake]⟩
set_option maxHeartbeats 4000000 in
theorem awake_any (w : World) : Calls Try.prog 10 #[] w fun e w' => e = .returned (.bool true) ∧ Ext w w' := by
  have hs : SlI (w.alloc (.cells #[.int .i64 2, .int .i64 9] 3)) (some ⟨w.heap.size, 0, none⟩) 2 [2, 9] := by
    obtain ⟨P, c, e, h⟩ := (OwnG.lit (e := 3) elemI.hk (w := w) (base := w.heap.size) [2, 9] rfl rfl (Nat.le_refl _) (by simp)).slG elemI (by simp)
    injection e with e1 e2 e3
    subst e1 e3
    exact h
  have hm := make_any (some ⟨w.heap.size, 0, none⟩) 2 5 [2, 9] _ hs (fun e => by cases e) (by simp) ⟨by omega, by omega⟩
  have hG := fun (op : BinOp) (u v : Operand) (xs ys : Array Value) (W : World) => run_eqGuard_agg (P := Try.prog) W op 31 u v xs ys (by kernel_rfl)
  go_enter Try.func10, Try.ntmps10
  go_wp2_with (go_at_call 15; refine hm.mono ?_; rintro e w1 ⟨⟨v, rfl, Q1, c1, rfl, s1, hq1⟩, hx1⟩; rw [make_awake.1]; rw [make_awake.2] at s1 ⊢; obtain ⟨b1, of1, rfl, g0, g1, g2, g3⟩ := s1.lkAt 0 (by simp); obtain ⟨b2, of2, hP2, k0, k1, k2, k3⟩ := s1.lkAt 2 (by simp); injection hP2 with hP2; injection hP2 with hP21 hP22; subst hP21 hP22; simp [nthL] at g0 g1 g2 g3 k0 k1 k2 k3)
  go_ret
  exact ⟨rfl, ((Ext.refl _).alloc _).trans hx1⟩
set_option maxHeartbeats 4000000 in
theorem chainWrong_any (P : Option Addr) (cap : Nat) (l : List Lk) (w : World) (h : SlL w P cap l) (ok : ∀ x ∈ l, OkK x) :
    Calls Try.prog 5 #[.slice P l.length cap] w fun e w' => e = .returned (.bool true) ∧ Ext w w' := by
  have hlen := h.len
  by_cases hl : 120 < l.length
  · have c1 : (120 : Int) < l.length := by omega
    have c2 : decide (120 < l.length) = true := by simp; omega
    go_enter Try.func5, Try.ntmps5
    go_wp2_with (go_at_call 10; refine (awake_any _).mono ?_; rintro e w2 ⟨rfl, hx2⟩)
    go_ret
    exact ⟨rfl, hx2⟩
  · have c1 : ¬ (120 : Int) < l.length := by omega
    have c2 : decide (120 < l.length) = false := by simp; omega
    have hW1 := fun W hW => wrong_any P cap l W hW ok
    have hW2 := fun W hW => rwrong_any P cap l W hW ok
    have hV1 := fun W hW => valid_any P cap l W hW ok
    have hV2 := fun W hW => rvalid_any P cap l W hW ok
    have hM1 := fun W hW => membersM_any P cap l W hW ok
    have hM2 := fun W hW => rmembersM_any P cap l W hW ok
    have hB1 := fun W hW => back_M P cap l W hW ok
    have hB2 := fun W hW => rback_M P cap l W hW ok
    have hO1 := fun W hW => owner_any P cap l W hW ok
    have hO2 := fun W hW => rowner_any P cap l W hW ok
    have hC1 := fun W hW => count_any P cap l W hW ok
    have hC2 := fun W hW => rcount_any P cap l W hW ok
    generalize wrongF l = r at *
    obtain ⟨r1, r2, r3⟩ := r
    simp only [wrongV] at hW1 hW2
    generalize memF l = ms at *
    generalize ms.reverse = mr at *
    generalize errF l = er at *
    generalize ownF' l = ow at *
    generalize validB l = vb at *
    have m1 : (r1 != r1) = false := by simp
    have m2 : (r2 != r2) = false := by simp
    have m3 : (r3 != r3) = false := by simp
    have m4 : (vb != vb) = false := by simp
    have m5 : (er != er) = false := by simp
    have m6 : (ow != ow) = false := by simp
    clear hl ok
    go_enter Try.func5, Try.ntmps5
    go_wp2_with (first
      | (go_at_call 12; refine (hW1 _ h).mono ?_; rintro e w2 ⟨rfl, hx2⟩; have h2 := h.ext hx2)
      | (go_at_call 13; refine (hW2 _ (by exact h2)).mono ?_; rintro e w3 ⟨rfl, hx3⟩; have h3 := h2.ext hx3)
      | (go_at_call 14; refine (hV1 _ (by exact h3)).mono ?_; rintro e w4 ⟨rfl, hx4⟩; have h4 := h3.ext hx4)
      | (go_at_call 22; refine (hV2 _ (by exact h4)).mono ?_; rintro e w5 ⟨rfl, hx5⟩; have h5 := h4.ext hx5)
      | (go_at_call 18; refine (hM1 _ (by exact h5)).mono ?_; rintro e w6 ⟨⟨v1, rfl, P1, c1, rfl, s1, _⟩, hx6⟩; have h6 := h5.ext hx6)
      | (go_at_call 23; refine (hM2 _ (by exact h6)).mono ?_; rintro e w7 ⟨⟨v2, rfl, P2, c2, rfl, s2, _⟩, hx7⟩; have h7 := h6.ext hx7; have s1 := s1.ext hx7)
      | (go_at_call 19; refine (hB1 _ (by exact h8)).mono ?_; rintro e w9 ⟨⟨v3, rfl, P3, c3, rfl, s3, _⟩, hx9⟩; have h9 := h8.ext hx9)
      | (go_at_call 24; refine (hB2 _ (by exact h9)).mono ?_; rintro e wA ⟨⟨v4, rfl, P4, c4, rfl, s4, _⟩, hxA⟩; have hA := h9.ext hxA; have s3 := s3.ext hxA)
      | (go_at_call 21; have hsm := same_yes _ _ _ _ ms _ s1 s2; refine hsm.mono ?_; clear hsm; rintro e w8 ⟨rfl, hx8⟩; have h8 := h7.ext hx8; clear s1 s2)
      | (go_at_call 21; have hsm := same_yes _ _ _ _ mr _ s3 s4; refine hsm.mono ?_; clear hsm; rintro e wB ⟨rfl, hxB⟩; have hB := hA.ext hxB)
      | (go_at_call 17; refine (hO1 _ (by exact hB)).mono ?_; rintro e wC ⟨rfl, hxC⟩; have hC := hB.ext hxC)
      | (go_at_call 25; refine (hO2 _ (by exact hC)).mono ?_; rintro e wD ⟨rfl, hxD⟩; have hD := hC.ext hxD)
      | (go_at_call 20; refine (hC1 _ (by exact hD)).mono ?_; rintro e wE ⟨rfl, hxE⟩; have hE := hD.ext hxE)
      | (go_at_call 26; refine (hC2 _ (by exact hE)).mono ?_; rintro e wF ⟨rfl, hxF⟩; have hF := hE.ext hxF)
      | (go_at_call 10; refine (awake_any _).mono ?_; rintro e wG ⟨rfl, hxG⟩))
    go_ret
    exact ⟨rfl, hx2.trans (hx3.trans (hx4.trans (hx5.trans (hx6.trans (hx7.trans (hx8.trans (hx9.trans (hxA.trans (hxB.trans (hxC.trans (hxD.trans (hxE.trans (hxF.trans hxG)))))))))))))⟩
end Go.Proofs.Ythmcdlieglollaa
