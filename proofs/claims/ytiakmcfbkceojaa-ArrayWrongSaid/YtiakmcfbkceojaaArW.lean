/- ArrayWrong: the walk. -/
import Derived.Test.YtiakmcfbkceojaaArL
namespace Go.Proofs.Ytiakmcfbkceojaa
open Go.RowKit Go.Maps
set_option linter.unusedVariables false
set_option linter.unusedSimpArgs false
set_option maxRecDepth 20000
attribute [local go_sem] Oper.semAt_some

set_option maxHeartbeats 4000000 in
theorem arrayWrong_any (b : Int) (P : Option Addr) (cap : Nat) (Q : Nat → Option Addr) (C : Nat → Nat) (LL : List (List Int)) (w : World) (h : SlA w P cap Q C LL) (hv : ∀ l ∈ LL, ∀ x ∈ l, In64 x) :
    Calls Try.prog 4 #[.int .i64 b, .slice P LL.length cap] w fun e w' => e = .returned (.bool true) ∧ Ext w w' := by
  have hL := light_is P cap Q C LL w h
  cases hl : lightB LL with
  | false =>
    rw [hl] at hL
    go_enter Try.func4, Try.ntmps4
    go_wp2_with (first
      | (go_at_call 16; refine hL.mono ?_; rintro e w1 ⟨rfl, rfl⟩)
      | (go_at_call 9; refine (awake_any _).mono ?_; rintro e w2 ⟨rfl, hx2⟩))
    go_ret
    exact ⟨rfl, hx2⟩
  | true =>
    rw [hl] at hL
    have hA := fun W hW => awrong_any b P cap Q C LL W hW hv
    have hR := fun W hW => rwrong_any b P cap Q C LL W hW
    have hVa := fun W hW => avalid_any b P cap Q C LL W hW hv
    have hVr := fun W hW => rvalid_any b P cap Q C LL W hW
    unfold three at hA hR
    generalize wrongF b LL = r at *
    obtain ⟨r1, r2, r3⟩ := r
    simp only at hA hR
    have m1 : (r1 != r1) = false := by simp
    have m2 : (r2 != r2) = false := by simp
    have m3 : (r3 != r3) = false := by simp
    by_cases hok : ArOk b LL
    · have hK1 := fun W hW => akeys_yes b P cap Q C LL W hW hok hv
      have hK2 := fun W hW => rkeys_yes b P cap Q C LL W hW hok
      have hC := fun W hW => acount_yes b P cap Q C LL W hW hok hv
      unfold KeysPost at hK1 hK2
      have hle := hok.le
      generalize hF : LL.flatten = F at *
      clear hF hok
      go_enter Try.func4, Try.ntmps4
      go_wp2_with (first
        | (go_at_call 16; refine hL.mono ?_; rintro e w1 ⟨rfl, rfl⟩)
        | (go_at_call 17; refine (hA _ h).mono ?_; rintro e w2 ⟨rfl, hx2⟩; have h2 := h.ext hx2)
        | (go_at_call 18; refine (hR _ (by exact h2)).mono ?_; rintro e w3 ⟨rfl, hx3⟩; have h3 := h2.ext hx3)
        | (go_at_call 15; refine (hVa _ (by exact h3)).mono ?_; rintro e w4 ⟨rfl, hx4⟩; have h4 := h3.ext hx4)
        | (go_at_call 19; refine (hVr _ (by exact h4)).mono ?_; rintro e w5 ⟨rfl, hx5⟩; have h5 := h4.ext hx5)
        | (go_at_call 13; refine (hK1 _ (by exact h5)).mono ?_; rintro e w6 ⟨v1, rfl, ho1, hx6⟩; have h6 := h5.ext hx6; obtain ⟨P1, c1, rfl, s1⟩ := slI_of_row ho1)
        | (go_at_call 20; refine (hK2 _ (by exact h6)).mono ?_; rintro e w7 ⟨v2, rfl, ho2, hx7⟩; have h7 := h6.ext hx7; obtain ⟨P2, c2, rfl, s2⟩ := slI_of_row ho2; have s1' := s1.ext hx7)
        | (go_at_call 21; refine (hC _ (by exact h7)).mono ?_; rintro e w8 ⟨rfl, hx8⟩; have s3 := s1'.ext hx8; have s4 := s2.ext hx8)
        | (go_at_call 14; refine (sameInts_any _ _ _ _ F F _ (by exact s3) (by exact s4)).mono ?_; rintro e w9 ⟨rfl, nq, rfl⟩; rw [decide_eq_true (rfl : F = F)])
        | (go_at_call 9; refine (awake_any _).mono ?_; rintro e w10 ⟨rfl, hx10⟩))
      go_ret
      exact ⟨rfl, hx2.trans (hx3.trans (hx4.trans (hx5.trans (hx6.trans (hx7.trans (hx8.trans (((Ext.refl _).drewN nq).trans hx10)))))))⟩
    · have hK1 := fun W hW => akeys_no b P cap Q C LL W hW hok hv
      have hK2 := fun W hW => rkeys_no b P cap Q C LL W hW hok
      have hC := fun W hW => acount_no b P cap Q C LL W hW hok hv
      clear hok
      go_enter Try.func4, Try.ntmps4
      go_wp2_with (first
        | (go_at_call 16; refine hL.mono ?_; rintro e w1 ⟨rfl, rfl⟩)
        | (go_at_call 17; refine (hA _ h).mono ?_; rintro e w2 ⟨rfl, hx2⟩; have h2 := h.ext hx2)
        | (go_at_call 18; refine (hR _ (by exact h2)).mono ?_; rintro e w3 ⟨rfl, hx3⟩; have h3 := h2.ext hx3)
        | (go_at_call 15; refine (hVa _ (by exact h3)).mono ?_; rintro e w4 ⟨rfl, hx4⟩; have h4 := h3.ext hx4)
        | (go_at_call 19; refine (hVr _ (by exact h4)).mono ?_; rintro e w5 ⟨rfl, hx5⟩; have h5 := h4.ext hx5)
        | (go_at_call 13; refine (hK1 _ (by exact h5)).mono ?_; rintro e w6 ⟨rfl, hx6⟩; have h6 := h5.ext hx6)
        | (go_at_call 20; refine (hK2 _ (by exact h6)).mono ?_; rintro e w7 ⟨rfl, hx7⟩; have h7 := h6.ext hx7)
        | (go_at_call 21; refine (hC _ (by exact h7)).mono ?_; rintro e w8 ⟨rfl, hx8⟩)
        | (go_at_call 14; refine (sameInts_any none none 0 0 [] [] _ (SlI.nil _) (SlI.nil _)).mono ?_; rintro e w9 ⟨rfl, nq, rfl⟩; rw [decide_eq_true (rfl : ([] : List Int) = [])])
        | (go_at_call 9; refine (awake_any _).mono ?_; rintro e w10 ⟨rfl, hx10⟩))
      go_ret
      exact ⟨rfl, hx2.trans (hx3.trans (hx4.trans (hx5.trans (hx6.trans (hx7.trans (hx8.trans (((Ext.refl _).drewN nq).trans hx10)))))))⟩
end Go.Proofs.Ytiakmcfbkceojaa
