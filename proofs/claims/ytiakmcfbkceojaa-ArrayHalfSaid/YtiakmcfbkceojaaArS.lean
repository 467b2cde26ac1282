/- ArrayMakes: the walk. -/
import Derived.Test.YtiakmcfbkceojaaArR3
namespace Go.Proofs.Ytiakmcfbkceojaa
open Go.RowKit Go.Maps
set_option linter.unusedVariables false
set_option linter.unusedSimpArgs false
set_option maxRecDepth 20000
attribute [local go_sem] Oper.semAt_some

/-- Valid of an array -/
theorem avalid_yes (b : Int) (P : Option Addr) (cap : Nat) (Q : Nat → Option Addr) (C : Nat → Nat) (LL : List (List Int)) (w : World) (h : SlA w P cap Q C LL) (hok : ArOk b LL) :
    Calls Try.prog 15 #[.int .i64 b, .slice P LL.length cap] w fun e w' => e = .returned (.bool true) ∧ Ext w w' := by
  have hV := avalid_any b P cap Q C LL w h hok.in64
  rw [validF_iff.2 hok] at hV
  exact hV
set_option maxHeartbeats 4000000 in
theorem arrayMakes_any (b : Int) (P : Option Addr) (cap : Nat) (l : List Int) (w : World) (h : SlI w P cap l) (hv : ∀ x ∈ l, In64 x) :
    Calls Try.prog 3 #[.int .i64 b, .slice P l.length cap] w fun e w' => e = .returned (.bool true) ∧ Ext w w' := by
  have hll : l.length ≤ 9223372036854775807 := Nat.le_trans h.le h.cap
  by_cases hl : l.length ≤ 150
  · have hM := fun W hW => make_any b P cap l W hW hv (by omega)
    have hR := fun W hW => rmake_any b P cap l W hW (by omega)
    unfold MakePost at hM hR
    by_cases hy : KeysOk l ∧ roomB b = true
    · have hok := makeF_all b l hy.2 hy.1
      have hfl : (makeF b l l.length).flatten = l := by rw [makeF_flat b l _ (Nat.le_refl _), List.take_length]
      obtain ⟨h1, h2⟩ := makeE_yes hy.1 hy.2
      rw [h1, h2] at hM hR
      clear h1 h2 hy
      generalize makeF b l l.length = LL at *
      have hK := fun P cap Q C W hW => akeys_yes b P cap Q C LL W hW hok hok.in64
      have hVv := fun P cap Q C W hW => avalid_yes b P cap Q C LL W hW hok
      unfold KeysPost at hK
      have Hfl := Lib.hid hfl
      clear hfl
      go_enter Try.func3, Try.ntmps3
      go_wp2_with (first
        | (go_at_call 10; refine (hM _ h).mono ?_; rintro e w1 ⟨v1, R1, rfl, hO1, hm1, hx1⟩; obtain ⟨P1, c1, Q1, C1, hv1, hA1⟩ := hO1.read; rw [hm1] at hv1 hA1; subst hv1)
        | (go_at_call 11; refine (hR _ (by exact h.ext hx1)).mono ?_; rintro e w2 ⟨v2, R2, rfl, hO2, hm2, hx2⟩; obtain ⟨P2, c2, Q2, C2, hv2, hA2⟩ := hO2.read; rw [hm2] at hv2 hA2; subst hv2; have hA1' := hA1.ext hx2)
        | (go_at_call 12; refine (sameBlocks_any _ _ _ _ _ _ _ _ LL LL _ (by exact hA1') (by exact hA2)).mono ?_; rintro e w3 ⟨rfl, hx3⟩; rw [decide_eq_true (rfl : LL = LL)]; have hA3 := hA1'.ext hx3)
        | (go_at_call 13; refine (hK _ _ _ _ _ (by exact hA3)).mono ?_; rintro e w4 ⟨v4, rfl, ho4, hx4⟩; have hA4 := hA3.ext hx4; rw [Hfl.out] at ho4; obtain ⟨P4, c4, rfl, s4⟩ := slI_of_row ho4; have sl := h.ext (hx1.trans (hx2.trans (hx3.trans hx4))))
        | (go_at_call 14; refine (sameInts_any _ _ _ _ l l _ (by exact s4) (by exact sl)).mono ?_; rintro e w5 ⟨rfl, nq, rfl⟩; rw [decide_eq_true (rfl : l = l)]; have hA5 := hA4.ext ((Ext.refl _).drewN nq))
        | (go_at_call 15; refine (hVv _ _ _ _ _ (by exact hA5)).mono ?_; rintro e w6 ⟨rfl, hx6⟩)
        | (go_at_call 9; refine (awake_any _).mono ?_; rintro e w7 ⟨rfl, hx7⟩))
      go_ret
      exact ⟨rfl, hx1.trans (hx2.trans (hx3.trans (hx4.trans (((Ext.refl _).drewN nq).trans (hx6.trans hx7)))))⟩
    · obtain ⟨h1, h2⟩ := makeE_no hy (by omega)
      rw [h1, h2] at hM hR
      clear h1 h2 hy
      go_enter Try.func3, Try.ntmps3
      go_wp2_with (first
        | (go_at_call 10; refine (hM _ h).mono ?_; rintro e w1 ⟨v1, R1, rfl, hO1, hm1, hx1⟩; obtain ⟨P1, c1, Q1, C1, hv1, hA1⟩ := hO1.read; rw [hm1] at hv1 hA1; subst hv1)
        | (go_at_call 11; refine (hR _ (by exact h.ext hx1)).mono ?_; rintro e w2 ⟨v2, R2, rfl, hO2, hm2, hx2⟩; obtain ⟨P2, c2, Q2, C2, hv2, hA2⟩ := hO2.read; rw [hm2] at hv2 hA2; subst hv2; have hA1' := hA1.ext hx2)
        | (go_at_call 12; refine (sameBlocks_any _ _ _ _ _ _ _ _ [] [] _ (by exact hA1') (by exact hA2)).mono ?_; rintro e w3 ⟨rfl, hx3⟩; rw [decide_eq_true (rfl : ([] : List (List Int)) = [])])
        | (go_at_call 9; refine (awake_any _).mono ?_; rintro e w7 ⟨rfl, hx7⟩))
      go_ret
      exact ⟨rfl, hx1.trans (hx2.trans (hx3.trans hx7))⟩
  · have c1 : (150 : Int) < l.length := by omega
    go_enter Try.func3, Try.ntmps3
    go_wp2_with (go_at_call 9; refine (awake_any _).mono ?_; rintro e w7 ⟨rfl, hx7⟩)
    go_ret
    exact ⟨rfl, hx7⟩
end Go.Proofs.Ytiakmcfbkceojaa
