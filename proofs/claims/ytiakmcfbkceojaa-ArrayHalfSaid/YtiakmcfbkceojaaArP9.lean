/- ArrayPacks: the walk. -/
import Derived.Test.YtiakmcfbkceojaaArP6
namespace Go.Proofs.Ytiakmcfbkceojaa
open Go.RowKit Go.Maps
set_option linter.unusedVariables false
set_option linter.unusedSimpArgs false
set_option linter.unusedSectionVars false
set_option maxRecDepth 20000
attribute [local go_sem] Oper.semAt_some

/-- what the two Changed share: a code and a list -/
def CPost (F : List Int) (e0 : Int) (w : World) (e : Ending) (w' : World) : Prop := ∃ P c, e = .returned (.tuple #[.slice P F.length c, .int .i64 e0]) ∧ SlI w' P c F ∧ Ext w w'
theorem cpost_yes {F : List Int} {w w' : World} {e : Ending} (h : ChgPost F w e w') : CPost F 0 w e w' := by
  obtain ⟨v, rfl, ho, hx⟩ := h
  obtain ⟨P, c, rfl, hs⟩ := slI_of_row ho
  exact ⟨P, c, rfl, hs, hx⟩
theorem cpost_no {w w' : World} {e : Ending} (h : e = .returned (.tuple #[.slice none 0 0, .int .i64 1]) ∧ Ext w w') : CPost [] 1 w e w' := ⟨none, 0, h.1, SlI.nil _, h.2⟩
/-- what the two Pack share: a code and blocks -/
def PPost (X : List (List Int)) (e0 : Int) (w : World) (e : Ending) (w' : World) : Prop := ∃ P c Q C, e = .returned (.tuple #[.slice P X.length c, .int .i64 e0]) ∧ SlA w' P c Q C X ∧ Ext w w'
theorem ppost_yes {X : List (List Int)} {w w' : World} {e : Ending} (h : PackPost X w e w') : PPost X 0 w e w' := by
  obtain ⟨v, RR, rfl, hO, hm, hx⟩ := h
  obtain ⟨P, c, Q, C, hv, hA⟩ := hO.read
  rw [hm] at hv hA
  subst hv
  exact ⟨P, c, Q, C, rfl, hA, hx⟩
theorem ppost_no {k : Int} {w w' : World} {e : Ending} (h : e = .returned (.tuple #[.slice none 0 0, .int .i64 k]) ∧ Ext w w') : PPost [] k w e w' := ⟨none, 0, fun _ => none, fun _ => 0, h.1, SlA.empty _ _ (by omega) _ _, h.2⟩

section
variable (b : Int) (P : Option Addr) (cap : Nat) (Q : Nat → Option Addr) (C : Nat → Nat) (X : List (List Int)) (P2 : Option Addr) (cap2 : Nat) (Q2 : Nat → Option Addr) (C2 : Nat → Nat) (Y : List (List Int)) (n : Int) (w : World) (h : SlA w P cap Q C X) (h2 : SlA w P2 cap2 Q2 C2 Y)
  (hv : ∀ l ∈ X, ∀ x ∈ l, In64 x) (hv2 : ∀ l ∈ Y, ∀ x ∈ l, In64 x)
include h h2 hv hv2
theorem changed_both : ∃ F e0, ∀ W, SlA W P cap Q C X → SlA W P2 cap2 Q2 C2 Y → Calls Try.prog 30 #[.int .i64 b, .slice P X.length cap, .slice P2 Y.length cap2] W (CPost F e0 W) ∧ Calls Try.prog 31 #[.int .i64 b, .slice P X.length cap, .slice P2 Y.length cap2] W (CPost F e0 W) := by
  by_cases hok : ArOk b X ∧ ArOk b Y
  · exact ⟨_, 0, fun W hW hW2 => ⟨(achanged_yes b P cap Q C X P2 cap2 Q2 C2 Y W hW hW2 hok.1 hok.2).mono fun _ _ h => cpost_yes h, (rchanged_yes b P cap Q C X P2 cap2 Q2 C2 Y W hW hW2 hok.1 hok.2).mono fun _ _ h => cpost_yes h⟩⟩
  · exact ⟨[], 1, fun W hW hW2 => ⟨(achanged_no b P cap Q C X P2 cap2 Q2 C2 Y W hW hW2 hv hv2 hok).mono fun _ _ h => cpost_no h, (rchanged_no b P cap Q C X P2 cap2 Q2 C2 Y W hW hW2 hok).mono fun _ _ h => cpost_no h⟩⟩
set_option maxHeartbeats 4000000 in
theorem arrayPacks_any : Calls Try.prog 6 #[.int .i64 b, .slice P X.length cap, .slice P2 Y.length cap2, .int .i64 n] w fun e w' => e = .returned (.bool true) ∧ Ext w w' := by
  have hL := light_is P cap Q C X w h
  have hL2 := light_is P2 cap2 Q2 C2 Y w h2
  cases hl : lightB X with
  | false =>
    rw [hl] at hL
    go_enter Try.func6, Try.ntmps6
    go_wp2_with (first
      | (go_at_call 16; (with_reducible refine hL.mono ?_); rintro e w1 ⟨rfl, rfl⟩)
      | (go_at_call 9; refine (awake_any _).mono ?_; rintro e w2 ⟨rfl, hx2⟩))
    go_ret
    exact ⟨rfl, hx2⟩
  | true =>
  rw [hl] at hL
  cases hl2 : lightB Y with
  | false =>
    rw [hl2] at hL2
    go_enter Try.func6, Try.ntmps6
    go_wp2_with (first
      | (go_at_call 16; (with_reducible refine hL.mono ?_); rintro e w1 ⟨rfl, rfl⟩)
      | (go_at_call 16; (with_reducible refine hL2.mono ?_); rintro e w1 ⟨rfl, rfl⟩)
      | (go_at_call 9; refine (awake_any _).mono ?_; rintro e w2 ⟨rfl, hx2⟩))
    go_ret
    exact ⟨rfl, hx2⟩
  | true =>
  rw [hl2] at hL2
  obtain ⟨F, e0, hC⟩ := changed_both b P cap Q C X P2 cap2 Q2 C2 Y w h h2 hv hv2
  unfold CPost at hC
  have m0 : (e0 == e0) = true := by simp
  by_cases hok : ArOk b X
  · by_cases hr : 1 ≤ n ∧ n ≤ b
    · obtain ⟨m, rfl⟩ : ∃ m : Nat, n = m := ⟨n.toNat, by omega⟩
      have hm : 0 < m := by omega
      have hP1 : ∀ W, SlA W P cap Q C X → Calls Try.prog 28 #[.int .i64 b, .slice P X.length cap, .int .i64 m] W (PPost (packF X.flatten m) 0 W) := fun W hW => (apack_yes b m P cap Q C X W hW hok hm hr.2).mono fun _ _ h => ppost_yes h
      have hP2 : ∀ W, SlA W P cap Q C X → Calls Try.prog 29 #[.int .i64 b, .slice P X.length cap, .int .i64 m] W (PPost (packF X.flatten m) 0 W) := fun W hW => (rpack_yes b m P cap Q C X W hW hok hm hr.2).mono fun _ _ h => ppost_yes h
      have hZ := packF_ok hok hm hr.2
      have hZf := packF_flat X.flatten hm
      have hK1 := fun W hW => akeys_yes b P cap Q C X W hW hok hv
      have hK2 := fun P cap Q C W hW => akeys_yes b P cap Q C (packF X.flatten m) W hW hZ hZ.in64
      unfold KeysPost at hK1 hK2
      rw [hZf] at hK2
      unfold PPost at hP1 hP2
      clear hZ hZf hok hr hv hv2
      generalize packF X.flatten m = Z at *
      generalize X.flatten = G at *
      go_enter Try.func6, Try.ntmps6
      go_wp2_with (first
        | (go_at_call 16; (with_reducible refine hL.mono ?_); rintro e w1 ⟨rfl, rfl⟩)
        | (go_at_call 16; (with_reducible refine hL2.mono ?_); rintro e w1 ⟨rfl, rfl⟩)
        | (go_at_call 28; refine (hP1 _ h).mono ?_; rintro e w2 ⟨Pa, ca, Qa, Ca, rfl, sa, hx2⟩; have h3 := h.ext hx2)
        | (go_at_call 29; refine (hP2 _ (by exact h3)).mono ?_; rintro e w3 ⟨Pb, cb, Qb, Cb, rfl, sb, hx3⟩; have sa3 := sa.ext hx3)
        | (go_at_call 12; refine (sameBlocks_any _ _ _ _ _ _ _ _ Z Z _ (by exact sa3) (by exact sb)).mono ?_; rintro e w4 ⟨rfl, hx4⟩; rw [decide_eq_true (rfl : Z = Z)]; have hx24 := hx2.trans (hx3.trans hx4); have sa4 := sa3.ext hx4)
        | (go_at_call 13; (with_reducible refine (hK1 _ (by exact h.ext hx24)).mono ?_); rintro e w5 ⟨v5, rfl, ho5, hx5⟩; obtain ⟨P5, c5, rfl, s5⟩ := slI_of_row ho5; have sa5 := sa4.ext hx5)
        | (go_at_call 13; (with_reducible refine (hK2 _ _ _ _ _ (by exact sa5)).mono ?_); rintro e w6 ⟨v6, rfl, ho6, hx6⟩; obtain ⟨P6, c6, rfl, s6⟩ := slI_of_row ho6; have s56 := s5.ext hx6)
        | (go_at_call 14; (with_reducible refine (sameInts_any _ _ _ _ G G _ (by exact s56) (by exact s6)).mono ?_); rintro e w7 ⟨rfl, nq, rfl⟩; rw [decide_eq_true (rfl : G = G)]; have hx27 := hx24.trans (hx5.trans (hx6.trans ((Ext.refl _).drewN nq))))
        | (go_at_call 30; refine ((hC _ (by exact h.ext hx27) (by exact h2.ext hx27)).1).mono ?_; rintro e w8 ⟨P8, c8, rfl, s8, hx8⟩)
        | (go_at_call 31; refine ((hC _ (by exact h.ext (hx27.trans hx8)) (by exact h2.ext (hx27.trans hx8))).2).mono ?_; rintro e w9 ⟨P9, c9, rfl, s9, hx9⟩; have s89 := s8.ext hx9)
        | (go_at_call 14; (with_reducible refine (sameInts_any _ _ _ _ F F _ (by exact s89) (by exact s9)).mono ?_); rintro e w10 ⟨rfl, nr, rfl⟩; rw [decide_eq_true (rfl : F = F)])
        | (go_at_call 9; refine (awake_any _).mono ?_; rintro e w11 ⟨rfl, hx11⟩))
      go_ret
      exact ⟨rfl, hx27.trans (hx8.trans (hx9.trans (((Ext.refl _).drewN nr).trans hx11)))⟩
    · have hP1 : ∀ W, SlA W P cap Q C X → Calls Try.prog 28 #[.int .i64 b, .slice P X.length cap, .int .i64 n] W (PPost [] 7 W) := fun W hW => (apack_out b n P cap Q C X W hW hok hr).mono fun _ _ h => ppost_no h
      have hP2 : ∀ W, SlA W P cap Q C X → Calls Try.prog 29 #[.int .i64 b, .slice P X.length cap, .int .i64 n] W (PPost [] 7 W) := fun W hW => (rpack_out b n P cap Q C X W hW hok hr).mono fun _ _ h => ppost_no h
      unfold PPost at hP1 hP2
      clear hok hr hv hv2
      generalize ([] : List (List Int)) = Z at *
      go_enter Try.func6, Try.ntmps6
      go_wp2_with (first
        | (go_at_call 16; (with_reducible refine hL.mono ?_); rintro e w1 ⟨rfl, rfl⟩)
        | (go_at_call 16; (with_reducible refine hL2.mono ?_); rintro e w1 ⟨rfl, rfl⟩)
        | (go_at_call 28; refine (hP1 _ h).mono ?_; rintro e w2 ⟨Pa, ca, Qa, Ca, rfl, sa, hx2⟩; have h3 := h.ext hx2)
        | (go_at_call 29; refine (hP2 _ (by exact h3)).mono ?_; rintro e w3 ⟨Pb, cb, Qb, Cb, rfl, sb, hx3⟩; have sa3 := sa.ext hx3)
        | (go_at_call 12; refine (sameBlocks_any _ _ _ _ _ _ _ _ Z Z _ (by exact sa3) (by exact sb)).mono ?_; rintro e w4 ⟨rfl, hx4⟩; rw [decide_eq_true (rfl : Z = Z)]; have hx24 := hx2.trans (hx3.trans hx4); have sa4 := sa3.ext hx4)
        | (go_at_call 30; refine ((hC _ (by exact h.ext hx24) (by exact h2.ext hx24)).1).mono ?_; rintro e w8 ⟨P8, c8, rfl, s8, hx8⟩)
        | (go_at_call 31; refine ((hC _ (by exact h.ext (hx24.trans hx8)) (by exact h2.ext (hx24.trans hx8))).2).mono ?_; rintro e w9 ⟨P9, c9, rfl, s9, hx9⟩; have s89 := s8.ext hx9)
        | (go_at_call 14; (with_reducible refine (sameInts_any _ _ _ _ F F _ (by exact s89) (by exact s9)).mono ?_); rintro e w10 ⟨rfl, nr, rfl⟩; rw [decide_eq_true (rfl : F = F)])
        | (go_at_call 9; refine (awake_any _).mono ?_; rintro e w11 ⟨rfl, hx11⟩))
      go_ret
      exact ⟨rfl, hx24.trans (hx8.trans (hx9.trans (((Ext.refl _).drewN nr).trans hx11)))⟩
  · have hP1 : ∀ W, SlA W P cap Q C X → Calls Try.prog 28 #[.int .i64 b, .slice P X.length cap, .int .i64 n] W (PPost [] 1 W) := fun W hW => (apack_no b n P cap Q C X W hW hv hok).mono fun _ _ h => ppost_no h
    have hP2 : ∀ W, SlA W P cap Q C X → Calls Try.prog 29 #[.int .i64 b, .slice P X.length cap, .int .i64 n] W (PPost [] 1 W) := fun W hW => (rpack_no b n P cap Q C X W hW hok).mono fun _ _ h => ppost_no h
    unfold PPost at hP1 hP2
    clear hok hv hv2
    generalize ([] : List (List Int)) = Z at *
    go_enter Try.func6, Try.ntmps6
    go_wp2_with (first
      | (go_at_call 16; (with_reducible refine hL.mono ?_); rintro e w1 ⟨rfl, rfl⟩)
      | (go_at_call 16; (with_reducible refine hL2.mono ?_); rintro e w1 ⟨rfl, rfl⟩)
      | (go_at_call 28; refine (hP1 _ h).mono ?_; rintro e w2 ⟨Pa, ca, Qa, Ca, rfl, sa, hx2⟩; have h3 := h.ext hx2)
      | (go_at_call 29; refine (hP2 _ (by exact h3)).mono ?_; rintro e w3 ⟨Pb, cb, Qb, Cb, rfl, sb, hx3⟩; have sa3 := sa.ext hx3)
      | (go_at_call 12; refine (sameBlocks_any _ _ _ _ _ _ _ _ Z Z _ (by exact sa3) (by exact sb)).mono ?_; rintro e w4 ⟨rfl, hx4⟩; rw [decide_eq_true (rfl : Z = Z)]; have hx24 := hx2.trans (hx3.trans hx4); have sa4 := sa3.ext hx4)
      | (go_at_call 30; refine ((hC _ (by exact h.ext hx24) (by exact h2.ext hx24)).1).mono ?_; rintro e w8 ⟨P8, c8, rfl, s8, hx8⟩)
      | (go_at_call 31; refine ((hC _ (by exact h.ext (hx24.trans hx8)) (by exact h2.ext (hx24.trans hx8))).2).mono ?_; rintro e w9 ⟨P9, c9, rfl, s9, hx9⟩; have s89 := s8.ext hx9)
      | (go_at_call 14; (with_reducible refine (sameInts_any _ _ _ _ F F _ (by exact s89) (by exact s9)).mono ?_); rintro e w10 ⟨rfl, nr, rfl⟩; rw [decide_eq_true (rfl : F = F)])
      | (go_at_call 9; refine (awake_any _).mono ?_; rintro e w11 ⟨rfl, hx11⟩))
    go_ret
    exact ⟨rfl, hx24.trans (hx8.trans (hx9.trans (((Ext.refl _).drewN nr).trans hx11)))⟩
end
end Go.Proofs.Ytiakmcfbkceojaa
