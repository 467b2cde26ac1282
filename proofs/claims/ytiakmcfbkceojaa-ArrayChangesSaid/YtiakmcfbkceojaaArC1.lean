/- ArrayChanges: the walk. -/
import Derived.Test.YtiakmcfbkceojaaArX5
import Derived.Deep.RegionHeld3
namespace Go.Proofs.Ytiakmcfbkceojaa
open Go.RowKit Go.Maps
set_option linter.unusedVariables false
set_option linter.unusedSimpArgs false
set_option linter.unusedSectionVars false
set_option maxRecDepth 20000
attribute [local go_sem] Oper.semAt_some

/-- a slice from a place on, wherever it lies -/
theorem from_ex {w : World} {b off c : Nat} {F : List Int} (s : SlI w (some ⟨b, off, none⟩) c F) (i : Nat) (hi : i ≤ F.length) : ∃ o', (∀ w, (Instr.slice 22 (.slice (some ⟨b, off, none⟩) F.length c) (some (.int .i64 i)) none none).run Try.prog w = .ok (.slice (some ⟨b, o', none⟩) (F.length - i) (c - i)) w) ∧ ∀ W, Ext w W → SlI W (some ⟨b, o', none⟩) (c - i) (F.drop i) :=
  ⟨_, slice_from b off F.length c i hi s.le 22 (by kernel_rfl) (by kernel_rfl), fun W hW => (s.ext hW).from i hi⟩
set_option maxHeartbeats 8000000 in
theorem changes_no (b : Int) (P : Option Addr) (cap : Nat) (Q : Nat → Option Addr) (C : Nat → Nat) (LL : List (List Int)) (index too key : Int) (w : World) (h : SlA w P cap Q C LL) (X1 X2 X3 : List (List Int)) (k1 e0 e1 e2 : Int) (hL : Calls Try.prog 16 #[.slice P LL.length cap] w fun e w' => e = .returned (.bool true) ∧ w = w') (hPut : ∀ W, SlA W P cap Q C LL → Calls Try.prog 33 #[.int .i64 b, .slice P LL.length cap, .int .i64 index, .int .i64 key] W (PPost X1 e0 W) ∧ Calls Try.prog 34 #[.int .i64 b, .slice P LL.length cap, .int .i64 index, .int .i64 key] W (PPost X1 e0 W)) (hTk : ∀ W, SlA W P cap Q C LL → Calls Try.prog 32 #[.int .i64 b, .slice P LL.length cap, .int .i64 index] W (TPost X2 k1 e1 W) ∧ Calls Try.prog 36 #[.int .i64 b, .slice P LL.length cap, .int .i64 index] W (TPost X2 k1 e1 W)) (hSh : ∀ W, SlA W P cap Q C LL → Calls Try.prog 37 #[.int .i64 b, .slice P LL.length cap, .int .i64 index, .int .i64 too] W (PPost X3 e2 W) ∧ Calls Try.prog 38 #[.int .i64 b, .slice P LL.length cap, .int .i64 index, .int .i64 too] W (PPost X3 e2 W)) (hp : e0 ≠ 0) (ht : e1 ≠ 0) (hKr : ∀ W, SlA W P cap Q C LL → Calls Try.prog 20 #[.int .i64 b, .slice P LL.length cap] W fun e w' => ∃ v x, e = .returned (.tuple #[v, x]) ∧ Ext W w') :
    Calls Try.prog 8 #[.int .i64 b, .slice P LL.length cap, .int .i64 index, .int .i64 too, .int .i64 key] w fun e w' => e = .returned (.bool true) ∧ Ext w w' := by
  have hlen := h.len
  unfold PPost at hPut hSh
  unfold TPost at hTk
  have m0 : (e0 != e0) = false := by simp
  have m1 : (e1 != e1) = false := by simp
  have mk : (k1 != k1) = false := by simp
  have m2 : (e2 == e2) = true := by simp
  have z0 : (e0 == 0) = false := by simpa using hp
  have z1 : (e1 == 0) = false := by simpa using ht
  clear hp ht
  go_enter Try.func8, Try.ntmps8
  go_wp2_with (first
    | (go_at_call 16; refine hL.mono ?_; rintro e w1 ⟨rfl, rfl⟩)
    | (go_at_call 33; refine ((hPut _ h).1).mono ?_; rintro e w2 ⟨Pa, ca, Qa, Ca, rfl, sa, E2'⟩)
    | (go_at_call 34; refine ((hPut _ (by exact h.ext E2')).2).mono ?_; rintro e w3 ⟨Pb, cb, Qb, Cb, rfl, sb, x3⟩; have E3' := E2'.trans x3; have sa3 := sa.ext x3)
    | (go_at_call 12; (with_reducible refine (sameBlocks_any _ _ _ _ _ _ _ _ X1 X1 _ (by exact sa3) (by exact sb)).mono ?_); rintro e w4 ⟨rfl, x4⟩; rw [decide_eq_true (rfl : X1 = X1)]; have E4 := E3'.trans x4; have sa4 := sa3.ext x4)
    | (go_at_call 20; refine (hKr _ (by exact h.ext E4)).mono ?_; rintro e w5 ⟨P5, c5, rfl, x5⟩; have E5 := E4.trans x5)
    | (go_at_call 32; refine ((hTk _ (by exact h.ext E5)).1).mono ?_; rintro e w11 ⟨Pc, cc, Qc, Cc, rfl, sc, x11⟩; have E11t := E5.trans x11)
    | (go_at_call 36; refine ((hTk _ (by exact h.ext E11t)).2).mono ?_; rintro e w12 ⟨Pd, cd, Qd, Cd, rfl, sd, x12⟩; have E12 := E11t.trans x12; have sc12 := sc.ext x12)
    | (go_at_call 12; (with_reducible refine (sameBlocks_any _ _ _ _ _ _ _ _ X2 X2 _ (by exact sc12) (by exact sd)).mono ?_); rintro e w13 ⟨rfl, x13⟩; rw [decide_eq_true (rfl : X2 = X2)]; have E13 := E12.trans x13; have sb13 := sc12.ext x13)
    | (go_at_call 37; refine ((hSh _ (by exact h.ext E13)).1).mono ?_; rintro e w22 ⟨Pe, ce, Qe, Ce, rfl, se, x22⟩; have E22 := E13.trans x22)
    | (go_at_call 38; refine ((hSh _ (by exact h.ext E22)).2).mono ?_; rintro e w23 ⟨Pf, cf, Qf, Cf, rfl, sf, x23⟩; have E23 := E22.trans x23; have se23 := se.ext x23)
    | (go_at_call 12; (with_reducible refine (sameBlocks_any _ _ _ _ _ _ _ _ X3 X3 _ (by exact se23) (by exact sf)).mono ?_); rintro e w24 ⟨rfl, x24⟩; rw [decide_eq_true (rfl : X3 = X3)]; have E24 := E23.trans x24)
    | (go_at_call 9; refine (awake_any _).mono ?_; rintro e w30 ⟨rfl, x30⟩))
  go_ret
  exact ⟨rfl, E24.trans x30⟩
set_option maxHeartbeats 8000000 in
theorem changes_put (b : Int) (P : Option Addr) (cap : Nat) (Q : Nat → Option Addr) (C : Nat → Nat) (LL : List (List Int)) (index too key : Int) (w : World) (h : SlA w P cap Q C LL) (X1 X2 X3 : List (List Int)) (k1 e0 e1 e2 : Int) (hL : Calls Try.prog 16 #[.slice P LL.length cap] w fun e w' => e = .returned (.bool true) ∧ w = w') (hPut : ∀ W, SlA W P cap Q C LL → Calls Try.prog 33 #[.int .i64 b, .slice P LL.length cap, .int .i64 index, .int .i64 key] W (PPost X1 e0 W) ∧ Calls Try.prog 34 #[.int .i64 b, .slice P LL.length cap, .int .i64 index, .int .i64 key] W (PPost X1 e0 W)) (hTk : ∀ W, SlA W P cap Q C LL → Calls Try.prog 32 #[.int .i64 b, .slice P LL.length cap, .int .i64 index] W (TPost X2 k1 e1 W) ∧ Calls Try.prog 36 #[.int .i64 b, .slice P LL.length cap, .int .i64 index] W (TPost X2 k1 e1 W)) (hSh : ∀ W, SlA W P cap Q C LL → Calls Try.prog 37 #[.int .i64 b, .slice P LL.length cap, .int .i64 index, .int .i64 too] W (PPost X3 e2 W) ∧ Calls Try.prog 38 #[.int .i64 b, .slice P LL.length cap, .int .i64 index, .int .i64 too] W (PPost X3 e2 W)) (hp : e0 = 0) (ht : e1 ≠ 0) (i : Nat) (hi : index = i) (F : List Int) (hFl : F.length ≤ 500) (hF : F ≠ []) (hKr : ∀ W, SlA W P cap Q C LL → Calls Try.prog 20 #[.int .i64 b, .slice P LL.length cap] W (KyPost F W)) (G1 : List Int) (hK1 : ∀ P c Q C W, SlA W P c Q C X1 → Calls Try.prog 13 #[.int .i64 b, .slice P X1.length c] W fun e w' => ∃ v, e = .returned (.tuple #[v, .int .i64 0]) ∧ w'.ownsRow W.heap.size 3 1 v G1.length (intVs G1) ∧ Ext W w') (n1 : Nat) (hn1 : n1 ≤ 2) (hAp1 : ∀ P1 c1 Q1 C1 W, SlA W P1 c1 Q1 C1 X1 → SlA W P cap Q C LL → Calls Try.prog 35 #[.slice P1 X1.length c1, .slice P LL.length cap] W fun e w' => e = .returned (.int .i64 n1) ∧ Ext W w') (HG1 : Hid (G1 = F.take i ++ [key] ++ F.drop i)) (hi1 : i ≤ F.length) :
    Calls Try.prog 8 #[.int .i64 b, .slice P LL.length cap, .int .i64 index, .int .i64 too, .int .i64 key] w fun e w' => e = .returned (.bool true) ∧ Ext w w' := by
  have hlen := h.len
  unfold PPost at hPut hSh
  unfold TPost at hTk
  have m0 : (e0 != e0) = false := by simp
  have m1 : (e1 != e1) = false := by simp
  have mk : (k1 != k1) = false := by simp
  have m2 : (e2 == e2) = true := by simp
  have z1 : (e1 == 0) = false := by simpa using ht
  unfold KyPost at hKr
  subst hi
  subst hp
  have N1 := Lib.hid (show (F.take i).length = i by rw [List.length_take]; omega)
  have N2 := Lib.hid (show (F.drop i).length = F.length - i from List.length_drop)
  have g2 : (i : Int) ≤ F.length := by omega
  have a1 : decide ((2 : Int) < (n1 : Int)) = false := by simp; omega
  clear ht hn1
  go_enter Try.func8, Try.ntmps8
  go_wp2_with (first
    | (go_at_call 16; refine hL.mono ?_; rintro e w1 ⟨rfl, rfl⟩)
    | (go_at_call 33; refine ((hPut _ h).1).mono ?_; rintro e w2 ⟨Pa, ca, Qa, Ca, rfl, sa, E2'⟩)
    | (go_at_call 34; refine ((hPut _ (by exact h.ext E2')).2).mono ?_; rintro e w3 ⟨Pb, cb, Qb, Cb, rfl, sb, x3⟩; have E3' := E2'.trans x3; have sa3 := sa.ext x3)
    | (go_at_call 12; (with_reducible refine (sameBlocks_any _ _ _ _ _ _ _ _ X1 X1 _ (by exact sa3) (by exact sb)).mono ?_); rintro e w4 ⟨rfl, x4⟩; rw [decide_eq_true (rfl : X1 = X1)]; have E4 := E3'.trans x4; have sa4 := sa3.ext x4)
    | (go_at_call 20; refine (hKr _ (by exact h.ext E4)).mono ?_; rintro e w5 ⟨P5, c5, rfl, s5, x5⟩; have E5 := E4.trans x5; have sa5 := sa4.ext x5; obtain ⟨b5, o5, rfl⟩ := slI_some s5 hF; have l5 := s5.le; have m5 := s5.cap; have l5i : (i : Int) ≤ c5 := (by omega))
    | (go_at_call 13; (with_reducible refine (hK1 _ _ _ _ _ (by exact sa5)).mono ?_); rintro e w6 ⟨v6, rfl, ho6, x6⟩; obtain ⟨P6, c6, rfl, s6⟩ := slI_of_row ho6; have E6 := E5.trans x6; have sa6 := sa5.ext x6; have s5b := s5.ext x6)
    | (go_at_call 14; (with_reducible refine (sameInts_any _ _ _ _ G1 G1 _ (by exact s610) (by exact s10)).mono ?_); rintro e w7 ⟨rfl, nq, rfl⟩; rw [decide_eq_true (rfl : G1 = G1)]; have sa11 := sa10.ext ((Ext.refl _).drewN nq); have s511 := s510.ext ((Ext.refl _).drewN nq); have E11 := E10.trans ((Ext.refl _).drewN nq))
    | (go_at_call 35; (with_reducible refine (hAp1 _ _ _ _ _ (by exact sa11) (by exact h.ext E11)).mono ?_); rintro e w8 ⟨rfl, x8⟩; have E8 := E11.trans x8; have s58 := s511.ext x8)
    | (go_at_call 32; refine ((hTk _ (by exact h.ext E8)).1).mono ?_; rintro e w11 ⟨Pc, cc, Qc, Cc, rfl, sc, x11⟩; have E11t := E8.trans x11)
    | (go_at_call 36; refine ((hTk _ (by exact h.ext E11t)).2).mono ?_; rintro e w12 ⟨Pd, cd, Qd, Cd, rfl, sd, x12⟩; have E12 := E11t.trans x12; have sc12 := sc.ext x12)
    | (go_at_call 12; (with_reducible refine (sameBlocks_any _ _ _ _ _ _ _ _ X2 X2 _ (by exact sc12) (by exact sd)).mono ?_); rintro e w13 ⟨rfl, x13⟩; rw [decide_eq_true (rfl : X2 = X2)]; have E13 := E12.trans x13; have sb13 := sc12.ext x13)
    | (go_at_call 37; refine ((hSh _ (by exact h.ext E13)).1).mono ?_; rintro e w22 ⟨Pe, ce, Qe, Ce, rfl, se, x22⟩; have E22 := E13.trans x22)
    | (go_at_call 38; refine ((hSh _ (by exact h.ext E22)).2).mono ?_; rintro e w23 ⟨Pf, cf, Qf, Cf, rfl, sf, x23⟩; have E23 := E22.trans x23; have se23 := se.ext x23)
    | (go_at_call 12; (with_reducible refine (sameBlocks_any _ _ _ _ _ _ _ _ X3 X3 _ (by exact se23) (by exact sf)).mono ?_); rintro e w24 ⟨rfl, x24⟩; rw [decide_eq_true (rfl : X3 = X3)]; have E24 := E23.trans x24)
    | (go_at_call 9; refine (awake_any _).mono ?_; rintro e w30 ⟨rfl, x30⟩))
  have i1 := s5b.takes i hi1
  obtain ⟨o5', hs5, i2⟩ := from_ex s5b i hi1
  replace i2 := i2 _ (Ext.refl _)
  have g3 : (i : Int) ≤ (c5 : Int) := by omega
  go_region_held3 (fun _ => True) (trivial)
      (first
        | (refine step_app_fresh w6 ?_ (.tmp 68) (.tmp 71) ?_ ?_ ?_ (F.take i) i b5 o5 c5 ?_ ?_ N1.out ?_ ?_ (i1.ext ?_) ?_ ?_ ?_
           · rfl
           · rfl
           · rfl
           rotate_left 1
           · rfl
           · rfl
           · (first | (refine alloc_at _ _ _ ?_; (simp; done)) | (refine ((Ext.refl _).alloc _).heap (alloc_at _ _ _ ?_); (simp; done)))
           · (simp; done)
           · (repeat (first | exact Ext.refl _ | assumption | refine Ext.drew ?_ | refine Ext.alloc ?_ _))
           · omega
           · (repeat (first | exact Ext.refl _ | assumption | refine Ext.drew ?_ | refine Ext.alloc ?_ _))
           intro v2 W2 ho2 hx2 hk2 hb2)
        | (refine step_app_ints w6 ?_ (.tmp 72) (.tmp 74) ?_ ?_ ?_ (F.take i) [key] 1 ?_ 0 1 ?_ ?_ rfl ?_ ?_ ?_ ?_ ?_
           · rfl
           · rfl
           · rfl
           rotate_left 2
           · rfl
           · rfl
           · first | exact ho2 | exact rowExt ho2 ((Ext.refl _).alloc _)
           · refine SlI.block1 ?_; first | (refine alloc_at _ _ _ ?_; (simp; done)) | (refine grown_heap hk2 ?_ ?_ <;> first | (first | (refine alloc_at _ _ _ ?_; (simp; done)) | (refine ((Ext.refl _).alloc _).heap (alloc_at _ _ _ ?_); (simp; done))) | (intro e; injection e; omega))
           · rw [N1.out]; omega
           · (repeat (first | exact Ext.refl _ | assumption | refine Ext.drew ?_ | refine Ext.alloc ?_ _))
           intro v3 W3 ho3 hx3 hk3 hb3
           clear hk2 hk3 hb2 hb3)
        | (refine step_app_ints w6 ?_ (.tmp 75) (.tmp 78) ?_ ?_ ?_ (F.take i ++ [key]) (F.drop i) (F.length - i) b5 o5' (c5 - i) ?_ ?_ N2.out ?_ (i2.ext ?_) ?_ ?_ ?_
           · rfl
           · rfl
           · rfl
           rotate_left 1
           · rfl
           · rfl
           · exact ho3
           · (repeat (first | exact Ext.refl _ | assumption | refine Ext.drew ?_ | refine Ext.alloc ?_ _))
           · rw [List.length_append, N1.out]; simp only [List.length_cons, List.length_nil]; omega
           · (repeat (first | exact Ext.refl _ | assumption | refine Ext.drew ?_ | refine Ext.alloc ?_ _))
           intro v4 W10 ho4 x10 hk4 hb4
           clear hk4 hb4)
        | fail)
  all_goals
    obtain ⟨P10, c10, rfl, s10⟩ := slI_of_row ho4
    rw [← HG1.out] at s10 ⊢
    have E10 := E6.trans x10
    have sa10 := sa6.ext x10
    have s610 := s6.ext x10
    have s510 := s5b.ext x10
    clear ho4
    go_wp2_with (first
      | (go_at_call 16; refine hL.mono ?_; rintro e w1 ⟨rfl, rfl⟩)
      | (go_at_call 33; refine ((hPut _ h).1).mono ?_; rintro e w2 ⟨Pa, ca, Qa, Ca, rfl, sa, E2'⟩)
      | (go_at_call 34; refine ((hPut _ (by exact h.ext E2')).2).mono ?_; rintro e w3 ⟨Pb, cb, Qb, Cb, rfl, sb, x3⟩; have E3' := E2'.trans x3; have sa3 := sa.ext x3)
      | (go_at_call 12; (with_reducible refine (sameBlocks_any _ _ _ _ _ _ _ _ X1 X1 _ (by exact sa3) (by exact sb)).mono ?_); rintro e w4 ⟨rfl, x4⟩; rw [decide_eq_true (rfl : X1 = X1)]; have E4 := E3'.trans x4; have sa4 := sa3.ext x4)
      | (go_at_call 20; refine (hKr _ (by exact h.ext E4)).mono ?_; rintro e w5 ⟨P5, c5, rfl, s5, x5⟩; have E5 := E4.trans x5; have sa5 := sa4.ext x5; obtain ⟨b5, o5, rfl⟩ := slI_some s5 hF; have l5 := s5.le; have m5 := s5.cap; have l5i : (i : Int) ≤ c5 := (by omega))
      | (go_at_call 13; (with_reducible refine (hK1 _ _ _ _ _ (by exact sa5)).mono ?_); rintro e w6 ⟨v6, rfl, ho6, x6⟩; obtain ⟨P6, c6, rfl, s6⟩ := slI_of_row ho6; have E6 := E5.trans x6; have sa6 := sa5.ext x6; have s5b := s5.ext x6)
      | (go_at_call 14; (with_reducible refine (sameInts_any _ _ _ _ G1 G1 _ (by exact s610) (by exact s10)).mono ?_); rintro e w7 ⟨rfl, nq, rfl⟩; rw [decide_eq_true (rfl : G1 = G1)]; have sa11 := sa10.ext ((Ext.refl _).drewN nq); have s511 := s510.ext ((Ext.refl _).drewN nq); have E11 := E10.trans ((Ext.refl _).drewN nq))
      | (go_at_call 35; (with_reducible refine (hAp1 _ _ _ _ _ (by exact sa11) (by exact h.ext E11)).mono ?_); rintro e w8 ⟨rfl, x8⟩; have E8 := E11.trans x8; have s58 := s511.ext x8)
      | (go_at_call 32; refine ((hTk _ (by exact h.ext E8)).1).mono ?_; rintro e w11 ⟨Pc, cc, Qc, Cc, rfl, sc, x11⟩; have E11t := E8.trans x11)
      | (go_at_call 36; refine ((hTk _ (by exact h.ext E11t)).2).mono ?_; rintro e w12 ⟨Pd, cd, Qd, Cd, rfl, sd, x12⟩; have E12 := E11t.trans x12; have sc12 := sc.ext x12)
      | (go_at_call 12; (with_reducible refine (sameBlocks_any _ _ _ _ _ _ _ _ X2 X2 _ (by exact sc12) (by exact sd)).mono ?_); rintro e w13 ⟨rfl, x13⟩; rw [decide_eq_true (rfl : X2 = X2)]; have E13 := E12.trans x13; have sb13 := sc12.ext x13)
      | (go_at_call 37; refine ((hSh _ (by exact h.ext E13)).1).mono ?_; rintro e w22 ⟨Pe, ce, Qe, Ce, rfl, se, x22⟩; have E22 := E13.trans x22)
      | (go_at_call 38; refine ((hSh _ (by exact h.ext E22)).2).mono ?_; rintro e w23 ⟨Pf, cf, Qf, Cf, rfl, sf, x23⟩; have E23 := E22.trans x23; have se23 := se.ext x23)
      | (go_at_call 12; (with_reducible refine (sameBlocks_any _ _ _ _ _ _ _ _ X3 X3 _ (by exact se23) (by exact sf)).mono ?_); rintro e w24 ⟨rfl, x24⟩; rw [decide_eq_true (rfl : X3 = X3)]; have E24 := E23.trans x24)
      | (go_at_call 9; refine (awake_any _).mono ?_; rintro e w30 ⟨rfl, x30⟩))
    go_ret
    exact ⟨rfl, E24.trans x30⟩
set_option maxHeartbeats 8000000 in
theorem changes_put0 (b : Int) (P : Option Addr) (cap : Nat) (Q : Nat → Option Addr) (C : Nat → Nat) (LL : List (List Int)) (index too key : Int) (w : World) (h : SlA w P cap Q C LL) (X1 X2 X3 : List (List Int)) (k1 e0 e1 e2 : Int) (hL : Calls Try.prog 16 #[.slice P LL.length cap] w fun e w' => e = .returned (.bool true) ∧ w = w') (hPut : ∀ W, SlA W P cap Q C LL → Calls Try.prog 33 #[.int .i64 b, .slice P LL.length cap, .int .i64 index, .int .i64 key] W (PPost X1 e0 W) ∧ Calls Try.prog 34 #[.int .i64 b, .slice P LL.length cap, .int .i64 index, .int .i64 key] W (PPost X1 e0 W)) (hTk : ∀ W, SlA W P cap Q C LL → Calls Try.prog 32 #[.int .i64 b, .slice P LL.length cap, .int .i64 index] W (TPost X2 k1 e1 W) ∧ Calls Try.prog 36 #[.int .i64 b, .slice P LL.length cap, .int .i64 index] W (TPost X2 k1 e1 W)) (hSh : ∀ W, SlA W P cap Q C LL → Calls Try.prog 37 #[.int .i64 b, .slice P LL.length cap, .int .i64 index, .int .i64 too] W (PPost X3 e2 W) ∧ Calls Try.prog 38 #[.int .i64 b, .slice P LL.length cap, .int .i64 index, .int .i64 too] W (PPost X3 e2 W)) (hp : e0 = 0) (ht : e1 ≠ 0) (i : Nat) (hi : index = i) (hi0 : i = 0) (hKr : ∀ W, SlA W P cap Q C LL → Calls Try.prog 20 #[.int .i64 b, .slice P LL.length cap] W fun e w' => e = .returned (.tuple #[.slice none 0 0, .int .i64 0]) ∧ Ext W w') (G1 : List Int) (hK1 : ∀ P c Q C W, SlA W P c Q C X1 → Calls Try.prog 13 #[.int .i64 b, .slice P X1.length c] W fun e w' => ∃ v, e = .returned (.tuple #[v, .int .i64 0]) ∧ w'.ownsRow W.heap.size 3 1 v G1.length (intVs G1) ∧ Ext W w') (n1 : Nat) (hn1 : n1 ≤ 2) (hAp1 : ∀ P1 c1 Q1 C1 W, SlA W P1 c1 Q1 C1 X1 → SlA W P cap Q C LL → Calls Try.prog 35 #[.slice P1 X1.length c1, .slice P LL.length cap] W fun e w' => e = .returned (.int .i64 n1) ∧ Ext W w') (HG1 : Hid (G1 = [key])) :
    Calls Try.prog 8 #[.int .i64 b, .slice P LL.length cap, .int .i64 index, .int .i64 too, .int .i64 key] w fun e w' => e = .returned (.bool true) ∧ Ext w w' := by
  have hlen := h.len
  unfold PPost at hPut hSh
  unfold TPost at hTk
  have m0 : (e0 != e0) = false := by simp
  have m1 : (e1 != e1) = false := by simp
  have mk : (k1 != k1) = false := by simp
  have m2 : (e2 == e2) = true := by simp
  have z1 : (e1 == 0) = false := by simpa using ht
  subst hi
  subst hp
  subst hi0
  have a1 : decide ((2 : Int) < (n1 : Int)) = false := by simp; omega
  clear ht hn1
  go_enter Try.func8, Try.ntmps8
  go_wp2_with (first
    | (go_at_call 16; refine hL.mono ?_; rintro e w1 ⟨rfl, rfl⟩)
    | (go_at_call 33; refine ((hPut _ h).1).mono ?_; rintro e w2 ⟨Pa, ca, Qa, Ca, rfl, sa, E2'⟩)
    | (go_at_call 34; refine ((hPut _ (by exact h.ext E2')).2).mono ?_; rintro e w3 ⟨Pb, cb, Qb, Cb, rfl, sb, x3⟩; have E3' := E2'.trans x3; have sa3 := sa.ext x3)
    | (go_at_call 12; (with_reducible refine (sameBlocks_any _ _ _ _ _ _ _ _ X1 X1 _ (by exact sa3) (by exact sb)).mono ?_); rintro e w4 ⟨rfl, x4⟩; rw [decide_eq_true (rfl : X1 = X1)]; have E4 := E3'.trans x4; have sa4 := sa3.ext x4)
    | (go_at_call 20; refine (hKr _ (by exact h.ext E4)).mono ?_; rintro e w5 ⟨rfl, x5⟩; have E5 := E4.trans x5; have sa5 := sa4.ext x5)
    | (go_at_call 13; (with_reducible refine (hK1 _ _ _ _ _ (by exact sa5)).mono ?_); rintro e w6 ⟨v6, rfl, ho6, x6⟩; obtain ⟨P6, c6, rfl, s6⟩ := slI_of_row ho6; have E6 := E5.trans x6; have sa6 := sa5.ext x6)
    | (go_at_call 14; (with_reducible refine (sameInts_any _ _ _ _ G1 G1 _ (by exact s610) (by exact s10)).mono ?_); rintro e w7 ⟨rfl, nq, rfl⟩; rw [decide_eq_true (rfl : G1 = G1)]; have sa11 := sa10.ext ((Ext.refl _).drewN nq); have E11 := E10.trans ((Ext.refl _).drewN nq))
    | (go_at_call 35; (with_reducible refine (hAp1 _ _ _ _ _ (by exact sa11) (by exact h.ext E11)).mono ?_); rintro e w8 ⟨rfl, x8⟩; have E8 := E11.trans x8)
    | (go_at_call 32; refine ((hTk _ (by exact h.ext E8)).1).mono ?_; rintro e w11 ⟨Pc, cc, Qc, Cc, rfl, sc, x11⟩; have E11t := E8.trans x11)
    | (go_at_call 36; refine ((hTk _ (by exact h.ext E11t)).2).mono ?_; rintro e w12 ⟨Pd, cd, Qd, Cd, rfl, sd, x12⟩; have E12 := E11t.trans x12; have sc12 := sc.ext x12)
    | (go_at_call 12; (with_reducible refine (sameBlocks_any _ _ _ _ _ _ _ _ X2 X2 _ (by exact sc12) (by exact sd)).mono ?_); rintro e w13 ⟨rfl, x13⟩; rw [decide_eq_true (rfl : X2 = X2)]; have E13 := E12.trans x13; have sb13 := sc12.ext x13)
    | (go_at_call 37; refine ((hSh _ (by exact h.ext E13)).1).mono ?_; rintro e w22 ⟨Pe, ce, Qe, Ce, rfl, se, x22⟩; have E22 := E13.trans x22)
    | (go_at_call 38; refine ((hSh _ (by exact h.ext E22)).2).mono ?_; rintro e w23 ⟨Pf, cf, Qf, Cf, rfl, sf, x23⟩; have E23 := E22.trans x23; have se23 := se.ext x23)
    | (go_at_call 12; (with_reducible refine (sameBlocks_any _ _ _ _ _ _ _ _ X3 X3 _ (by exact se23) (by exact sf)).mono ?_); rintro e w24 ⟨rfl, x24⟩; rw [decide_eq_true (rfl : X3 = X3)]; have E24 := E23.trans x24)
    | (go_at_call 9; refine (awake_any _).mono ?_; rintro e w30 ⟨rfl, x30⟩))
  go_region_held3 (fun _ => True) (trivial)
      (first
        | (refine step_app_run ?_ (.tmp 68) (.tmp 71) 22 ?_ ?_ ?_ ?_ (run_app_nil _ w6.heap.size _ _ _ Try.underlying22 sizeI _ _ _ (own0 (E := ?_) ?_ ?_)) ?_
           · rfl
           · rfl
           · rfl
           rotate_left 1
           · rfl
           · rfl
           · (first | (refine alloc_at _ _ _ ?_; (simp; done)) | (refine ((Ext.refl _).alloc _).heap (alloc_at _ _ _ ?_); (simp; done)))
           · (simp; done)
           skip)
        | (refine step_app_ints w6 ?_ (.tmp 72) (.tmp 74) ?_ ?_ ?_ [] [key] 1 ?_ 0 1 ?_ ?_ rfl ?_ ?_ ?_ ?_ ?_
           · rfl
           · rfl
           · rfl
           rotate_left 2
           · rfl
           · rfl
           · refine own0 ?_ ?_ <;> first | (first | (refine alloc_at _ _ _ ?_; (simp; done)) | (refine ((Ext.refl _).alloc _).heap (alloc_at _ _ _ ?_); (simp; done))) | (simp; done)
           · refine SlI.block1 ?_; (first | (refine alloc_at _ _ _ ?_; (simp; done)) | (refine ((Ext.refl _).alloc _).heap (alloc_at _ _ _ ?_); (simp; done)))
           · simp only [List.length_nil]; omega
           · (repeat (first | exact Ext.refl _ | assumption | refine Ext.drew ?_ | refine Ext.alloc ?_ _))
           intro v3 W10 ho4 x10 hk3 hb3
           clear hk3 hb3)
        | (refine step_app_run ?_ (.tmp 75) (.tmp 78) 22 ?_ ?_ ?_ ?_ (run_app_nil _ w6.heap.size _ _ _ Try.underlying22 sizeI _ _ _ ho4) ?_
           · rfl
           · rfl
           · rfl
           · rfl
           · rfl
           skip)
        | fail)
  all_goals
    obtain ⟨P10, c10, rfl, s10⟩ := slI_of_row ho4
    rw [List.nil_append, ← HG1.out] at s10 ⊢
    have E10 := E6.trans x10
    have sa10 := sa6.ext x10
    have s610 := s6.ext x10
    clear ho4
    go_wp2_with (first
      | (go_at_call 16; refine hL.mono ?_; rintro e w1 ⟨rfl, rfl⟩)
      | (go_at_call 33; refine ((hPut _ h).1).mono ?_; rintro e w2 ⟨Pa, ca, Qa, Ca, rfl, sa, E2'⟩)
      | (go_at_call 34; refine ((hPut _ (by exact h.ext E2')).2).mono ?_; rintro e w3 ⟨Pb, cb, Qb, Cb, rfl, sb, x3⟩; have E3' := E2'.trans x3; have sa3 := sa.ext x3)
      | (go_at_call 12; (with_reducible refine (sameBlocks_any _ _ _ _ _ _ _ _ X1 X1 _ (by exact sa3) (by exact sb)).mono ?_); rintro e w4 ⟨rfl, x4⟩; rw [decide_eq_true (rfl : X1 = X1)]; have E4 := E3'.trans x4; have sa4 := sa3.ext x4)
      | (go_at_call 20; refine (hKr _ (by exact h.ext E4)).mono ?_; rintro e w5 ⟨rfl, x5⟩; have E5 := E4.trans x5; have sa5 := sa4.ext x5)
      | (go_at_call 13; (with_reducible refine (hK1 _ _ _ _ _ (by exact sa5)).mono ?_); rintro e w6 ⟨v6, rfl, ho6, x6⟩; obtain ⟨P6, c6, rfl, s6⟩ := slI_of_row ho6; have E6 := E5.trans x6; have sa6 := sa5.ext x6)
      | (go_at_call 14; (with_reducible refine (sameInts_any _ _ _ _ G1 G1 _ (by exact s610) (by exact s10)).mono ?_); rintro e w7 ⟨rfl, nq, rfl⟩; rw [decide_eq_true (rfl : G1 = G1)]; have sa11 := sa10.ext ((Ext.refl _).drewN nq); have E11 := E10.trans ((Ext.refl _).drewN nq))
      | (go_at_call 35; (with_reducible refine (hAp1 _ _ _ _ _ (by exact sa11) (by exact h.ext E11)).mono ?_); rintro e w8 ⟨rfl, x8⟩; have E8 := E11.trans x8)
      | (go_at_call 32; refine ((hTk _ (by exact h.ext E8)).1).mono ?_; rintro e w11 ⟨Pc, cc, Qc, Cc, rfl, sc, x11⟩; have E11t := E8.trans x11)
      | (go_at_call 36; refine ((hTk _ (by exact h.ext E11t)).2).mono ?_; rintro e w12 ⟨Pd, cd, Qd, Cd, rfl, sd, x12⟩; have E12 := E11t.trans x12; have sc12 := sc.ext x12)
      | (go_at_call 12; (with_reducible refine (sameBlocks_any _ _ _ _ _ _ _ _ X2 X2 _ (by exact sc12) (by exact sd)).mono ?_); rintro e w13 ⟨rfl, x13⟩; rw [decide_eq_true (rfl : X2 = X2)]; have E13 := E12.trans x13; have sb13 := sc12.ext x13)
      | (go_at_call 37; refine ((hSh _ (by exact h.ext E13)).1).mono ?_; rintro e w22 ⟨Pe, ce, Qe, Ce, rfl, se, x22⟩; have E22 := E13.trans x22)
      | (go_at_call 38; refine ((hSh _ (by exact h.ext E22)).2).mono ?_; rintro e w23 ⟨Pf, cf, Qf, Cf, rfl, sf, x23⟩; have E23 := E22.trans x23; have se23 := se.ext x23)
      | (go_at_call 12; (with_reducible refine (sameBlocks_any _ _ _ _ _ _ _ _ X3 X3 _ (by exact se23) (by exact sf)).mono ?_); rintro e w24 ⟨rfl, x24⟩; rw [decide_eq_true (rfl : X3 = X3)]; have E24 := E23.trans x24)
      | (go_at_call 9; refine (awake_any _).mono ?_; rintro e w30 ⟨rfl, x30⟩))
    go_ret
    exact ⟨rfl, E24.trans x30⟩
set_option maxHeartbeats 8000000 in
theorem changes_take (b : Int) (P : Option Addr) (cap : Nat) (Q : Nat → Option Addr) (C : Nat → Nat) (LL : List (List Int)) (index too key : Int) (w : World) (h : SlA w P cap Q C LL) (X1 X2 X3 : List (List Int)) (k1 e0 e1 e2 : Int) (hL : Calls Try.prog 16 #[.slice P LL.length cap] w fun e w' => e = .returned (.bool true) ∧ w = w') (hPut : ∀ W, SlA W P cap Q C LL → Calls Try.prog 33 #[.int .i64 b, .slice P LL.length cap, .int .i64 index, .int .i64 key] W (PPost X1 e0 W) ∧ Calls Try.prog 34 #[.int .i64 b, .slice P LL.length cap, .int .i64 index, .int .i64 key] W (PPost X1 e0 W)) (hTk : ∀ W, SlA W P cap Q C LL → Calls Try.prog 32 #[.int .i64 b, .slice P LL.length cap, .int .i64 index] W (TPost X2 k1 e1 W) ∧ Calls Try.prog 36 #[.int .i64 b, .slice P LL.length cap, .int .i64 index] W (TPost X2 k1 e1 W)) (hSh : ∀ W, SlA W P cap Q C LL → Calls Try.prog 37 #[.int .i64 b, .slice P LL.length cap, .int .i64 index, .int .i64 too] W (PPost X3 e2 W) ∧ Calls Try.prog 38 #[.int .i64 b, .slice P LL.length cap, .int .i64 index, .int .i64 too] W (PPost X3 e2 W)) (hp : e0 ≠ 0) (ht : e1 = 0) (i : Nat) (hi : index = i) (F : List Int) (hFl : F.length ≤ 500) (hKr : ∀ W, SlA W P cap Q C LL → Calls Try.prog 20 #[.int .i64 b, .slice P LL.length cap] W (KyPost F W)) (G2 : List Int) (hK2 : ∀ P c Q C W, SlA W P c Q C X2 → Calls Try.prog 13 #[.int .i64 b, .slice P X2.length c] W fun e w' => ∃ v, e = .returned (.tuple #[v, .int .i64 0]) ∧ w'.ownsRow W.heap.size 3 1 v G2.length (intVs G2) ∧ Ext W w') (n2 : Nat) (hn2 : n2 ≤ 2) (hAp2 : ∀ P1 c1 Q1 C1 W, SlA W P1 c1 Q1 C1 X2 → SlA W P cap Q C LL → Calls Try.prog 35 #[.slice P1 X2.length c1, .slice P LL.length cap] W fun e w' => e = .returned (.int .i64 n2) ∧ Ext W w') (HG2 : Hid (G2 = F.take i ++ F.drop (i + 1))) (hi2 : i < F.length) (hkk : nthI F i = k1) :
    Calls Try.prog 8 #[.int .i64 b, .slice P LL.length cap, .int .i64 index, .int .i64 too, .int .i64 key] w fun e w' => e = .returned (.bool true) ∧ Ext w w' := by
  have hlen := h.len
  unfold PPost at hPut hSh
  unfold TPost at hTk
  have m0 : (e0 != e0) = false := by simp
  have m1 : (e1 != e1) = false := by simp
  have mk : (k1 != k1) = false := by simp
  have m2 : (e2 == e2) = true := by simp
  have z0 : (e0 == 0) = false := by simpa using hp
  unfold KyPost at hKr
  subst hi
  subst ht
  have N1 := Lib.hid (show (F.take i).length = i by rw [List.length_take]; omega)
  have N3 := Lib.hid (show (F.drop (i + 1)).length = F.length - (i + 1) from List.length_drop)
  have g2 : (i : Int) < F.length := by omega
  have g4 : (i : Int) ≤ F.length := by omega
  have g5 : (i : Int) + 1 ≤ F.length := by omega
  have hF : F ≠ [] := by intro e; rw [e] at hi2; simp at hi2
  have a2 : decide ((2 : Int) < (n2 : Int)) = false := by simp; omega
  clear hp hn2
  go_enter Try.func8, Try.ntmps8
  go_wp2_with (first
    | (go_at_call 16; refine hL.mono ?_; rintro e w1 ⟨rfl, rfl⟩)
    | (go_at_call 33; refine ((hPut _ h).1).mono ?_; rintro e w2 ⟨Pa, ca, Qa, Ca, rfl, sa, E2'⟩)
    | (go_at_call 34; refine ((hPut _ (by exact h.ext E2')).2).mono ?_; rintro e w3 ⟨Pb, cb, Qb, Cb, rfl, sb, x3⟩; have E3' := E2'.trans x3; have sa3 := sa.ext x3)
    | (go_at_call 12; (with_reducible refine (sameBlocks_any _ _ _ _ _ _ _ _ X1 X1 _ (by exact sa3) (by exact sb)).mono ?_); rintro e w4 ⟨rfl, x4⟩; rw [decide_eq_true (rfl : X1 = X1)]; have E4 := E3'.trans x4; have sa4 := sa3.ext x4)
    | (go_at_call 20; refine (hKr _ (by exact h.ext E4)).mono ?_; rintro e w5 ⟨P5, c5, rfl, s5, x5⟩; have E5 := E4.trans x5; have sa5 := sa4.ext x5; obtain ⟨b5, o5, rfl⟩ := slI_some s5 hF; have s58 := s5; have l5 := s5.le; have m5 := s5.cap; have l5i : (i : Int) ≤ c5 := (by omega))
    | (go_at_call 32; refine ((hTk _ (by exact h.ext E5)).1).mono ?_; rintro e w11 ⟨Pc, cc, Qc, Cc, rfl, sc, x11⟩; have s5t := s58.ext x11; have E11t := E5.trans x11)
    | (go_at_call 36; refine ((hTk _ (by exact h.ext E11t)).2).mono ?_; rintro e w12 ⟨Pd, cd, Qd, Cd, rfl, sd, x12⟩; have E12 := E11t.trans x12; have sc12 := sc.ext x12; have s512 := s5t.ext x12)
    | (go_at_call 12; (with_reducible refine (sameBlocks_any _ _ _ _ _ _ _ _ X2 X2 _ (by exact sc12) (by exact sd)).mono ?_); rintro e w13 ⟨rfl, x13⟩; rw [decide_eq_true (rfl : X2 = X2)]; have E13 := E12.trans x13; have sb13 := sc12.ext x13; have s513 := s512.ext x13)
    | (go_at_call 13; (with_reducible refine (hK2 _ _ _ _ _ (by exact sb13)).mono ?_); rintro e w14 ⟨v14, rfl, ho14, x14⟩; obtain ⟨P14, c14, rfl, s14⟩ := slI_of_row ho14; have E14 := E13.trans x14; have sb14 := sb13.ext x14; have s514 := s513.ext x14)
    | (go_at_call 14; (with_reducible refine (sameInts_any _ _ _ _ G2 G2 _ (by exact s1419) (by exact s19)).mono ?_); rintro e w20 ⟨rfl, nr, rfl⟩; rw [decide_eq_true (rfl : G2 = G2)]; have sb20 := sb19.ext ((Ext.refl _).drewN nr); have E20 := E19.trans ((Ext.refl _).drewN nr))
    | (go_at_call 35; (with_reducible refine (hAp2 _ _ _ _ _ (by exact sb20) (by exact h.ext E20)).mono ?_); rintro e w21 ⟨rfl, x21⟩; have E21 := E20.trans x21)
    | (go_at_call 37; refine ((hSh _ (by exact h.ext E21)).1).mono ?_; rintro e w22 ⟨Pe, ce, Qe, Ce, rfl, se, x22⟩; have E22 := E21.trans x22)
    | (go_at_call 38; refine ((hSh _ (by exact h.ext E22)).2).mono ?_; rintro e w23 ⟨Pf, cf, Qf, Cf, rfl, sf, x23⟩; have E23 := E22.trans x23; have se23 := se.ext x23)
    | (go_at_call 12; (with_reducible refine (sameBlocks_any _ _ _ _ _ _ _ _ X3 X3 _ (by exact se23) (by exact sf)).mono ?_); rintro e w24 ⟨rfl, x24⟩; rw [decide_eq_true (rfl : X3 = X3)]; have E24 := E23.trans x24)
    | (go_at_call 9; refine (awake_any _).mono ?_; rintro e w30 ⟨rfl, x30⟩))
  have j1 := s514.takes i (by omega)
  obtain ⟨o5'', hs6, i3⟩ := from_ex s514 (i + 1) hi2
  replace i3 := i3 _ (Ext.refl _)
  have ecast : ((i + 1 : Nat) : Int) = (i : Int) + 1 := by omega
  rw [ecast] at hs6
  have d3 : IntKind.i64.wrap ((i : Int) + 1) = (i : Int) + 1 := IntWalk.i64_in _ ⟨by omega, by omega⟩
  have g3 : (i : Int) ≤ (c5 : Int) := by omega
  go_region_held3 (fun _ => True) (trivial)
      (first
        | (refine step_app_fresh w14 ?_ (.tmp 132) (.tmp 135) ?_ ?_ ?_ (F.take i) i b5 o5 c5 ?_ ?_ N1.out ?_ ?_ (j1.ext ?_) ?_ ?_ ?_
           · rfl
           · rfl
           · rfl
           rotate_left 1
           · rfl
           · rfl
           · (first | (refine alloc_at _ _ _ ?_; (simp; done)) | (refine ((Ext.refl _).alloc _).heap (alloc_at _ _ _ ?_); (simp; done)))
           · (simp; done)
           · (repeat (first | exact Ext.refl _ | assumption | refine Ext.drew ?_ | refine Ext.alloc ?_ _))
           · omega
           · (repeat (first | exact Ext.refl _ | assumption | refine Ext.drew ?_ | refine Ext.alloc ?_ _))
           intro v2 W2 ho2 hx2 hk2 hb2)
        | (refine step_app_ints w14 ?_ (.tmp 136) (.tmp 140) ?_ ?_ ?_ (F.take i) (F.drop (i + 1)) (F.length - (i + 1)) b5 o5'' (c5 - (i + 1)) ?_ ?_ N3.out ?_ (i3.ext ?_) ?_ ?_ ?_
           · rfl
           · rfl
           · rfl
           rotate_left 1
           · rfl
           · rfl
           · exact ho2
           · (repeat (first | exact Ext.refl _ | assumption | refine Ext.drew ?_ | refine Ext.alloc ?_ _))
           · rw [N1.out]; omega
           · (repeat (first | exact Ext.refl _ | assumption | refine Ext.drew ?_ | refine Ext.alloc ?_ _))
           intro v4 W19 ho4 x19 hk4 hb4
           clear hk4 hb4 hk2 hb2)
        | fail)
  all_goals
    obtain ⟨P19, c19, rfl, s19⟩ := slI_of_row ho4
    rw [← HG2.out] at s19 ⊢
    have E19 := E14.trans x19
    have sb19 := sb14.ext x19
    have s1419 := s14.ext x19
    clear ho4 ho2
    obtain ⟨bq, oq, heq, kc⟩ := (s514.ext x19).at_ i hi2
    injection heq with heq
    injection heq with heq1 heq2
    subst heq1 heq2
    rw [hkk] at kc
    go_wp2_with (first
      | (go_at_call 16; refine hL.mono ?_; rintro e w1 ⟨rfl, rfl⟩)
      | (go_at_call 33; refine ((hPut _ h).1).mono ?_; rintro e w2 ⟨Pa, ca, Qa, Ca, rfl, sa, E2'⟩)
      | (go_at_call 34; refine ((hPut _ (by exact h.ext E2')).2).mono ?_; rintro e w3 ⟨Pb, cb, Qb, Cb, rfl, sb, x3⟩; have E3' := E2'.trans x3; have sa3 := sa.ext x3)
      | (go_at_call 12; (with_reducible refine (sameBlocks_any _ _ _ _ _ _ _ _ X1 X1 _ (by exact sa3) (by exact sb)).mono ?_); rintro e w4 ⟨rfl, x4⟩; rw [decide_eq_true (rfl : X1 = X1)]; have E4 := E3'.trans x4; have sa4 := sa3.ext x4)
      | (go_at_call 20; refine (hKr _ (by exact h.ext E4)).mono ?_; rintro e w5 ⟨P5, c5, rfl, s5, x5⟩; have E5 := E4.trans x5; have sa5 := sa4.ext x5; obtain ⟨b5, o5, rfl⟩ := slI_some s5 hF; have s58 := s5; have l5 := s5.le; have m5 := s5.cap; have l5i : (i : Int) ≤ c5 := (by omega))
      | (go_at_call 32; refine ((hTk _ (by exact h.ext E5)).1).mono ?_; rintro e w11 ⟨Pc, cc, Qc, Cc, rfl, sc, x11⟩; have s5t := s58.ext x11; have E11t := E5.trans x11)
      | (go_at_call 36; refine ((hTk _ (by exact h.ext E11t)).2).mono ?_; rintro e w12 ⟨Pd, cd, Qd, Cd, rfl, sd, x12⟩; have E12 := E11t.trans x12; have sc12 := sc.ext x12; have s512 := s5t.ext x12)
      | (go_at_call 12; (with_reducible refine (sameBlocks_any _ _ _ _ _ _ _ _ X2 X2 _ (by exact sc12) (by exact sd)).mono ?_); rintro e w13 ⟨rfl, x13⟩; rw [decide_eq_true (rfl : X2 = X2)]; have E13 := E12.trans x13; have sb13 := sc12.ext x13; have s513 := s512.ext x13)
      | (go_at_call 13; (with_reducible refine (hK2 _ _ _ _ _ (by exact sb13)).mono ?_); rintro e w14 ⟨v14, rfl, ho14, x14⟩; obtain ⟨P14, c14, rfl, s14⟩ := slI_of_row ho14; have E14 := E13.trans x14; have sb14 := sb13.ext x14; have s514 := s513.ext x14)
      | (go_at_call 14; (with_reducible refine (sameInts_any _ _ _ _ G2 G2 _ (by exact s1419) (by exact s19)).mono ?_); rintro e w20 ⟨rfl, nr, rfl⟩; rw [decide_eq_true (rfl : G2 = G2)]; have sb20 := sb19.ext ((Ext.refl _).drewN nr); have E20 := E19.trans ((Ext.refl _).drewN nr))
      | (go_at_call 35; (with_reducible refine (hAp2 _ _ _ _ _ (by exact sb20) (by exact h.ext E20)).mono ?_); rintro e w21 ⟨rfl, x21⟩; have E21 := E20.trans x21)
      | (go_at_call 37; refine ((hSh _ (by exact h.ext E21)).1).mono ?_; rintro e w22 ⟨Pe, ce, Qe, Ce, rfl, se, x22⟩; have E22 := E21.trans x22)
      | (go_at_call 38; refine ((hSh _ (by exact h.ext E22)).2).mono ?_; rintro e w23 ⟨Pf, cf, Qf, Cf, rfl, sf, x23⟩; have E23 := E22.trans x23; have se23 := se.ext x23)
      | (go_at_call 12; (with_reducible refine (sameBlocks_any _ _ _ _ _ _ _ _ X3 X3 _ (by exact se23) (by exact sf)).mono ?_); rintro e w24 ⟨rfl, x24⟩; rw [decide_eq_true (rfl : X3 = X3)]; have E24 := E23.trans x24)
      | (go_at_call 9; refine (awake_any _).mono ?_; rintro e w30 ⟨rfl, x30⟩))
    go_ret
    exact ⟨rfl, E24.trans x30⟩
set_option maxHeartbeats 8000000 in
theorem changes_both (b : Int) (P : Option Addr) (cap : Nat) (Q : Nat → Option Addr) (C : Nat → Nat) (LL : List (List Int)) (index too key : Int) (w : World) (h : SlA w P cap Q C LL) (X1 X2 X3 : List (List Int)) (k1 e0 e1 e2 : Int) (hL : Calls Try.prog 16 #[.slice P LL.length cap] w fun e w' => e = .returned (.bool true) ∧ w = w') (hPut : ∀ W, SlA W P cap Q C LL → Calls Try.prog 33 #[.int .i64 b, .slice P LL.length cap, .int .i64 index, .int .i64 key] W (PPost X1 e0 W) ∧ Calls Try.prog 34 #[.int .i64 b, .slice P LL.length cap, .int .i64 index, .int .i64 key] W (PPost X1 e0 W)) (hTk : ∀ W, SlA W P cap Q C LL → Calls Try.prog 32 #[.int .i64 b, .slice P LL.length cap, .int .i64 index] W (TPost X2 k1 e1 W) ∧ Calls Try.prog 36 #[.int .i64 b, .slice P LL.length cap, .int .i64 index] W (TPost X2 k1 e1 W)) (hSh : ∀ W, SlA W P cap Q C LL → Calls Try.prog 37 #[.int .i64 b, .slice P LL.length cap, .int .i64 index, .int .i64 too] W (PPost X3 e2 W) ∧ Calls Try.prog 38 #[.int .i64 b, .slice P LL.length cap, .int .i64 index, .int .i64 too] W (PPost X3 e2 W)) (hp : e0 = 0) (ht : e1 = 0) (i : Nat) (hi : index = i) (F : List Int) (hFl : F.length ≤ 500) (hKr : ∀ W, SlA W P cap Q C LL → Calls Try.prog 20 #[.int .i64 b, .slice P LL.length cap] W (KyPost F W)) (G1 : List Int) (hK1 : ∀ P c Q C W, SlA W P c Q C X1 → Calls Try.prog 13 #[.int .i64 b, .slice P X1.length c] W fun e w' => ∃ v, e = .returned (.tuple #[v, .int .i64 0]) ∧ w'.ownsRow W.heap.size 3 1 v G1.length (intVs G1) ∧ Ext W w') (n1 : Nat) (hn1 : n1 ≤ 2) (hAp1 : ∀ P1 c1 Q1 C1 W, SlA W P1 c1 Q1 C1 X1 → SlA W P cap Q C LL → Calls Try.prog 35 #[.slice P1 X1.length c1, .slice P LL.length cap] W fun e w' => e = .returned (.int .i64 n1) ∧ Ext W w') (G2 : List Int) (hK2 : ∀ P c Q C W, SlA W P c Q C X2 → Calls Try.prog 13 #[.int .i64 b, .slice P X2.length c] W fun e w' => ∃ v, e = .returned (.tuple #[v, .int .i64 0]) ∧ w'.ownsRow W.heap.size 3 1 v G2.length (intVs G2) ∧ Ext W w') (n2 : Nat) (hn2 : n2 ≤ 2) (hAp2 : ∀ P1 c1 Q1 C1 W, SlA W P1 c1 Q1 C1 X2 → SlA W P cap Q C LL → Calls Try.prog 35 #[.slice P1 X2.length c1, .slice P LL.length cap] W fun e w' => e = .returned (.int .i64 n2) ∧ Ext W w') (HG1 : Hid (G1 = F.take i ++ [key] ++ F.drop i)) (HG2 : Hid (G2 = F.take i ++ F.drop (i + 1))) (hi2 : i < F.length) (hkk : nthI F i = k1) :
    Calls Try.prog 8 #[.int .i64 b, .slice P LL.length cap, .int .i64 index, .int .i64 too, .int .i64 key] w fun e w' => e = .returned (.bool true) ∧ Ext w w' := by
  have hlen := h.len
  unfold PPost at hPut hSh
  unfold TPost at hTk
  have m0 : (e0 != e0) = false := by simp
  have m1 : (e1 != e1) = false := by simp
  have mk : (k1 != k1) = false := by simp
  have m2 : (e2 == e2) = true := by simp
  unfold KyPost at hKr
  subst hi
  subst hp
  subst ht
  have hi1 : i ≤ F.length := by omega
  have N1 := Lib.hid (show (F.take i).length = i by rw [List.length_take]; omega)
  have N3 := Lib.hid (show (F.drop (i + 1)).length = F.length - (i + 1) from List.length_drop)
  have g2 : (i : Int) < F.length := by omega
  have g4 : (i : Int) ≤ F.length := by omega
  have g5 : (i : Int) + 1 ≤ F.length := by omega
  have hF : F ≠ [] := by intro e; rw [e] at hi2; simp at hi2
  have N2 := Lib.hid (show (F.drop i).length = F.length - i from List.length_drop)
  have a1 : decide ((2 : Int) < (n1 : Int)) = false := by simp; omega
  have a2 : decide ((2 : Int) < (n2 : Int)) = false := by simp; omega
  clear hn1 hn2
  go_enter Try.func8, Try.ntmps8
  go_wp2_with (first
    | (go_at_call 16; refine hL.mono ?_; rintro e w1 ⟨rfl, rfl⟩)
    | (go_at_call 33; refine ((hPut _ h).1).mono ?_; rintro e w2 ⟨Pa, ca, Qa, Ca, rfl, sa, E2'⟩)
    | (go_at_call 34; refine ((hPut _ (by exact h.ext E2')).2).mono ?_; rintro e w3 ⟨Pb, cb, Qb, Cb, rfl, sb, x3⟩; have E3' := E2'.trans x3; have sa3 := sa.ext x3)
    | (go_at_call 12; (with_reducible refine (sameBlocks_any _ _ _ _ _ _ _ _ X1 X1 _ (by exact sa3) (by exact sb)).mono ?_); rintro e w4 ⟨rfl, x4⟩; rw [decide_eq_true (rfl : X1 = X1)]; have E4 := E3'.trans x4; have sa4 := sa3.ext x4)
    | (go_at_call 20; refine (hKr _ (by exact h.ext E4)).mono ?_; rintro e w5 ⟨P5, c5, rfl, s5, x5⟩; have E5 := E4.trans x5; have sa5 := sa4.ext x5; obtain ⟨b5, o5, rfl⟩ := slI_some s5 hF; have l5 := s5.le; have m5 := s5.cap; have l5i : (i : Int) ≤ c5 := (by omega))
    | (go_at_call 13; (with_reducible refine (hK1 _ _ _ _ _ (by exact sa5)).mono ?_); rintro e w6 ⟨v6, rfl, ho6, x6⟩; obtain ⟨P6, c6, rfl, s6⟩ := slI_of_row ho6; have E6 := E5.trans x6; have sa6 := sa5.ext x6; have s5b := s5.ext x6)
    | (go_at_call 14; (with_reducible refine (sameInts_any _ _ _ _ G1 G1 _ (by exact s610) (by exact s10)).mono ?_); rintro e w7 ⟨rfl, nq, rfl⟩; rw [decide_eq_true (rfl : G1 = G1)]; have sa11 := sa10.ext ((Ext.refl _).drewN nq); have s511 := s510.ext ((Ext.refl _).drewN nq); have E11 := E10.trans ((Ext.refl _).drewN nq))
    | (go_at_call 35; (with_reducible refine (hAp1 _ _ _ _ _ (by exact sa11) (by exact h.ext E11)).mono ?_); rintro e w8 ⟨rfl, x8⟩; have E8 := E11.trans x8; have s58 := s511.ext x8)
    | (go_at_call 32; refine ((hTk _ (by exact h.ext E8)).1).mono ?_; rintro e w11 ⟨Pc, cc, Qc, Cc, rfl, sc, x11⟩; have s5t := s58.ext x11; have E11t := E8.trans x11)
    | (go_at_call 36; refine ((hTk _ (by exact h.ext E11t)).2).mono ?_; rintro e w12 ⟨Pd, cd, Qd, Cd, rfl, sd, x12⟩; have E12 := E11t.trans x12; have sc12 := sc.ext x12; have s512 := s5t.ext x12)
    | (go_at_call 12; (with_reducible refine (sameBlocks_any _ _ _ _ _ _ _ _ X2 X2 _ (by exact sc12) (by exact sd)).mono ?_); rintro e w13 ⟨rfl, x13⟩; rw [decide_eq_true (rfl : X2 = X2)]; have E13 := E12.trans x13; have sb13 := sc12.ext x13; have s513 := s512.ext x13)
    | (go_at_call 13; (with_reducible refine (hK2 _ _ _ _ _ (by exact sb13)).mono ?_); rintro e w14 ⟨v14, rfl, ho14, x14⟩; obtain ⟨P14, c14, rfl, s14⟩ := slI_of_row ho14; have E14 := E13.trans x14; have sb14 := sb13.ext x14; have s514 := s513.ext x14)
    | (go_at_call 14; (with_reducible refine (sameInts_any _ _ _ _ G2 G2 _ (by exact s1419) (by exact s19)).mono ?_); rintro e w20 ⟨rfl, nr, rfl⟩; rw [decide_eq_true (rfl : G2 = G2)]; have sb20 := sb19.ext ((Ext.refl _).drewN nr); have E20 := E19.trans ((Ext.refl _).drewN nr))
    | (go_at_call 35; (with_reducible refine (hAp2 _ _ _ _ _ (by exact sb20) (by exact h.ext E20)).mono ?_); rintro e w21 ⟨rfl, x21⟩; have E21 := E20.trans x21)
    | (go_at_call 37; refine ((hSh _ (by exact h.ext E21)).1).mono ?_; rintro e w22 ⟨Pe, ce, Qe, Ce, rfl, se, x22⟩; have E22 := E21.trans x22)
    | (go_at_call 38; refine ((hSh _ (by exact h.ext E22)).2).mono ?_; rintro e w23 ⟨Pf, cf, Qf, Cf, rfl, sf, x23⟩; have E23 := E22.trans x23; have se23 := se.ext x23)
    | (go_at_call 12; (with_reducible refine (sameBlocks_any _ _ _ _ _ _ _ _ X3 X3 _ (by exact se23) (by exact sf)).mono ?_); rintro e w24 ⟨rfl, x24⟩; rw [decide_eq_true (rfl : X3 = X3)]; have E24 := E23.trans x24)
    | (go_at_call 9; refine (awake_any _).mono ?_; rintro e w30 ⟨rfl, x30⟩))
  have i1 := s5b.takes i hi1
  obtain ⟨o5', hs5, i2⟩ := from_ex s5b i hi1
  replace i2 := i2 _ (Ext.refl _)
  have g3 : (i : Int) ≤ (c5 : Int) := by omega
  go_region_held3 (fun _ => True) (trivial)
      (first
        | (refine step_app_fresh w6 ?_ (.tmp 68) (.tmp 71) ?_ ?_ ?_ (F.take i) i b5 o5 c5 ?_ ?_ N1.out ?_ ?_ (i1.ext ?_) ?_ ?_ ?_
           · rfl
           · rfl
           · rfl
           rotate_left 1
           · rfl
           · rfl
           · (first | (refine alloc_at _ _ _ ?_; (simp; done)) | (refine ((Ext.refl _).alloc _).heap (alloc_at _ _ _ ?_); (simp; done)))
           · (simp; done)
           · (repeat (first | exact Ext.refl _ | assumption | refine Ext.drew ?_ | refine Ext.alloc ?_ _))
           · omega
           · (repeat (first | exact Ext.refl _ | assumption | refine Ext.drew ?_ | refine Ext.alloc ?_ _))
           intro v2 W2 ho2 hx2 hk2 hb2)
        | (refine step_app_ints w6 ?_ (.tmp 72) (.tmp 74) ?_ ?_ ?_ (F.take i) [key] 1 ?_ 0 1 ?_ ?_ rfl ?_ ?_ ?_ ?_ ?_
           · rfl
           · rfl
           · rfl
           rotate_left 2
           · rfl
           · rfl
           · first | exact ho2 | exact rowExt ho2 ((Ext.refl _).alloc _)
           · refine SlI.block1 ?_; first | (refine alloc_at _ _ _ ?_; (simp; done)) | (refine grown_heap hk2 ?_ ?_ <;> first | (first | (refine alloc_at _ _ _ ?_; (simp; done)) | (refine ((Ext.refl _).alloc _).heap (alloc_at _ _ _ ?_); (simp; done))) | (intro e; injection e; omega))
           · rw [N1.out]; omega
           · (repeat (first | exact Ext.refl _ | assumption | refine Ext.drew ?_ | refine Ext.alloc ?_ _))
           intro v3 W3 ho3 hx3 hk3 hb3
           clear hk2 hk3 hb2 hb3)
        | (refine step_app_ints w6 ?_ (.tmp 75) (.tmp 78) ?_ ?_ ?_ (F.take i ++ [key]) (F.drop i) (F.length - i) b5 o5' (c5 - i) ?_ ?_ N2.out ?_ (i2.ext ?_) ?_ ?_ ?_
           · rfl
           · rfl
           · rfl
           rotate_left 1
           · rfl
           · rfl
           · exact ho3
           · (repeat (first | exact Ext.refl _ | assumption | refine Ext.drew ?_ | refine Ext.alloc ?_ _))
           · rw [List.length_append, N1.out]; simp only [List.length_cons, List.length_nil]; omega
           · (repeat (first | exact Ext.refl _ | assumption | refine Ext.drew ?_ | refine Ext.alloc ?_ _))
           intro v4 W10 ho4 x10 hk4 hb4
           clear hk4 hb4)
        | fail)
  all_goals
    obtain ⟨P10, c10, rfl, s10⟩ := slI_of_row ho4
    rw [← HG1.out] at s10 ⊢
    have E10 := E6.trans x10
    have sa10 := sa6.ext x10
    have s610 := s6.ext x10
    have s510 := s5b.ext x10
    clear ho4
    go_wp2_with (first
      | (go_at_call 16; refine hL.mono ?_; rintro e w1 ⟨rfl, rfl⟩)
      | (go_at_call 33; refine ((hPut _ h).1).mono ?_; rintro e w2 ⟨Pa, ca, Qa, Ca, rfl, sa, E2'⟩)
      | (go_at_call 34; refine ((hPut _ (by exact h.ext E2')).2).mono ?_; rintro e w3 ⟨Pb, cb, Qb, Cb, rfl, sb, x3⟩; have E3' := E2'.trans x3; have sa3 := sa.ext x3)
      | (go_at_call 12; (with_reducible refine (sameBlocks_any _ _ _ _ _ _ _ _ X1 X1 _ (by exact sa3) (by exact sb)).mono ?_); rintro e w4 ⟨rfl, x4⟩; rw [decide_eq_true (rfl : X1 = X1)]; have E4 := E3'.trans x4; have sa4 := sa3.ext x4)
      | (go_at_call 20; refine (hKr _ (by exact h.ext E4)).mono ?_; rintro e w5 ⟨P5, c5, rfl, s5, x5⟩; have E5 := E4.trans x5; have sa5 := sa4.ext x5; obtain ⟨b5, o5, rfl⟩ := slI_some s5 hF; have l5 := s5.le; have m5 := s5.cap; have l5i : (i : Int) ≤ c5 := (by omega))
      | (go_at_call 13; (with_reducible refine (hK1 _ _ _ _ _ (by exact sa5)).mono ?_); rintro e w6 ⟨v6, rfl, ho6, x6⟩; obtain ⟨P6, c6, rfl, s6⟩ := slI_of_row ho6; have E6 := E5.trans x6; have sa6 := sa5.ext x6; have s5b := s5.ext x6)
      | (go_at_call 14; (with_reducible refine (sameInts_any _ _ _ _ G1 G1 _ (by exact s610) (by exact s10)).mono ?_); rintro e w7 ⟨rfl, nq, rfl⟩; rw [decide_eq_true (rfl : G1 = G1)]; have sa11 := sa10.ext ((Ext.refl _).drewN nq); have s511 := s510.ext ((Ext.refl _).drewN nq); have E11 := E10.trans ((Ext.refl _).drewN nq))
      | (go_at_call 35; (with_reducible refine (hAp1 _ _ _ _ _ (by exact sa11) (by exact h.ext E11)).mono ?_); rintro e w8 ⟨rfl, x8⟩; have E8 := E11.trans x8; have s58 := s511.ext x8)
      | (go_at_call 32; refine ((hTk _ (by exact h.ext E8)).1).mono ?_; rintro e w11 ⟨Pc, cc, Qc, Cc, rfl, sc, x11⟩; have s5t := s58.ext x11; have E11t := E8.trans x11)
      | (go_at_call 36; refine ((hTk _ (by exact h.ext E11t)).2).mono ?_; rintro e w12 ⟨Pd, cd, Qd, Cd, rfl, sd, x12⟩; have E12 := E11t.trans x12; have sc12 := sc.ext x12; have s512 := s5t.ext x12)
      | (go_at_call 12; (with_reducible refine (sameBlocks_any _ _ _ _ _ _ _ _ X2 X2 _ (by exact sc12) (by exact sd)).mono ?_); rintro e w13 ⟨rfl, x13⟩; rw [decide_eq_true (rfl : X2 = X2)]; have E13 := E12.trans x13; have sb13 := sc12.ext x13; have s513 := s512.ext x13)
      | (go_at_call 13; (with_reducible refine (hK2 _ _ _ _ _ (by exact sb13)).mono ?_); rintro e w14 ⟨v14, rfl, ho14, x14⟩; obtain ⟨P14, c14, rfl, s14⟩ := slI_of_row ho14; have E14 := E13.trans x14; have sb14 := sb13.ext x14; have s514 := s513.ext x14)
      | (go_at_call 14; (with_reducible refine (sameInts_any _ _ _ _ G2 G2 _ (by exact s1419) (by exact s19)).mono ?_); rintro e w20 ⟨rfl, nr, rfl⟩; rw [decide_eq_true (rfl : G2 = G2)]; have sb20 := sb19.ext ((Ext.refl _).drewN nr); have E20 := E19.trans ((Ext.refl _).drewN nr))
      | (go_at_call 35; (with_reducible refine (hAp2 _ _ _ _ _ (by exact sb20) (by exact h.ext E20)).mono ?_); rintro e w21 ⟨rfl, x21⟩; have E21 := E20.trans x21)
      | (go_at_call 37; refine ((hSh _ (by exact h.ext E21)).1).mono ?_; rintro e w22 ⟨Pe, ce, Qe, Ce, rfl, se, x22⟩; have E22 := E21.trans x22)
      | (go_at_call 38; refine ((hSh _ (by exact h.ext E22)).2).mono ?_; rintro e w23 ⟨Pf, cf, Qf, Cf, rfl, sf, x23⟩; have E23 := E22.trans x23; have se23 := se.ext x23)
      | (go_at_call 12; (with_reducible refine (sameBlocks_any _ _ _ _ _ _ _ _ X3 X3 _ (by exact se23) (by exact sf)).mono ?_); rintro e w24 ⟨rfl, x24⟩; rw [decide_eq_true (rfl : X3 = X3)]; have E24 := E23.trans x24)
      | (go_at_call 9; refine (awake_any _).mono ?_; rintro e w30 ⟨rfl, x30⟩))
    have j1 := s514.takes i (by omega)
    obtain ⟨o5'', hs6, i3⟩ := from_ex s514 (i + 1) hi2
    replace i3 := i3 _ (Ext.refl _)
    have ecast : ((i + 1 : Nat) : Int) = (i : Int) + 1 := by omega
    rw [ecast] at hs6
    have d3 : IntKind.i64.wrap ((i : Int) + 1) = (i : Int) + 1 := IntWalk.i64_in _ ⟨by omega, by omega⟩
    go_region_held3 (fun _ => True) (trivial)
        (first
          | (refine step_app_fresh w14 ?_ (.tmp 132) (.tmp 135) ?_ ?_ ?_ (F.take i) i b5 o5 c5 ?_ ?_ N1.out ?_ ?_ (j1.ext ?_) ?_ ?_ ?_
             · rfl
             · rfl
             · rfl
             rotate_left 1
             · rfl
             · rfl
             · (first | (refine alloc_at _ _ _ ?_; (simp; done)) | (refine ((Ext.refl _).alloc _).heap (alloc_at _ _ _ ?_); (simp; done)))
             · (simp; done)
             · (repeat (first | exact Ext.refl _ | assumption | refine Ext.drew ?_ | refine Ext.alloc ?_ _))
             · omega
             · (repeat (first | exact Ext.refl _ | assumption | refine Ext.drew ?_ | refine Ext.alloc ?_ _))
             intro v2 W2 ho2 hx2 hk2 hb2)
          | (refine step_app_ints w14 ?_ (.tmp 136) (.tmp 140) ?_ ?_ ?_ (F.take i) (F.drop (i + 1)) (F.length - (i + 1)) b5 o5'' (c5 - (i + 1)) ?_ ?_ N3.out ?_ (i3.ext ?_) ?_ ?_ ?_
             · rfl
             · rfl
             · rfl
             rotate_left 1
             · rfl
             · rfl
             · exact ho2
             · (repeat (first | exact Ext.refl _ | assumption | refine Ext.drew ?_ | refine Ext.alloc ?_ _))
             · rw [N1.out]; omega
             · (repeat (first | exact Ext.refl _ | assumption | refine Ext.drew ?_ | refine Ext.alloc ?_ _))
             intro v4 W19 ho4 x19 hk4 hb4
             clear hk4 hb4 hk2 hb2)
          | fail)
    all_goals
      obtain ⟨P19, c19, rfl, s19⟩ := slI_of_row ho4
      rw [← HG2.out] at s19 ⊢
      have E19 := E14.trans x19
      have sb19 := sb14.ext x19
      have s1419 := s14.ext x19
      clear ho4 ho2
      obtain ⟨bq, oq, heq, kc⟩ := (s514.ext x19).at_ i hi2
      injection heq with heq
      injection heq with heq1 heq2
      subst heq1 heq2
      rw [hkk] at kc
      go_wp2_with (first
        | (go_at_call 16; refine hL.mono ?_; rintro e w1 ⟨rfl, rfl⟩)
        | (go_at_call 33; refine ((hPut _ h).1).mono ?_; rintro e w2 ⟨Pa, ca, Qa, Ca, rfl, sa, E2'⟩)
        | (go_at_call 34; refine ((hPut _ (by exact h.ext E2')).2).mono ?_; rintro e w3 ⟨Pb, cb, Qb, Cb, rfl, sb, x3⟩; have E3' := E2'.trans x3; have sa3 := sa.ext x3)
        | (go_at_call 12; (with_reducible refine (sameBlocks_any _ _ _ _ _ _ _ _ X1 X1 _ (by exact sa3) (by exact sb)).mono ?_); rintro e w4 ⟨rfl, x4⟩; rw [decide_eq_true (rfl : X1 = X1)]; have E4 := E3'.trans x4; have sa4 := sa3.ext x4)
        | (go_at_call 20; refine (hKr _ (by exact h.ext E4)).mono ?_; rintro e w5 ⟨P5, c5, rfl, s5, x5⟩; have E5 := E4.trans x5; have sa5 := sa4.ext x5; obtain ⟨b5, o5, rfl⟩ := slI_some s5 hF; have l5 := s5.le; have m5 := s5.cap; have l5i : (i : Int) ≤ c5 := (by omega))
        | (go_at_call 13; (with_reducible refine (hK1 _ _ _ _ _ (by exact sa5)).mono ?_); rintro e w6 ⟨v6, rfl, ho6, x6⟩; obtain ⟨P6, c6, rfl, s6⟩ := slI_of_row ho6; have E6 := E5.trans x6; have sa6 := sa5.ext x6; have s5b := s5.ext x6)
        | (go_at_call 14; (with_reducible refine (sameInts_any _ _ _ _ G1 G1 _ (by exact s610) (by exact s10)).mono ?_); rintro e w7 ⟨rfl, nq, rfl⟩; rw [decide_eq_true (rfl : G1 = G1)]; have sa11 := sa10.ext ((Ext.refl _).drewN nq); have s511 := s510.ext ((Ext.refl _).drewN nq); have E11 := E10.trans ((Ext.refl _).drewN nq))
        | (go_at_call 35; (with_reducible refine (hAp1 _ _ _ _ _ (by exact sa11) (by exact h.ext E11)).mono ?_); rintro e w8 ⟨rfl, x8⟩; have E8 := E11.trans x8; have s58 := s511.ext x8)
        | (go_at_call 32; refine ((hTk _ (by exact h.ext E8)).1).mono ?_; rintro e w11 ⟨Pc, cc, Qc, Cc, rfl, sc, x11⟩; have s5t := s58.ext x11; have E11t := E8.trans x11)
        | (go_at_call 36; refine ((hTk _ (by exact h.ext E11t)).2).mono ?_; rintro e w12 ⟨Pd, cd, Qd, Cd, rfl, sd, x12⟩; have E12 := E11t.trans x12; have sc12 := sc.ext x12; have s512 := s5t.ext x12)
        | (go_at_call 12; (with_reducible refine (sameBlocks_any _ _ _ _ _ _ _ _ X2 X2 _ (by exact sc12) (by exact sd)).mono ?_); rintro e w13 ⟨rfl, x13⟩; rw [decide_eq_true (rfl : X2 = X2)]; have E13 := E12.trans x13; have sb13 := sc12.ext x13; have s513 := s512.ext x13)
        | (go_at_call 13; (with_reducible refine (hK2 _ _ _ _ _ (by exact sb13)).mono ?_); rintro e w14 ⟨v14, rfl, ho14, x14⟩; obtain ⟨P14, c14, rfl, s14⟩ := slI_of_row ho14; have E14 := E13.trans x14; have sb14 := sb13.ext x14; have s514 := s513.ext x14)
        | (go_at_call 14; (with_reducible refine (sameInts_any _ _ _ _ G2 G2 _ (by exact s1419) (by exact s19)).mono ?_); rintro e w20 ⟨rfl, nr, rfl⟩; rw [decide_eq_true (rfl : G2 = G2)]; have sb20 := sb19.ext ((Ext.refl _).drewN nr); have E20 := E19.trans ((Ext.refl _).drewN nr))
        | (go_at_call 35; (with_reducible refine (hAp2 _ _ _ _ _ (by exact sb20) (by exact h.ext E20)).mono ?_); rintro e w21 ⟨rfl, x21⟩; have E21 := E20.trans x21)
        | (go_at_call 37; refine ((hSh _ (by exact h.ext E21)).1).mono ?_; rintro e w22 ⟨Pe, ce, Qe, Ce, rfl, se, x22⟩; have E22 := E21.trans x22)
        | (go_at_call 38; refine ((hSh _ (by exact h.ext E22)).2).mono ?_; rintro e w23 ⟨Pf, cf, Qf, Cf, rfl, sf, x23⟩; have E23 := E22.trans x23; have se23 := se.ext x23)
        | (go_at_call 12; (with_reducible refine (sameBlocks_any _ _ _ _ _ _ _ _ X3 X3 _ (by exact se23) (by exact sf)).mono ?_); rintro e w24 ⟨rfl, x24⟩; rw [decide_eq_true (rfl : X3 = X3)]; have E24 := E23.trans x24)
        | (go_at_call 9; refine (awake_any _).mono ?_; rintro e w30 ⟨rfl, x30⟩))
      go_ret
      exact ⟨rfl, E24.trans x30⟩
end Go.Proofs.Ytiakmcfbkceojaa
