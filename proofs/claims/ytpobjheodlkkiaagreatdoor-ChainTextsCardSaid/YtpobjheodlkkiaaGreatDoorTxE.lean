/- Number and Whole of the reference. -/
import Derived.Test.YtpobjheodlkkiaaGreatDoorTxD
namespace Go.Proofs.YtpobjheodlkkiaaGreatDoor
open Go.RowKit Go.Maps
set_option linter.unusedVariables false
set_option linter.unusedSimpArgs false
set_option linter.unusedSectionVars false
set_option maxRecDepth 100000
attribute [local go_sem] Oper.semAt_some

def numAt (s : ByteArray) (at_ : Nat) : Int × Int := numF (s.data.toList.drop at_)
def NumRel (s : ByteArray) (m q : Nat) (v : Int) : Prop := m ≤ q ∧ q ≤ m + dgL s m ∧ v = (spK s m q : Int)
def minusB (s : ByteArray) (a : Nat) : Bool := decide (a < s.size ∧ byteN s a = 45)
theorem numAt_is (s : ByteArray) (a : Nat) : numAt s a = magF (minusB s a) (s.data.toList.drop (if minusB s a then a + 1 else a)) := by
  unfold numAt numF minusB
  by_cases h : a < s.size
  · rw [byteU_drop s a h, List.head?_cons, List.tail_cons, byteU_N s a h]
    by_cases e : byteU s a = 45
    · rw [if_pos (by rw [e]), decide_eq_true ⟨h, by rw [e]; rfl⟩]
      rfl
    · have e2 : ¬ (a < s.size ∧ ((byteU s a).toNat : Int) = 45) := fun hh => e (UInt8.toNat_inj.1 (by show _ = 45; omega))
      rw [if_neg (by simpa using e), decide_eq_false e2]
      simp only [Bool.false_eq_true, if_false]
      rw [byteU_drop s a h]
  · have e : s.data.toList.drop a = [] := List.drop_eq_nil_of_le (by simp; omega)
    rw [e, decide_eq_false (fun hh => h hh.1)]
    simp only [Bool.false_eq_true, if_false]
    rw [e]
    rfl
/-- Number at a place that is known to be, or not to be, a minus: the loop and what is behind it -/
theorem dgL_size (s : ByteArray) (m : Nat) : m + dgL s m ≤ s.size ∨ dgL s m = 0 := by
  by_cases h : dgL s m = 0
  · exact .inr h
  · have := ((dg_at s m (m + dgL s m - 1) (by omega) (by omega)).1 (by omega)).2.1
    exact .inl (by omega)
set_option maxHeartbeats 4000000 in
theorem rnum_any (s : ByteArray) (at_ : Nat) (ha : at_ ≤ s.size) (hs : s.size ≤ 140737488355328) (w : World) :
    Calls Tryz.prog 36 #[.string s, .int .i64 at_] w fun e w' => e = .returned (.tuple #[.int .i64 (numAt s at_).1, .int .i64 (numAt s at_).2]) ∧ w = w' := by
  rw [numAt_is]
  obtain ⟨m, hm⟩ : ∃ m, (if minusB s at_ then at_ + 1 else at_) = m := ⟨_, rfl⟩
  rw [hm, magF_at]
  obtain ⟨mb, hmb⟩ : ∃ mb, minusB s at_ = mb := ⟨_, rfl⟩
  have key : ∀ (v1 v2 : Int), (if dgL s m = 0 ∨ (1 < dgL s m ∧ byteN s m = 48) ∨ (mb = true ∧ spK s m (m + dgL s m) = 0) ∨ 17 ≤ dgL s m then ((0 : Int), (0 : Int))
      else (if mb then -(spK s m (m + dgL s m) : Int) else spK s m (m + dgL s m), (dgL s m : Int) + (if mb then 1 else 0))) = (v1, v2) → Calls Tryz.prog 36 #[.string s, .int .i64 at_] w fun e w' => e = .returned (.tuple #[.int .i64 v1, .int .i64 v2]) ∧ w = w' := by
    intro v1 v2 hv
    have HV := Lib.hid hv
    clear hv
    have hm1 : m = if mb then at_ + 1 else at_ := by rw [← hm, hmb]
    have hms : m ≤ s.size := by
      rw [hm1]
      cases mb with
      | false => simpa using ha
      | true => unfold minusB at hmb; simp at hmb ⊢; omega
    clear hm
    go_enter Tryz.func36, Tryz.ntmps36
    cases hmm : mb with
    | true =>
      subst hmm
      simp only [if_true] at hm1
      subst hm1
      have hlt : at_ < s.size := by omega
      have b45 : byteN s at_ = 45 := by unfold minusB at hmb; simp at hmb; exact hmb.2
      have hi := str_index s at_ hlt
      rw [b45] at hi
      have c1 : (at_ : Int) < s.size := by omega
      have d1 : IntKind.i64.wrap ((at_ : Int) + 1) = (at_ : Int) + 1 := IntWalk.i64_in _ ⟨by omega, by omega⟩
      clear hmb b45
      have hL17 : dgL s (at_ + 1) ≤ 17 := dgs_le _
      have hsz := dgL_size s (at_ + 1)
      have hfm : at_ + 1 < s.size → ∀ w, (Instr.index 9 (.string s) (.int .i64 ((at_ : Int) + 1))).run Tryz.prog w = .ok (.int .u8 (byteN s (at_ + 1))) w := fun h w => str_index s (at_ + 1) h w
      obtain ⟨q, hq⟩ : ∃ q, at_ + 1 + dgL s (at_ + 1) = q := ⟨_, rfl⟩
      obtain ⟨x, hx⟩ : ∃ x, spK s (at_ + 1) q = x := ⟨_, rfl⟩
      obtain ⟨L, hL⟩ : ∃ L, dgL s (at_ + 1) = L := ⟨_, rfl⟩
      have hxv : x < 100000000000000000 := by rw [← hx]; exact spK_lt _ _ _
      rw [hq, hx, hL] at HV
      rw [hL] at hq hL17 hsz
      have g4 : IntKind.i64.wrap ((q : Int) - ((at_ : Int) + 1)) = (L : Int) := (IntWalk.i64_in _ ⟨by omega, by omega⟩).trans (by omega)
      have gq : IntKind.i64.wrap ((q : Int) - at_) = (q : Int) - at_ := IntWalk.i64_in _ ⟨by omega, by omega⟩
      have gn : IntKind.i64.wrap (-(x : Int)) = -(x : Int) := IntWalk.i64_in _ ⟨by omega, by omega⟩
      have eq1 : (((q : Int)) == ((at_ : Int) + 1)) = decide (L = 0) := by rw [Bool.eq_iff_iff]; simp; omega
      go_wp2
      rename_i K hK
      have hK2 : ∀ u9 u10 u11 u12 u13 u14 u15 u16 u17 u18 u19 u20 u21 u22 u23 u24 u25 u26 u27 u28 u29 u30 u31 u32 u33 u34 u35 u36 u37 u38 u39 u40 u41 u42 u43 u44 u45 u46 u47 u48 u49 u50 u51 u52 u53 u54 u55 : Value, K { tmps := #[.string s, .int .i64 at_, undef, undef, .int .i64 (x : Int), .int .i64 0, .int .i64 (q : Int), .bool true, .int .i64 ((at_ : Int) + 1), u9, u10, u11, u12, u13, u14, u15, u16, u17, u18, u19, u20, u21, u22, u23, u24, u25, u26, u27, u28, u29, u30, u31, u32, u33, u34, u35, u36, u37, u38, u39, u40, u41, u42, u43, u44, u45, u46, u47, u48, u49, u50, u51, u52, u53, u54, u55, undef, undef, undef, undef, undef, undef, undef, undef, undef, undef, undef, undef, undef, undef, undef, undef, undef, undef, undef, undef, undef, undef, undef, undef, undef, undef, undef, undef, undef, undef, undef, undef, undef, undef, undef], defers := [] } w := by
        intro u9 u10 u11 u12 u13 u14 u15 u16 u17 u18 u19 u20 u21 u22 u23 u24 u25 u26 u27 u28 u29 u30 u31 u32 u33 u34 u35 u36 u37 u38 u39 u40 u41 u42 u43 u44 u45 u46 u47 u48 u49 u50 u51 u52 u53 u54 u55
        refine hK _ _ ?_
        clear hK
        by_cases z0 : L = 0
        · have e0 : ((q : Int) == ((at_ : Int) + 1)) = true := by rw [eq1, decide_eq_true z0]
          obtain ⟨rfl, rfl⟩ : v1 = 0 ∧ v2 = 0 := by
            have := HV.out
            rw [if_pos (.inl z0)] at this
            cases this; exact ⟨rfl, rfl⟩
          clear HV
          go_wp2
          go_ret2
          exact ⟨rfl, rfl⟩
        · have e0 : ((q : Int) == ((at_ : Int) + 1)) = false := by rw [eq1, decide_eq_false z0]
          by_cases z1 : 1 < L
          · have t1 : (1 : Int) < L := by omega
            have hf2 := hfm (by omega)
            generalize byteN s (at_ + 1) = y at *
            by_cases z2 : y = 48
            · have e2 : (y == 48) = true := by rw [z2]; rfl
              obtain ⟨rfl, rfl⟩ : v1 = 0 ∧ v2 = 0 := by
                have := HV.out
                rw [if_pos (.inr (.inl ⟨z1, z2⟩))] at this
                cases this; exact ⟨rfl, rfl⟩
              clear HV
              go_wp2
              go_ret2
              exact ⟨rfl, rfl⟩
            · have e2 : (y == 48) = false := by rw [beq_eq_false_iff_ne]; exact z2
              by_cases z3 : x = 0
              · have e3 : ((x : Int) == 0) = true := by rw [z3]; rfl
                obtain ⟨rfl, rfl⟩ : v1 = 0 ∧ v2 = 0 := by
                  have := HV.out
                  rw [if_pos (.inr (.inr (.inl ⟨by first | trivial | rfl, z3⟩)))] at this
                  cases this; exact ⟨rfl, rfl⟩
                clear HV
                go_wp2
                go_ret2
                exact ⟨rfl, rfl⟩
              · have e3 : ((x : Int) == 0) = false := by rw [beq_eq_false_iff_ne]; omega
                by_cases z4 : 17 ≤ L
                · have e4 : (17 : Int) ≤ L := by omega
                  obtain ⟨rfl, rfl⟩ : v1 = 0 ∧ v2 = 0 := by
                    have := HV.out
                    rw [if_pos (.inr (.inr (.inr z4)))] at this
                    cases this; exact ⟨rfl, rfl⟩
                  clear HV
                  go_wp2
                  go_ret2
                  exact ⟨rfl, rfl⟩
                · have e4 : ¬ (17 : Int) ≤ L := by omega
                  obtain ⟨rfl, rfl⟩ : v1 = -(x : Int) ∧ v2 = (q : Int) - at_ := by
                    have := HV.out
                    rw [if_neg (by rintro (h | ⟨h, h2⟩ | ⟨h, h2⟩ | h); exact z0 h; exact z2 h2; exact z3 h2; exact z4 h)] at this
                    injection this with h1 h2
                    exact ⟨by rw [← h1]; simp, by rw [← h2]; simp <;> omega⟩
                  clear HV
                  go_wp2
                  go_ret2
                  exact ⟨rfl, rfl⟩
          · have t1 : ¬ (1 : Int) < L := by omega
            by_cases z3 : x = 0
            · have e3 : ((x : Int) == 0) = true := by rw [z3]; rfl
              obtain ⟨rfl, rfl⟩ : v1 = 0 ∧ v2 = 0 := by
                have := HV.out
                rw [if_pos (.inr (.inr (.inl ⟨by first | trivial | rfl, z3⟩)))] at this
                cases this; exact ⟨rfl, rfl⟩
              clear HV
              go_wp2
              go_ret2
              exact ⟨rfl, rfl⟩
            · have e3 : ((x : Int) == 0) = false := by rw [beq_eq_false_iff_ne]; omega
              by_cases z4 : 17 ≤ L
              · have e4 : (17 : Int) ≤ L := by omega
                obtain ⟨rfl, rfl⟩ : v1 = 0 ∧ v2 = 0 := by
                  have := HV.out
                  rw [if_pos (.inr (.inr (.inr z4)))] at this
                  cases this; exact ⟨rfl, rfl⟩
                clear HV
                go_wp2
                go_ret2
                exact ⟨rfl, rfl⟩
              · have e4 : ¬ (17 : Int) ≤ L := by omega
                obtain ⟨rfl, rfl⟩ : v1 = -(x : Int) ∧ v2 = (q : Int) - at_ := by
                  have := HV.out
                  rw [if_neg (by rintro (h | ⟨h, h2⟩ | ⟨h, h2⟩ | h); exact z0 h; exact z1 h; exact z3 h2; exact z4 h)] at this
                  injection this with h1 h2
                  exact ⟨by rw [← h1]; simp, by rw [← h2]; simp <;> omega⟩
                clear HV
                go_wp2
                go_ret2
                exact ⟨rfl, rfl⟩
      clear hK HV
      go_loop [6, 4] (fun i v => ∃ (q' x' : Nat), i = .int .i64 q' ∧ v = .int .i64 x' ∧ NumRel s (at_ + 1) q' x') (fun i _ => (at_ + 1) + dgL s (at_ + 1) - (intOf i).toNat)
      case atStart => exact ⟨at_ + 1, 0, rfl, rfl, Nat.le_refl _, by omega, by rw [spK_zero]⟩
      case round =>
        obtain ⟨q', x', rfl, rfl, hq1, hq2, hx0⟩ := hrel
        have hx1 : x' = spK s (at_ + 1) q' := by exact_mod_cast hx0
        clear hx0
        have hqs : q' ≤ s.size := by have := dgL_size s (at_ + 1); omega
        have g4' : IntKind.i64.wrap ((q' : Int) - ((at_ : Int) + 1)) = ((q' - (at_ + 1) : Nat) : Int) := (IntWalk.i64_in _ ⟨by omega, by omega⟩).trans (by omega)
        by_cases hlt2 : q' < at_ + 1 + dgL s (at_ + 1)
        · obtain ⟨k17, kq, k48, k57⟩ := (dg_at s (at_ + 1) q' hq1 hq2).1 hlt2
          obtain ⟨hn1, hn2⟩ := spK_next s (at_ + 1) q' hq1 hlt2
          have hx16 := spK_lt16 s (at_ + 1) q' k17
          have HN : Hid (NumRel s (at_ + 1) (q' + 1) ((10 * x' + (byteU s q').toNat - 48 : Nat) : Int)) := Lib.hid ⟨by omega, by omega, by rw [hn1, hx1]⟩
          rw [← hx1] at hx16
          clear hn1 hx1 hK2 hL hx hq
          have hi2 := str_index s q' kq
          rw [byteU_N s q' kq] at hi2 k48 k57
          have hb := (byteU s q').toNat_lt
          generalize (byteU s q').toNat = u at *
          have g1 : (q' : Int) < s.size := by omega
          have g2 : (48 : Int) ≤ u := by omega
          have g3 : (u : Int) ≤ 57 := by omega
          have g5 : ((q' - (at_ + 1) : Nat) : Int) < 17 := by omega
          have g6 : IntKind.i64.wrap (10 * (x' : Int)) = 10 * x' := IntWalk.i64_in _ ⟨by omega, by omega⟩
          have g7 : IntKind.u8.wrap ((u : Int) - 48) = u - 48 := by simp [IntKind.wrap, IntKind.bits, IntKind.signed]; omega
          have g8 : IntKind.i64.wrap ((u : Int) - 48) = u - 48 := IntWalk.i64_in _ ⟨by omega, by omega⟩
          have g9 : IntKind.i64.wrap (10 * (x' : Int) + (u - 48)) = 10 * (x' : Int) + (u - 48) := IntWalk.i64_in _ ⟨by omega, by omega⟩
          have g10 : IntKind.i64.wrap ((q' : Int) + 1) = (q' : Int) + 1 := IntWalk.i64_in _ ⟨by omega, by omega⟩
          clear hq1 hq2 k17
          go_wp2
          go_round
          case rel => exact ⟨q' + 1, 10 * x' + u - 48, by go_num, by congr 1; omega, HN.out⟩
          case measure => simp [intOf, g10]; omega
        · obtain rfl : q' = q := by omega
          obtain rfl : x' = x := by rw [hx1, hx]
          have hneg : ¬ (L < 17 ∧ q' < s.size ∧ 48 ≤ byteN s q' ∧ byteN s q' ≤ 57) := fun h => hlt2 ((dg_at s (at_ + 1) _ hq1 hq2).2 ⟨by omega, h.2⟩)
          have hE : (¬ (q' : Int) < s.size) ∨ ∃ u : Int, (q' : Int) < s.size ∧ (∀ w, (Instr.index 9 (.string s) (.int .i64 (q' : Int))).run Tryz.prog w = .ok (.int .u8 u) w) ∧ ((¬ 48 ≤ u) ∨ (48 ≤ u ∧ ¬ u ≤ 57) ∨ (48 ≤ u ∧ u ≤ 57 ∧ ¬ (L : Int) < 17)) := by
            by_cases a1 : q' < s.size
            · refine .inr ⟨byteN s q', by omega, str_index s q' a1, ?_⟩
              by_cases a2 : 48 ≤ byteN s q'
              · by_cases a3 : byteN s q' ≤ 57
                · have a4 : ¬ L < 17 := fun h => hneg ⟨h, a1, a2, a3⟩
                  exact .inr (.inr ⟨a2, a3, by omega⟩)
                · exact .inr (.inl ⟨a2, a3⟩)
              · exact .inl a2
            · exact .inl (by omega)
          clear hneg hlt2 hx1 hx hL hq g4' hfm eq1
          rcases hE with g1 | ⟨u, g1, hi2, g2 | ⟨g2, g3⟩ | ⟨g2, g3, g5⟩⟩ <;> (go_wp2; exact hK2 _ _ _ _ _ _ _ _ _ _ _ _ _ _ _ _ _ _ _ _ _ _ _ _ _ _ _ _ _ _ _ _ _ _ _ _ _ _ _ _ _ _ _ _ _ _ _)
    | false =>
      subst hmm
      simp only [Bool.false_eq_true, if_false] at hm1
      subst hm1
      by_cases hlt : m < s.size
      · have hi := str_index s m hlt
        have b45 : (byteN s m == 45) = false := by
          rw [beq_eq_false_iff_ne]
          intro e
          unfold minusB at hmb
          rw [decide_eq_true ⟨hlt, e⟩] at hmb
          cases hmb
        have c1 : (m : Int) < s.size := by omega
        clear hmb
        have hL17 : dgL s (m) ≤ 17 := dgs_le _
        have hsz := dgL_size s (m)
        have hfm : m < s.size → ∀ w, (Instr.index 9 (.string s) (.int .i64 (m : Int))).run Tryz.prog w = .ok (.int .u8 (byteN s (m))) w := fun h w => str_index s (m) h w
        obtain ⟨q, hq⟩ : ∃ q, m + dgL s (m) = q := ⟨_, rfl⟩
        obtain ⟨x, hx⟩ : ∃ x, spK s (m) q = x := ⟨_, rfl⟩
        obtain ⟨L, hL⟩ : ∃ L, dgL s (m) = L := ⟨_, rfl⟩
        have hxv : x < 100000000000000000 := by rw [← hx]; exact spK_lt _ _ _
        rw [hq, hx, hL] at HV
        rw [hL] at hq hL17 hsz
        have g4 : IntKind.i64.wrap ((q : Int) - (m : Int)) = (L : Int) := (IntWalk.i64_in _ ⟨by omega, by omega⟩).trans (by omega)
        have gq : IntKind.i64.wrap ((q : Int) - m) = (q : Int) - m := IntWalk.i64_in _ ⟨by omega, by omega⟩
        have gn : IntKind.i64.wrap (-(x : Int)) = -(x : Int) := IntWalk.i64_in _ ⟨by omega, by omega⟩
        have eq1 : (((q : Int)) == (m : Int)) = decide (L = 0) := by rw [Bool.eq_iff_iff]; simp; omega
        go_wp2
        rename_i K hK
        have hK2 : ∀ u9 u10 u11 u12 u13 u14 u15 u16 u17 u18 u19 u20 u21 u22 u23 u24 u25 u26 u27 u28 u29 u30 u31 u32 u33 u34 u35 u36 u37 u38 u39 u40 u41 u42 u43 u44 u45 u46 u47 u48 u49 u50 u51 u52 u53 u54 u55 : Value, K { tmps := #[.string s, .int .i64 m, undef, undef, .int .i64 (x : Int), .int .i64 0, .int .i64 (q : Int), .bool false, .int .i64 (m : Int), u9, u10, u11, u12, u13, u14, u15, u16, u17, u18, u19, u20, u21, u22, u23, u24, u25, u26, u27, u28, u29, u30, u31, u32, u33, u34, u35, u36, u37, u38, u39, u40, u41, u42, u43, u44, u45, u46, u47, u48, u49, u50, u51, u52, u53, u54, u55, undef, undef, undef, undef, undef, undef, undef, undef, undef, undef, undef, undef, undef, undef, undef, undef, undef, undef, undef, undef, undef, undef, undef, undef, undef, undef, undef, undef, undef, undef, undef, undef, undef, undef, undef], defers := [] } w := by
          intro u9 u10 u11 u12 u13 u14 u15 u16 u17 u18 u19 u20 u21 u22 u23 u24 u25 u26 u27 u28 u29 u30 u31 u32 u33 u34 u35 u36 u37 u38 u39 u40 u41 u42 u43 u44 u45 u46 u47 u48 u49 u50 u51 u52 u53 u54 u55
          refine hK _ _ ?_
          clear hK
          by_cases z0 : L = 0
          · have e0 : ((q : Int) == (m : Int)) = true := by rw [eq1, decide_eq_true z0]
            obtain ⟨rfl, rfl⟩ : v1 = 0 ∧ v2 = 0 := by
              have := HV.out
              rw [if_pos (.inl z0)] at this
              cases this; exact ⟨rfl, rfl⟩
            clear HV
            go_wp2
            go_ret2
            exact ⟨rfl, rfl⟩
          · have e0 : ((q : Int) == (m : Int)) = false := by rw [eq1, decide_eq_false z0]
            by_cases z1 : 1 < L
            · have t1 : (1 : Int) < L := by omega
              have hf2 := hfm (by omega)
              generalize byteN s (m) = y at *
              by_cases z2 : y = 48
              · have e2 : (y == 48) = true := by rw [z2]; rfl
                obtain ⟨rfl, rfl⟩ : v1 = 0 ∧ v2 = 0 := by
                  have := HV.out
                  rw [if_pos (.inr (.inl ⟨z1, z2⟩))] at this
                  cases this; exact ⟨rfl, rfl⟩
                clear HV
                go_wp2
                go_ret2
                exact ⟨rfl, rfl⟩
              · have e2 : (y == 48) = false := by rw [beq_eq_false_iff_ne]; exact z2
                by_cases z4 : 17 ≤ L
                · have e4 : (17 : Int) ≤ L := by omega
                  obtain ⟨rfl, rfl⟩ : v1 = 0 ∧ v2 = 0 := by
                    have := HV.out
                    rw [if_pos (.inr (.inr (.inr z4)))] at this
                    cases this; exact ⟨rfl, rfl⟩
                  clear HV
                  go_wp2
                  go_ret2
                  exact ⟨rfl, rfl⟩
                · have e4 : ¬ (17 : Int) ≤ L := by omega
                  obtain ⟨rfl, rfl⟩ : v1 = (x : Int) ∧ v2 = (L : Int) := by
                    have := HV.out
                    rw [if_neg (by rintro (h | ⟨h, h2⟩ | ⟨h, h2⟩ | h); exact z0 h; exact z2 h2; exact absurd h (by simp); exact z4 h)] at this
                    injection this with h1 h2
                    exact ⟨by rw [← h1]; simp, by rw [← h2]; simp <;> omega⟩
                  clear HV
                  go_wp2
                  go_ret2
                  exact ⟨rfl, rfl⟩
            · have t1 : ¬ (1 : Int) < L := by omega
              by_cases z4 : 17 ≤ L
              · have e4 : (17 : Int) ≤ L := by omega
                obtain ⟨rfl, rfl⟩ : v1 = 0 ∧ v2 = 0 := by
                  have := HV.out
                  rw [if_pos (.inr (.inr (.inr z4)))] at this
                  cases this; exact ⟨rfl, rfl⟩
                clear HV
                go_wp2
                go_ret2
                exact ⟨rfl, rfl⟩
              · have e4 : ¬ (17 : Int) ≤ L := by omega
                obtain ⟨rfl, rfl⟩ : v1 = (x : Int) ∧ v2 = (L : Int) := by
                  have := HV.out
                  rw [if_neg (by rintro (h | ⟨h, h2⟩ | ⟨h, h2⟩ | h); exact z0 h; exact z1 h; exact absurd h (by simp); exact z4 h)] at this
                  injection this with h1 h2
                  exact ⟨by rw [← h1]; simp, by rw [← h2]; simp <;> omega⟩
                clear HV
                go_wp2
                go_ret2
                exact ⟨rfl, rfl⟩
        clear hK HV
        go_loop [6, 4] (fun i v => ∃ (q' x' : Nat), i = .int .i64 q' ∧ v = .int .i64 x' ∧ NumRel s (m) q' x') (fun i _ => (m) + dgL s (m) - (intOf i).toNat)
        case atStart => exact ⟨m, 0, rfl, rfl, Nat.le_refl _, by omega, by rw [spK_zero]⟩
        case round =>
          obtain ⟨q', x', rfl, rfl, hq1, hq2, hx0⟩ := hrel
          have hx1 : x' = spK s (m) q' := by exact_mod_cast hx0
          clear hx0
          have hqs : q' ≤ s.size := by have := dgL_size s (m); omega
          have g4' : IntKind.i64.wrap ((q' : Int) - (m : Int)) = ((q' - (m) : Nat) : Int) := (IntWalk.i64_in _ ⟨by omega, by omega⟩).trans (by omega)
          by_cases hlt2 : q' < m + dgL s (m)
          · obtain ⟨k17, kq, k48, k57⟩ := (dg_at s (m) q' hq1 hq2).1 hlt2
            obtain ⟨hn1, hn2⟩ := spK_next s (m) q' hq1 hlt2
            have hx16 := spK_lt16 s (m) q' k17
            have HN : Hid (NumRel s (m) (q' + 1) ((10 * x' + (byteU s q').toNat - 48 : Nat) : Int)) := Lib.hid ⟨by omega, by omega, by rw [hn1, hx1]⟩
            rw [← hx1] at hx16
            clear hn1 hx1 hK2 hL hx hq
            have hi2 := str_index s q' kq
            rw [byteU_N s q' kq] at hi2 k48 k57
            have hb := (byteU s q').toNat_lt
            generalize (byteU s q').toNat = u at *
            have g1 : (q' : Int) < s.size := by omega
            have g2 : (48 : Int) ≤ u := by omega
            have g3 : (u : Int) ≤ 57 := by omega
            have g5 : ((q' - (m) : Nat) : Int) < 17 := by omega
            have g6 : IntKind.i64.wrap (10 * (x' : Int)) = 10 * x' := IntWalk.i64_in _ ⟨by omega, by omega⟩
            have g7 : IntKind.u8.wrap ((u : Int) - 48) = u - 48 := by simp [IntKind.wrap, IntKind.bits, IntKind.signed]; omega
            have g8 : IntKind.i64.wrap ((u : Int) - 48) = u - 48 := IntWalk.i64_in _ ⟨by omega, by omega⟩
            have g9 : IntKind.i64.wrap (10 * (x' : Int) + (u - 48)) = 10 * (x' : Int) + (u - 48) := IntWalk.i64_in _ ⟨by omega, by omega⟩
            have g10 : IntKind.i64.wrap ((q' : Int) + 1) = (q' : Int) + 1 := IntWalk.i64_in _ ⟨by omega, by omega⟩
            clear hq1 hq2 k17
            go_wp2
            go_round
            case rel => exact ⟨q' + 1, 10 * x' + u - 48, by go_num, by congr 1; omega, HN.out⟩
            case measure => simp [intOf, g10]; omega
          · obtain rfl : q' = q := by omega
            obtain rfl : x' = x := by rw [hx1, hx]
            have hneg : ¬ (L < 17 ∧ q' < s.size ∧ 48 ≤ byteN s q' ∧ byteN s q' ≤ 57) := fun h => hlt2 ((dg_at s (m) _ hq1 hq2).2 ⟨by omega, h.2⟩)
            have hE : (¬ (q' : Int) < s.size) ∨ ∃ u : Int, (q' : Int) < s.size ∧ (∀ w, (Instr.index 9 (.string s) (.int .i64 (q' : Int))).run Tryz.prog w = .ok (.int .u8 u) w) ∧ ((¬ 48 ≤ u) ∨ (48 ≤ u ∧ ¬ u ≤ 57) ∨ (48 ≤ u ∧ u ≤ 57 ∧ ¬ (L : Int) < 17)) := by
              by_cases a1 : q' < s.size
              · refine .inr ⟨byteN s q', by omega, str_index s q' a1, ?_⟩
                by_cases a2 : 48 ≤ byteN s q'
                · by_cases a3 : byteN s q' ≤ 57
                  · have a4 : ¬ L < 17 := fun h => hneg ⟨h, a1, a2, a3⟩
                    exact .inr (.inr ⟨a2, a3, by omega⟩)
                  · exact .inr (.inl ⟨a2, a3⟩)
                · exact .inl a2
              · exact .inl (by omega)
            clear hneg hlt2 hx1 hx hL hq g4' hfm eq1
            rcases hE with g1 | ⟨u, g1, hi2, g2 | ⟨g2, g3⟩ | ⟨g2, g3, g5⟩⟩ <;> (go_wp2; exact hK2 _ _ _ _ _ _ _ _ _ _ _ _ _ _ _ _ _ _ _ _ _ _ _ _ _ _ _ _ _ _ _ _ _ _ _ _ _ _ _ _ _ _ _ _ _ _ _)
      · have c1 : ¬ (m : Int) < s.size := by omega
        clear hmb
        have hL17 : dgL s (m) ≤ 17 := dgs_le _
        have hsz := dgL_size s (m)
        have hfm : m < s.size → ∀ w, (Instr.index 9 (.string s) (.int .i64 (m : Int))).run Tryz.prog w = .ok (.int .u8 (byteN s (m))) w := fun h w => str_index s (m) h w
        obtain ⟨q, hq⟩ : ∃ q, m + dgL s (m) = q := ⟨_, rfl⟩
        obtain ⟨x, hx⟩ : ∃ x, spK s (m) q = x := ⟨_, rfl⟩
        obtain ⟨L, hL⟩ : ∃ L, dgL s (m) = L := ⟨_, rfl⟩
        have hxv : x < 100000000000000000 := by rw [← hx]; exact spK_lt _ _ _
        rw [hq, hx, hL] at HV
        rw [hL] at hq hL17 hsz
        have g4 : IntKind.i64.wrap ((q : Int) - (m : Int)) = (L : Int) := (IntWalk.i64_in _ ⟨by omega, by omega⟩).trans (by omega)
        have gq : IntKind.i64.wrap ((q : Int) - m) = (q : Int) - m := IntWalk.i64_in _ ⟨by omega, by omega⟩
        have gn : IntKind.i64.wrap (-(x : Int)) = -(x : Int) := IntWalk.i64_in _ ⟨by omega, by omega⟩
        have eq1 : (((q : Int)) == (m : Int)) = decide (L = 0) := by rw [Bool.eq_iff_iff]; simp; omega
        go_wp2
        rename_i K hK
        have hK2 : ∀ u9 u10 u11 u12 u13 u14 u15 u16 u17 u18 u19 u20 u21 u22 u23 u24 u25 u26 u27 u28 u29 u30 u31 u32 u33 u34 u35 u36 u37 u38 u39 u40 u41 u42 u43 u44 u45 u46 u47 u48 u49 u50 u51 u52 u53 u54 u55 : Value, K { tmps := #[.string s, .int .i64 m, undef, undef, .int .i64 (x : Int), .int .i64 0, .int .i64 (q : Int), .bool false, .int .i64 (m : Int), u9, u10, u11, u12, u13, u14, u15, u16, u17, u18, u19, u20, u21, u22, u23, u24, u25, u26, u27, u28, u29, u30, u31, u32, u33, u34, u35, u36, u37, u38, u39, u40, u41, u42, u43, u44, u45, u46, u47, u48, u49, u50, u51, u52, u53, u54, u55, undef, undef, undef, undef, undef, undef, undef, undef, undef, undef, undef, undef, undef, undef, undef, undef, undef, undef, undef, undef, undef, undef, undef, undef, undef, undef, undef, undef, undef, undef, undef, undef, undef, undef, undef], defers := [] } w := by
          intro u9 u10 u11 u12 u13 u14 u15 u16 u17 u18 u19 u20 u21 u22 u23 u24 u25 u26 u27 u28 u29 u30 u31 u32 u33 u34 u35 u36 u37 u38 u39 u40 u41 u42 u43 u44 u45 u46 u47 u48 u49 u50 u51 u52 u53 u54 u55
          refine hK _ _ ?_
          clear hK
          by_cases z0 : L = 0
          · have e0 : ((q : Int) == (m : Int)) = true := by rw [eq1, decide_eq_true z0]
            obtain ⟨rfl, rfl⟩ : v1 = 0 ∧ v2 = 0 := by
              have := HV.out
              rw [if_pos (.inl z0)] at this
              cases this; exact ⟨rfl, rfl⟩
            clear HV
            go_wp2
            go_ret2
            exact ⟨rfl, rfl⟩
          · have e0 : ((q : Int) == (m : Int)) = false := by rw [eq1, decide_eq_false z0]
            by_cases z1 : 1 < L
            · have t1 : (1 : Int) < L := by omega
              have hf2 := hfm (by omega)
              generalize byteN s (m) = y at *
              by_cases z2 : y = 48
              · have e2 : (y == 48) = true := by rw [z2]; rfl
                obtain ⟨rfl, rfl⟩ : v1 = 0 ∧ v2 = 0 := by
                  have := HV.out
                  rw [if_pos (.inr (.inl ⟨z1, z2⟩))] at this
                  cases this; exact ⟨rfl, rfl⟩
                clear HV
                go_wp2
                go_ret2
                exact ⟨rfl, rfl⟩
              · have e2 : (y == 48) = false := by rw [beq_eq_false_iff_ne]; exact z2
                by_cases z4 : 17 ≤ L
                · have e4 : (17 : Int) ≤ L := by omega
                  obtain ⟨rfl, rfl⟩ : v1 = 0 ∧ v2 = 0 := by
                    have := HV.out
                    rw [if_pos (.inr (.inr (.inr z4)))] at this
                    cases this; exact ⟨rfl, rfl⟩
                  clear HV
                  go_wp2
                  go_ret2
                  exact ⟨rfl, rfl⟩
                · have e4 : ¬ (17 : Int) ≤ L := by omega
                  obtain ⟨rfl, rfl⟩ : v1 = (x : Int) ∧ v2 = (L : Int) := by
                    have := HV.out
                    rw [if_neg (by rintro (h | ⟨h, h2⟩ | ⟨h, h2⟩ | h); exact z0 h; exact z2 h2; exact absurd h (by simp); exact z4 h)] at this
                    injection this with h1 h2
                    exact ⟨by rw [← h1]; simp, by rw [← h2]; simp <;> omega⟩
                  clear HV
                  go_wp2
                  go_ret2
                  exact ⟨rfl, rfl⟩
            · have t1 : ¬ (1 : Int) < L := by omega
              by_cases z4 : 17 ≤ L
              · have e4 : (17 : Int) ≤ L := by omega
                obtain ⟨rfl, rfl⟩ : v1 = 0 ∧ v2 = 0 := by
                  have := HV.out
                  rw [if_pos (.inr (.inr (.inr z4)))] at this
                  cases this; exact ⟨rfl, rfl⟩
                clear HV
                go_wp2
                go_ret2
                exact ⟨rfl, rfl⟩
              · have e4 : ¬ (17 : Int) ≤ L := by omega
                obtain ⟨rfl, rfl⟩ : v1 = (x : Int) ∧ v2 = (L : Int) := by
                  have := HV.out
                  rw [if_neg (by rintro (h | ⟨h, h2⟩ | ⟨h, h2⟩ | h); exact z0 h; exact z1 h; exact absurd h (by simp); exact z4 h)] at this
                  injection this with h1 h2
                  exact ⟨by rw [← h1]; simp, by rw [← h2]; simp <;> omega⟩
                clear HV
                go_wp2
                go_ret2
                exact ⟨rfl, rfl⟩
        clear hK HV
        go_loop [6, 4] (fun i v => ∃ (q' x' : Nat), i = .int .i64 q' ∧ v = .int .i64 x' ∧ NumRel s (m) q' x') (fun i _ => (m) + dgL s (m) - (intOf i).toNat)
        case atStart => exact ⟨m, 0, rfl, rfl, Nat.le_refl _, by omega, by rw [spK_zero]⟩
        case round =>
          obtain ⟨q', x', rfl, rfl, hq1, hq2, hx0⟩ := hrel
          have hx1 : x' = spK s (m) q' := by exact_mod_cast hx0
          clear hx0
          have hqs : q' ≤ s.size := by have := dgL_size s (m); omega
          have g4' : IntKind.i64.wrap ((q' : Int) - (m : Int)) = ((q' - (m) : Nat) : Int) := (IntWalk.i64_in _ ⟨by omega, by omega⟩).trans (by omega)
          by_cases hlt2 : q' < m + dgL s (m)
          · obtain ⟨k17, kq, k48, k57⟩ := (dg_at s (m) q' hq1 hq2).1 hlt2
            obtain ⟨hn1, hn2⟩ := spK_next s (m) q' hq1 hlt2
            have hx16 := spK_lt16 s (m) q' k17
            have HN : Hid (NumRel s (m) (q' + 1) ((10 * x' + (byteU s q').toNat - 48 : Nat) : Int)) := Lib.hid ⟨by omega, by omega, by rw [hn1, hx1]⟩
            rw [← hx1] at hx16
            clear hn1 hx1 hK2 hL hx hq
            have hi2 := str_index s q' kq
            rw [byteU_N s q' kq] at hi2 k48 k57
            have hb := (byteU s q').toNat_lt
            generalize (byteU s q').toNat = u at *
            have g1 : (q' : Int) < s.size := by omega
            have g2 : (48 : Int) ≤ u := by omega
            have g3 : (u : Int) ≤ 57 := by omega
            have g5 : ((q' - (m) : Nat) : Int) < 17 := by omega
            have g6 : IntKind.i64.wrap (10 * (x' : Int)) = 10 * x' := IntWalk.i64_in _ ⟨by omega, by omega⟩
            have g7 : IntKind.u8.wrap ((u : Int) - 48) = u - 48 := by simp [IntKind.wrap, IntKind.bits, IntKind.signed]; omega
            have g8 : IntKind.i64.wrap ((u : Int) - 48) = u - 48 := IntWalk.i64_in _ ⟨by omega, by omega⟩
            have g9 : IntKind.i64.wrap (10 * (x' : Int) + (u - 48)) = 10 * (x' : Int) + (u - 48) := IntWalk.i64_in _ ⟨by omega, by omega⟩
            have g10 : IntKind.i64.wrap ((q' : Int) + 1) = (q' : Int) + 1 := IntWalk.i64_in _ ⟨by omega, by omega⟩
            clear hq1 hq2 k17
            go_wp2
            go_round
            case rel => exact ⟨q' + 1, 10 * x' + u - 48, by go_num, by congr 1; omega, HN.out⟩
            case measure => simp [intOf, g10]; omega
          · obtain rfl : q' = q := by omega
            obtain rfl : x' = x := by rw [hx1, hx]
            have hneg : ¬ (L < 17 ∧ q' < s.size ∧ 48 ≤ byteN s q' ∧ byteN s q' ≤ 57) := fun h => hlt2 ((dg_at s (m) _ hq1 hq2).2 ⟨by omega, h.2⟩)
            have hE : (¬ (q' : Int) < s.size) ∨ ∃ u : Int, (q' : Int) < s.size ∧ (∀ w, (Instr.index 9 (.string s) (.int .i64 (q' : Int))).run Tryz.prog w = .ok (.int .u8 u) w) ∧ ((¬ 48 ≤ u) ∨ (48 ≤ u ∧ ¬ u ≤ 57) ∨ (48 ≤ u ∧ u ≤ 57 ∧ ¬ (L : Int) < 17)) := by
              by_cases a1 : q' < s.size
              · refine .inr ⟨byteN s q', by omega, str_index s q' a1, ?_⟩
                by_cases a2 : 48 ≤ byteN s q'
                · by_cases a3 : byteN s q' ≤ 57
                  · have a4 : ¬ L < 17 := fun h => hneg ⟨h, a1, a2, a3⟩
                    exact .inr (.inr ⟨a2, a3, by omega⟩)
                  · exact .inr (.inl ⟨a2, a3⟩)
                · exact .inl a2
              · exact .inl (by omega)
            clear hneg hlt2 hx1 hx hL hq g4' hfm eq1
            rcases hE with g1 | ⟨u, g1, hi2, g2 | ⟨g2, g3⟩ | ⟨g2, g3, g5⟩⟩ <;> (go_wp2; exact hK2 _ _ _ _ _ _ _ _ _ _ _ _ _ _ _ _ _ _ _ _ _ _ _ _ _ _ _ _ _ _ _ _ _ _ _ _ _ _ _ _ _ _ _ _ _ _ _)
  rw [hmb]
  exact key _ _ rfl
end Go.Proofs.YtpobjheodlkkiaaGreatDoor
