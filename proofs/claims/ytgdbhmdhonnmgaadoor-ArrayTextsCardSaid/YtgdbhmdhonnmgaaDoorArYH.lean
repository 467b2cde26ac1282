/- ArrayTexts: the law. -/
import Derived.Test.YtgdbhmdhonnmgaaDoorArYG
namespace Go.Proofs.YtgdbhmdhonnmgaaDoor
open Go.RowKit Go.Maps
set_option linter.unusedVariables false
set_option linter.unusedSimpArgs false
set_option linter.unusedSectionVars false
set_option maxRecDepth 20000
attribute [local go_sem] Oper.semAt_some

def PP (r : Int × List (List Int) × Int) (w : World) (e : Ending) (w' : World) : Prop := ParsePost r w e w'
set_option maxHeartbeats 4000000 in
theorem arrayTexts_any (b : Int) (P : Option Addr) (cap : Nat) (Q : Nat → Option Addr) (C : Nat → Nat) (LL : List (List Int)) (t : ByteArray) (w : World) (h : SlA w P cap Q C LL) (hv : ∀ l ∈ LL, ∀ x ∈ l, In64 x) (hLw : LibW w) :
    Calls Tryd.prog 3 #[.int .i64 b, .slice P LL.length cap, .string t] w fun e w' => e = .returned (.bool true) ∧ Ext w w' := by
  have hL := light_is P cap Q C LL w h
  cases hl : lightB LL with
  | false =>
    rw [hl] at hL
    go_enter Tryd.func3, Tryd.ntmps3
    go_wp2_with (first
      | (go_at_call 4; refine hL.mono ?_; rintro e w1 ⟨rfl, rfl⟩)
      | (go_at_call 5; refine (awake_any _).mono ?_; rintro e w2 ⟨rfl, hx2⟩))
    go_ret
    exact ⟨rfl, hx2⟩
  | true =>
    rw [hl] at hL
    by_cases ht : t.size ≤ 2000
    · have ht' : ¬ (2000 : Int) < t.size := by omega
      have hF := fun W hW hLW => fmt_any b P cap Q C LL W hW hv hLW
      have hR := fun W hW => rfmt_any b P cap Q C LL W hW
      have hP := fun W hLW => parse_any t (by omega) W hLW
      have hRP := fun W => rparse_any t (by omega) W
      rw [← parse_same] at hRP
      generalize parseP t.data.toList = pr at *
      obtain ⟨pb, pl, pe⟩ := pr
      unfold ParsePost at hP hRP
      simp only at hP hRP
      have HLW := Lib.hid hLw
      by_cases hok : ArOk b LL
      · have hlen := fmtA_len hok
        have hne : (mkB (fmtA b LL)).toList.isEmpty = false := by
          rw [Lib.toList_data, mkB_toList]
          cases hh : fmtA b LL with
          | nil => exact absurd hh (fmtA_ne hok)
          | cons x r => rfl
        have hPs := fun W hLW => parse_any (mkB (fmtA b LL)) (by rw [mkB_size]; omega) W hLW
        rw [mkB_toList, parseP_fmt hok (by omega)] at hPs
        unfold ParsePost at hPs
        simp only at hPs
        clear hok hlen hl
        generalize mkB (fmtA b LL) = S at *
        have hSS : (S.toList != S.toList) = false := by simp
        have hbb : (b != b) = false := by simp
        go_enter Tryd.func3, Tryd.ntmps3
        go_wp2_with (first
          | (go_at_call 4; refine hL.mono ?_; rintro e w1 ⟨rfl, rfl⟩)
          | (go_at_call 6; refine (hF _ h HLW.out).mono ?_; rintro e w2 ⟨rfl, hx2⟩)
          | (go_at_call 7; refine (hR _ (by exact h.ext hx2)).mono ?_; rintro e w3 ⟨rfl, hx3⟩)
          | (go_at_call 8; (with_reducible refine (hPs _ (HLW.out.ext (hx2.trans hx3))).mono ?_); rintro e w4 ⟨P4, c4, Q4, C4, rfl, hA4, hx4⟩)
          | (go_at_call 9; (with_reducible refine (sameBlocks_any _ _ _ _ _ _ _ _ LL LL _ (by exact hA4) (by exact h.ext (hx2.trans (hx3.trans hx4)))).mono ?_); rintro e w5 ⟨rfl, hx5⟩; rw [decide_eq_true (rfl : LL = LL)])
          | (go_at_call 8; (with_reducible refine (hP _ (HLW.out.ext (hx2.trans (hx3.trans (hx4.trans hx5))))).mono ?_); rintro e w6 ⟨P6, c6, Q6, C6, rfl, hA6, hx6⟩)
          | (go_at_call 10; refine (hRP _).mono ?_; rintro e w7 ⟨P7, c7, Q7, C7, rfl, hA7, hx7⟩)
          | (go_at_call 9; (with_reducible refine (sameBlocks_any _ _ _ _ _ _ _ _ pl pl _ (by exact hA6.ext hx7) (by exact hA7)).mono ?_); rintro e w8 ⟨rfl, hx8⟩; rw [decide_eq_true (rfl : pl = pl)])
          | (go_at_call 5; refine (awake_any _).mono ?_; rintro e w9 ⟨rfl, hx9⟩))
        go_ret
        exact ⟨rfl, hx2.trans (hx3.trans (hx4.trans (hx5.trans (hx6.trans (hx7.trans (hx8.trans hx9))))))⟩
      · have e0 : mkB (fmtA b LL) = ⟨#[]⟩ := by rw [fmtA_no hok]; rfl
        rw [e0] at hF hR
        clear e0 hok hl
        go_enter Tryd.func3, Tryd.ntmps3
        go_wp2_with (first
          | (go_at_call 4; refine hL.mono ?_; rintro e w1 ⟨rfl, rfl⟩)
          | (go_at_call 6; refine (hF _ h HLW.out).mono ?_; rintro e w2 ⟨rfl, hx2⟩)
          | (go_at_call 7; refine (hR _ (by exact h.ext hx2)).mono ?_; rintro e w3 ⟨rfl, hx3⟩)
          | (go_at_call 8; refine (hP _ (HLW.out.ext (hx2.trans hx3))).mono ?_; rintro e w6 ⟨P6, c6, Q6, C6, rfl, hA6, hx6⟩)
          | (go_at_call 10; refine (hRP _).mono ?_; rintro e w7 ⟨P7, c7, Q7, C7, rfl, hA7, hx7⟩)
          | (go_at_call 9; refine (sameBlocks_any _ _ _ _ _ _ _ _ pl pl _ (by exact hA6.ext hx7) (by exact hA7)).mono ?_; rintro e w8 ⟨rfl, hx8⟩; rw [decide_eq_true (rfl : pl = pl)])
          | (go_at_call 5; refine (awake_any _).mono ?_; rintro e w9 ⟨rfl, hx9⟩))
        go_ret
        exact ⟨rfl, hx2.trans (hx3.trans (hx6.trans (hx7.trans (hx8.trans hx9))))⟩
    · have ht' : (2000 : Int) < t.size := by omega
      go_enter Tryd.func3, Tryd.ntmps3
      go_wp2_with (first
        | (go_at_call 4; refine hL.mono ?_; rintro e w1 ⟨rfl, rfl⟩)
        | (go_at_call 5; refine (awake_any _).mono ?_; rintro e w2 ⟨rfl, hx2⟩))
      go_ret
      exact ⟨rfl, hx2⟩
end Go.Proofs.YtgdbhmdhonnmgaaDoor
