/- ChainTexts: the law. -/
import Derived.Test.YtpobjheodlkkiaaGreatDoorChTG
import Derived.Test.YtpobjheodlkkiaaGreatDoorChO
import Derived.Test.YtpobjheodlkkiaaGreatDoorChT
namespace Go.Proofs.YtpobjheodlkkiaaGreatDoor
open Go.RowKit Go.Maps
set_option linter.unusedVariables false
set_option linter.unusedSimpArgs false
set_option linter.unusedSectionVars false
set_option maxRecDepth 20000
attribute [local go_sem] Oper.semAt_some

set_option maxHeartbeats 4000000 in
theorem chainTexts_any (P : Option Addr) (cap : Nat) (l : List Lk) (t : ByteArray) (w : World) (h : SlL w P cap l) (ok : ∀ x ∈ l, OkK x) (hLw : LibW w) :
    Calls Tryz.prog 3 #[.slice P l.length cap, .string t] w fun e w' => e = .returned (.bool true) ∧ Ext w w' := by
  have HLW := Lib.hid hLw
  by_cases hl : l.length ≤ 120
  · have hl' : ¬ (120 : Int) < l.length := by omega
    by_cases ht : t.size ≤ 3000
    · have ht' : ¬ (3000 : Int) < t.size := by omega
      have hF := fun W hW hLW => fmt_any P cap l W hW ok hLW
      have hR := fun W hW => rfmt_any P cap l W hW ok
      have hP := fun W hLW => parse_any t (by omega) W hLW
      have hRP := fun W => rparse_any t (by omega) W
      rw [← parseC_same] at hRP
      generalize parsePC t.data.toList = pr at *
      obtain ⟨pl, pe⟩ := pr
      unfold ParsePostC at hP hRP
      simp only at hP hRP
      cases hok : validB l with
      | true =>
        have hlen := fmtC_len hok
        have hne : (mkB (fmtC l)).toList.isEmpty = false := by
          rw [Lib.toList_data, mkB_toList]
          cases hh : fmtC l with
          | nil => exact absurd hh (fmtC_ne hok)
          | cons x r => rfl
        have hPs := fun W hLW => parse_any (mkB (fmtC l)) (by rw [mkB_size]; omega) W hLW
        rw [mkB_toList, parsePC_fmt hok (by omega)] at hPs
        unfold ParsePostC at hPs
        simp only at hPs
        clear hok hlen ok
        generalize mkB (fmtC l) = S at *
        have hSS : (S.toList != S.toList) = false := by simp
        go_enter Tryz.func3, Tryz.ntmps3
        go_wp2_with (first
          | (go_at_call 5; refine (hF _ h HLW.out).mono ?_; rintro e w2 ⟨rfl, hx2⟩)
          | (go_at_call 6; refine (hR _ (by exact h.ext hx2)).mono ?_; rintro e w3 ⟨rfl, hx3⟩)
          | (go_at_call 7; (with_reducible refine (hPs _ (HLW.out.ext (hx2.trans hx3))).mono ?_); rintro e w4 ⟨P4, c4, rfl, hA4, -, -, hx4⟩)
          | (go_at_call 8; (with_reducible refine (samelinks_yes _ _ _ _ l _ (by exact hA4) (by exact h.ext (hx2.trans (hx3.trans hx4)))).mono ?_); rintro e w5 ⟨rfl, hx5⟩)
          | (go_at_call 7; (with_reducible refine (hP _ (HLW.out.ext (hx2.trans (hx3.trans (hx4.trans hx5))))).mono ?_); rintro e w6 ⟨P6, c6, rfl, hA6, -, -, hx6⟩)
          | (go_at_call 9; refine (hRP _).mono ?_; rintro e w7 ⟨P7, c7, rfl, hA7, -, -, hx7⟩)
          | (go_at_call 8; (with_reducible refine (samelinks_yes _ _ _ _ pl _ (by exact hA6.ext hx7) (by exact hA7)).mono ?_); rintro e w8 ⟨rfl, hx8⟩)
          | (go_at_call 4; refine (awake_any _).mono ?_; rintro e w9 ⟨rfl, hx9⟩))
        go_ret
        exact ⟨rfl, hx2.trans (hx3.trans (hx4.trans (hx5.trans (hx6.trans (hx7.trans (hx8.trans hx9))))))⟩
      | false =>
        have e0 : mkB (fmtC l) = ⟨#[]⟩ := by rw [fmtC_no (by rw [hok]; decide)]; rfl
        rw [e0] at hF hR
        clear e0 hok ok
        go_enter Tryz.func3, Tryz.ntmps3
        go_wp2_with (first
          | (go_at_call 5; refine (hF _ h HLW.out).mono ?_; rintro e w2 ⟨rfl, hx2⟩)
          | (go_at_call 6; refine (hR _ (by exact h.ext hx2)).mono ?_; rintro e w3 ⟨rfl, hx3⟩)
          | (go_at_call 7; refine (hP _ (HLW.out.ext (hx2.trans hx3))).mono ?_; rintro e w6 ⟨P6, c6, rfl, hA6, -, -, hx6⟩)
          | (go_at_call 9; refine (hRP _).mono ?_; rintro e w7 ⟨P7, c7, rfl, hA7, -, -, hx7⟩)
          | (go_at_call 8; refine (samelinks_yes _ _ _ _ pl _ (by exact hA6.ext hx7) (by exact hA7)).mono ?_; rintro e w8 ⟨rfl, hx8⟩)
          | (go_at_call 4; refine (awake_any _).mono ?_; rintro e w9 ⟨rfl, hx9⟩))
        go_ret
        exact ⟨rfl, hx2.trans (hx3.trans (hx6.trans (hx7.trans (hx8.trans hx9))))⟩
    · have ht' : (3000 : Int) < t.size := by omega
      go_enter Tryz.func3, Tryz.ntmps3
      go_wp2_with (go_at_call 4; refine (awake_any _).mono ?_; rintro e w2 ⟨rfl, hx2⟩)
      go_ret
      exact ⟨rfl, hx2⟩
  · have hl' : (120 : Int) < l.length := by omega
    go_enter Tryz.func3, Tryz.ntmps3
    go_wp2_with (go_at_call 4; refine (awake_any _).mono ?_; rintro e w2 ⟨rfl, hx2⟩)
    go_ret
    exact ⟨rfl, hx2⟩
end Go.Proofs.YtpobjheodlkkiaaGreatDoor
