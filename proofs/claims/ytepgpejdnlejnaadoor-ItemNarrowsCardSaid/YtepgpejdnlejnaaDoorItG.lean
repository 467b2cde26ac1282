/- Items: whether one is valid, of both. -/
import Derived.Test.YtepgpejdnlejnaaDoorItF
namespace Go.Proofs.YtepgpejdnlejnaaDoor
open Go.RowKit
set_option linter.unusedVariables false
set_option linter.unusedSimpArgs false
set_option linter.unusedSectionVars false
set_option maxRecDepth 20000
attribute [local go_sem] Oper.semAt_some

set_option maxHeartbeats 4000000 in
theorem ritem_any (x : It) (w : World) : Calls Tryd.prog 15 #[x.v] w fun e w' => e = .returned (.bool (itemB x)) ∧ Ext w w' := by
  obtain ⟨s, k, lo, hi, n⟩ := x
  show Calls _ _ #[.agg #[.string s, .int .i64 k, .int .i64 lo, .int .i64 hi, .int .i64 n]] _ _
  have hN := fun W => rname_any s W
  cases hs : nameF s with
  | false =>
    simp only [hs] at hN
    have hB : itemB (s, k, lo, hi, n) = false := by simp [itemB, hs, *] <;> omega
    rw [hB]
    clear hB 
    go_enter Tryd.func15, Tryd.ntmps15
    go_wp2_with (first | (go_at_call 17; refine (hN _).mono ?_; rintro e w1 ⟨rfl, rfl⟩))
    all_goals
      go_ret
      exact ⟨by first | rfl | (simp; done) | (simp; omega), by (repeat (first | exact Ext.refl _ | assumption | refine Ext.drew ?_ | refine Ext.drewN ?_ _ | refine Ext.alloc ?_ _))⟩
  | true =>
    simp only [hs] at hN
    by_cases hk : k = 1
    · subst hk
      by_cases q1 : n = 0
      · by_cases q2 : -1000000000 ≤ lo
        · by_cases q3 : lo ≤ hi
          · by_cases q4 : hi ≤ 1000000000
            · have hB : itemB (s, 1, lo, hi, n) = true := by simp [itemB, hs, *] <;> omega
              rw [hB]
              clear hB 
              go_enter Tryd.func15, Tryd.ntmps15
              go_wp2_with (first | (go_at_call 17; refine (hN _).mono ?_; rintro e w1 ⟨rfl, rfl⟩))
              all_goals
                go_ret
                exact ⟨by first | rfl | (simp; done) | (simp; omega), by (repeat (first | exact Ext.refl _ | assumption | refine Ext.drew ?_ | refine Ext.drewN ?_ _ | refine Ext.alloc ?_ _))⟩
            · have q4b : decide (hi ≤ 1000000000) = false := decide_eq_false q4
              have hB : itemB (s, 1, lo, hi, n) = false := by simp [itemB, hs, *] <;> omega
              rw [hB]
              clear hB q4
              go_enter Tryd.func15, Tryd.ntmps15
              go_wp2_with (first | (go_at_call 17; refine (hN _).mono ?_; rintro e w1 ⟨rfl, rfl⟩))
              all_goals
                go_ret
                exact ⟨by first | rfl | (simp; done) | (simp; omega), by (repeat (first | exact Ext.refl _ | assumption | refine Ext.drew ?_ | refine Ext.drewN ?_ _ | refine Ext.alloc ?_ _))⟩
          · have q3b : decide (lo ≤ hi) = false := decide_eq_false q3
            have hB : itemB (s, 1, lo, hi, n) = false := by simp [itemB, hs, *] <;> omega
            rw [hB]
            clear hB q3
            go_enter Tryd.func15, Tryd.ntmps15
            go_wp2_with (first | (go_at_call 17; refine (hN _).mono ?_; rintro e w1 ⟨rfl, rfl⟩))
            all_goals
              go_ret
              exact ⟨by first | rfl | (simp; done) | (simp; omega), by (repeat (first | exact Ext.refl _ | assumption | refine Ext.drew ?_ | refine Ext.drewN ?_ _ | refine Ext.alloc ?_ _))⟩
        · have q2b : decide (-1000000000 ≤ lo) = false := decide_eq_false q2
          have hB : itemB (s, 1, lo, hi, n) = false := by simp [itemB, hs, *] <;> omega
          rw [hB]
          clear hB q2
          go_enter Tryd.func15, Tryd.ntmps15
          go_wp2_with (first | (go_at_call 17; refine (hN _).mono ?_; rintro e w1 ⟨rfl, rfl⟩))
          all_goals
            go_ret
            exact ⟨by first | rfl | (simp; done) | (simp; omega), by (repeat (first | exact Ext.refl _ | assumption | refine Ext.drew ?_ | refine Ext.drewN ?_ _ | refine Ext.alloc ?_ _))⟩
      · have q1b : (n == 0) = false := by simpa using q1
        have hB : itemB (s, 1, lo, hi, n) = false := by simp [itemB, hs, *] <;> omega
        rw [hB]
        clear hB q1
        go_enter Tryd.func15, Tryd.ntmps15
        go_wp2_with (first | (go_at_call 17; refine (hN _).mono ?_; rintro e w1 ⟨rfl, rfl⟩))
        all_goals
          go_ret
          exact ⟨by first | rfl | (simp; done) | (simp; omega), by (repeat (first | exact Ext.refl _ | assumption | refine Ext.drew ?_ | refine Ext.drewN ?_ _ | refine Ext.alloc ?_ _))⟩
    · have hk1 : (k == 1) = false := by simpa using hk
      by_cases h2 : k = 2
      · subst h2
        by_cases q1 : lo = 0
        · by_cases q2 : hi = 0
          · by_cases q3 : 1 ≤ n
            · by_cases q4 : n ≤ 40
              · have hB : itemB (s, 2, lo, hi, n) = true := by simp [itemB, hs, *] <;> omega
                rw [hB]
                clear hB 
                go_enter Tryd.func15, Tryd.ntmps15
                go_wp2_with (first | (go_at_call 17; refine (hN _).mono ?_; rintro e w1 ⟨rfl, rfl⟩))
                all_goals
                  go_ret
                  exact ⟨by first | rfl | (simp; done) | (simp; omega), by (repeat (first | exact Ext.refl _ | assumption | refine Ext.drew ?_ | refine Ext.drewN ?_ _ | refine Ext.alloc ?_ _))⟩
              · have q4b : decide (n ≤ 40) = false := decide_eq_false q4
                have hB : itemB (s, 2, lo, hi, n) = false := by simp [itemB, hs, *] <;> omega
                rw [hB]
                clear hB q4
                go_enter Tryd.func15, Tryd.ntmps15
                go_wp2_with (first | (go_at_call 17; refine (hN _).mono ?_; rintro e w1 ⟨rfl, rfl⟩))
                all_goals
                  go_ret
                  exact ⟨by first | rfl | (simp; done) | (simp; omega), by (repeat (first | exact Ext.refl _ | assumption | refine Ext.drew ?_ | refine Ext.drewN ?_ _ | refine Ext.alloc ?_ _))⟩
            · have q3b : decide (1 ≤ n) = false := decide_eq_false q3
              have hB : itemB (s, 2, lo, hi, n) = false := by simp [itemB, hs, *] <;> omega
              rw [hB]
              clear hB q3
              go_enter Tryd.func15, Tryd.ntmps15
              go_wp2_with (first | (go_at_call 17; refine (hN _).mono ?_; rintro e w1 ⟨rfl, rfl⟩))
              all_goals
                go_ret
                exact ⟨by first | rfl | (simp; done) | (simp; omega), by (repeat (first | exact Ext.refl _ | assumption | refine Ext.drew ?_ | refine Ext.drewN ?_ _ | refine Ext.alloc ?_ _))⟩
          · have q2b : (hi == 0) = false := by simpa using q2
            have hB : itemB (s, 2, lo, hi, n) = false := by simp [itemB, hs, *] <;> omega
            rw [hB]
            clear hB q2
            go_enter Tryd.func15, Tryd.ntmps15
            go_wp2_with (first | (go_at_call 17; refine (hN _).mono ?_; rintro e w1 ⟨rfl, rfl⟩))
            all_goals
              go_ret
              exact ⟨by first | rfl | (simp; done) | (simp; omega), by (repeat (first | exact Ext.refl _ | assumption | refine Ext.drew ?_ | refine Ext.drewN ?_ _ | refine Ext.alloc ?_ _))⟩
        · have q1b : (lo == 0) = false := by simpa using q1
          have hB : itemB (s, 2, lo, hi, n) = false := by simp [itemB, hs, *] <;> omega
          rw [hB]
          clear hB q1
          go_enter Tryd.func15, Tryd.ntmps15
          go_wp2_with (first | (go_at_call 17; refine (hN _).mono ?_; rintro e w1 ⟨rfl, rfl⟩))
          all_goals
            go_ret
            exact ⟨by first | rfl | (simp; done) | (simp; omega), by (repeat (first | exact Ext.refl _ | assumption | refine Ext.drew ?_ | refine Ext.drewN ?_ _ | refine Ext.alloc ?_ _))⟩
      · have hk2 : (k == 2) = false := by simpa using h2
        have hB : itemB (s, k, lo, hi, n) = false := by simp [itemB, hs, *] <;> omega
        rw [hB]
        clear hB hk h2
        go_enter Tryd.func15, Tryd.ntmps15
        go_wp2_with (first | (go_at_call 17; refine (hN _).mono ?_; rintro e w1 ⟨rfl, rfl⟩))
        all_goals
          go_ret
          exact ⟨by first | rfl | (simp; done) | (simp; omega), by (repeat (first | exact Ext.refl _ | assumption | refine Ext.drew ?_ | refine Ext.drewN ?_ _ | refine Ext.alloc ?_ _))⟩
set_option maxHeartbeats 4000000 in
theorem item_any (x : It) (w : World) : Calls Tryd.prog 14 #[x.v] w fun e w' => e = .returned (.bool (itemB x)) ∧ Ext w w' := by
  obtain ⟨s, k, lo, hi, n⟩ := x
  show Calls _ _ #[.agg #[.string s, .int .i64 k, .int .i64 lo, .int .i64 hi, .int .i64 n]] _ _
  have hN := fun W => name_any s W
  cases hs : nameF s with
  | false =>
    simp only [hs] at hN
    have hB : itemB (s, k, lo, hi, n) = false := by simp [itemB, hs, *] <;> omega
    rw [hB]
    clear hB 
    go_enter Tryd.func14, Tryd.ntmps14
    go_wp2_with (first | (go_at_call 16; refine (hN _).mono ?_; rintro e w1 ⟨rfl, rfl⟩))
    all_goals
      go_ret
      exact ⟨by first | rfl | (simp; done) | (simp; omega), by (repeat (first | exact Ext.refl _ | assumption | refine Ext.drew ?_ | refine Ext.drewN ?_ _ | refine Ext.alloc ?_ _))⟩
  | true =>
    simp only [hs] at hN
    by_cases hk : k = 1
    · subst hk
      by_cases q1 : lo ≤ hi
      · by_cases q2 : -1000000000 ≤ lo
        · by_cases q3 : hi ≤ 1000000000
          · by_cases q4 : n = 0
            · have hB : itemB (s, 1, lo, hi, n) = true := by simp [itemB, hs, *] <;> omega
              rw [hB]
              clear hB 
              go_enter Tryd.func14, Tryd.ntmps14
              go_wp2_with (first | (go_at_call 16; refine (hN _).mono ?_; rintro e w1 ⟨rfl, rfl⟩))
              all_goals
                go_ret
                exact ⟨by first | rfl | (simp; done) | (simp; omega), by (repeat (first | exact Ext.refl _ | assumption | refine Ext.drew ?_ | refine Ext.drewN ?_ _ | refine Ext.alloc ?_ _))⟩
            · have q4b : (n == 0) = false := by simpa using q4
              have hB : itemB (s, 1, lo, hi, n) = false := by simp [itemB, hs, *] <;> omega
              rw [hB]
              clear hB q4
              go_enter Tryd.func14, Tryd.ntmps14
              go_wp2_with (first | (go_at_call 16; refine (hN _).mono ?_; rintro e w1 ⟨rfl, rfl⟩))
              all_goals
                go_ret
                exact ⟨by first | rfl | (simp; done) | (simp; omega), by (repeat (first | exact Ext.refl _ | assumption | refine Ext.drew ?_ | refine Ext.drewN ?_ _ | refine Ext.alloc ?_ _))⟩
          · have q3b : decide (hi ≤ 1000000000) = false := decide_eq_false q3
            have hB : itemB (s, 1, lo, hi, n) = false := by simp [itemB, hs, *] <;> omega
            rw [hB]
            clear hB q3
            go_enter Tryd.func14, Tryd.ntmps14
            go_wp2_with (first | (go_at_call 16; refine (hN _).mono ?_; rintro e w1 ⟨rfl, rfl⟩))
            all_goals
              go_ret
              exact ⟨by first | rfl | (simp; done) | (simp; omega), by (repeat (first | exact Ext.refl _ | assumption | refine Ext.drew ?_ | refine Ext.drewN ?_ _ | refine Ext.alloc ?_ _))⟩
        · have q2b : decide (-1000000000 ≤ lo) = false := decide_eq_false q2
          have hB : itemB (s, 1, lo, hi, n) = false := by simp [itemB, hs, *] <;> omega
          rw [hB]
          clear hB q2
          go_enter Tryd.func14, Tryd.ntmps14
          go_wp2_with (first | (go_at_call 16; refine (hN _).mono ?_; rintro e w1 ⟨rfl, rfl⟩))
          all_goals
            go_ret
            exact ⟨by first | rfl | (simp; done) | (simp; omega), by (repeat (first | exact Ext.refl _ | assumption | refine Ext.drew ?_ | refine Ext.drewN ?_ _ | refine Ext.alloc ?_ _))⟩
      · have q1b : decide (lo ≤ hi) = false := decide_eq_false q1
        have hB : itemB (s, 1, lo, hi, n) = false := by simp [itemB, hs, *] <;> omega
        rw [hB]
        clear hB q1
        go_enter Tryd.func14, Tryd.ntmps14
        go_wp2_with (first | (go_at_call 16; refine (hN _).mono ?_; rintro e w1 ⟨rfl, rfl⟩))
        all_goals
          go_ret
          exact ⟨by first | rfl | (simp; done) | (simp; omega), by (repeat (first | exact Ext.refl _ | assumption | refine Ext.drew ?_ | refine Ext.drewN ?_ _ | refine Ext.alloc ?_ _))⟩
    · have hk1 : (k == 1) = false := by simpa using hk
      by_cases h2 : k = 2
      · subst h2
        by_cases hw : 1 ≤ n ∧ n ≤ 40
        · have hwi : withinB n 1 40 = true := decide_eq_true hw
          obtain ⟨hw1, hw2⟩ := hw
          by_cases q1 : lo = 0
          · by_cases q2 : hi = 0
            · have hB : itemB (s, 2, lo, hi, n) = true := by simp [itemB, hs, *] <;> omega
              rw [hB]
              clear hB 
              go_enter Tryd.func14, Tryd.ntmps14
              go_wp2_with (first | (go_at_call 16; refine (hN _).mono ?_; rintro e w1 ⟨rfl, rfl⟩) | (go_at_call 54; refine (within_any _ _ _ _).mono ?_; rintro e w2 ⟨rfl, rfl⟩; rw [hwi]))
              all_goals
                go_ret
                exact ⟨by first | rfl | (simp; done) | (simp; omega), by (repeat (first | exact Ext.refl _ | assumption | refine Ext.drew ?_ | refine Ext.drewN ?_ _ | refine Ext.alloc ?_ _))⟩
            · have q2b : (hi == 0) = false := by simpa using q2
              have hB : itemB (s, 2, lo, hi, n) = false := by simp [itemB, hs, *] <;> omega
              rw [hB]
              clear hB q2
              go_enter Tryd.func14, Tryd.ntmps14
              go_wp2_with (first | (go_at_call 16; refine (hN _).mono ?_; rintro e w1 ⟨rfl, rfl⟩) | (go_at_call 54; refine (within_any _ _ _ _).mono ?_; rintro e w2 ⟨rfl, rfl⟩; rw [hwi]))
              all_goals
                go_ret
                exact ⟨by first | rfl | (simp; done) | (simp; omega), by (repeat (first | exact Ext.refl _ | assumption | refine Ext.drew ?_ | refine Ext.drewN ?_ _ | refine Ext.alloc ?_ _))⟩
          · have q1b : (lo == 0) = false := by simpa using q1
            have hB : itemB (s, 2, lo, hi, n) = false := by simp [itemB, hs, *] <;> omega
            rw [hB]
            clear hB q1
            go_enter Tryd.func14, Tryd.ntmps14
            go_wp2_with (first | (go_at_call 16; refine (hN _).mono ?_; rintro e w1 ⟨rfl, rfl⟩) | (go_at_call 54; refine (within_any _ _ _ _).mono ?_; rintro e w2 ⟨rfl, rfl⟩; rw [hwi]))
            all_goals
              go_ret
              exact ⟨by first | rfl | (simp; done) | (simp; omega), by (repeat (first | exact Ext.refl _ | assumption | refine Ext.drew ?_ | refine Ext.drewN ?_ _ | refine Ext.alloc ?_ _))⟩
        · have hwi : withinB n 1 40 = false := decide_eq_false hw
          have hB : itemB (s, 2, lo, hi, n) = false := by simp [itemB]; intros; omega
          rw [hB]
          clear hB hw
          go_enter Tryd.func14, Tryd.ntmps14
          go_wp2_with (first | (go_at_call 16; refine (hN _).mono ?_; rintro e w1 ⟨rfl, rfl⟩) | (go_at_call 54; refine (within_any _ _ _ _).mono ?_; rintro e w2 ⟨rfl, rfl⟩; rw [hwi]))
          all_goals
            go_ret
            exact ⟨by first | rfl | (simp; done) | (simp; omega), by (repeat (first | exact Ext.refl _ | assumption | refine Ext.drew ?_ | refine Ext.drewN ?_ _ | refine Ext.alloc ?_ _))⟩
      · have hk2 : (k == 2) = false := by simpa using h2
        have hB : itemB (s, k, lo, hi, n) = false := by simp [itemB, hs, *] <;> omega
        rw [hB]
        clear hB hk h2
        go_enter Tryd.func14, Tryd.ntmps14
        go_wp2_with (first | (go_at_call 16; refine (hN _).mono ?_; rintro e w1 ⟨rfl, rfl⟩))
        all_goals
          go_ret
          exact ⟨by first | rfl | (simp; done) | (simp; omega), by (repeat (first | exact Ext.refl _ | assumption | refine Ext.drew ?_ | refine Ext.drewN ?_ _ | refine Ext.alloc ?_ _))⟩
end Go.Proofs.YtepgpejdnlejnaaDoor
