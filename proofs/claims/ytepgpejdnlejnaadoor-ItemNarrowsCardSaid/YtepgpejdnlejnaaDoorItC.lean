/- Values and items: whether one is valid, of the program and of the reference. -/
import Derived.Test.YtepgpejdnlejnaaDoorItB
namespace Go.Proofs.YtepgpejdnlejnaaDoor
open Go.RowKit
set_option linter.unusedVariables false
set_option linter.unusedSimpArgs false
set_option linter.unusedSectionVars false
set_option maxRecDepth 20000
attribute [local go_sem] Oper.semAt_some

def withinB (n lo hi : Int) : Bool := decide (lo ≤ n ∧ n ≤ hi)
def valB (x : Vl) : Bool := if x.1 = 1 then withinB x.2.1 (-1000000000) 1000000000 && decide (x.2.2.size = 0) else decide (x.1 = 2 ∧ x.2.1 = 0 ∧ x.2.2.size ≤ 40)
def itemB (x : It) : Bool := nameF x.1 && (if x.2.1 = 1 then decide (x.2.2.1 ≤ x.2.2.2.1 ∧ -1000000000 ≤ x.2.2.1 ∧ x.2.2.2.1 ≤ 1000000000 ∧ x.2.2.2.2 = 0) else decide (x.2.1 = 2 ∧ 1 ≤ x.2.2.2.2 ∧ x.2.2.2.2 ≤ 40 ∧ x.2.2.1 = 0 ∧ x.2.2.2.1 = 0))
theorem empty_of {s : ByteArray} (h : s.size = 0) : s = ⟨#[]⟩ := by
  obtain ⟨d⟩ := s
  have h1 : d.size = 0 := h
  have := Array.eq_empty_of_size_eq_zero h1
  subst this
  rfl
theorem nonempty_of {s : ByteArray} (h : ¬ s.size = 0) : s.toList.isEmpty = false := by
  cases hl : s.toList with
  | nil => exact absurd ((toList_nil s).1 hl) h
  | cons a l => rfl
theorem within_any (n lo hi : Int) (w : World) : Calls Tryd.prog 54 #[.int .i64 n, .int .i64 lo, .int .i64 hi] w fun e w' => e = .returned (.bool (withinB n lo hi)) ∧ w = w' := by
  by_cases h1 : lo ≤ n
  · by_cases h2 : n ≤ hi
    · have hB : withinB n lo hi = true := decide_eq_true ⟨h1, h2⟩
      rw [hB]
      go_enter Tryd.func54, Tryd.ntmps54
      go_wp2
      go_ret
      exact ⟨rfl, rfl⟩
    · have hB : withinB n lo hi = false := decide_eq_false (by omega)
      have h3 : decide (n ≤ hi) = false := decide_eq_false h2
      rw [hB]
      clear hB
      go_enter Tryd.func54, Tryd.ntmps54
      go_wp2
      go_ret
      exact ⟨by first | rfl | (simp; omega), rfl⟩
  · have hB : withinB n lo hi = false := decide_eq_false (by omega)
    have h3 : decide (lo ≤ n) = false := decide_eq_false h1
    rw [hB]
    clear hB
    go_enter Tryd.func54, Tryd.ntmps54
    go_wp2
    go_ret
    exact ⟨by first | rfl | (simp; omega), rfl⟩
theorem rvalue_any (x : Vl) (w : World) : Calls Tryd.prog 13 #[x.v] w fun e w' => e = .returned (.bool (valB x)) ∧ Ext w w' := by
  obtain ⟨k, n, s⟩ := x
  show Calls _ _ #[.agg #[.int .i64 k, .int .i64 n, .string s]] _ _
  by_cases hk : k = 1
  · subst hk
    by_cases h1 : -1000000000 ≤ n
    · by_cases h2 : n ≤ 1000000000
      · by_cases hs : s.size = 0
        · have hB : valB (1, n, s) = true := by simp [valB, withinB, h1, h2, hs]
          obtain rfl := empty_of hs
          rw [hB]
          clear hB
          go_enter Tryd.func13, Tryd.ntmps13
          go_wp2
          go_ret
          exact ⟨by first | rfl | (simp; done) | (simp; omega), by (repeat (first | exact Ext.refl _ | assumption | refine Ext.drew ?_ | refine Ext.drewN ?_ _ | refine Ext.alloc ?_ _))⟩
        · have hB : valB (1, n, s) = false := by simp [valB, hs]
          have hne := nonempty_of hs
          rw [hB]
          clear hB
          go_enter Tryd.func13, Tryd.ntmps13
          go_wp2
          go_ret
          exact ⟨by first | rfl | (simp; done) | (simp; omega), by (repeat (first | exact Ext.refl _ | assumption | refine Ext.drew ?_ | refine Ext.drewN ?_ _ | refine Ext.alloc ?_ _))⟩
      · have hB : valB (1, n, s) = false := by simp [valB, withinB, h2]
        have h3 : decide (n ≤ 1000000000) = false := decide_eq_false h2
        rw [hB]
        clear hB h2
        go_enter Tryd.func13, Tryd.ntmps13
        go_wp2
        go_ret
        exact ⟨by first | rfl | (simp; done) | (simp; omega), by (repeat (first | exact Ext.refl _ | assumption | refine Ext.drew ?_ | refine Ext.drewN ?_ _ | refine Ext.alloc ?_ _))⟩
    · have hB : valB (1, n, s) = false := by simp [valB, withinB, h1]
      have h3 : decide (-1000000000 ≤ n) = false := decide_eq_false h1
      rw [hB]
      clear hB h1
      go_enter Tryd.func13, Tryd.ntmps13
      go_wp2
      go_ret
      exact ⟨by first | rfl | (simp; done) | (simp; omega), by (repeat (first | exact Ext.refl _ | assumption | refine Ext.drew ?_ | refine Ext.drewN ?_ _ | refine Ext.alloc ?_ _))⟩
  · have hk1 : (k == 1) = false := by simpa using hk
    by_cases h2 : k = 2
    · subst h2
      by_cases hn : n = 0
      · subst hn
        by_cases hs : s.size ≤ 40
        · have hB : valB (2, 0, s) = true := by simp [valB, hs]
          have hs' : (s.size : Int) ≤ 40 := by omega
          rw [hB]
          clear hB hk
          go_enter Tryd.func13, Tryd.ntmps13
          go_wp2
          go_ret
          exact ⟨by first | rfl | (simp; done) | (simp; omega), by (repeat (first | exact Ext.refl _ | assumption | refine Ext.drew ?_ | refine Ext.drewN ?_ _ | refine Ext.alloc ?_ _))⟩
        · have hB : valB (2, 0, s) = false := by simp [valB, hs]
          have hs' : decide ((s.size : Int) ≤ 40) = false := decide_eq_false (by omega)
          rw [hB]
          clear hB hk hs
          go_enter Tryd.func13, Tryd.ntmps13
          go_wp2
          go_ret
          exact ⟨by first | rfl | (simp; done) | (simp; omega), by (repeat (first | exact Ext.refl _ | assumption | refine Ext.drew ?_ | refine Ext.drewN ?_ _ | refine Ext.alloc ?_ _))⟩
      · have hB : valB (2, n, s) = false := by simp [valB, hn]
        have hn1 : (n == 0) = false := by simpa using hn
        rw [hB]
        clear hB hk hn
        go_enter Tryd.func13, Tryd.ntmps13
        go_wp2
        go_ret
        exact ⟨by first | rfl | (simp; done) | (simp; omega), by (repeat (first | exact Ext.refl _ | assumption | refine Ext.drew ?_ | refine Ext.drewN ?_ _ | refine Ext.alloc ?_ _))⟩
    · have hB : valB (k, n, s) = false := by simp [valB, hk, h2]
      have hk2 : (k == 2) = false := by simpa using h2
      rw [hB]
      clear hB hk h2
      go_enter Tryd.func13, Tryd.ntmps13
      go_wp2
      go_ret
      exact ⟨by first | rfl | (simp; done) | (simp; omega), by (repeat (first | exact Ext.refl _ | assumption | refine Ext.drew ?_ | refine Ext.drewN ?_ _ | refine Ext.alloc ?_ _))⟩
end Go.Proofs.YtepgpejdnlejnaaDoor
