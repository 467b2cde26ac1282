/- Values: whether one is valid, of the program. -/
import Derived.Test.YtepgpejdnlejnaaDoorItC
import Derived.Deep.RegionHeld3
import Derived.Laws.EntriesVeiled
namespace Go.Proofs.YtepgpejdnlejnaaDoor
open Go.RowKit
set_option linter.unusedVariables false
set_option linter.unusedSimpArgs false
set_option linter.unusedSectionVars false
set_option maxRecDepth 20000
attribute [local go_sem] Oper.semAt_some

def chkV : Value := .agg #[.func (.func 89) #[] #[], .func (.func 90) #[] #[], .func (.func 91) #[] #[]]
theorem checks_any (w : World) : Calls Tryd.prog 55 #[] w fun e w' => e = .returned chkV ∧ Ext w w' := by
  go_enter Tryd.func55, Tryd.ntmps55
  go_wp2
  refine bodyPost_ret (results_cell_row rfl _ _ w.heap.size 65 #[.func (.func 89) #[] #[], .func (.func 90) #[] #[], .func (.func 91) #[] #[]] (0, 0) (.array 3 27) rfl (by show (w.heap.push _)[w.heap.size]? = _; simp) (by kernel_rfl) rfl (by kernel_rfl)) rfl ?_
  exact ⟨rfl, by (repeat (first | exact Ext.refl _ | assumption | refine Ext.drew ?_ | refine Ext.drewN ?_ _ | refine Ext.alloc ?_ _))⟩
theorem chk1_any (x : Vl) (w : World) : Calls Tryd.prog 89 #[x.v] w fun e w' => e = .returned (.bool false) ∧ Ext w w' := by
  obtain ⟨k, n, s⟩ := x
  show Calls _ _ #[.agg #[.int .i64 k, .int .i64 n, .string s]] _ _
  go_enter Tryd.func89, Tryd.ntmps89
  go_wp2
  go_ret
  exact ⟨rfl, by (repeat (first | exact Ext.refl _ | assumption | refine Ext.drew ?_ | refine Ext.drewN ?_ _ | refine Ext.alloc ?_ _))⟩
theorem chk2_any (x : Vl) (w : World) : Calls Tryd.prog 90 #[x.v] w fun e w' => e = .returned (.bool (withinB x.2.1 (-1000000000) 1000000000 && decide (x.2.2.size = 0))) ∧ Ext w w' := by
  obtain ⟨k, n, s⟩ := x
  show Calls _ _ #[.agg #[.int .i64 k, .int .i64 n, .string s]] _ fun e w' => e = .returned (.bool (withinB n (-1000000000) 1000000000 && decide (s.size = 0))) ∧ Ext w w'
  by_cases hs : s.size = 0
  · rw [decide_eq_true hs, Bool.and_true]
    obtain rfl := empty_of hs
    clear hs
    go_enter Tryd.func90, Tryd.ntmps90
    go_wp2_with (go_at_call 54; refine (within_any _ _ _ _).mono ?_; rintro e w1 ⟨rfl, rfl⟩)
    go_ret
    exact ⟨rfl, by (repeat (first | exact Ext.refl _ | assumption | refine Ext.drew ?_ | refine Ext.drewN ?_ _ | refine Ext.alloc ?_ _))⟩
  · rw [decide_eq_false hs, Bool.and_false]
    have hne := nonempty_of hs
    clear hs
    go_enter Tryd.func90, Tryd.ntmps90
    go_wp2_with (go_at_call 54; refine (within_any _ _ _ _).mono ?_; rintro e w1 ⟨rfl, rfl⟩)
    go_ret
    exact ⟨rfl, by (repeat (first | exact Ext.refl _ | assumption | refine Ext.drew ?_ | refine Ext.drewN ?_ _ | refine Ext.alloc ?_ _))⟩
theorem chk3_any (x : Vl) (w : World) : Calls Tryd.prog 91 #[x.v] w fun e w' => e = .returned (.bool (decide (x.2.1 = 0 ∧ x.2.2.size ≤ 40))) ∧ Ext w w' := by
  obtain ⟨k, n, s⟩ := x
  show Calls _ _ #[.agg #[.int .i64 k, .int .i64 n, .string s]] _ fun e w' => e = .returned (.bool (decide (n = 0 ∧ s.size ≤ 40))) ∧ Ext w w'
  by_cases hn : n = 0
  · subst hn
    by_cases hs : s.size ≤ 40
    · have hs' : (s.size : Int) ≤ 40 := by omega
      rw [decide_eq_true ⟨rfl, hs⟩]
      go_enter Tryd.func91, Tryd.ntmps91
      go_wp2
      go_ret
      exact ⟨by first | rfl | (simp; done) | (simp; omega), by (repeat (first | exact Ext.refl _ | assumption | refine Ext.drew ?_ | refine Ext.drewN ?_ _ | refine Ext.alloc ?_ _))⟩
    · have hs' : decide ((s.size : Int) ≤ 40) = false := decide_eq_false (by omega)
      rw [decide_eq_false (fun h => hs h.2)]
      clear hs
      go_enter Tryd.func91, Tryd.ntmps91
      go_wp2
      go_ret
      exact ⟨by first | rfl | (simp; done) | (simp; omega), by (repeat (first | exact Ext.refl _ | assumption | refine Ext.drew ?_ | refine Ext.drewN ?_ _ | refine Ext.alloc ?_ _))⟩
  · have hn1 : (n == 0) = false := by simpa using hn
    rw [decide_eq_false (fun h => hn h.1)]
    clear hn
    go_enter Tryd.func91, Tryd.ntmps91
    go_wp2
    go_ret
    exact ⟨by first | rfl | (simp; done) | (simp; omega), by (repeat (first | exact Ext.refl _ | assumption | refine Ext.drew ?_ | refine Ext.drewN ?_ _ | refine Ext.alloc ?_ _))⟩
end Go.Proofs.YtepgpejdnlejnaaDoor
