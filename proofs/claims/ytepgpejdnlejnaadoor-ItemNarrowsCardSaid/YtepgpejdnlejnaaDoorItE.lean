/- Values: whether one is valid, of the program: the whole. -/
import Derived.Test.YtepgpejdnlejnaaDoorItD
namespace Go.Proofs.YtepgpejdnlejnaaDoor
open Go.RowKit
set_option linter.unusedVariables false
set_option linter.unusedSimpArgs false
set_option linter.unusedSectionVars false
set_option maxRecDepth 20000
attribute [local go_sem] Oper.semAt_some

set_option maxHeartbeats 2000000 in
theorem value0 (n : Int) (s : ByteArray) (w : World) : Calls Tryd.prog 12 #[.agg #[.int .i64 0, .int .i64 n, .string s]] w fun e w' => e = .returned (.bool (valB (0, n, s))) ∧ Ext w w' := by
  have hwi : withinB 0 0 2 = true := rfl
  obtain ⟨r, hr⟩ : ∃ r, valB (0, n, s) = r := ⟨_, rfl⟩
  have hC := fun W => chk1_any (0, n, s) W
  rw [show (false : Bool) = r from by rw [← hr]; simp [valB]] at hC
  rw [hr]
  clear hr
  unfold Vl.v at hC
  have hix : ∀ w, (Instr.index 65 (.agg #[.func (.func 89) #[] #[], .func (.func 90) #[] #[], .func (.func 91) #[] #[]]) (.int .i64 0)).run Tryd.prog w = .ok (.func (.func 89) #[] #[]) w := fun w => by kernel_rfl
  go_enter Tryd.func12, Tryd.ntmps12
  go_wp2
  obtain ⟨w1, hw1⟩ : ∃ w1, w.alloc (.cells #[.int .i64 0, .int .i64 n, .string s] 29) = w1 := ⟨_, rfl⟩
  obtain ⟨B, hB⟩ : ∃ B, w.heap.size = B := ⟨_, rfl⟩
  rw [hw1, hB]
  have x1 : Ext w w1 := by rw [← hw1]; exact (Ext.refl w).alloc _
  have hob : w1.heap[B]? = some (.cells #[.int .i64 0, .int .i64 n, .string s] 29 (0, 0)) := by
    rw [← hw1, ← hB]
    show (w.heap.push _)[w.heap.size]? = _
    simp
  have c0 : w1.cell? ⟨B, 0, none⟩ = some (.int .i64 0) := by simp [World.cell?, hob]
  have c1 : w1.cell? ⟨B, 1, none⟩ = some (.int .i64 n) := by simp [World.cell?, hob]
  have c2 : w1.cell? ⟨B, 2, none⟩ = some (.string s) := by simp [World.cell?, hob]
  clear hw1 hob hB
  go_region_held3 (fun w' => w'.cell? ⟨B, 0, none⟩ = some (.int .i64 0) ∧ w'.cell? ⟨B, 1, none⟩ = some (.int .i64 n) ∧ w'.cell? ⟨B, 2, none⟩ = some (.string s)) (first | go_keep | ((try dsimp only); (repeat' apply And.intro); all_goals first | go_keep | (refine Ext.cell ?_ c0; (repeat (first | exact Ext.refl _ | assumption | refine Ext.drew ?_ | refine Ext.drewN ?_ _ | refine Ext.alloc ?_ _ | refine Ext.trans ?_ x4 | refine Ext.trans ?_ x3)); done) | (refine Ext.cell ?_ c1; (repeat (first | exact Ext.refl _ | assumption | refine Ext.drew ?_ | refine Ext.drewN ?_ _ | refine Ext.alloc ?_ _ | refine Ext.trans ?_ x4 | refine Ext.trans ?_ x3)); done) | (refine Ext.cell ?_ c2; (repeat (first | exact Ext.refl _ | assumption | refine Ext.drew ?_ | refine Ext.drewN ?_ _ | refine Ext.alloc ?_ _ | refine Ext.trans ?_ x4 | refine Ext.trans ?_ x3)); done)))
      (first
        | (go_at_call 54; refine (within_any _ _ _ _).mono ?_; rintro e w2 ⟨rfl, rfl⟩; rw [hwi])
        | (go_at_call 55; refine (checks_any _).mono ?_; rintro e w3 ⟨rfl, x3⟩; unfold chkV)
        | (go_at_call 89; refine (hC _).mono ?_; rintro e w4 ⟨rfl, x4⟩)
        | fail)
  
  all_goals
    go_wp2
    go_ret
    exact ⟨rfl, by (repeat (first | exact Ext.refl _ | assumption | refine Ext.drew ?_ | refine Ext.drewN ?_ _ | refine Ext.alloc ?_ _ | refine Ext.trans ?_ x4 | refine Ext.trans ?_ x3))⟩
set_option maxHeartbeats 2000000 in
theorem value1 (n : Int) (s : ByteArray) (w : World) : Calls Tryd.prog 12 #[.agg #[.int .i64 1, .int .i64 n, .string s]] w fun e w' => e = .returned (.bool (valB (1, n, s))) ∧ Ext w w' := by
  have hwi : withinB 1 0 2 = true := rfl
  obtain ⟨r, hr⟩ : ∃ r, valB (1, n, s) = r := ⟨_, rfl⟩
  have hC := fun W => chk2_any (1, n, s) W
  rw [show (withinB ((1, n, s) : Vl).2.1 (-1000000000) 1000000000 && decide (((1, n, s) : Vl).2.2.size = 0)) = r from by rw [← hr]; simp [valB]] at hC
  rw [hr]
  clear hr
  unfold Vl.v at hC
  have hix : ∀ w, (Instr.index 65 (.agg #[.func (.func 89) #[] #[], .func (.func 90) #[] #[], .func (.func 91) #[] #[]]) (.int .i64 1)).run Tryd.prog w = .ok (.func (.func 90) #[] #[]) w := fun w => by kernel_rfl
  go_enter Tryd.func12, Tryd.ntmps12
  go_wp2
  obtain ⟨w1, hw1⟩ : ∃ w1, w.alloc (.cells #[.int .i64 1, .int .i64 n, .string s] 29) = w1 := ⟨_, rfl⟩
  obtain ⟨B, hB⟩ : ∃ B, w.heap.size = B := ⟨_, rfl⟩
  rw [hw1, hB]
  have x1 : Ext w w1 := by rw [← hw1]; exact (Ext.refl w).alloc _
  have hob : w1.heap[B]? = some (.cells #[.int .i64 1, .int .i64 n, .string s] 29 (0, 0)) := by
    rw [← hw1, ← hB]
    show (w.heap.push _)[w.heap.size]? = _
    simp
  have c0 : w1.cell? ⟨B, 0, none⟩ = some (.int .i64 1) := by simp [World.cell?, hob]
  have c1 : w1.cell? ⟨B, 1, none⟩ = some (.int .i64 n) := by simp [World.cell?, hob]
  have c2 : w1.cell? ⟨B, 2, none⟩ = some (.string s) := by simp [World.cell?, hob]
  clear hw1 hob hB
  go_region_held3 (fun w' => w'.cell? ⟨B, 0, none⟩ = some (.int .i64 1) ∧ w'.cell? ⟨B, 1, none⟩ = some (.int .i64 n) ∧ w'.cell? ⟨B, 2, none⟩ = some (.string s)) (first | go_keep | ((try dsimp only); (repeat' apply And.intro); all_goals first | go_keep | (refine Ext.cell ?_ c0; (repeat (first | exact Ext.refl _ | assumption | refine Ext.drew ?_ | refine Ext.drewN ?_ _ | refine Ext.alloc ?_ _ | refine Ext.trans ?_ x4 | refine Ext.trans ?_ x3)); done) | (refine Ext.cell ?_ c1; (repeat (first | exact Ext.refl _ | assumption | refine Ext.drew ?_ | refine Ext.drewN ?_ _ | refine Ext.alloc ?_ _ | refine Ext.trans ?_ x4 | refine Ext.trans ?_ x3)); done) | (refine Ext.cell ?_ c2; (repeat (first | exact Ext.refl _ | assumption | refine Ext.drew ?_ | refine Ext.drewN ?_ _ | refine Ext.alloc ?_ _ | refine Ext.trans ?_ x4 | refine Ext.trans ?_ x3)); done)))
      (first
        | (go_at_call 54; refine (within_any _ _ _ _).mono ?_; rintro e w2 ⟨rfl, rfl⟩; rw [hwi])
        | (go_at_call 55; refine (checks_any _).mono ?_; rintro e w3 ⟨rfl, x3⟩; unfold chkV)
        | (go_at_call 90; refine (hC _).mono ?_; rintro e w4 ⟨rfl, x4⟩)
        | fail)
  
  all_goals
    go_wp2
    go_ret
    exact ⟨rfl, by (repeat (first | exact Ext.refl _ | assumption | refine Ext.drew ?_ | refine Ext.drewN ?_ _ | refine Ext.alloc ?_ _ | refine Ext.trans ?_ x4 | refine Ext.trans ?_ x3))⟩
set_option maxHeartbeats 2000000 in
theorem value2 (n : Int) (s : ByteArray) (w : World) : Calls Tryd.prog 12 #[.agg #[.int .i64 2, .int .i64 n, .string s]] w fun e w' => e = .returned (.bool (valB (2, n, s))) ∧ Ext w w' := by
  have hwi : withinB 2 0 2 = true := rfl
  obtain ⟨r, hr⟩ : ∃ r, valB (2, n, s) = r := ⟨_, rfl⟩
  have hC := fun W => chk3_any (2, n, s) W
  rw [show decide (((2, n, s) : Vl).2.1 = 0 ∧ ((2, n, s) : Vl).2.2.size ≤ 40) = r from by rw [← hr]; simp [valB]] at hC
  rw [hr]
  clear hr
  unfold Vl.v at hC
  have hix : ∀ w, (Instr.index 65 (.agg #[.func (.func 89) #[] #[], .func (.func 90) #[] #[], .func (.func 91) #[] #[]]) (.int .i64 2)).run Tryd.prog w = .ok (.func (.func 91) #[] #[]) w := fun w => by kernel_rfl
  go_enter Tryd.func12, Tryd.ntmps12
  go_wp2
  obtain ⟨w1, hw1⟩ : ∃ w1, w.alloc (.cells #[.int .i64 2, .int .i64 n, .string s] 29) = w1 := ⟨_, rfl⟩
  obtain ⟨B, hB⟩ : ∃ B, w.heap.size = B := ⟨_, rfl⟩
  rw [hw1, hB]
  have x1 : Ext w w1 := by rw [← hw1]; exact (Ext.refl w).alloc _
  have hob : w1.heap[B]? = some (.cells #[.int .i64 2, .int .i64 n, .string s] 29 (0, 0)) := by
    rw [← hw1, ← hB]
    show (w.heap.push _)[w.heap.size]? = _
    simp
  have c0 : w1.cell? ⟨B, 0, none⟩ = some (.int .i64 2) := by simp [World.cell?, hob]
  have c1 : w1.cell? ⟨B, 1, none⟩ = some (.int .i64 n) := by simp [World.cell?, hob]
  have c2 : w1.cell? ⟨B, 2, none⟩ = some (.string s) := by simp [World.cell?, hob]
  clear hw1 hob hB
  go_region_held3 (fun w' => w'.cell? ⟨B, 0, none⟩ = some (.int .i64 2) ∧ w'.cell? ⟨B, 1, none⟩ = some (.int .i64 n) ∧ w'.cell? ⟨B, 2, none⟩ = some (.string s)) (first | go_keep | ((try dsimp only); (repeat' apply And.intro); all_goals first | go_keep | (refine Ext.cell ?_ c0; (repeat (first | exact Ext.refl _ | assumption | refine Ext.drew ?_ | refine Ext.drewN ?_ _ | refine Ext.alloc ?_ _ | refine Ext.trans ?_ x4 | refine Ext.trans ?_ x3)); done) | (refine Ext.cell ?_ c1; (repeat (first | exact Ext.refl _ | assumption | refine Ext.drew ?_ | refine Ext.drewN ?_ _ | refine Ext.alloc ?_ _ | refine Ext.trans ?_ x4 | refine Ext.trans ?_ x3)); done) | (refine Ext.cell ?_ c2; (repeat (first | exact Ext.refl _ | assumption | refine Ext.drew ?_ | refine Ext.drewN ?_ _ | refine Ext.alloc ?_ _ | refine Ext.trans ?_ x4 | refine Ext.trans ?_ x3)); done)))
      (first
        | (go_at_call 54; refine (within_any _ _ _ _).mono ?_; rintro e w2 ⟨rfl, rfl⟩; rw [hwi])
        | (go_at_call 55; refine (checks_any _).mono ?_; rintro e w3 ⟨rfl, x3⟩; unfold chkV)
        | (go_at_call 91; refine (hC _).mono ?_; rintro e w4 ⟨rfl, x4⟩)
        | fail)
  
  all_goals
    go_wp2
    go_ret
    exact ⟨rfl, by (repeat (first | exact Ext.refl _ | assumption | refine Ext.drew ?_ | refine Ext.drewN ?_ _ | refine Ext.alloc ?_ _ | refine Ext.trans ?_ x4 | refine Ext.trans ?_ x3))⟩
set_option maxHeartbeats 2000000 in
theorem valueN (k n : Int) (s : ByteArray) (w : World) (hwi : withinB k 0 2 = false) : Calls Tryd.prog 12 #[.agg #[.int .i64 k, .int .i64 n, .string s]] w fun e w' => e = .returned (.bool (valB (k, n, s))) ∧ Ext w w' := by
  have hv : valB (k, n, s) = false := by
    have h1 : ¬ (0 ≤ k ∧ k ≤ 2) := of_decide_eq_false hwi
    unfold valB
    rw [if_neg (by show ¬ k = 1; omega)]
    exact decide_eq_false (by show ¬ (k = 2 ∧ _); omega)
  rw [hv]
  clear hv
  go_enter Tryd.func12, Tryd.ntmps12
  go_wp2
  obtain ⟨w1, hw1⟩ : ∃ w1, w.alloc (.cells #[.int .i64 k, .int .i64 n, .string s] 29) = w1 := ⟨_, rfl⟩
  obtain ⟨B, hB⟩ : ∃ B, w.heap.size = B := ⟨_, rfl⟩
  rw [hw1, hB]
  have x1 : Ext w w1 := by rw [← hw1]; exact (Ext.refl w).alloc _
  have hob : w1.heap[B]? = some (.cells #[.int .i64 k, .int .i64 n, .string s] 29 (0, 0)) := by
    rw [← hw1, ← hB]
    show (w.heap.push _)[w.heap.size]? = _
    simp
  have c0 : w1.cell? ⟨B, 0, none⟩ = some (.int .i64 k) := by simp [World.cell?, hob]
  have c1 : w1.cell? ⟨B, 1, none⟩ = some (.int .i64 n) := by simp [World.cell?, hob]
  have c2 : w1.cell? ⟨B, 2, none⟩ = some (.string s) := by simp [World.cell?, hob]
  clear hw1 hob hB
  have hW := fun W => within_any k 0 2 W
  simp only [hwi] at hW
  go_quiet ((go_at_call 54; first | exact quiet_left (hW _) | exact quiet_add_left (hW _)))
  go_wp2
  go_ret
  exact ⟨rfl, by (repeat (first | exact Ext.refl _ | assumption | refine Ext.drew ?_ | refine Ext.drewN ?_ _ | refine Ext.alloc ?_ _))⟩
theorem value_any (x : Vl) (w : World) : Calls Tryd.prog 12 #[x.v] w fun e w' => e = .returned (.bool (valB x)) ∧ Ext w w' := by
  obtain ⟨k, n, s⟩ := x
  by_cases h0 : k = 0
  · subst h0; exact value0 n s w
  · by_cases h1 : k = 1
    · subst h1; exact value1 n s w
    · by_cases h2 : k = 2
      · subst h2; exact value2 n s w
      · exact valueN k n s w (decide_eq_false (by omega))
end Go.Proofs.YtepgpejdnlejnaaDoor
