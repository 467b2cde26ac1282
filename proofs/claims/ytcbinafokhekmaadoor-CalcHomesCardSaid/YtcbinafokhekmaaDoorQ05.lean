/- ItE; ItF; ItG; ItH; ItI; ItV; ItPA0; OwnG (merged by group.py) -/
import Derived.Test.YtcbinafokhekmaaDoorQ04
import Derived.Lib.ItoaLen
import Derived.Lib.AppendZeros
namespace Go.Proofs.YtcbinafokhekmaaDoor
section
open Go.RowKit
set_option linter.unusedVariables false
set_option maxRecDepth 20000
set_option linter.unusedSimpArgs false
set_option linter.unusedSectionVars false
set_option maxRecDepth 20000
attribute [local go_sem] Oper.semAt_some

set_option maxHeartbeats 2000000 in
theorem value0 (n : Int) (s : ByteArray) (w : World) : Calls Tryd.prog 45 #[.agg #[.int .i64 0, .int .i64 n, .string s]] w fun e w' => e = .returned (.bool (valB (0, n, s))) ∧ Ext w w' := by
  have hwi : withinB 0 0 2 = true := rfl
  obtain ⟨r, hr⟩ : ∃ r, valB (0, n, s) = r := ⟨_, rfl⟩
  have hC := fun W => chk1_any (0, n, s) W
  rw [show (false : Bool) = r from by rw [← hr]; simp [valB]] at hC
  rw [hr]
  clear hr
  unfold Vl.v at hC
  have hix : ∀ w, (Instr.index 98 (.agg #[.func (.func 76) #[] #[], .func (.func 77) #[] #[], .func (.func 78) #[] #[]]) (.int .i64 0)).run Tryd.prog w = .ok (.func (.func 76) #[] #[]) w := fun w => by kernel_rfl
  go_enter Tryd.func45, Tryd.ntmps45
  go_wp2
  obtain ⟨w1, hw1⟩ : ∃ w1, w.alloc (.cells #[.int .i64 0, .int .i64 n, .string s] 50) = w1 := ⟨_, rfl⟩
  obtain ⟨B, hB⟩ : ∃ B, w.heap.size = B := ⟨_, rfl⟩
  rw [hw1, hB]
  have x1 : Ext w w1 := by rw [← hw1]; exact (Ext.refl w).alloc _
  have hob : w1.heap[B]? = some (.cells #[.int .i64 0, .int .i64 n, .string s] 50 (0, 0)) := by
    rw [← hw1, ← hB]
    show (w.heap.push _)[w.heap.size]? = _
    simp
  have c0 : w1.cell? ⟨B, 0, none⟩ = some (.int .i64 0) := by simp [World.cell?, hob]
  have c1 : w1.cell? ⟨B, 1, none⟩ = some (.int .i64 n) := by simp [World.cell?, hob]
  have c2 : w1.cell? ⟨B, 2, none⟩ = some (.string s) := by simp [World.cell?, hob]
  clear hw1 hob hB
  go_region_held3 (fun w' => w'.cell? ⟨B, 0, none⟩ = some (.int .i64 0) ∧ w'.cell? ⟨B, 1, none⟩ = some (.int .i64 n) ∧ w'.cell? ⟨B, 2, none⟩ = some (.string s)) (first | go_keep | ((try dsimp only); (repeat' apply And.intro); all_goals first | go_keep | (refine Ext.cell ?_ c0; (repeat (first | exact Ext.refl _ | assumption | refine Ext.drew ?_ | refine Ext.drewN ?_ _ | refine Ext.alloc ?_ _ | refine Ext.trans ?_ x4 | refine Ext.trans ?_ x3)); done) | (refine Ext.cell ?_ c1; (repeat (first | exact Ext.refl _ | assumption | refine Ext.drew ?_ | refine Ext.drewN ?_ _ | refine Ext.alloc ?_ _ | refine Ext.trans ?_ x4 | refine Ext.trans ?_ x3)); done) | (refine Ext.cell ?_ c2; (repeat (first | exact Ext.refl _ | assumption | refine Ext.drew ?_ | refine Ext.drewN ?_ _ | refine Ext.alloc ?_ _ | refine Ext.trans ?_ x4 | refine Ext.trans ?_ x3)); done)))
      (first
        | (go_at_call 63; refine (within_any _ _ _ _).mono ?_; rintro e w2 ⟨rfl, rfl⟩; rw [hwi])
        | (go_at_call 64; refine (checks_any _).mono ?_; rintro e w3 ⟨rfl, x3⟩; unfold chkV)
        | (go_at_call 76; refine (hC _).mono ?_; rintro e w4 ⟨rfl, x4⟩)
        | fail)
  
  all_goals
    go_wp2
    go_ret
    exact ⟨rfl, by (repeat (first | exact Ext.refl _ | assumption | refine Ext.drew ?_ | refine Ext.drewN ?_ _ | refine Ext.alloc ?_ _ | refine Ext.trans ?_ x4 | refine Ext.trans ?_ x3))⟩
set_option maxHeartbeats 2000000 in
theorem value1 (n : Int) (s : ByteArray) (w : World) : Calls Tryd.prog 45 #[.agg #[.int .i64 1, .int .i64 n, .string s]] w fun e w' => e = .returned (.bool (valB (1, n, s))) ∧ Ext w w' := by
  have hwi : withinB 1 0 2 = true := rfl
  obtain ⟨r, hr⟩ : ∃ r, valB (1, n, s) = r := ⟨_, rfl⟩
  have hC := fun W => chk2_any (1, n, s) W
  rw [show (withinB ((1, n, s) : Vl).2.1 (-1000000000) 1000000000 && decide (((1, n, s) : Vl).2.2.size = 0)) = r from by rw [← hr]; simp [valB]] at hC
  rw [hr]
  clear hr
  unfold Vl.v at hC
  have hix : ∀ w, (Instr.index 98 (.agg #[.func (.func 76) #[] #[], .func (.func 77) #[] #[], .func (.func 78) #[] #[]]) (.int .i64 1)).run Tryd.prog w = .ok (.func (.func 77) #[] #[]) w := fun w => by kernel_rfl
  go_enter Tryd.func45, Tryd.ntmps45
  go_wp2
  obtain ⟨w1, hw1⟩ : ∃ w1, w.alloc (.cells #[.int .i64 1, .int .i64 n, .string s] 50) = w1 := ⟨_, rfl⟩
  obtain ⟨B, hB⟩ : ∃ B, w.heap.size = B := ⟨_, rfl⟩
  rw [hw1, hB]
  have x1 : Ext w w1 := by rw [← hw1]; exact (Ext.refl w).alloc _
  have hob : w1.heap[B]? = some (.cells #[.int .i64 1, .int .i64 n, .string s] 50 (0, 0)) := by
    rw [← hw1, ← hB]
    show (w.heap.push _)[w.heap.size]? = _
    simp
  have c0 : w1.cell? ⟨B, 0, none⟩ = some (.int .i64 1) := by simp [World.cell?, hob]
  have c1 : w1.cell? ⟨B, 1, none⟩ = some (.int .i64 n) := by simp [World.cell?, hob]
  have c2 : w1.cell? ⟨B, 2, none⟩ = some (.string s) := by simp [World.cell?, hob]
  clear hw1 hob hB
  go_region_held3 (fun w' => w'.cell? ⟨B, 0, none⟩ = some (.int .i64 1) ∧ w'.cell? ⟨B, 1, none⟩ = some (.int .i64 n) ∧ w'.cell? ⟨B, 2, none⟩ = some (.string s)) (first | go_keep | ((try dsimp only); (repeat' apply And.intro); all_goals first | go_keep | (refine Ext.cell ?_ c0; (repeat (first | exact Ext.refl _ | assumption | refine Ext.drew ?_ | refine Ext.drewN ?_ _ | refine Ext.alloc ?_ _ | refine Ext.trans ?_ x4 | refine Ext.trans ?_ x3)); done) | (refine Ext.cell ?_ c1; (repeat (first | exact Ext.refl _ | assumption | refine Ext.drew ?_ | refine Ext.drewN ?_ _ | refine Ext.alloc ?_ _ | refine Ext.trans ?_ x4 | refine Ext.trans ?_ x3)); done) | (refine Ext.cell ?_ c2; (repeat (first | exact Ext.refl _ | assumption | refine Ext.drew ?_ | refine Ext.drewN ?_ _ | refine Ext.alloc ?_ _ | refine Ext.trans ?_ x4 | refine Ext.trans ?_ x3)); done)))
      (first
        | (go_at_call 63; refine (within_any _ _ _ _).mono ?_; rintro e w2 ⟨rfl, rfl⟩; rw [hwi])
        | (go_at_call 64; refine (checks_any _).mono ?_; rintro e w3 ⟨rfl, x3⟩; unfold chkV)
        | (go_at_call 77; refine (hC _).mono ?_; rintro e w4 ⟨rfl, x4⟩)
        | fail)
  
  all_goals
    go_wp2
    go_ret
    exact ⟨rfl, by (repeat (first | exact Ext.refl _ | assumption | refine Ext.drew ?_ | refine Ext.drewN ?_ _ | refine Ext.alloc ?_ _ | refine Ext.trans ?_ x4 | refine Ext.trans ?_ x3))⟩
set_option maxHeartbeats 2000000 in
theorem value2 (n : Int) (s : ByteArray) (w : World) : Calls Tryd.prog 45 #[.agg #[.int .i64 2, .int .i64 n, .string s]] w fun e w' => e = .returned (.bool (valB (2, n, s))) ∧ Ext w w' := by
  have hwi : withinB 2 0 2 = true := rfl
  obtain ⟨r, hr⟩ : ∃ r, valB (2, n, s) = r := ⟨_, rfl⟩
  have hC := fun W => chk3_any (2, n, s) W
  rw [show decide (((2, n, s) : Vl).2.1 = 0 ∧ ((2, n, s) : Vl).2.2.size ≤ 40) = r from by rw [← hr]; simp [valB]] at hC
  rw [hr]
  clear hr
  unfold Vl.v at hC
  have hix : ∀ w, (Instr.index 98 (.agg #[.func (.func 76) #[] #[], .func (.func 77) #[] #[], .func (.func 78) #[] #[]]) (.int .i64 2)).run Tryd.prog w = .ok (.func (.func 78) #[] #[]) w := fun w => by kernel_rfl
  go_enter Tryd.func45, Tryd.ntmps45
  go_wp2
  obtain ⟨w1, hw1⟩ : ∃ w1, w.alloc (.cells #[.int .i64 2, .int .i64 n, .string s] 50) = w1 := ⟨_, rfl⟩
  obtain ⟨B, hB⟩ : ∃ B, w.heap.size = B := ⟨_, rfl⟩
  rw [hw1, hB]
  have x1 : Ext w w1 := by rw [← hw1]; exact (Ext.refl w).alloc _
  have hob : w1.heap[B]? = some (.cells #[.int .i64 2, .int .i64 n, .string s] 50 (0, 0)) := by
    rw [← hw1, ← hB]
    show (w.heap.push _)[w.heap.size]? = _
    simp
  have c0 : w1.cell? ⟨B, 0, none⟩ = some (.int .i64 2) := by simp [World.cell?, hob]
  have c1 : w1.cell? ⟨B, 1, none⟩ = some (.int .i64 n) := by simp [World.cell?, hob]
  have c2 : w1.cell? ⟨B, 2, none⟩ = some (.string s) := by simp [World.cell?, hob]
  clear hw1 hob hB
  go_region_held3 (fun w' => w'.cell? ⟨B, 0, none⟩ = some (.int .i64 2) ∧ w'.cell? ⟨B, 1, none⟩ = some (.int .i64 n) ∧ w'.cell? ⟨B, 2, none⟩ = some (.string s)) (first | go_keep | ((try dsimp only); (repeat' apply And.intro); all_goals first | go_keep | (refine Ext.cell ?_ c0; (repeat (first | exact Ext.refl _ | assumption | refine Ext.drew ?_ | refine Ext.drewN ?_ _ | refine Ext.alloc ?_ _ | refine Ext.trans ?_ x4 | refine Ext.trans ?_ x3)); done) | (refine Ext.cell ?_ c1; (repeat (first | exact Ext.refl _ | assumption | refine Ext.drew ?_ | refine Ext.drewN ?_ _ | refine Ext.alloc ?_ _ | refine Ext.trans ?_ x4 | refine Ext.trans ?_ x3)); done) | (refine Ext.cell ?_ c2; (repeat (first | exact Ext.refl _ | assumption | refine Ext.drew ?_ | refine Ext.drewN ?_ _ | refine Ext.alloc ?_ _ | refine Ext.trans ?_ x4 | refine Ext.trans ?_ x3)); done)))
      (first
        | (go_at_call 63; refine (within_any _ _ _ _).mono ?_; rintro e w2 ⟨rfl, rfl⟩; rw [hwi])
        | (go_at_call 64; refine (checks_any _).mono ?_; rintro e w3 ⟨rfl, x3⟩; unfold chkV)
        | (go_at_call 78; refine (hC _).mono ?_; rintro e w4 ⟨rfl, x4⟩)
        | fail)
  
  all_goals
    go_wp2
    go_ret
    exact ⟨rfl, by (repeat (first | exact Ext.refl _ | assumption | refine Ext.drew ?_ | refine Ext.drewN ?_ _ | refine Ext.alloc ?_ _ | refine Ext.trans ?_ x4 | refine Ext.trans ?_ x3))⟩
set_option maxHeartbeats 2000000 in
theorem valueN (k n : Int) (s : ByteArray) (w : World) (hwi : withinB k 0 2 = false) : Calls Tryd.prog 45 #[.agg #[.int .i64 k, .int .i64 n, .string s]] w fun e w' => e = .returned (.bool (valB (k, n, s))) ∧ Ext w w' := by
  have hv : valB (k, n, s) = false := by
    have h1 : ¬ (0 ≤ k ∧ k ≤ 2) := of_decide_eq_false hwi
    unfold valB
    rw [if_neg (by show ¬ k = 1; omega)]
    exact decide_eq_false (by show ¬ (k = 2 ∧ _); omega)
  rw [hv]
  clear hv
  go_enter Tryd.func45, Tryd.ntmps45
  go_wp2
  obtain ⟨w1, hw1⟩ : ∃ w1, w.alloc (.cells #[.int .i64 k, .int .i64 n, .string s] 50) = w1 := ⟨_, rfl⟩
  obtain ⟨B, hB⟩ : ∃ B, w.heap.size = B := ⟨_, rfl⟩
  rw [hw1, hB]
  have x1 : Ext w w1 := by rw [← hw1]; exact (Ext.refl w).alloc _
  have hob : w1.heap[B]? = some (.cells #[.int .i64 k, .int .i64 n, .string s] 50 (0, 0)) := by
    rw [← hw1, ← hB]
    show (w.heap.push _)[w.heap.size]? = _
    simp
  have c0 : w1.cell? ⟨B, 0, none⟩ = some (.int .i64 k) := by simp [World.cell?, hob]
  have c1 : w1.cell? ⟨B, 1, none⟩ = some (.int .i64 n) := by simp [World.cell?, hob]
  have c2 : w1.cell? ⟨B, 2, none⟩ = some (.string s) := by simp [World.cell?, hob]
  clear hw1 hob hB
  have hW := fun W => within_any k 0 2 W
  simp only [hwi] at hW
  go_quiet ((go_at_call 63; first | exact quiet_left (hW _) | exact quiet_add_left (hW _)))
  go_wp2
  go_ret
  exact ⟨rfl, by (repeat (first | exact Ext.refl _ | assumption | refine Ext.drew ?_ | refine Ext.drewN ?_ _ | refine Ext.alloc ?_ _))⟩
theorem value_any (x : Vl) (w : World) : Calls Tryd.prog 45 #[x.v] w fun e w' => e = .returned (.bool (valB x)) ∧ Ext w w' := by
  obtain ⟨k, n, s⟩ := x
  by_cases h0 : k = 0
  · subst h0; exact value0 n s w
  · by_cases h1 : k = 1
    · subst h1; exact value1 n s w
    · by_cases h2 : k = 2
      · subst h2; exact value2 n s w
      · exact valueN k n s w (decide_eq_false (by omega))
end
section
open Go.RowKit
set_option linter.unusedVariables false
set_option maxRecDepth 20000
set_option linter.unusedSimpArgs false
set_option linter.unusedSectionVars false
set_option maxRecDepth 20000
attribute [local go_sem] Oper.semAt_some
end
section
open Go.RowKit
set_option linter.unusedVariables false
set_option maxRecDepth 20000
set_option linter.unusedSimpArgs false
set_option linter.unusedSectionVars false
set_option maxRecDepth 20000
attribute [local go_sem] Oper.semAt_some
end
section
open Go.RowKit
set_option linter.unusedVariables false
set_option maxRecDepth 20000
set_option linter.unusedSimpArgs false
set_option linter.unusedSectionVars false
set_option maxRecDepth 20000
attribute [local go_sem] Oper.semAt_some

def rowB (l : List Vl) : Bool := l.all valB && decide (l.length ≤ 8)
theorem all_take {α : Type} {p : α → Bool} {l : List α} {i : Nat} {x : α} (hx : l[i]? = some x) (h : (l.take i).all p = true) (hp : p x = true) : (l.take (i + 1)).all p = true := by
  rw [List.take_add_one, List.all_append, h, hx]
  simp [hp]
theorem all_no {α : Type} {p : α → Bool} {l : List α} {i : Nat} {x : α} (hx : l[i]? = some x) (hp : p x = false) : l.all p = false := by
  rw [List.all_eq_false]
  exact ⟨x, List.mem_of_getElem? hx, by simp [hp]⟩
theorem rrow_any (P : Option Addr) (cap : Nat) (l : List Vl) (w : World) (h : SlV w P cap l) :
    Calls Tryd.prog 22 #[.slice P l.length cap] w fun e w' => e = .returned (.bool (rowB l)) ∧ Ext w w' := by
  have hlen := h.len
  go_enter Tryd.func22, Tryd.ntmps22
  go_wp2
  go_loopw [3] (fun i wr => ∃ k : Nat, k ≤ l.length ∧ i = .int .i64 k ∧ (l.take k).all valB = true ∧ Ext w wr) (fun i _ => l.length - (intOf i).toNat)
  case atStart => exact ⟨0, by omega, rfl, by simp, Ext.refl w⟩
  case round =>
    obtain ⟨k, hk, rfl, hall, hx⟩ := hrel
    by_cases hlt : k < l.length
    · obtain ⟨b, off, hP, g0, g1, g2⟩ := h.valAt k hlt
      subst hP
      have g0 := hx.cell g0
      have g1 := hx.cell g1
      have g2 := hx.cell g2
      have c1 : (k : Int) < l.length := by omega
      have hs := nthV_some hlt
      have d1 : IntKind.i64.wrap ((k : Int) + 1) = (k : Int) + 1 := IntWalk.i64_in _ ⟨by omega, by omega⟩
      have hV := fun W => rvalue_any (nthV l k) W
      unfold Vl.v at hV
      cases hv : valB (nthV l k) with
      | false =>
        have Hn : Hid (rowB l = false) := Lib.hid (by unfold rowB; rw [all_no hs hv]; rfl)
        simp only [hv] at hV
        generalize nthV l k = x at *
        clear hall hs hv
        go_wp2_with (go_at_call 46; refine (hV _).mono ?_; rintro e w1 ⟨rfl, hx1⟩)
        go_ret
        exact ⟨by rw [Hn.out]; rfl, hx.trans hx1⟩
      | true =>
        have Hy : Hid ((l.take (k + 1)).all valB = true) := Lib.hid (all_take hs hall hv)
        simp only [hv] at hV
        generalize nthV l k = x at *
        clear hall hs hv
        go_wp2_with (go_at_call 46; refine (hV _).mono ?_; rintro e w1 ⟨rfl, hx1⟩)
        go_roundw
        case rel => exact ⟨k + 1, by omega, by go_num, Hy.out, hx.trans hx1⟩
        case measure => simp [intOf]; omega
    · obtain rfl : k = l.length := by omega
      rw [List.take_length] at hall
      by_cases h8 : l.length ≤ 8
      · have Hn : Hid (rowB l = true) := Lib.hid (by unfold rowB; rw [hall, decide_eq_true h8]; rfl)
        have h8' : (l.length : Int) ≤ 8 := by omega
        clear hall
        go_wp2
        go_ret
        exact ⟨by rw [Hn.out]; first | rfl | (simp; done) | (simp; omega), hx⟩
      · have Hn : Hid (rowB l = false) := Lib.hid (by unfold rowB; rw [decide_eq_false h8, Bool.and_false])
        have h8' : decide ((l.length : Int) ≤ 8) = false := decide_eq_false (by omega)
        clear hall h8
        go_wp2
        go_ret
        exact ⟨by rw [Hn.out]; first | rfl | (simp; done) | (simp; omega), hx⟩
end
section
open Go.RowKit
set_option linter.unusedVariables false
set_option maxRecDepth 20000
set_option linter.unusedSimpArgs false
set_option linter.unusedSectionVars false
set_option maxRecDepth 20000
attribute [local go_sem] Oper.semAt_some

theorem notvalid_any (x : Vl) (w : World) : Calls Tryd.prog 44 #[x.v] w fun e w' => e = .returned (.bool (!valB x)) ∧ Ext w w' := by
  have hV := fun W => value_any x W
  obtain ⟨k, n, s⟩ := x
  show Calls _ _ #[.agg #[.int .i64 k, .int .i64 n, .string s]] _ _
  unfold Vl.v at hV
  obtain ⟨r, hr⟩ : ∃ r, valB (k, n, s) = r := ⟨_, rfl⟩
  simp only [hr] at hV ⊢
  clear hr
  go_enter Tryd.func44, Tryd.ntmps44
  go_wp2_with (go_at_call 45; refine (hV _).mono ?_; rintro e w1 ⟨rfl, hx1⟩)
  go_ret
  exact ⟨rfl, Ext.trans ((Ext.refl w).alloc _) hx1⟩
theorem indexBad_any (P : Option Addr) (cap : Nat) (l : List Vl) (w : World) (h : SlV w P cap l) :
    Calls Tryd.prog 62 #[.slice P l.length cap, .func (.func 44) #[] #[]] w fun e w' => (∃ i : Int, e = .returned (.int .i64 i) ∧ decide (0 ≤ i) = !l.all valB) ∧ Ext w w' := by
  have hlen := h.len
  go_enter Tryd.func62, Tryd.ntmps62
  go_wp2
  go_loopw [8, 5] (fun i _ wr => ∃ k : Nat, k ≤ l.length ∧ i = .int .i64 k ∧ (l.take k).all valB = true ∧ Ext w wr) (fun i _ _ => l.length - (intOf i).toNat)
  case atStart => exact ⟨0, by omega, rfl, by simp, Ext.refl w⟩
  case round =>
    obtain ⟨k, hk, rfl, hall, hx⟩ := hrel
    by_cases hlt : k < l.length
    · obtain ⟨b, off, hP, g0, g1, g2⟩ := h.valAt k hlt
      subst hP
      have g0 := hx.cell g0
      have g1 := hx.cell g1
      have g2 := hx.cell g2
      have c1 : (k : Int) < l.length := by omega
      have hs := nthV_some hlt
      have d1 : IntKind.i64.wrap ((k : Int) + 1) = (k : Int) + 1 := IntWalk.i64_in _ ⟨by omega, by omega⟩
      have hV := fun W => notvalid_any (nthV l k) W
      unfold Vl.v at hV
      cases hv : valB (nthV l k) with
      | false =>
        have Hn : Hid (l.all valB = false) := Lib.hid (all_no hs hv)
        simp only [hv, Bool.not_false] at hV
        generalize nthV l k = x at *
        clear hall hs hv
        go_wp2_with (go_at_call 44; refine (hV _).mono ?_; rintro e w1 ⟨rfl, hx1⟩)
        go_ret
        exact ⟨⟨k, rfl, by rw [Hn.out, decide_eq_true (by omega)]; rfl⟩, hx.trans hx1⟩
      | true =>
        have Hy : Hid ((l.take (k + 1)).all valB = true) := Lib.hid (all_take hs hall hv)
        simp only [hv, Bool.not_true] at hV
        generalize nthV l k = x at *
        clear hall hs hv
        go_wp2_with (go_at_call 44; refine (hV _).mono ?_; rintro e w1 ⟨rfl, hx1⟩)
        go_roundw
        case rel => exact ⟨k + 1, by omega, by go_num, Hy.out, hx.trans hx1⟩
        case measure => simp [intOf]; omega
    · obtain rfl : k = l.length := by omega
      rw [List.take_length] at hall
      have Hall := Lib.hid hall
      clear hall
      go_wp2
      go_ret
      exact ⟨⟨-1, rfl, by rw [Hall.out]; rfl⟩, hx⟩
theorem containsBad_any (P : Option Addr) (cap : Nat) (l : List Vl) (w : World) (h : SlV w P cap l) :
    Calls Tryd.prog 43 #[.slice P l.length cap, .func (.func 44) #[] #[]] w fun e w' => e = .returned (.bool (!l.all valB)) ∧ Ext w w' := by
  have hI := indexBad_any P cap l w h
  go_enter Tryd.func43, Tryd.ntmps43
  go_wp2_with (go_at_call 62; refine hI.mono ?_; rintro e w1 ⟨⟨i, rfl, hi⟩, hx1⟩; have Hi := Lib.hid hi; clear hi)
  go_ret
  exact ⟨by rw [← Hi.out]; rfl, hx1⟩
theorem row_any (P : Option Addr) (cap : Nat) (l : List Vl) (w : World) (h : SlV w P cap l) :
    Calls Tryd.prog 20 #[.slice P l.length cap] w fun e w' => e = .returned (.bool (rowB l)) ∧ Ext w w' := by
  have hC := containsBad_any P cap l w h
  have hlen := h.len
  by_cases h8 : l.length ≤ 8
  · have h8' : (l.length : Int) ≤ 8 := by omega
    have Hn : Hid (rowB l = l.all valB) := Lib.hid (by unfold rowB; rw [decide_eq_true h8, Bool.and_true])
    generalize l.all valB = r at *
    go_enter Tryd.func20, Tryd.ntmps20
    go_wp2_with (go_at_call 43; refine hC.mono ?_; rintro e w1 ⟨rfl, hx1⟩)
    go_ret
    exact ⟨by rw [Hn.out]; first | rfl | (simp; done), hx1⟩
  · have h8' : decide ((l.length : Int) ≤ 8) = false := decide_eq_false (by omega)
    have Hn : Hid (rowB l = false) := Lib.hid (by unfold rowB; rw [decide_eq_false h8, Bool.and_false])
    clear h8
    go_enter Tryd.func20, Tryd.ntmps20
    go_wp2_with (go_at_call 43; refine hC.mono ?_; rintro e w1 ⟨rfl, hx1⟩)
    go_ret
    exact ⟨by rw [Hn.out]; first | rfl | (simp; done) | (simp; omega), by first | exact Ext.refl _ | exact hx1⟩
end
section
open Go.RowKit
set_option linter.unusedVariables false
set_option maxRecDepth 20000
set_option linter.unusedSimpArgs false
set_option linter.unusedSectionVars false
set_option maxRecDepth 100000
attribute [local go_sem] Oper.semAt_some

theorem str_info : ∃ i, Tryd.prog.info? 9 = some i ∧ i.zero = some (.string ⟨#[]⟩) ∧ i.size = 1 ∧ i.bytes = 16 := by
  have h : (Tryd.prog.info? 9).map (fun i => (i.zero, i.size, i.bytes)) = some (some (.string ⟨#[]⟩), 1, 16) := by kernel_rfl
  cases hq : Tryd.prog.info? 9 with
  | none => simp [hq] at h
  | some i => simp [hq] at h; exact ⟨i, rfl, h.1, h.2.1, h.2.2⟩
theorem own_ext {A B : World} {base : Nat} {e : TypeId} {size : Nat} {v : Value} {n : Nat} {xs : List Value} (h : A.ownsRow base e size v n xs) (hx : Ext A B) : B.ownsRow base e size v n xs := by
  refine ⟨h.1, ?_⟩
  rcases h.2 with h0 | ⟨g, cap, cur, hv, hb, hg, rest⟩
  · exact .inl h0
  · exact .inr ⟨g, cap, cur, hv, hb, hx.heap hg, rest⟩
def wrS (x : Vl) : ByteArray := ⟨(wrL x).toArray⟩
def wrVs (l : List Vl) : List Value := l.map fun x => .string (wrS x)
def textL (l : List Vl) : List UInt8 := if rowB l = true then Lib.join (l.map wrL) [44] else []
theorem wrL_le {x : Vl} (h : valB x = true) : (wrL x).length ≤ 200 := by
  unfold wrL
  unfold valB at h
  split
  · next hk =>
    rw [if_pos hk] at h
    simp [withinB] at h
    have := Lib.itoa_length_le x.2.1 (by omega) (by omega)
    omega
  · next hk =>
    rw [if_neg hk] at h
    have h := of_decide_eq_true h
    have := escA_le x.2.2 x.2.2.size
    simp only [List.length_append, List.length_cons, List.length_nil]
    omega
theorem valB_in {x : Vl} (h : valB x = true) : (-9223372036854775808 ≤ x.2.1 ∧ x.2.1 ≤ 9223372036854775807) ∧ x.2.2.size ≤ 1000 := by
  unfold valB at h
  split at h
  · unfold withinB at h
    rw [Bool.and_eq_true, decide_eq_true_eq, decide_eq_true_eq] at h
    omega
  · have h := of_decide_eq_true h
    omega
theorem join_le (sep : List UInt8) (m : Nat) : ∀ (l : List (List UInt8)), (∀ x ∈ l, x.length ≤ m) → (Lib.join l sep).length ≤ l.length * (m + sep.length)
  | [], _ => by simp [Lib.join_nil]
  | x :: r, h => by
    rw [Lib.join_cons, List.length_append]
    have h1 := h x (by simp)
    have : ∀ (r : List (List UInt8)), (∀ x ∈ r, x.length ≤ m) → (Lib.joinTail sep r).length ≤ r.length * (m + sep.length) := by
      intro r
      induction r with
      | nil => intro _; simp [Lib.joinTail]
      | cons y r ih =>
        intro hy
        have h2 := hy y (by simp)
        have := ih (fun z hz => hy z (by simp [hz]))
        unfold Lib.joinTail at *
        simp only [List.map_cons, List.flatten_cons, List.length_append, List.length_cons]
        rw [Nat.add_mul]
        omega
    have := this r (fun z hz => h z (by simp [hz]))
    simp only [List.length_cons]
    rw [Nat.add_mul]
    omega

set_option maxHeartbeats 4000000 in
theorem text_any (P : Option Addr) (cap : Nat) (l : List Vl) (w : World) (h : SlV w P cap l) (ht : Tab w) :
    Calls Tryd.prog 26 #[.slice P l.length cap] w fun e w' => e = .returned (.string ⟨(textL l).toArray⟩) ∧ Ext w w' := by
  have hlen := h.len
  have hR := row_any P cap l w h
  obtain ⟨i0, hi, hz0, hz1, hz2⟩ := str_info
  cases hr : rowB l with
  | false =>
    have HB := Lib.hid (show textL l = [] from by simp [textL, hr])
    simp only [hr] at hR
    clear hr
    go_enter Tryd.func26, Tryd.ntmps26
    go_wp2_with (go_at_call 20; refine hR.mono ?_; rintro e w1 ⟨rfl, hx1⟩)
    go_ret
    exact ⟨by rw [HB.out]; rfl, hx1⟩
  | true =>
    have HB := Lib.hid (show textL l = Lib.join (l.map wrL) [44] from by simp [textL, hr])
    simp only [hr] at hR
    have h8 : l.length ≤ 8 := by unfold rowB at hr; simp at hr; exact hr.2
    have hall : ∀ x ∈ l, valB x = true := by unfold rowB at hr; simp at hr; intro x hx; exact hr.1 _ _ _ hx
    clear hr
    go_enter Tryd.func26, Tryd.ntmps26
    go_wp2_with (go_at_call 20; refine hR.mono ?_; rintro e w1 ⟨rfl, hx1⟩)
    go_loopw [11, 3, 5] (fun i v _ wr => ∃ k : Nat, k ≤ l.length ∧ i = .int .i64 k ∧ wr.ownsRow w.heap.size 9 1 v k (wrVs (l.take k)) ∧ Ext w wr) (fun i _ _ _ => l.length - (intOf i).toNat)
    case atStart => exact ⟨0, by omega, rfl, World.ownsRow_nil _ _ _ _, hx1⟩
    case round =>
      obtain ⟨k, hk, rfl, hown, hx⟩ := hrel
      by_cases hlt : k < l.length
      · obtain ⟨b, off, hP, g0, g1, g2⟩ := h.valAt k hlt
        subst hP
        have g0 := hx.cell g0
        have g1 := hx.cell g1
        have g2 := hx.cell g2
        have c1 : (k : Int) < l.length := by omega
        have d1 : IntKind.i64.wrap ((k : Int) + 1) = (k : Int) + 1 := IntWalk.i64_in _ ⟨by omega, by omega⟩
        have hv := valB_in (hall _ (nthV_mem hlt))
        have hs : wrVs (l.take (k + 1)) = wrVs (l.take k) ++ [.string (wrS (nthV l k))] := by
          unfold wrVs
          rw [List.take_add_one, nthV_some hlt]
          simp
        have Hs := Lib.hid hs
        have hW := fun W hx => written_any (nthV l k) W (Tab.ext ht hx) hv.1 hv.2
        unfold Vl.v at hW
        have hwr : (⟨(wrL (nthV l k)).toArray⟩ : ByteArray) = wrS (nthV l k) := rfl
        rw [hwr] at hW
        generalize wrS (nthV l k) = y at *
        generalize nthV l k = x at *
        clear hs hv hwr
        go_wp2_with (first
          | (go_at_call 48; refine (hW _ (hx.alloc _)).mono ?_; rintro e w2 ⟨rfl, hx2⟩)
          | (at_builtin; refine wpList_append_own _ rfl _ _ 84 rfl w.heap.size 9 i0 (.string ⟨#[]⟩) 1 16 Tryd.underlying84 hi hz0 hz1 hz2 rfl (by decide) _ _ _ rfl (own_ext hown ((((Ext.refl wr).alloc _).trans hx2).alloc _)) ⟨w2.heap.size, 0, none⟩ 1 1 [.string y] rfl rfl ?c1 ?c2 ?c3 ?c4 ?c5 ?_))
        case c1 =>
          intro j u hj
          match j, hj with
          | 0, hj => simp at hj; subst hj; simp [Addr.add]
        case c2 => intro u hu; simp at hu; subst hu; rfl
        case c3 => unfold maxLen; omega
        case c4 => omega
        case c5 => have := hx.size; have := hx2.size; simp at this; simp; omega
        intro v' w3 hown' hgrow hne
        go_wp2
        go_roundw
        case rel => exact ⟨k + 1, by omega, by go_num, by rw [Hs.out]; exact hown', Below.grown ((hx.alloc _).trans hx2 |>.alloc _) hgrow (by have := hx.size; have := hx2.size; simp at this; simp; omega) (fun j hj => (hown.lt j hj).1)⟩
        case measure => simp [intOf]; omega
      · obtain rfl : k = l.length := by omega
        rw [List.take_length] at hown
        have hlt2 : (Lib.join (l.map wrL) [44]).length ≤ 140737488355328 := by
          have := join_le [44] 200 (l.map wrL) (by
            intro x hx
            obtain ⟨y, hy, rfl⟩ := List.mem_map.1 hx
            exact wrL_le (hall y hy))
          rw [List.length_map] at this
          have h2 : l.length * (200 + [44].length) ≤ 8 * 201 := Nat.mul_le_mul h8 (by simp)
          omega
        rcases hown.2 with ⟨rfl, hl0⟩ | ⟨g, c, cur, rfl, hgb, hg, hcl, hcm, hcs, htk⟩
        · obtain rfl := List.length_eq_zero_iff.1 hl0
          go_wp2_with (go_at_call 49; refine (Tryd.strings_Join_none _ _ _ _).mono ?_; rintro e w2 ⟨rfl, rfl⟩)
          go_ret
          exact ⟨by rw [HB.out]; rfl, hx⟩
        · have hJ := Tryd.strings_Join g 0 c (l.map wrS) ⟨#[44]⟩ wr (fun j x hj => by
            have := hown.cells (g := g) rfl j (.string x) (by
              unfold wrVs
              rw [List.getElem?_map] at hj ⊢
              cases hq : l[j]? with
              | none => rw [hq] at hj; cases hj
              | some y => rw [hq] at hj; simp at hj; subst hj; rfl)
            cases j with
            | zero => simpa [Addr.add] using this
            | succ j => simpa [Addr.add] using this) (Array.getElem?_eq_some_iff.1 hg).1 (by rw [List.length_map]; omega) (by rw [List.length_map]; exact hcl) (by
              rw [List.map_map]
              exact hlt2)
          rw [List.length_map, List.map_map] at hJ
          rw [show ((fun x : ByteArray => x.data.toList) ∘ wrS) = wrL from by funext x; simp [wrS]] at hJ
          clear hown hall
          generalize Lib.join (l.map wrL) [44] = z at *
          go_wp2_with (go_at_call 49; refine hJ.mono ?_; rintro e w2 ⟨rfl, hx2⟩)
          go_ret
          exact ⟨by rw [HB.out]; rfl, hx.trans hx2⟩
end
section
open Go.RowKit
set_option linter.unusedVariables false
set_option maxRecDepth 20000
set_option linter.unusedSimpArgs false
set_option linter.unusedSectionVars false
set_option maxRecDepth 20000
attribute [local go_sem] Oper.semAt_some

theorem flat_at {α : Type} {cs : α → List Value} {k : Nat} (hk : ∀ x, (cs x).length = k) : ∀ (l : List α) (i j : Nat) (x : α) (u : Value), l[i]? = some x → (cs x)[j]? = some u → (l.flatMap cs)[i * k + j]? = some u
  | [], i, j, x, u, h, _ => by simp at h
  | y :: l, 0, j, x, u, h, hu => by
    simp at h
    subst h
    rw [List.flatMap_cons, Nat.zero_mul, Nat.zero_add, List.getElem?_append_left (List.getElem?_eq_some_iff.1 hu).1]
    exact hu
  | y :: l, i + 1, j, x, u, h, hu => by
    have := flat_at hk l i j x u (by simpa using h) hu
    rw [List.flatMap_cons, List.getElem?_append_right (by rw [hk, Nat.add_mul]; omega), hk]
    rw [show (i + 1) * k + j - k = i * k + j from by rw [Nat.add_mul]; omega]
    exact this
/-- a row of the call's own, read -/
theorem own_slG {α : Type} {cs : α → List Value} {k : Nat} (hk : ∀ x, (cs x).length = k) {w : World} {base : Nat} {e : TypeId} {v : Value} {l : List α} (h : w.ownsRow base e k v l.length (l.flatMap cs)) (hl : l.length ≤ 9223372036854775807) :
    ∃ P cap, v = .slice P l.length cap ∧ SlG cs w P cap l := by
  rcases h.2 with ⟨rfl, h0⟩ | ⟨g, cap, cur, rfl, hb, hg, hcl, hcm, hcs, htk⟩
  · obtain rfl := List.length_eq_zero_iff.1 h0
    exact ⟨none, 0, rfl, SlG.nil _ _⟩
  · refine ⟨_, cap, rfl, ⟨fun i x hi => ⟨g, 0, rfl, fun j u hj => ?_⟩, hcl, by unfold maxLen at hcm; exact hcm⟩⟩
    have := h.cells (g := g) rfl (i * k + j) u (flat_at hk l i j x u hi hj)
    rw [hk]
    rw [← this]
    congr 1
    cases hn : i * k + j with
    | zero => simp [Addr.add]; omega
    | succ n => simp [Addr.add]; omega
end
section
open Go.RowKit
set_option linter.unusedVariables false
set_option maxRecDepth 20000
set_option linter.unusedSimpArgs false
set_option linter.unusedSectionVars false
set_option maxRecDepth 20000

/-- what is known of the elements of a slice type -/
structure ElemG {α : Type} (cs : α → List Value) (t e : TypeId) (k bytes : Nat) : Prop where
  ht : Tryd.prog.underlying t = some (.slice e)
  info : ∃ i z, Tryd.prog.info? e = some i ∧ i.zero = some z ∧ i.size = k ∧ i.bytes = bytes ∧ z.cells.size = k
  k0 : 0 < k
  hk : ∀ x, (cs x).length = k
  one : ∀ x, ∀ u ∈ cs x, u.oneCell' = true
/-- a list in a block of the call's own (from 'base' on) -/
def OwnG {α : Type} (cs : α → List Value) (e : TypeId) (k : Nat) (w : World) (base : Nat) (v : Value) (l : List α) : Prop := w.ownsRow base e k v l.length (l.flatMap cs)
theorem flat_of {α : Type} {cs : α → List Value} {k : Nat} (hk : ∀ x, (cs x).length = k) : ∀ (l : List α) (j : Nat) (u : Value), (l.flatMap cs)[j]? = some u → ∃ i q x, j = i * k + q ∧ l[i]? = some x ∧ (cs x)[q]? = some u
  | [], j, u, h => by simp at h
  | y :: l, j, u, h => by
    rw [List.flatMap_cons] at h
    by_cases hj : j < k
    · rw [List.getElem?_append_left (by rw [hk]; exact hj)] at h
      exact ⟨0, j, y, by omega, rfl, h⟩
    · rw [List.getElem?_append_right (by rw [hk]; omega), hk] at h
      obtain ⟨i, q, x, e, h1, h2⟩ := flat_of hk l (j - k) u h
      exact ⟨i + 1, q, x, by rw [Nat.add_mul]; omega, by simpa using h1, h2⟩
theorem flat_len {α : Type} {cs : α → List Value} {k : Nat} (hk : ∀ x, (cs x).length = k) (l : List α) : (l.flatMap cs).length = l.length * k := by
  induction l with
  | nil => simp
  | cons y l ih => rw [List.flatMap_cons, List.length_append, hk, ih, List.length_cons, Nat.add_mul]; omega
theorem flat_set {α : Type} {cs : α → List Value} {k : Nat} (hk : ∀ x, (cs x).length = k) : ∀ (l : List α) (i : Nat) (y : α), i < l.length → (l.set i y).flatMap cs = (l.flatMap cs).take (i * k) ++ cs y ++ (l.flatMap cs).drop (i * k + k)
  | [], i, y, h => by simp at h
  | x :: l, 0, y, h => by
    rw [List.set_cons_zero, List.flatMap_cons, List.flatMap_cons, Nat.zero_mul, Nat.zero_add, List.take_zero, List.nil_append, List.drop_append_of_le_length (by rw [hk]; exact Nat.le_refl _), List.drop_of_length_le (by rw [hk]; exact Nat.le_refl _), List.nil_append]
  | x :: l, i + 1, y, h => by
    rw [List.set_cons_succ, List.flatMap_cons, flat_set hk l i y (by simpa using h), List.flatMap_cons, show (i + 1) * k = k + i * k from by rw [Nat.add_mul]; omega]
    rw [show k + i * k + k = (cs x).length + (i * k + k) from by rw [hk]; omega, show k + i * k = (cs x).length + i * k from by rw [hk]]
    rw [List.drop_length_add_append, List.take_length_add_append]
    simp only [List.append_assoc]

theorem add_flat (b off n : Nat) : (⟨b, off, none⟩ : Addr).add n = ⟨b, off + n, none⟩ := by
  cases n with
  | zero => simp [Addr.add]
  | succ n => simp [Addr.add]
section
variable {α : Type} {cs : α → List Value} {t e : TypeId} {k bytes : Nat} {w : World} {base : Nat}
theorem SlG.flat {b off cap : Nat} {m : List α} (hk : ∀ x, (cs x).length = k) (h : SlG cs w (some ⟨b, off, none⟩) cap m) : ∀ j u, (m.flatMap cs)[j]? = some u → w.cell? ((⟨b, off, none⟩ : Addr).add j) = some u := by
  intro j u hj
  obtain ⟨i, q, x, rfl, h1, h2⟩ := flat_of hk m j u hj
  obtain ⟨b', off', e, h3⟩ := h.at_ i x h1
  injection e with e
  injection e with e1 e2
  subst e1 e2
  have := h3 q u h2
  rw [hk] at this
  rw [add_flat, ← this]
  congr 2
  omega
theorem OwnG.nil (cs : α → List Value) (e : TypeId) (k : Nat) (w : World) (base : Nat) : OwnG cs e k w base (.slice none 0 0) [] := World.ownsRow_nil _ _ _ _
theorem OwnG.ext {w' : World} {v : Value} {l : List α} (h : OwnG cs e k w base v l) (hx : Ext w w') : OwnG cs e k w' base v l := own_ext h hx
theorem OwnG.slG (E : ElemG cs t e k bytes) {v : Value} {l : List α} (h : OwnG cs e k w base v l) (hl : l.length ≤ 9223372036854775807) : ∃ P cap, v = .slice P l.length cap ∧ SlG cs w P cap l := own_slG E.hk h hl
theorem OwnG.base_ {v : Value} {l : List α} (h : OwnG cs e k w base v l) : ∀ g, v.ownBlock = some g → base ≤ g := fun g hg => (World.ownsRow.lt h g hg).1
/-- an empty literal, ready to be appended to -/
theorem OwnG.lit0 (hb : base ≤ w.heap.size) : OwnG cs e k (w.alloc (.cells #[] e)) base (.slice (some ⟨w.heap.size, 0, none⟩) 0 0) [] := World.ownsRow_lit w #[] 0 hb (by unfold maxLen; omega) (by simp)
/-- one element in a block of its own, read -/
theorem SlG.one (hk : ∀ x, (cs x).length = k) (x : α) {t0 : TypeId} {C : Array Value} {b : Nat} (hC : C = (cs x).toArray) (hb : b = w.heap.size) : SlG cs (w.alloc (.cells C t0)) (some ⟨b, 0, none⟩) 1 [x] := by
  subst hC hb
  refine ⟨fun i y hi => ⟨w.heap.size, 0, rfl, fun j u hj => ?_⟩, by simp, by omega⟩
  match i, hi with
  | 0, hi =>
    simp at hi
    subst hi
    rw [show (0 : Nat) + 0 * (cs x).length + j = j from by omega]
    exact (World.cell?_alloc_mark _ _ _ _ j).trans (by simpa using hj)
  | i + 1, hi => simp at hi
theorem OwnG.append (E : ElemG cs t e k bytes) (ty : TypeId) {v : Value} {l m : List α} (h : OwnG cs e k w base v l) {P : Option Addr} {c : Nat} (hm : SlG cs w P c m) (hP : P = none → c = 0) (hle : (l.length + m.length) * bytes ≤ 140737488355328) (hlb : l.length + m.length ≤ 9223372036854775807) (hbase : base ≤ w.heap.size) :
    ∃ v' w', (Builtin.append_ #[t, t] ty #[v, .slice P m.length c]).run Tryd.prog w = .ok v' w' ∧ OwnG cs e k w' base v' (l ++ m) ∧ w.grownBy w' v.ownBlock ∧ Below base w w' := by
  have hbel : ∀ w', w.grownBy w' v.ownBlock → Below base w w' := fun w' hg => Below.grown (Below.refl _ _) hg hbase (fun g hg => h.base_ g hg)
  obtain ⟨i, z, hi, hz, hs, hby, hzs⟩ := E.info
  cases P with
  | none =>
    obtain rfl := hP rfl
    obtain rfl : m = [] := List.length_eq_zero_iff.1 (by have := hm.le; omega)
    refine ⟨v, w, run_append_owned_none w base t ty e i k E.ht hi v _ _ h, by rw [List.append_nil]; exact h, ⟨rfl, rfl, rfl, Nat.le_refl _, fun _ _ _ => rfl⟩, Below.refl _ _⟩
  | some ad =>
    have hn : ∀ j u, (m.flatMap cs)[j]? = some u → w.cell? (ad.add j) = some u := by
      cases m with
      | nil => intro j u hj; simp at hj
      | cons y m =>
        obtain ⟨b, off, e, _⟩ := hm.at_ 0 y rfl
        injection e with e
        subst e
        exact hm.flat E.hk
    obtain ⟨v', w', hr, ho, hg, _⟩ := run_append_own w base t ty e i z k bytes E.ht hi hz hs hby hzs E.k0 v l.length _ h ad m.length c (m.flatMap cs) (flat_len E.hk m) hn (fun u hu => by
      obtain ⟨x, _, hx⟩ := List.mem_flatMap.1 hu
      exact E.one x u hx) (by unfold maxLen; omega) hle hbase
    refine ⟨v', w', hr, ?_, hg, hbel _ hg⟩
    unfold OwnG
    rw [List.length_append, List.flatMap_append]
    exact ho
end
section
variable {α : Type} {cs : α → List Value} {t e : TypeId} {k bytes : Nat} {w : World} {base : Nat} {ops : Array Oper} {rest : List Oper} {o : Oper} {a : Act} {Q : Exit → Act → World → Prop}
/-- append(s, x...) for the walk -/
theorem wpList_app_G (w : World) (E : ElemG cs t e k bytes) (hgd : o.guard = none) (s x : Operand) (ho : o.op = .call { callee := .builtin .append, args := #[s, x], argTypes := #[t, t] }) {v : Value} {l : List α} (hs : a.eval s = v) (h : OwnG cs e k w base v l)
    {P : Option Addr} {c : Nat} {m : List α} (hx : a.eval x = .slice P m.length c) (hm : SlG cs w P c m) (hP : P = none → c = 0) (hle : (l.length + m.length) * bytes ≤ 140737488355328) (hlb : l.length + m.length ≤ 9223372036854775807) (hbase : base ≤ w.heap.size)
    (hn : ∀ v' w', OwnG cs e k w' base v' (l ++ m) → Below base w w' → wpList Tryd.prog ops Q rest (a.put o.dst v') w') : wpList Tryd.prog ops Q (o :: rest) a w := by
  obtain ⟨v', w', hr, ho', _, hb⟩ := h.append E o.type hm hP hle hlb hbase
  exact Lib.wpList_append_run _ hgd s x _ _ ho _ _ hs hx _ _ hr (hn _ _ ho' hb)
end
theorem below_ext {a b c : World} {base : Nat} (h : Ext a b) (k : Below base b c) (hb : a.heap.size ≤ base) : Ext a c := Below.trans h (Below.mono k hb)
/-- one cell stored -/
theorem flat_set_cell {α : Type} {cs : α → List Value} {k : Nat} (hk : ∀ x, (cs x).length = k) : ∀ (l : List α) (i j : Nat) (x y : α) (u : Value), l[i]? = some x → cs y = (cs x).set j u → j < k → (l.set i y).flatMap cs = (l.flatMap cs).set (i * k + j) u
  | [], i, j, x, y, u, h, _, _ => by simp at h
  | z :: l, 0, j, x, y, u, h, hy, hj => by
    simp at h
    subst h
    rw [List.set_cons_zero, List.flatMap_cons, List.flatMap_cons, hy, Nat.zero_mul, Nat.zero_add, List.set_append_left _ _ (by rw [hk]; exact hj)]
  | z :: l, i + 1, j, x, y, u, h, hy, hj => by
    rw [List.set_cons_succ, List.flatMap_cons, List.flatMap_cons, flat_set_cell hk l i j x y u (by simpa using h) hy hj, List.set_append_right _ _ (by rw [hk, Nat.add_mul]; omega), hk]
    rw [show (i + 1) * k + j - k = i * k + j from by rw [Nat.add_mul]; omega]
theorem OwnG.setCell {α : Type} {cs : α → List Value} {e : TypeId} {k : Nat} (hk : ∀ x, (cs x).length = k) {w : World} {base g n cap : Nat} {l : List α} (h : OwnG cs e k w base (.slice (some ⟨g, 0, none⟩) n cap) l) (hn : n = l.length) (i j : Nat) (x y : α) (u : Value) (hi : l[i]? = some x) (hy : cs y = (cs x).set j u) (hj : j < k) :
    OwnG cs e k (w.setCell ⟨g, i * k + j, none⟩ u) base (.slice (some ⟨g, 0, none⟩) n cap) (l.set i y) := by
  subst hn
  unfold OwnG
  rw [List.length_set, flat_set_cell hk l i j x y u hi hy hj]
  exact (World.ownsRow.stored h _ u).1
theorem set_set_same {α : Type} (l : List α) (i : Nat) (x y : α) : (l.set i x).set i y = l.set i y := by simp
theorem OwnG.setV {e : TypeId} {w : World} {base g n cap : Nat} {l : List Vl} (h : OwnG Vl.cells e 3 w base (.slice (some ⟨g, 0, none⟩) n cap) l) (hn : n = l.length) (i : Nat) (hi : i < l.length) (x : Vl) :
    OwnG Vl.cells e 3 (((w.setCell ⟨g, i * 3, none⟩ (.int .i64 x.1)).setCell ⟨g, i * 3 + 1, none⟩ (.int .i64 x.2.1)).setCell ⟨g, i * 3 + 2, none⟩ (.string x.2.2)) base (.slice (some ⟨g, 0, none⟩) n cap) (l.set i x) := by
  have hk : ∀ x, (Vl.cells x).length = 3 := fun _ => rfl
  have h1 := OwnG.setCell hk h hn i 0 (nthV l i) (x.1, (nthV l i).2) (.int .i64 x.1) (nthV_some hi) rfl (by omega)
  have h2 := OwnG.setCell hk h1 (by simp [hn]) i 1 (x.1, (nthV l i).2) (x.1, x.2.1, (nthV l i).2.2) (.int .i64 x.2.1) (by simp [hi]) rfl (by omega)
  have h3 := OwnG.setCell hk h2 (by simp [hn]) i 2 (x.1, x.2.1, (nthV l i).2.2) (x.1, x.2.1, x.2.2) (.string x.2.2) (by simp [hi]) rfl (by omega)
  rw [set_set_same, set_set_same] at h3
  exact h3
/-- a list of the call's own that is not empty -/
theorem OwnG.tight {α : Type} {cs : α → List Value} {e : TypeId} {k : Nat} {w : World} {base : Nat} {v : Value} {l : List α} (h : OwnG cs e k w base v l) (hl : 0 < l.length) : ∃ g cap, v = .slice (some ⟨g, 0, none⟩) l.length cap ∧ base ≤ g ∧ g < w.heap.size ∧ l.length ≤ cap ∧ cap ≤ 9223372036854775807 := by
  rcases h.2 with ⟨rfl, h0⟩ | ⟨g, cap, cur, rfl, hb, hg, hcl, hcm, hcs, htk⟩
  · omega
  · refine ⟨g, cap, rfl, hb, ?_, hcl, by unfold maxLen at hcm; exact hcm⟩
    rcases Nat.lt_or_ge g w.heap.size with hlt | hge
    · exact hlt
    · rw [Array.getElem?_eq_none hge] at hg; cases hg
theorem OwnG.frozen {α : Type} {cs : α → List Value} {e : TypeId} {k : Nat} {w : World} {base g n cap : Nat} {l : List α} (h : OwnG cs e k w base (.slice (some ⟨g, 0, none⟩) n cap) l) (hn : n = l.length) (j : Nat) : w.frozen? ⟨g, j, none⟩ = false := by
  subst hn
  exact World.ownsRow.frozenAt h j
theorem OwnG.cell {α : Type} {cs : α → List Value} {e : TypeId} {k : Nat} (hk : ∀ x, (cs x).length = k) {w : World} {base g n cap : Nat} {l : List α} (h : OwnG cs e k w base (.slice (some ⟨g, 0, none⟩) n cap) l) (hn : n = l.length) (i : Nat) (x : α) (hi : l[i]? = some x) (j : Nat) (u : Value) (hu : (cs x)[j]? = some u) : w.cell? ⟨g, i * k + j, none⟩ = some u := by
  subst hn
  rw [World.ownsRow.cellAt h (i * k + j) ?_]
  · exact flat_at hk l i j x u hi hu
  · have h1 := (List.getElem?_eq_some_iff.1 hi).1
    have h2 := (List.getElem?_eq_some_iff.1 hu).1
    rw [hk] at h2
    have := Nat.mul_le_mul_right k (show i + 1 ≤ l.length from h1)
    rw [Nat.add_mul] at this
    omega
theorem elemV : ElemG Vl.cells 22 50 3 32 where
  ht := Tryd.underlying22
  info := by
    have h : (Tryd.prog.info? 50).map (fun i => (i.zero, i.size, i.bytes)) = some (some (.agg #[.int .i64 0, .int .i64 0, .string ⟨#[]⟩]), 3, 32) := by kernel_rfl
    cases hq : Tryd.prog.info? 50 with
    | none => simp [hq] at h
    | some i => simp [hq] at h; exact ⟨i, _, rfl, h.1, h.2.1, h.2.2, rfl⟩
  k0 := by omega
  hk := fun _ => rfl
  one := fun x u hu => by
    simp [Vl.cells] at hu
    rcases hu with rfl | rfl | rfl <;> rfl
end
end Go.Proofs.YtcbinafokhekmaaDoor
