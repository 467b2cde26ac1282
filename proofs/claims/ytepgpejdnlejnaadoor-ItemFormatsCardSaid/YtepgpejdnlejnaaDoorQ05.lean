/- ItE; ItF; ItG; ItH (merged by group.py) -/
import Derived.Test.YtepgpejdnlejnaaDoorQ04
namespace Go.Proofs.YtepgpejdnlejnaaDoor
section
open Go.RowKit
set_option linter.unusedVariables false
set_option linter.unusedSimpArgs false
set_option linter.unusedSectionVars false
set_option maxRecDepth 20000
attribute [local go_sem] Oper.semAt_some

set_option maxHeartbeats 2000000 in
theorem value0 (n : Int) (s : ByteArray) (w : World) : Calls Tryd.prog 12 #[.agg #[.int .i64 0, .int .i64 n, .string s]] w fun e w' => e = .returned (.bool (valB (0, n, s))) ∧ Ext w w' := by
  have hwi : withinB 0 0 2 = true := rfl
  obtain ⟨r, hr⟩ : ∃ r, valB (0, n, s) = r := ⟨_, rfl⟩
  have hC := fun W => chk1_any (0, n, s) W
  rw [show (false : Bool) = r from by rw [← hr]; simp [valB]] at hC
  rw [hr]
  clear hr
  unfold Vl.v at hC
  have hix : ∀ w, (Instr.index 65 (.agg #[.func (.func 89) #[] #[], .func (.func 90) #[] #[], .func (.func 91) #[] #[]]) (.int .i64 0)).run Tryd.prog w = .ok (.func (.func 89) #[] #[]) w := fun w => by kernel_rfl
  go_enter Tryd.func12, Tryd.ntmps12
  go_wp2
  obtain ⟨w1, hw1⟩ : ∃ w1, w.alloc (.cells #[.int .i64 0, .int .i64 n, .string s] 29) = w1 := ⟨_, rfl⟩
  obtain ⟨B, hB⟩ : ∃ B, w.heap.size = B := ⟨_, rfl⟩
  rw [hw1, hB]
  have x1 : Ext w w1 := by rw [← hw1]; exact (Ext.refl w).alloc _
  have hob : w1.heap[B]? = some (.cells #[.int .i64 0, .int .i64 n, .string s] 29 (0, 0)) := by
    rw [← hw1, ← hB]
    show (w.heap.push _)[w.heap.size]? = _
    simp
  have c0 : w1.cell? ⟨B, 0, none⟩ = some (.int .i64 0) := by simp [World.cell?, hob]
  have c1 : w1.cell? ⟨B, 1, none⟩ = some (.int .i64 n) := by simp [World.cell?, hob]
  have c2 : w1.cell? ⟨B, 2, none⟩ = some (.string s) := by simp [World.cell?, hob]
  clear hw1 hob hB
  go_region_held3 (fun w' => w'.cell? ⟨B, 0, none⟩ = some (.int .i64 0) ∧ w'.cell? ⟨B, 1, none⟩ = some (.int .i64 n) ∧ w'.cell? ⟨B, 2, none⟩ = some (.string s)) (first | go_keep | ((try dsimp only); (repeat' apply And.intro); all_goals first | go_keep | (refine Ext.cell ?_ c0; (repeat (first | exact Ext.refl _ | assumption | refine Ext.drew ?_ | refine Ext.drewN ?_ _ | refine Ext.alloc ?_ _ | refine Ext.trans ?_ x4 | refine Ext.trans ?_ x3)); done) | (refine Ext.cell ?_ c1; (repeat (first | exact Ext.refl _ | assumption | refine Ext.drew ?_ | refine Ext.drewN ?_ _ | refine Ext.alloc ?_ _ | refine Ext.trans ?_ x4 | refine Ext.trans ?_ x3)); done) | (refine Ext.cell ?_ c2; (repeat (first | exact Ext.refl _ | assumption | refine Ext.drew ?_ | refine Ext.drewN ?_ _ | refine Ext.alloc ?_ _ | refine Ext.trans ?_ x4 | refine Ext.trans ?_ x3)); done)))
      (first
        | (go_at_call 54; refine (within_any _ _ _ _).mono ?_; rintro e w2 ⟨rfl, rfl⟩; rw [hwi])
        | (go_at_call 55; refine (checks_any _).mono ?_; rintro e w3 ⟨rfl, x3⟩; unfold chkV)
        | (go_at_call 89; refine (hC _).mono ?_; rintro e w4 ⟨rfl, x4⟩)
        | fail)
  
  all_goals
    go_wp2
    go_ret
    exact ⟨rfl, by (repeat (first | exact Ext.refl _ | assumption | refine Ext.drew ?_ | refine Ext.drewN ?_ _ | refine Ext.alloc ?_ _ | refine Ext.trans ?_ x4 | refine Ext.trans ?_ x3))⟩
set_option maxHeartbeats 2000000 in
theorem value1 (n : Int) (s : ByteArray) (w : World) : Calls Tryd.prog 12 #[.agg #[.int .i64 1, .int .i64 n, .string s]] w fun e w' => e = .returned (.bool (valB (1, n, s))) ∧ Ext w w' := by
  have hwi : withinB 1 0 2 = true := rfl
  obtain ⟨r, hr⟩ : ∃ r, valB (1, n, s) = r := ⟨_, rfl⟩
  have hC := fun W => chk2_any (1, n, s) W
  rw [show (withinB ((1, n, s) : Vl).2.1 (-1000000000) 1000000000 && decide (((1, n, s) : Vl).2.2.size = 0)) = r from by rw [← hr]; simp [valB]] at hC
  rw [hr]
  clear hr
  unfold Vl.v at hC
  have hix : ∀ w, (Instr.index 65 (.agg #[.func (.func 89) #[] #[], .func (.func 90) #[] #[], .func (.func 91) #[] #[]]) (.int .i64 1)).run Tryd.prog w = .ok (.func (.func 90) #[] #[]) w := fun w => by kernel_rfl
  go_enter Tryd.func12, Tryd.ntmps12
  go_wp2
  obtain ⟨w1, hw1⟩ : ∃ w1, w.alloc (.cells #[.int .i64 1, .int .i64 n, .string s] 29) = w1 := ⟨_, rfl⟩
  obtain ⟨B, hB⟩ : ∃ B, w.heap.size = B := ⟨_, rfl⟩
  rw [hw1, hB]
  have x1 : Ext w w1 := by rw [← hw1]; exact (Ext.refl w).alloc _
  have hob : w1.heap[B]? = some (.cells #[.int .i64 1, .int .i64 n, .string s] 29 (0, 0)) := by
    rw [← hw1, ← hB]
    show (w.heap.push _)[w.heap.size]? = _
    simp
  have c0 : w1.cell? ⟨B, 0, none⟩ = some (.int .i64 1) := by simp [World.cell?, hob]
  have c1 : w1.cell? ⟨B, 1, none⟩ = some (.int .i64 n) := by simp [World.cell?, hob]
  have c2 : w1.cell? ⟨B, 2, none⟩ = some (.string s) := by simp [World.cell?, hob]
  clear hw1 hob hB
  go_region_held3 (fun w' => w'.cell? ⟨B, 0, none⟩ = some (.int .i64 1) ∧ w'.cell? ⟨B, 1, none⟩ = some (.int .i64 n) ∧ w'.cell? ⟨B, 2, none⟩ = some (.string s)) (first | go_keep | ((try dsimp only); (repeat' apply And.intro); all_goals first | go_keep | (refine Ext.cell ?_ c0; (repeat (first | exact Ext.refl _ | assumption | refine Ext.drew ?_ | refine Ext.drewN ?_ _ | refine Ext.alloc ?_ _ | refine Ext.trans ?_ x4 | refine Ext.trans ?_ x3)); done) | (refine Ext.cell ?_ c1; (repeat (first | exact Ext.refl _ | assumption | refine Ext.drew ?_ | refine Ext.drewN ?_ _ | refine Ext.alloc ?_ _ | refine Ext.trans ?_ x4 | refine Ext.trans ?_ x3)); done) | (refine Ext.cell ?_ c2; (repeat (first | exact Ext.refl _ | assumption | refine Ext.drew ?_ | refine Ext.drewN ?_ _ | refine Ext.alloc ?_ _ | refine Ext.trans ?_ x4 | refine Ext.trans ?_ x3)); done)))
      (first
        | (go_at_call 54; refine (within_any _ _ _ _).mono ?_; rintro e w2 ⟨rfl, rfl⟩; rw [hwi])
        | (go_at_call 55; refine (checks_any _).mono ?_; rintro e w3 ⟨rfl, x3⟩; unfold chkV)
        | (go_at_call 90; refine (hC _).mono ?_; rintro e w4 ⟨rfl, x4⟩)
        | fail)
  
  all_goals
    go_wp2
    go_ret
    exact ⟨rfl, by (repeat (first | exact Ext.refl _ | assumption | refine Ext.drew ?_ | refine Ext.drewN ?_ _ | refine Ext.alloc ?_ _ | refine Ext.trans ?_ x4 | refine Ext.trans ?_ x3))⟩
set_option maxHeartbeats 2000000 in
theorem value2 (n : Int) (s : ByteArray) (w : World) : Calls Tryd.prog 12 #[.agg #[.int .i64 2, .int .i64 n, .string s]] w fun e w' => e = .returned (.bool (valB (2, n, s))) ∧ Ext w w' := by
  have hwi : withinB 2 0 2 = true := rfl
  obtain ⟨r, hr⟩ : ∃ r, valB (2, n, s) = r := ⟨_, rfl⟩
  have hC := fun W => chk3_any (2, n, s) W
  rw [show decide (((2, n, s) : Vl).2.1 = 0 ∧ ((2, n, s) : Vl).2.2.size ≤ 40) = r from by rw [← hr]; simp [valB]] at hC
  rw [hr]
  clear hr
  unfold Vl.v at hC
  have hix : ∀ w, (Instr.index 65 (.agg #[.func (.func 89) #[] #[], .func (.func 90) #[] #[], .func (.func 91) #[] #[]]) (.int .i64 2)).run Tryd.prog w = .ok (.func (.func 91) #[] #[]) w := fun w => by kernel_rfl
  go_enter Tryd.func12, Tryd.ntmps12
  go_wp2
  obtain ⟨w1, hw1⟩ : ∃ w1, w.alloc (.cells #[.int .i64 2, .int .i64 n, .string s] 29) = w1 := ⟨_, rfl⟩
  obtain ⟨B, hB⟩ : ∃ B, w.heap.size = B := ⟨_, rfl⟩
  rw [hw1, hB]
  have x1 : Ext w w1 := by rw [← hw1]; exact (Ext.refl w).alloc _
  have hob : w1.heap[B]? = some (.cells #[.int .i64 2, .int .i64 n, .string s] 29 (0, 0)) := by
    rw [← hw1, ← hB]
    show (w.heap.push _)[w.heap.size]? = _
    simp
  have c0 : w1.cell? ⟨B, 0, none⟩ = some (.int .i64 2) := by simp [World.cell?, hob]
  have c1 : w1.cell? ⟨B, 1, none⟩ = some (.int .i64 n) := by simp [World.cell?, hob]
  have c2 : w1.cell? ⟨B, 2, none⟩ = some (.string s) := by simp [World.cell?, hob]
  clear hw1 hob hB
  go_region_held3 (fun w' => w'.cell? ⟨B, 0, none⟩ = some (.int .i64 2) ∧ w'.cell? ⟨B, 1, none⟩ = some (.int .i64 n) ∧ w'.cell? ⟨B, 2, none⟩ = some (.string s)) (first | go_keep | ((try dsimp only); (repeat' apply And.intro); all_goals first | go_keep | (refine Ext.cell ?_ c0; (repeat (first | exact Ext.refl _ | assumption | refine Ext.drew ?_ | refine Ext.drewN ?_ _ | refine Ext.alloc ?_ _ | refine Ext.trans ?_ x4 | refine Ext.trans ?_ x3)); done) | (refine Ext.cell ?_ c1; (repeat (first | exact Ext.refl _ | assumption | refine Ext.drew ?_ | refine Ext.drewN ?_ _ | refine Ext.alloc ?_ _ | refine Ext.trans ?_ x4 | refine Ext.trans ?_ x3)); done) | (refine Ext.cell ?_ c2; (repeat (first | exact Ext.refl _ | assumption | refine Ext.drew ?_ | refine Ext.drewN ?_ _ | refine Ext.alloc ?_ _ | refine Ext.trans ?_ x4 | refine Ext.trans ?_ x3)); done)))
      (first
        | (go_at_call 54; refine (within_any _ _ _ _).mono ?_; rintro e w2 ⟨rfl, rfl⟩; rw [hwi])
        | (go_at_call 55; refine (checks_any _).mono ?_; rintro e w3 ⟨rfl, x3⟩; unfold chkV)
        | (go_at_call 91; refine (hC _).mono ?_; rintro e w4 ⟨rfl, x4⟩)
        | fail)
  
  all_goals
    go_wp2
    go_ret
    exact ⟨rfl, by (repeat (first | exact Ext.refl _ | assumption | refine Ext.drew ?_ | refine Ext.drewN ?_ _ | refine Ext.alloc ?_ _ | refine Ext.trans ?_ x4 | refine Ext.trans ?_ x3))⟩
set_option maxHeartbeats 2000000 in
theorem valueN (k n : Int) (s : ByteArray) (w : World) (hwi : withinB k 0 2 = false) : Calls Tryd.prog 12 #[.agg #[.int .i64 k, .int .i64 n, .string s]] w fun e w' => e = .returned (.bool (valB (k, n, s))) ∧ Ext w w' := by
  have hv : valB (k, n, s) = false := by
    have h1 : ¬ (0 ≤ k ∧ k ≤ 2) := of_decide_eq_false hwi
    unfold valB
    rw [if_neg (by show ¬ k = 1; omega)]
    exact decide_eq_false (by show ¬ (k = 2 ∧ _); omega)
  rw [hv]
  clear hv
  go_enter Tryd.func12, Tryd.ntmps12
  go_wp2
  obtain ⟨w1, hw1⟩ : ∃ w1, w.alloc (.cells #[.int .i64 k, .int .i64 n, .string s] 29) = w1 := ⟨_, rfl⟩
  obtain ⟨B, hB⟩ : ∃ B, w.heap.size = B := ⟨_, rfl⟩
  rw [hw1, hB]
  have x1 : Ext w w1 := by rw [← hw1]; exact (Ext.refl w).alloc _
  have hob : w1.heap[B]? = some (.cells #[.int .i64 k, .int .i64 n, .string s] 29 (0, 0)) := by
    rw [← hw1, ← hB]
    show (w.heap.push _)[w.heap.size]? = _
    simp
  have c0 : w1.cell? ⟨B, 0, none⟩ = some (.int .i64 k) := by simp [World.cell?, hob]
  have c1 : w1.cell? ⟨B, 1, none⟩ = some (.int .i64 n) := by simp [World.cell?, hob]
  have c2 : w1.cell? ⟨B, 2, none⟩ = some (.string s) := by simp [World.cell?, hob]
  clear hw1 hob hB
  have hW := fun W => within_any k 0 2 W
  simp only [hwi] at hW
  go_quiet ((go_at_call 54; first | exact quiet_left (hW _) | exact quiet_add_left (hW _)))
  go_wp2
  go_ret
  exact ⟨rfl, by (repeat (first | exact Ext.refl _ | assumption | refine Ext.drew ?_ | refine Ext.drewN ?_ _ | refine Ext.alloc ?_ _))⟩
theorem value_any (x : Vl) (w : World) : Calls Tryd.prog 12 #[x.v] w fun e w' => e = .returned (.bool (valB x)) ∧ Ext w w' := by
  obtain ⟨k, n, s⟩ := x
  by_cases h0 : k = 0
  · subst h0; exact value0 n s w
  · by_cases h1 : k = 1
    · subst h1; exact value1 n s w
    · by_cases h2 : k = 2
      · subst h2; exact value2 n s w
      · exact valueN k n s w (decide_eq_false (by omega))
end
section
open Go.RowKit
set_option linter.unusedVariables false
set_option linter.unusedSimpArgs false
set_option linter.unusedSectionVars false
set_option maxRecDepth 20000
attribute [local go_sem] Oper.semAt_some

set_option maxHeartbeats 2000000 in
theorem rname_any (s : ByteArray) (w : World) : Calls Tryd.prog 17 #[.string s] w fun e w' => e = .returned (.bool (nameF s)) ∧ w' = w := by
  by_cases h0 : s.size = 0
  · obtain rfl := empty_of h0
    rw [nameF_no (by rintro ⟨⟨h, _⟩, _⟩; have : (1 : Nat) ≤ 0 := h; omega)]
    go_enter Tryd.func17, Tryd.ntmps17
    go_wp2
    go_ret
    exact ⟨rfl, rfl⟩
  · have h00 : decide ((s.size : Int) < 1) = false := decide_eq_false (by omega)
    have h01 : (1 : Int) ≤ s.size := by omega
    by_cases h1 : s.size ≤ 16
    · have h1' : (s.size : Int) ≤ 16 := by omega
      have h1b : decide ((16 : Int) < s.size) = false := decide_eq_false (by omega)
      go_enter Tryd.func17, Tryd.ntmps17
      go_wp2
      go_loopw [3, 4] (fun i _ wr => ∃ k : Nat, k ≤ s.size ∧ i = .int .i64 k ∧ (∀ j, j < k → innerB (byteN s j) = true) ∧ (0 < k → smallB (byteN s 0) = true) ∧ wr = w) (fun i _ _ => s.size - (intOf i).toNat)
      case atStart => exact ⟨0, by omega, rfl, by intro j hj; omega, by omega, rfl⟩
      case round =>
        obtain ⟨k, hk, rfl, hall, h0s, rfl⟩ := hrel
        by_cases hlt : k < s.size
        · have c1 : (k : Int) < s.size := by omega
          have hik := fun w => str_index s k hlt w
          have d1 : IntKind.i64.wrap ((k : Int) + 1) = (k : Int) + 1 := IntWalk.i64_in _ ⟨by omega, by omega⟩
          obtain ⟨c, hc⟩ : ∃ c, byteN s k = c := ⟨_, rfl⟩
          rw [hc] at hik
          have HC := Lib.hid hc
          clear hc
          by_cases hs1 : 97 ≤ c
          · by_cases hs2 : c ≤ 122
            · have Hy : Hid ((∀ j, j < k + 1 → innerB (byteN s j) = true) ∧ (0 < k + 1 → smallB (byteN s 0) = true)) := Lib.hid ⟨fun j hj => by
                  by_cases hjk : j = k
                  · rw [hjk, HC.out]; unfold innerB; rw [smallB_yes (by omega)]; rfl
                  · exact hall j (by omega), fun _ => by
                  by_cases hk0 : k = 0
                  · subst hk0; rw [HC.out]; exact smallB_yes ⟨hs1, hs2⟩
                  · exact h0s (by omega)⟩
              clear hall h0s
              go_wp2
              go_roundw
              case rel => exact ⟨k + 1, by omega, by go_num, Hy.out.1, Hy.out.2, by first | trivial | rfl⟩
              case measure => simp [intOf]; omega
            · have hs2' : 122 < c := by omega
              have hs2b : decide (c ≤ 122) = false := decide_eq_false hs2
              clear hs2
              by_cases hk0 : k = 0
              · have hk1 : ((k : Int) == 0) = true := by simp; omega
                have HK0 := Lib.hid hk0
                clear hk0
                have Hn : Hid (nameF s = false) := Lib.hid (nameF_no (by
                  rintro ⟨_, hz, hi⟩
                  have := HC.out; rw [HK0.out] at this; rw [this] at hz; rw [smallB_no (by omega)] at hz; cases hz))
                clear hall h0s
                go_wp2
                all_goals
                  go_ret
                  exact ⟨by rw [Hn.out]; rfl, rfl⟩
              · have hk1 : ((k : Int) == 0) = false := by simp; omega
                have hk2 : 0 < k := by omega
                by_cases h95 : c = 95
                · subst h95
                  have Hy : Hid ((∀ j, j < k + 1 → innerB (byteN s j) = true) ∧ (0 < k + 1 → smallB (byteN s 0) = true)) := Lib.hid ⟨fun j hj => by
                      by_cases hjk : j = k
                      · rw [hjk, HC.out]; rfl
                      · exact hall j (by omega), fun _ => by
                      exact h0s (by omega)⟩
                  clear hall h0s
                  go_wp2
                  go_roundw
                  case rel => exact ⟨k + 1, by omega, by go_num, Hy.out.1, Hy.out.2, by first | trivial | rfl⟩
                  case measure => simp [intOf]; omega
                · have hc95 : (c == 95) = false := by simpa using h95
                  by_cases h48 : c < 48
                  · have Hn : Hid (nameF s = false) := Lib.hid (nameF_no (by
                      rintro ⟨_, hz, hi⟩
                      have := hi k hlt; rw [HC.out] at this; unfold innerB at this; rw [smallB_no (by omega), decide_eq_false (by omega), hc95] at this; cases this))
                    clear hall h0s
                    go_wp2
                    all_goals
                      go_ret
                      exact ⟨by rw [Hn.out]; rfl, rfl⟩
                  · have h48' : 48 ≤ c := by omega
                    have h48b : decide (c < 48) = false := decide_eq_false h48
                    by_cases h57 : 57 < c
                    · have Hn : Hid (nameF s = false) := Lib.hid (nameF_no (by
                        rintro ⟨_, hz, hi⟩
                        have := hi k hlt; rw [HC.out] at this; unfold innerB at this; rw [smallB_no (by omega), decide_eq_false (by omega), hc95] at this; cases this))
                      clear hall h0s
                      go_wp2
                      all_goals
                        go_ret
                        exact ⟨by rw [Hn.out]; rfl, rfl⟩
                    · have h57' : c ≤ 57 := by omega
                      have h57b : decide (57 < c) = false := decide_eq_false h57
                      have Hy : Hid ((∀ j, j < k + 1 → innerB (byteN s j) = true) ∧ (0 < k + 1 → smallB (byteN s 0) = true)) := Lib.hid ⟨fun j hj => by
                          by_cases hjk : j = k
                          · rw [hjk, HC.out]; unfold innerB; rw [decide_eq_true (by omega)]; simp
                          · exact hall j (by omega), fun _ => by
                          exact h0s (by omega)⟩
                      clear hall h0s
                      go_wp2
                      go_roundw
                      case rel => exact ⟨k + 1, by omega, by go_num, Hy.out.1, Hy.out.2, by first | trivial | rfl⟩
                      case measure => simp [intOf]; omega
          · have hs1' : c < 97 := by omega
            have hs1b : decide (97 ≤ c) = false := decide_eq_false hs1
            clear hs1
            by_cases hk0 : k = 0
            · have hk1 : ((k : Int) == 0) = true := by simp; omega
              have HK0 := Lib.hid hk0
              clear hk0
              have Hn : Hid (nameF s = false) := Lib.hid (nameF_no (by
                rintro ⟨_, hz, hi⟩
                have := HC.out; rw [HK0.out] at this; rw [this] at hz; rw [smallB_no (by omega)] at hz; cases hz))
              clear hall h0s
              go_wp2
              all_goals
                go_ret
                exact ⟨by rw [Hn.out]; rfl, rfl⟩
            · have hk1 : ((k : Int) == 0) = false := by simp; omega
              have hk2 : 0 < k := by omega
              by_cases h95 : c = 95
              · subst h95
                have Hy : Hid ((∀ j, j < k + 1 → innerB (byteN s j) = true) ∧ (0 < k + 1 → smallB (byteN s 0) = true)) := Lib.hid ⟨fun j hj => by
                    by_cases hjk : j = k
                    · rw [hjk, HC.out]; rfl
                    · exact hall j (by omega), fun _ => by
                    exact h0s (by omega)⟩
                clear hall h0s
                go_wp2
                go_roundw
                case rel => exact ⟨k + 1, by omega, by go_num, Hy.out.1, Hy.out.2, by first | trivial | rfl⟩
                case measure => simp [intOf]; omega
              · have hc95 : (c == 95) = false := by simpa using h95
                by_cases h48 : c < 48
                · have Hn : Hid (nameF s = false) := Lib.hid (nameF_no (by
                    rintro ⟨_, hz, hi⟩
                    have := hi k hlt; rw [HC.out] at this; unfold innerB at this; rw [smallB_no (by omega), decide_eq_false (by omega), hc95] at this; cases this))
                  clear hall h0s
                  go_wp2
                  all_goals
                    go_ret
                    exact ⟨by rw [Hn.out]; rfl, rfl⟩
                · have h48' : 48 ≤ c := by omega
                  have h48b : decide (c < 48) = false := decide_eq_false h48
                  by_cases h57 : 57 < c
                  · have Hn : Hid (nameF s = false) := Lib.hid (nameF_no (by
                      rintro ⟨_, hz, hi⟩
                      have := hi k hlt; rw [HC.out] at this; unfold innerB at this; rw [smallB_no (by omega), decide_eq_false (by omega), hc95] at this; cases this))
                    clear hall h0s
                    go_wp2
                    all_goals
                      go_ret
                      exact ⟨by rw [Hn.out]; rfl, rfl⟩
                  · have h57' : c ≤ 57 := by omega
                    have h57b : decide (57 < c) = false := decide_eq_false h57
                    have Hy : Hid ((∀ j, j < k + 1 → innerB (byteN s j) = true) ∧ (0 < k + 1 → smallB (byteN s 0) = true)) := Lib.hid ⟨fun j hj => by
                        by_cases hjk : j = k
                        · rw [hjk, HC.out]; unfold innerB; rw [decide_eq_true (by omega)]; simp
                        · exact hall j (by omega), fun _ => by
                        exact h0s (by omega)⟩
                    clear hall h0s
                    go_wp2
                    go_roundw
                    case rel => exact ⟨k + 1, by omega, by go_num, Hy.out.1, Hy.out.2, by first | trivial | rfl⟩
                    case measure => simp [intOf]; omega
        · obtain rfl : k = s.size := by omega
          have Hn : Hid (nameF s = true) := Lib.hid (nameF_iff.2 ⟨⟨by omega, h1⟩, h0s (by omega), hall⟩)
          clear hall h0s
          go_wp2
          go_ret
          exact ⟨by rw [Hn.out]; rfl, rfl⟩
    · rw [nameF_no (by rintro ⟨⟨_, h⟩, _⟩; omega)]
      have h1' : (16 : Int) < s.size := by omega
      go_enter Tryd.func17, Tryd.ntmps17
      go_wp2
      go_ret
      exact ⟨rfl, rfl⟩
end
section
open Go.RowKit
set_option linter.unusedVariables false
set_option linter.unusedSimpArgs false
set_option linter.unusedSectionVars false
set_option maxRecDepth 20000
attribute [local go_sem] Oper.semAt_some

set_option maxHeartbeats 4000000 in
theorem ritem_any (x : It) (w : World) : Calls Tryd.prog 15 #[x.v] w fun e w' => e = .returned (.bool (itemB x)) ∧ Ext w w' := by
  obtain ⟨s, k, lo, hi, n⟩ := x
  show Calls _ _ #[.agg #[.string s, .int .i64 k, .int .i64 lo, .int .i64 hi, .int .i64 n]] _ _
  have hN := fun W => rname_any s W
  cases hs : nameF s with
  | false =>
    simp only [hs] at hN
    have hB : itemB (s, k, lo, hi, n) = false := by simp [itemB, hs, *] <;> omega
    rw [hB]
    clear hB 
    go_enter Tryd.func15, Tryd.ntmps15
    go_wp2_with (first | (go_at_call 17; refine (hN _).mono ?_; rintro e w1 ⟨rfl, rfl⟩))
    all_goals
      go_ret
      exact ⟨by first | rfl | (simp; done) | (simp; omega), by (repeat (first | exact Ext.refl _ | assumption | refine Ext.drew ?_ | refine Ext.drewN ?_ _ | refine Ext.alloc ?_ _))⟩
  | true =>
    simp only [hs] at hN
    by_cases hk : k = 1
    · subst hk
      by_cases q1 : n = 0
      · by_cases q2 : -1000000000 ≤ lo
        · by_cases q3 : lo ≤ hi
          · by_cases q4 : hi ≤ 1000000000
            · have hB : itemB (s, 1, lo, hi, n) = true := by simp [itemB, hs, *] <;> omega
              rw [hB]
              clear hB 
              go_enter Tryd.func15, Tryd.ntmps15
              go_wp2_with (first | (go_at_call 17; refine (hN _).mono ?_; rintro e w1 ⟨rfl, rfl⟩))
              all_goals
                go_ret
                exact ⟨by first | rfl | (simp; done) | (simp; omega), by (repeat (first | exact Ext.refl _ | assumption | refine Ext.drew ?_ | refine Ext.drewN ?_ _ | refine Ext.alloc ?_ _))⟩
            · have q4b : decide (hi ≤ 1000000000) = false := decide_eq_false q4
              have hB : itemB (s, 1, lo, hi, n) = false := by simp [itemB, hs, *] <;> omega
              rw [hB]
              clear hB q4
              go_enter Tryd.func15, Tryd.ntmps15
              go_wp2_with (first | (go_at_call 17; refine (hN _).mono ?_; rintro e w1 ⟨rfl, rfl⟩))
              all_goals
                go_ret
                exact ⟨by first | rfl | (simp; done) | (simp; omega), by (repeat (first | exact Ext.refl _ | assumption | refine Ext.drew ?_ | refine Ext.drewN ?_ _ | refine Ext.alloc ?_ _))⟩
          · have q3b : decide (lo ≤ hi) = false := decide_eq_false q3
            have hB : itemB (s, 1, lo, hi, n) = false := by simp [itemB, hs, *] <;> omega
            rw [hB]
            clear hB q3
            go_enter Tryd.func15, Tryd.ntmps15
            go_wp2_with (first | (go_at_call 17; refine (hN _).mono ?_; rintro e w1 ⟨rfl, rfl⟩))
            all_goals
              go_ret
              exact ⟨by first | rfl | (simp; done) | (simp; omega), by (repeat (first | exact Ext.refl _ | assumption | refine Ext.drew ?_ | refine Ext.drewN ?_ _ | refine Ext.alloc ?_ _))⟩
        · have q2b : decide (-1000000000 ≤ lo) = false := decide_eq_false q2
          have hB : itemB (s, 1, lo, hi, n) = false := by simp [itemB, hs, *] <;> omega
          rw [hB]
          clear hB q2
          go_enter Tryd.func15, Tryd.ntmps15
          go_wp2_with (first | (go_at_call 17; refine (hN _).mono ?_; rintro e w1 ⟨rfl, rfl⟩))
          all_goals
            go_ret
            exact ⟨by first | rfl | (simp; done) | (simp; omega), by (repeat (first | exact Ext.refl _ | assumption | refine Ext.drew ?_ | refine Ext.drewN ?_ _ | refine Ext.alloc ?_ _))⟩
      · have q1b : (n == 0) = false := by simpa using q1
        have hB : itemB (s, 1, lo, hi, n) = false := by simp [itemB, hs, *] <;> omega
        rw [hB]
        clear hB q1
        go_enter Tryd.func15, Tryd.ntmps15
        go_wp2_with (first | (go_at_call 17; refine (hN _).mono ?_; rintro e w1 ⟨rfl, rfl⟩))
        all_goals
          go_ret
          exact ⟨by first | rfl | (simp; done) | (simp; omega), by (repeat (first | exact Ext.refl _ | assumption | refine Ext.drew ?_ | refine Ext.drewN ?_ _ | refine Ext.alloc ?_ _))⟩
    · have hk1 : (k == 1) = false := by simpa using hk
      by_cases h2 : k = 2
      · subst h2
        by_cases q1 : lo = 0
        · by_cases q2 : hi = 0
          · by_cases q3 : 1 ≤ n
            · by_cases q4 : n ≤ 40
              · have hB : itemB (s, 2, lo, hi, n) = true := by simp [itemB, hs, *] <;> omega
                rw [hB]
                clear hB 
                go_enter Tryd.func15, Tryd.ntmps15
                go_wp2_with (first | (go_at_call 17; refine (hN _).mono ?_; rintro e w1 ⟨rfl, rfl⟩))
                all_goals
                  go_ret
                  exact ⟨by first | rfl | (simp; done) | (simp; omega), by (repeat (first | exact Ext.refl _ | assumption | refine Ext.drew ?_ | refine Ext.drewN ?_ _ | refine Ext.alloc ?_ _))⟩
              · have q4b : decide (n ≤ 40) = false := decide_eq_false q4
                have hB : itemB (s, 2, lo, hi, n) = false := by simp [itemB, hs, *] <;> omega
                rw [hB]
                clear hB q4
                go_enter Tryd.func15, Tryd.ntmps15
                go_wp2_with (first | (go_at_call 17; refine (hN _).mono ?_; rintro e w1 ⟨rfl, rfl⟩))
                all_goals
                  go_ret
                  exact ⟨by first | rfl | (simp; done) | (simp; omega), by (repeat (first | exact Ext.refl _ | assumption | refine Ext.drew ?_ | refine Ext.drewN ?_ _ | refine Ext.alloc ?_ _))⟩
            · have q3b : decide (1 ≤ n) = false := decide_eq_false q3
              have hB : itemB (s, 2, lo, hi, n) = false := by simp [itemB, hs, *] <;> omega
              rw [hB]
              clear hB q3
              go_enter Tryd.func15, Tryd.ntmps15
              go_wp2_with (first | (go_at_call 17; refine (hN _).mono ?_; rintro e w1 ⟨rfl, rfl⟩))
              all_goals
                go_ret
                exact ⟨by first | rfl | (simp; done) | (simp; omega), by (repeat (first | exact Ext.refl _ | assumption | refine Ext.drew ?_ | refine Ext.drewN ?_ _ | refine Ext.alloc ?_ _))⟩
          · have q2b : (hi == 0) = false := by simpa using q2
            have hB : itemB (s, 2, lo, hi, n) = false := by simp [itemB, hs, *] <;> omega
            rw [hB]
            clear hB q2
            go_enter Tryd.func15, Tryd.ntmps15
            go_wp2_with (first | (go_at_call 17; refine (hN _).mono ?_; rintro e w1 ⟨rfl, rfl⟩))
            all_goals
              go_ret
              exact ⟨by first | rfl | (simp; done) | (simp; omega), by (repeat (first | exact Ext.refl _ | assumption | refine Ext.drew ?_ | refine Ext.drewN ?_ _ | refine Ext.alloc ?_ _))⟩
        · have q1b : (lo == 0) = false := by simpa using q1
          have hB : itemB (s, 2, lo, hi, n) = false := by simp [itemB, hs, *] <;> omega
          rw [hB]
          clear hB q1
          go_enter Tryd.func15, Tryd.ntmps15
          go_wp2_with (first | (go_at_call 17; refine (hN _).mono ?_; rintro e w1 ⟨rfl, rfl⟩))
          all_goals
            go_ret
            exact ⟨by first | rfl | (simp; done) | (simp; omega), by (repeat (first | exact Ext.refl _ | assumption | refine Ext.drew ?_ | refine Ext.drewN ?_ _ | refine Ext.alloc ?_ _))⟩
      · have hk2 : (k == 2) = false := by simpa using h2
        have hB : itemB (s, k, lo, hi, n) = false := by simp [itemB, hs, *] <;> omega
        rw [hB]
        clear hB hk h2
        go_enter Tryd.func15, Tryd.ntmps15
        go_wp2_with (first | (go_at_call 17; refine (hN _).mono ?_; rintro e w1 ⟨rfl, rfl⟩))
        all_goals
          go_ret
          exact ⟨by first | rfl | (simp; done) | (simp; omega), by (repeat (first | exact Ext.refl _ | assumption | refine Ext.drew ?_ | refine Ext.drewN ?_ _ | refine Ext.alloc ?_ _))⟩
set_option maxHeartbeats 4000000 in
theorem item_any (x : It) (w : World) : Calls Tryd.prog 14 #[x.v] w fun e w' => e = .returned (.bool (itemB x)) ∧ Ext w w' := by
  obtain ⟨s, k, lo, hi, n⟩ := x
  show Calls _ _ #[.agg #[.string s, .int .i64 k, .int .i64 lo, .int .i64 hi, .int .i64 n]] _ _
  have hN := fun W => name_any s W
  cases hs : nameF s with
  | false =>
    simp only [hs] at hN
    have hB : itemB (s, k, lo, hi, n) = false := by simp [itemB, hs, *] <;> omega
    rw [hB]
    clear hB 
    go_enter Tryd.func14, Tryd.ntmps14
    go_wp2_with (first | (go_at_call 16; refine (hN _).mono ?_; rintro e w1 ⟨rfl, rfl⟩))
    all_goals
      go_ret
      exact ⟨by first | rfl | (simp; done) | (simp; omega), by (repeat (first | exact Ext.refl _ | assumption | refine Ext.drew ?_ | refine Ext.drewN ?_ _ | refine Ext.alloc ?_ _))⟩
  | true =>
    simp only [hs] at hN
    by_cases hk : k = 1
    · subst hk
      by_cases q1 : lo ≤ hi
      · by_cases q2 : -1000000000 ≤ lo
        · by_cases q3 : hi ≤ 1000000000
          · by_cases q4 : n = 0
            · have hB : itemB (s, 1, lo, hi, n) = true := by simp [itemB, hs, *] <;> omega
              rw [hB]
              clear hB 
              go_enter Tryd.func14, Tryd.ntmps14
              go_wp2_with (first | (go_at_call 16; refine (hN _).mono ?_; rintro e w1 ⟨rfl, rfl⟩))
              all_goals
                go_ret
                exact ⟨by first | rfl | (simp; done) | (simp; omega), by (repeat (first | exact Ext.refl _ | assumption | refine Ext.drew ?_ | refine Ext.drewN ?_ _ | refine Ext.alloc ?_ _))⟩
            · have q4b : (n == 0) = false := by simpa using q4
              have hB : itemB (s, 1, lo, hi, n) = false := by simp [itemB, hs, *] <;> omega
              rw [hB]
              clear hB q4
              go_enter Tryd.func14, Tryd.ntmps14
              go_wp2_with (first | (go_at_call 16; refine (hN _).mono ?_; rintro e w1 ⟨rfl, rfl⟩))
              all_goals
                go_ret
                exact ⟨by first | rfl | (simp; done) | (simp; omega), by (repeat (first | exact Ext.refl _ | assumption | refine Ext.drew ?_ | refine Ext.drewN ?_ _ | refine Ext.alloc ?_ _))⟩
          · have q3b : decide (hi ≤ 1000000000) = false := decide_eq_false q3
            have hB : itemB (s, 1, lo, hi, n) = false := by simp [itemB, hs, *] <;> omega
            rw [hB]
            clear hB q3
            go_enter Tryd.func14, Tryd.ntmps14
            go_wp2_with (first | (go_at_call 16; refine (hN _).mono ?_; rintro e w1 ⟨rfl, rfl⟩))
            all_goals
              go_ret
              exact ⟨by first | rfl | (simp; done) | (simp; omega), by (repeat (first | exact Ext.refl _ | assumption | refine Ext.drew ?_ | refine Ext.drewN ?_ _ | refine Ext.alloc ?_ _))⟩
        · have q2b : decide (-1000000000 ≤ lo) = false := decide_eq_false q2
          have hB : itemB (s, 1, lo, hi, n) = false := by simp [itemB, hs, *] <;> omega
          rw [hB]
          clear hB q2
          go_enter Tryd.func14, Tryd.ntmps14
          go_wp2_with (first | (go_at_call 16; refine (hN _).mono ?_; rintro e w1 ⟨rfl, rfl⟩))
          all_goals
            go_ret
            exact ⟨by first | rfl | (simp; done) | (simp; omega), by (repeat (first | exact Ext.refl _ | assumption | refine Ext.drew ?_ | refine Ext.drewN ?_ _ | refine Ext.alloc ?_ _))⟩
      · have q1b : decide (lo ≤ hi) = false := decide_eq_false q1
        have hB : itemB (s, 1, lo, hi, n) = false := by simp [itemB, hs, *] <;> omega
        rw [hB]
        clear hB q1
        go_enter Tryd.func14, Tryd.ntmps14
        go_wp2_with (first | (go_at_call 16; refine (hN _).mono ?_; rintro e w1 ⟨rfl, rfl⟩))
        all_goals
          go_ret
          exact ⟨by first | rfl | (simp; done) | (simp; omega), by (repeat (first | exact Ext.refl _ | assumption | refine Ext.drew ?_ | refine Ext.drewN ?_ _ | refine Ext.alloc ?_ _))⟩
    · have hk1 : (k == 1) = false := by simpa using hk
      by_cases h2 : k = 2
      · subst h2
        by_cases hw : 1 ≤ n ∧ n ≤ 40
        · have hwi : withinB n 1 40 = true := decide_eq_true hw
          obtain ⟨hw1, hw2⟩ := hw
          by_cases q1 : lo = 0
          · by_cases q2 : hi = 0
            · have hB : itemB (s, 2, lo, hi, n) = true := by simp [itemB, hs, *] <;> omega
              rw [hB]
              clear hB 
              go_enter Tryd.func14, Tryd.ntmps14
              go_wp2_with (first | (go_at_call 16; refine (hN _).mono ?_; rintro e w1 ⟨rfl, rfl⟩) | (go_at_call 54; refine (within_any _ _ _ _).mono ?_; rintro e w2 ⟨rfl, rfl⟩; rw [hwi]))
              all_goals
                go_ret
                exact ⟨by first | rfl | (simp; done) | (simp; omega), by (repeat (first | exact Ext.refl _ | assumption | refine Ext.drew ?_ | refine Ext.drewN ?_ _ | refine Ext.alloc ?_ _))⟩
            · have q2b : (hi == 0) = false := by simpa using q2
              have hB : itemB (s, 2, lo, hi, n) = false := by simp [itemB, hs, *] <;> omega
              rw [hB]
              clear hB q2
              go_enter Tryd.func14, Tryd.ntmps14
              go_wp2_with (first | (go_at_call 16; refine (hN _).mono ?_; rintro e w1 ⟨rfl, rfl⟩) | (go_at_call 54; refine (within_any _ _ _ _).mono ?_; rintro e w2 ⟨rfl, rfl⟩; rw [hwi]))
              all_goals
                go_ret
                exact ⟨by first | rfl | (simp; done) | (simp; omega), by (repeat (first | exact Ext.refl _ | assumption | refine Ext.drew ?_ | refine Ext.drewN ?_ _ | refine Ext.alloc ?_ _))⟩
          · have q1b : (lo == 0) = false := by simpa using q1
            have hB : itemB (s, 2, lo, hi, n) = false := by simp [itemB, hs, *] <;> omega
            rw [hB]
            clear hB q1
            go_enter Tryd.func14, Tryd.ntmps14
            go_wp2_with (first | (go_at_call 16; refine (hN _).mono ?_; rintro e w1 ⟨rfl, rfl⟩) | (go_at_call 54; refine (within_any _ _ _ _).mono ?_; rintro e w2 ⟨rfl, rfl⟩; rw [hwi]))
            all_goals
              go_ret
              exact ⟨by first | rfl | (simp; done) | (simp; omega), by (repeat (first | exact Ext.refl _ | assumption | refine Ext.drew ?_ | refine Ext.drewN ?_ _ | refine Ext.alloc ?_ _))⟩
        · have hwi : withinB n 1 40 = false := decide_eq_false hw
          have hB : itemB (s, 2, lo, hi, n) = false := by simp [itemB]; intros; omega
          rw [hB]
          clear hB hw
          go_enter Tryd.func14, Tryd.ntmps14
          go_wp2_with (first | (go_at_call 16; refine (hN _).mono ?_; rintro e w1 ⟨rfl, rfl⟩) | (go_at_call 54; refine (within_any _ _ _ _).mono ?_; rintro e w2 ⟨rfl, rfl⟩; rw [hwi]))
          all_goals
            go_ret
            exact ⟨by first | rfl | (simp; done) | (simp; omega), by (repeat (first | exact Ext.refl _ | assumption | refine Ext.drew ?_ | refine Ext.drewN ?_ _ | refine Ext.alloc ?_ _))⟩
      · have hk2 : (k == 2) = false := by simpa using h2
        have hB : itemB (s, k, lo, hi, n) = false := by simp [itemB, hs, *] <;> omega
        rw [hB]
        clear hB hk h2
        go_enter Tryd.func14, Tryd.ntmps14
        go_wp2_with (first | (go_at_call 16; refine (hN _).mono ?_; rintro e w1 ⟨rfl, rfl⟩))
        all_goals
          go_ret
          exact ⟨by first | rfl | (simp; done) | (simp; omega), by (repeat (first | exact Ext.refl _ | assumption | refine Ext.drew ?_ | refine Ext.drewN ?_ _ | refine Ext.alloc ?_ _))⟩
end
section
open Go.RowKit
set_option linter.unusedVariables false
set_option linter.unusedSimpArgs false
set_option linter.unusedSectionVars false
set_option maxRecDepth 20000
attribute [local go_sem] Oper.semAt_some

def rowB (l : List Vl) : Bool := l.all valB && decide (l.length ≤ 8)
theorem all_take {α : Type} {p : α → Bool} {l : List α} {i : Nat} {x : α} (hx : l[i]? = some x) (h : (l.take i).all p = true) (hp : p x = true) : (l.take (i + 1)).all p = true := by
  rw [List.take_add_one, List.all_append, h, hx]
  simp [hp]
theorem all_no {α : Type} {p : α → Bool} {l : List α} {i : Nat} {x : α} (hx : l[i]? = some x) (hp : p x = false) : l.all p = false := by
  rw [List.all_eq_false]
  exact ⟨x, List.mem_of_getElem? hx, by simp [hp]⟩
theorem rrow_any (P : Option Addr) (cap : Nat) (l : List Vl) (w : World) (h : SlV w P cap l) :
    Calls Tryd.prog 19 #[.slice P l.length cap] w fun e w' => e = .returned (.bool (rowB l)) ∧ Ext w w' := by
  have hlen := h.len
  go_enter Tryd.func19, Tryd.ntmps19
  go_wp2
  go_loopw [3] (fun i wr => ∃ k : Nat, k ≤ l.length ∧ i = .int .i64 k ∧ (l.take k).all valB = true ∧ Ext w wr) (fun i _ => l.length - (intOf i).toNat)
  case atStart => exact ⟨0, by omega, rfl, by simp, Ext.refl w⟩
  case round =>
    obtain ⟨k, hk, rfl, hall, hx⟩ := hrel
    by_cases hlt : k < l.length
    · obtain ⟨b, off, hP, g0, g1, g2⟩ := h.valAt k hlt
      subst hP
      have g0 := hx.cell g0
      have g1 := hx.cell g1
      have g2 := hx.cell g2
      have c1 : (k : Int) < l.length := by omega
      have hs := nthV_some hlt
      have d1 : IntKind.i64.wrap ((k : Int) + 1) = (k : Int) + 1 := IntWalk.i64_in _ ⟨by omega, by omega⟩
      have hV := fun W => rvalue_any (nthV l k) W
      unfold Vl.v at hV
      cases hv : valB (nthV l k) with
      | false =>
        have Hn : Hid (rowB l = false) := Lib.hid (by unfold rowB; rw [all_no hs hv]; rfl)
        simp only [hv] at hV
        generalize nthV l k = x at *
        clear hall hs hv
        go_wp2_with (go_at_call 13; refine (hV _).mono ?_; rintro e w1 ⟨rfl, hx1⟩)
        go_ret
        exact ⟨by rw [Hn.out]; rfl, hx.trans hx1⟩
      | true =>
        have Hy : Hid ((l.take (k + 1)).all valB = true) := Lib.hid (all_take hs hall hv)
        simp only [hv] at hV
        generalize nthV l k = x at *
        clear hall hs hv
        go_wp2_with (go_at_call 13; refine (hV _).mono ?_; rintro e w1 ⟨rfl, hx1⟩)
        go_roundw
        case rel => exact ⟨k + 1, by omega, by go_num, Hy.out, hx.trans hx1⟩
        case measure => simp [intOf]; omega
    · obtain rfl : k = l.length := by omega
      rw [List.take_length] at hall
      by_cases h8 : l.length ≤ 8
      · have Hn : Hid (rowB l = true) := Lib.hid (by unfold rowB; rw [hall, decide_eq_true h8]; rfl)
        have h8' : (l.length : Int) ≤ 8 := by omega
        clear hall
        go_wp2
        go_ret
        exact ⟨by rw [Hn.out]; first | rfl | (simp; done) | (simp; omega), hx⟩
      · have Hn : Hid (rowB l = false) := Lib.hid (by unfold rowB; rw [decide_eq_false h8, Bool.and_false])
        have h8' : decide ((l.length : Int) ≤ 8) = false := decide_eq_false (by omega)
        clear hall h8
        go_wp2
        go_ret
        exact ⟨by rw [Hn.out]; first | rfl | (simp; done) | (simp; omega), hx⟩
end
end Go.Proofs.YtepgpejdnlejnaaDoor
