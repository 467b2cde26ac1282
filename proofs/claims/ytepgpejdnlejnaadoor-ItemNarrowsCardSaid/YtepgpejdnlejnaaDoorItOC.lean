/- Rows are compared: CompareRows of both. -/
import Derived.Test.YtepgpejdnlejnaaDoorItOB
namespace Go.Proofs.YtepgpejdnlejnaaDoor
open Go.RowKit
set_option linter.unusedVariables false
set_option linter.unusedSimpArgs false
set_option linter.unusedSectionVars false
set_option maxRecDepth 20000
attribute [local go_sem] Oper.semAt_some

def crF : List Vl → List Vl → Int
  | [], [] => 0
  | [], _ :: _ => -1
  | _ :: _, [] => 1
  | x :: l, y :: m => if cmpF x y = 0 then crF l m else cmpF x y
theorem crF_at : ∀ (l m : List Vl) (k : Nat), k < l.length → k < m.length → (∀ j, j < k → cmpF (nthV l j) (nthV m j) = 0) → ¬ cmpF (nthV l k) (nthV m k) = 0 → crF l m = cmpF (nthV l k) (nthV m k)
  | [], m, k, h, _, _, _ => by simp at h
  | x :: l, [], k, _, h, _, _ => by simp at h
  | x :: l, y :: m, 0, _, _, _, hn => by
    have e1 : nthV (x :: l) 0 = x := rfl
    have e2 : nthV (y :: m) 0 = y := rfl
    rw [e1, e2] at hn ⊢
    simp [crF, hn]
  | x :: l, y :: m, k + 1, h1, h2, h0, hn => by
    have e := h0 0 (by omega)
    have e1 : nthV (x :: l) 0 = x := rfl
    have e2 : nthV (y :: m) 0 = y := rfl
    rw [e1, e2] at e
    have e3 : ∀ j, nthV (x :: l) (j + 1) = nthV l j := fun j => by simp [nthV]
    have e4 : ∀ j, nthV (y :: m) (j + 1) = nthV m j := fun j => by simp [nthV]
    rw [e3, e4] at hn ⊢
    simp only [crF, if_pos e]
    exact crF_at l m k (by simpa using h1) (by simpa using h2) (fun j hj => by have := h0 (j + 1) (by omega); rwa [e3, e4] at this) hn
theorem crF_end : ∀ (l m : List Vl) (k : Nat), k ≤ l.length → k ≤ m.length → (k = l.length ∨ k = m.length) → (∀ j, j < k → cmpF (nthV l j) (nthV m j) = 0) → crF l m = lessF l.length m.length
  | [], [], k, _, _, _, _ => by simp [crF, lessF]
  | [], y :: m, k, _, _, _, _ => by simp only [crF, lessF, List.length_nil, List.length_cons]; rw [if_pos (by omega)]
  | x :: l, [], k, _, _, _, _ => by simp only [crF, lessF, List.length_nil, List.length_cons]; rw [if_neg (by omega), if_pos (by omega)]
  | x :: l, y :: m, 0, _, _, h, _ => by simp at h
  | x :: l, y :: m, k + 1, h1, h2, h3, h0 => by
    have e := h0 0 (by omega)
    have e1 : nthV (x :: l) 0 = x := rfl
    have e2 : nthV (y :: m) 0 = y := rfl
    rw [e1, e2] at e
    have e3 : ∀ j, nthV (x :: l) (j + 1) = nthV l j := fun j => by simp [nthV]
    have e4 : ∀ j, nthV (y :: m) (j + 1) = nthV m j := fun j => by simp [nthV]
    have := crF_end l m k (by simpa using h1) (by simpa using h2) (by simpa using h3) (fun j hj => by have := h0 (j + 1) (by omega); rwa [e3, e4] at this)
    simp only [crF, if_pos e, this]
    unfold lessF
    have e5 : (((x :: l).length : Int) < ((y :: m).length : Int)) = ((l.length : Int) < (m.length : Int)) := propext (by simp only [List.length_cons]; omega)
    have e6 : (((y :: m).length : Int) < ((x :: l).length : Int)) = ((m.length : Int) < (l.length : Int)) := propext (by simp only [List.length_cons]; omega)
    simp only [e5, e6]

set_option maxHeartbeats 4000000 in
theorem cmpfunc_any (P Q : Option Addr) (cap cap2 : Nat) (l m : List Vl) (w : World) (h : SlV w P cap l) (h2 : SlV w Q cap2 m) :
    Calls Tryd.prog 69 #[.slice P l.length cap, .slice Q m.length cap2, .func (.func 24) #[] #[]] w fun e w' => e = .returned (.int .i64 (crF l m)) ∧ Ext w w' := by
  have hlen := h.len
  have hlen2 := h2.len
  go_enter Tryd.func69, Tryd.ntmps69
  go_wp2
  go_loopw [13, 7, 8, 9, 10] (fun i _ _ _ _ wr => ∃ k : Nat, k ≤ l.length ∧ k ≤ m.length ∧ i = .int .i64 k ∧ (∀ j, j < k → cmpF (nthV l j) (nthV m j) = 0) ∧ Ext w wr) (fun i _ _ _ _ _ => l.length - (intOf i).toNat)
  case atStart => exact ⟨0, by omega, by omega, rfl, by intro j hj; omega, Ext.refl w⟩
  case round =>
    obtain ⟨k, hk, hk2, rfl, hall, hx⟩ := hrel
    by_cases hlt : k < l.length
    · have c1 : (k : Int) < l.length := by omega
      have d1 : IntKind.i64.wrap ((k : Int) + 1) = (k : Int) + 1 := IntWalk.i64_in _ ⟨by omega, by omega⟩
      by_cases hlt2 : k < m.length
      · have c3 : ¬ (m.length : Int) ≤ k := by omega
        obtain ⟨b, off, hP, p0, p1, p2⟩ := h.valAt k hlt
        obtain ⟨b2, off2, hQ, q0, q1, q2⟩ := h2.valAt k hlt2
        subst hP
        subst hQ
        have p0 := hx.cell p0
        have p1 := hx.cell p1
        have p2 := hx.cell p2
        have q0 := hx.cell q0
        have q1 := hx.cell q1
        have q2 := hx.cell q2
        have hb2 : b2 < wr.heap.size := block_lt q0
        have c2 : (k : Int) < m.length := by omega
        have hb : b < wr.heap.size := block_lt p0
        have hV := fun W => compare_any (nthV l k) (nthV m k) W
        unfold Vl.v at hV
        by_cases he : cmpF (nthV l k) (nthV m k) = 0
        · have Hy : Hid (∀ j, j < k + 1 → cmpF (nthV l j) (nthV m j) = 0) := Lib.hid (fun j hj => by
            by_cases hjk : j = k
            · subst hjk; exact he
            · exact hall j (by omega))
          rw [he] at hV
          generalize nthV l k = x at *
          generalize nthV m k = y at *
          clear hall he
          go_wp2_with (go_at_call 24; refine (hV _).mono ?_; rintro e w1 ⟨rfl, hx1⟩)
          go_roundw
          case rel => exact ⟨k + 1, by omega, by omega, by go_num, Hy.out, ((hx.alloc _).alloc _).trans hx1⟩
          case measure => simp [intOf]; omega
        · have Hn := Lib.hid (crF_at l m k hlt hlt2 hall he)
          have he1 : (cmpF (nthV l k) (nthV m k) == 0) = false := by simpa using he
          have he2 : (cmpF (nthV l k) (nthV m k) != 0) = true := by simpa using he
          clear hall he
          generalize cmpF (nthV l k) (nthV m k) = z at *
          generalize nthV l k = x at *
          generalize nthV m k = y at *
          go_wp2_with (go_at_call 24; refine (hV _).mono ?_; rintro e w1 ⟨rfl, hx1⟩)
          go_ret
          exact ⟨by rw [Hn.out]; rfl, ((hx.alloc _).alloc _).trans hx1⟩
      · have c3 : (m.length : Int) ≤ k := by omega
        have Hn := Lib.hid (crF_end l m k hk hk2 (by omega) hall)
        have Hl := Lib.hid (show lessF l.length m.length = 1 from by unfold lessF; rw [if_neg (by omega), if_pos (by omega)])
        obtain ⟨b, off, hP, p0, p1, p2⟩ := h.valAt k hlt
        subst hP
        have p0 := hx.cell p0
        have p1 := hx.cell p1
        have p2 := hx.cell p2
        clear hall hlt2
        generalize nthV l k = x at *
        go_wp2
        go_ret
        exact ⟨by rw [Hn.out, Hl.out]; rfl, hx.alloc _⟩
    · obtain rfl : k = l.length := by omega
      have Hn := Lib.hid (crF_end l m l.length (Nat.le_refl _) hk2 (.inl rfl) hall)
      clear hall
      by_cases hl : l.length < m.length
      · have Hl := Lib.hid (show lessF l.length m.length = -1 from by unfold lessF; rw [if_pos (by omega)])
        have c2 : (l.length : Int) < m.length := by omega
        go_wp2
        go_ret
        exact ⟨by rw [Hn.out, Hl.out]; rfl, hx⟩
      · have Hl := Lib.hid (show lessF l.length m.length = 0 from by unfold lessF; rw [if_neg (by omega), if_neg (by omega)])
        have c2 : decide ((l.length : Int) < m.length) = false := decide_eq_false (by omega)
        have c4 : decide (l.length < m.length) = false := decide_eq_false hl
        clear hl
        go_wp2
        go_ret
        exact ⟨by rw [Hn.out, Hl.out]; rfl, hx⟩
theorem cmprows_any (P Q : Option Addr) (cap cap2 : Nat) (l m : List Vl) (w : World) (h : SlV w P cap l) (h2 : SlV w Q cap2 m) :
    Calls Tryd.prog 26 #[.slice P l.length cap, .slice Q m.length cap2] w fun e w' => e = .returned (.int .i64 (crF l m)) ∧ Ext w w' := by
  have hC := cmpfunc_any P Q cap cap2 l m w h h2
  generalize crF l m = z at *
  go_enter Tryd.func26, Tryd.ntmps26
  go_wp2_with (go_at_call 69; refine hC.mono ?_; rintro e w1 ⟨rfl, hx1⟩)
  go_ret
  exact ⟨rfl, hx1⟩
set_option maxHeartbeats 4000000 in
theorem rcmprows_any (P Q : Option Addr) (cap cap2 : Nat) (l m : List Vl) (w : World) (h : SlV w P cap l) (h2 : SlV w Q cap2 m) (o1 : ∀ x ∈ l, x.2.2.size ≤ 140737488355328) (o2 : ∀ x ∈ m, x.2.2.size ≤ 140737488355328) :
    Calls Tryd.prog 27 #[.slice P l.length cap, .slice Q m.length cap2] w fun e w' => e = .returned (.int .i64 (crF l m)) ∧ Ext w w' := by
  have hlen := h.len
  have hlen2 := h2.len
  go_enter Tryd.func27, Tryd.ntmps27
  go_wp2
  go_loopw [5, 6] (fun i _ wr => ∃ k : Nat, k ≤ l.length ∧ k ≤ m.length ∧ i = .int .i64 k ∧ (∀ j, j < k → cmpF (nthV l j) (nthV m j) = 0) ∧ Ext w wr) (fun i _ _ => l.length - (intOf i).toNat)
  case atStart => exact ⟨0, by omega, by omega, rfl, by intro j hj; omega, Ext.refl w⟩
  case round =>
    obtain ⟨k, hk, hk2, rfl, hall, hx⟩ := hrel
    by_cases hlt : k < l.length
    · have c1 : (k : Int) < l.length := by omega
      have d1 : IntKind.i64.wrap ((k : Int) + 1) = (k : Int) + 1 := IntWalk.i64_in _ ⟨by omega, by omega⟩
      by_cases hlt2 : k < m.length
      · have hs1 := o1 _ (nthV_mem hlt)
        have hs2 := o2 _ (nthV_mem hlt2)
        obtain ⟨b, off, hP, p0, p1, p2⟩ := h.valAt k hlt
        obtain ⟨b2, off2, hQ, q0, q1, q2⟩ := h2.valAt k hlt2
        subst hP
        subst hQ
        have p0 := hx.cell p0
        have p1 := hx.cell p1
        have p2 := hx.cell p2
        have q0 := hx.cell q0
        have q1 := hx.cell q1
        have q2 := hx.cell q2
        have hb2 : b2 < wr.heap.size := block_lt q0
        have c2 : (k : Int) < m.length := by omega
        have hb : b < wr.heap.size := block_lt p0
        have hV := fun W => rcompare_any (nthV l k) (nthV m k) W hs1 hs2
        unfold Vl.v at hV
        by_cases he : cmpF (nthV l k) (nthV m k) = 0
        · have Hy : Hid (∀ j, j < k + 1 → cmpF (nthV l j) (nthV m j) = 0) := Lib.hid (fun j hj => by
            by_cases hjk : j = k
            · subst hjk; exact he
            · exact hall j (by omega))
          rw [he] at hV
          generalize nthV l k = x at *
          generalize nthV m k = y at *
          clear hall he
          go_wp2
          go_region_held3 (fun w' => w'.cell? ⟨b, off + k * 3, none⟩ = some (.int .i64 x.1) ∧ w'.cell? ⟨b, off + k * 3 + 1, none⟩ = some (.int .i64 x.2.1) ∧ w'.cell? ⟨b, off + k * 3 + 2, none⟩ = some (.string x.2.2) ∧ w'.cell? ⟨b2, off2 + k * 3, none⟩ = some (.int .i64 y.1) ∧ w'.cell? ⟨b2, off2 + k * 3 + 1, none⟩ = some (.int .i64 y.2.1) ∧ w'.cell? ⟨b2, off2 + k * 3 + 2, none⟩ = some (.string y.2.2)) (first | go_keep | ((try dsimp only); (repeat' apply And.intro); all_goals first | go_keep | (refine Ext.cell ?_ p0; (repeat (first | exact Ext.refl _ | assumption | refine Ext.drew ?_ | refine Ext.drewN ?_ _ | refine Ext.alloc ?_ _ | refine Ext.trans ?_ x4 | refine Ext.trans ?_ x3)); done) | (refine Ext.cell ?_ p1; (repeat (first | exact Ext.refl _ | assumption | refine Ext.drew ?_ | refine Ext.drewN ?_ _ | refine Ext.alloc ?_ _ | refine Ext.trans ?_ x4 | refine Ext.trans ?_ x3)); done) | (refine Ext.cell ?_ p2; (repeat (first | exact Ext.refl _ | assumption | refine Ext.drew ?_ | refine Ext.drewN ?_ _ | refine Ext.alloc ?_ _ | refine Ext.trans ?_ x4 | refine Ext.trans ?_ x3)); done) | (refine Ext.cell ?_ q0; (repeat (first | exact Ext.refl _ | assumption | refine Ext.drew ?_ | refine Ext.drewN ?_ _ | refine Ext.alloc ?_ _ | refine Ext.trans ?_ x4 | refine Ext.trans ?_ x3)); done) | (refine Ext.cell ?_ q1; (repeat (first | exact Ext.refl _ | assumption | refine Ext.drew ?_ | refine Ext.drewN ?_ _ | refine Ext.alloc ?_ _ | refine Ext.trans ?_ x4 | refine Ext.trans ?_ x3)); done) | (refine Ext.cell ?_ q2; (repeat (first | exact Ext.refl _ | assumption | refine Ext.drew ?_ | refine Ext.drewN ?_ _ | refine Ext.alloc ?_ _ | refine Ext.trans ?_ x4 | refine Ext.trans ?_ x3)); done)))
            (first
              | (go_at_call 25; refine (hV _).mono ?_; rintro e w3 ⟨rfl, x3⟩)
              | fail)
          go_wp2
          go_roundw
          case rel => exact ⟨k + 1, by omega, by omega, by go_num, Hy.out, by (repeat (first | exact Ext.refl _ | assumption | refine Ext.drew ?_ | refine Ext.drewN ?_ _ | refine Ext.alloc ?_ _ | refine Ext.trans ?_ x4 | refine Ext.trans ?_ x3)); done⟩
          case measure => simp [intOf]; omega
        · have Hn := Lib.hid (crF_at l m k hlt hlt2 hall he)
          have he1 : (cmpF (nthV l k) (nthV m k) == 0) = false := by simpa using he
          have he2 : (cmpF (nthV l k) (nthV m k) != 0) = true := by simpa using he
          clear hall he
          generalize cmpF (nthV l k) (nthV m k) = z at *
          generalize nthV l k = x at *
          generalize nthV m k = y at *
          go_wp2
          go_region_held3 (fun w' => w'.cell? ⟨b, off + k * 3, none⟩ = some (.int .i64 x.1) ∧ w'.cell? ⟨b, off + k * 3 + 1, none⟩ = some (.int .i64 x.2.1) ∧ w'.cell? ⟨b, off + k * 3 + 2, none⟩ = some (.string x.2.2) ∧ w'.cell? ⟨b2, off2 + k * 3, none⟩ = some (.int .i64 y.1) ∧ w'.cell? ⟨b2, off2 + k * 3 + 1, none⟩ = some (.int .i64 y.2.1) ∧ w'.cell? ⟨b2, off2 + k * 3 + 2, none⟩ = some (.string y.2.2)) (first | go_keep | ((try dsimp only); (repeat' apply And.intro); all_goals first | go_keep | (refine Ext.cell ?_ p0; (repeat (first | exact Ext.refl _ | assumption | refine Ext.drew ?_ | refine Ext.drewN ?_ _ | refine Ext.alloc ?_ _ | refine Ext.trans ?_ x4 | refine Ext.trans ?_ x3)); done) | (refine Ext.cell ?_ p1; (repeat (first | exact Ext.refl _ | assumption | refine Ext.drew ?_ | refine Ext.drewN ?_ _ | refine Ext.alloc ?_ _ | refine Ext.trans ?_ x4 | refine Ext.trans ?_ x3)); done) | (refine Ext.cell ?_ p2; (repeat (first | exact Ext.refl _ | assumption | refine Ext.drew ?_ | refine Ext.drewN ?_ _ | refine Ext.alloc ?_ _ | refine Ext.trans ?_ x4 | refine Ext.trans ?_ x3)); done) | (refine Ext.cell ?_ q0; (repeat (first | exact Ext.refl _ | assumption | refine Ext.drew ?_ | refine Ext.drewN ?_ _ | refine Ext.alloc ?_ _ | refine Ext.trans ?_ x4 | refine Ext.trans ?_ x3)); done) | (refine Ext.cell ?_ q1; (repeat (first | exact Ext.refl _ | assumption | refine Ext.drew ?_ | refine Ext.drewN ?_ _ | refine Ext.alloc ?_ _ | refine Ext.trans ?_ x4 | refine Ext.trans ?_ x3)); done) | (refine Ext.cell ?_ q2; (repeat (first | exact Ext.refl _ | assumption | refine Ext.drew ?_ | refine Ext.drewN ?_ _ | refine Ext.alloc ?_ _ | refine Ext.trans ?_ x4 | refine Ext.trans ?_ x3)); done)))
            (first
              | (go_at_call 25; refine (hV _).mono ?_; rintro e w3 ⟨rfl, x3⟩)
              | fail)
          go_wp2
          go_ret
          exact ⟨by rw [Hn.out]; rfl, by (repeat (first | exact Ext.refl _ | assumption | refine Ext.drew ?_ | refine Ext.drewN ?_ _ | refine Ext.alloc ?_ _ | refine Ext.trans ?_ x4 | refine Ext.trans ?_ x3)); done⟩
      · have c2 : decide ((k : Int) < m.length) = false := decide_eq_false (by omega)
        have Hn := Lib.hid (crF_end l m k hk hk2 (by omega) hall)
        have hno := Lib.hid hlt2
        clear hall hlt2
        go_wp2_with (go_at_call 67; refine (less_any _ _ _).mono ?_; rintro e w1 ⟨rfl, rfl⟩)
        all_goals first
          | (exfalso; have := hno.out; omega)
          | (go_ret
             exact ⟨by rw [Hn.out]; rfl, hx⟩)
    · have c1 : decide ((k : Int) < l.length) = false := decide_eq_false (by omega)
      have Hn := Lib.hid (crF_end l m k hk hk2 (by omega) hall)
      have hno := Lib.hid hlt
      clear hall hlt
      go_wp2_with (go_at_call 67; refine (less_any _ _ _).mono ?_; rintro e w1 ⟨rfl, rfl⟩)
      all_goals first
        | (exfalso; have := hno.out; omega)
        | (go_ret
           exact ⟨by rw [Hn.out]; rfl, hx⟩)
end Go.Proofs.YtepgpejdnlejnaaDoor
