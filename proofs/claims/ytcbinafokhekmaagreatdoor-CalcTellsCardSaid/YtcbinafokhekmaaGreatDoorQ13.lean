/- ItOB; ItOC; ItOD; ItOE; ItPC0; CaT; CaV (merged by group.py) -/
import Derived.Test.YtcbinafokhekmaaGreatDoorQ12
import Derived.Laws.StructEq
import Derived.Laws.Tables
import Derived.Laws.Cover2
import Derived.KernelRfl
import Derived.Test.YtcbinafokhekmaaGreatDoorQ05
import Derived.Deep.RegionHeld3
import Derived.Lib.SliceRun
namespace Go.Proofs.YtcbinafokhekmaaGreatDoor
section
open Go.RowKit
set_option linter.unusedVariables false
set_option maxRecDepth 20000
set_option linter.unusedSimpArgs false
set_option linter.unusedSectionVars false
set_option maxRecDepth 20000
attribute [local go_sem] Oper.semAt_some

abbrev SlN := @SlG Int (fun x => [.int .i64 x])
def nthN (l : List Int) (i : Nat) : Int := l.getD i 0
theorem nthN_some {l : List Int} {i : Nat} (h : i < l.length) : l[i]? = some (nthN l i) := by simp [nthN, List.getD_eq_getElem?_getD, h]
theorem numAt {w : World} {P : Option Addr} {cap : Nat} {l : List Int} (h : SlN w P cap l) (i : Nat) (hi : i < l.length) :
    ∃ b off, P = some ⟨b, off, none⟩ ∧ w.cell? ⟨b, off + i, none⟩ = some (.int .i64 (nthN l i)) := by
  obtain ⟨b, off, e, h1⟩ := h.at_ i _ (nthN_some hi)
  exact ⟨b, off, e, by have := h1 0 _ rfl; simpa using this⟩
def firstNZ : List Int → Int
  | [] => 0
  | x :: r => if x = 0 then firstNZ r else x
theorem firstNZ_at : ∀ (l : List Int) (k : Nat) (x : Int), l[k]? = some x → (∀ j, j < k → l[j]? = some 0) → ¬ x = 0 → firstNZ l = x
  | [], k, x, h, _, _ => by simp at h
  | y :: l, 0, x, h, _, hx => by simp at h; subst h; simp [firstNZ, hx]
  | y :: l, k + 1, x, h, h0, hx => by
    have := h0 0 (by omega)
    simp at this
    subst this
    simp only [firstNZ, if_pos]
    exact firstNZ_at l k x (by simpa using h) (fun j hj => by have := h0 (j + 1) (by omega); simpa using this) hx
theorem firstNZ_no : ∀ (l : List Int), (∀ j, j < l.length → l[j]? = some 0) → firstNZ l = 0
  | [], _ => rfl
  | y :: l, h0 => by
    have := h0 0 (by simp)
    simp at this
    subst this
    simp only [firstNZ, if_pos]
    exact firstNZ_no l (fun j hj => by have := h0 (j + 1) (by simp; omega); simpa using this)

def cmpF (x y : Vl) : Int := firstNZ [lessF x.1 y.1, lessF x.2.1 y.2.1, textsF x.2.2 y.2.2]
theorem slN_three {w w1 : World} {a b c : Int} {t : TypeId} (hx : Ext (w.alloc (.cells #[.int .i64 a, .int .i64 b, .int .i64 c] t)) w1) : SlN w1 (some ⟨w.heap.size, 0, none⟩) 3 [a, b, c] := by
  refine ⟨fun i x hi => ⟨_, _, rfl, fun j v hj => ?_⟩, by simp, by omega⟩
  have key := box1 hx
  match j, hj with
  | 0, hj =>
    simp at hj
    subst hj
    match i, hi with
    | 0, hi => simp at hi; subst hi; exact key 0 _ rfl
    | 1, hi => simp at hi; subst hi; exact key 1 _ rfl
    | 2, hi => simp at hi; subst hi; exact key 2 _ rfl
    | i + 3, hi => simp at hi
  | j + 1, hj => simp at hj


theorem lessF_refl (a : Int) : lessF a a = 0 := by simp [lessF]
set_option maxHeartbeats 4000000 in
theorem rcompare_any (x y : Vl) (w : World) (hs : x.2.2.size ≤ 140737488355328) (ht : y.2.2.size ≤ 140737488355328) : Calls Tryz.prog 109 #[x.v, y.v] w fun e w' => e = .returned (.int .i64 (cmpF x y)) ∧ Ext w w' := by
  have H1 := Lib.hid (show cmpF x y = firstNZ [lessF x.1 y.1, lessF x.2.1 y.2.1, textsF x.2.2 y.2.2] from rfl)
  obtain ⟨a, n, s⟩ := x
  obtain ⟨b, m, t⟩ := y
  show Calls _ _ #[.agg #[.int .i64 a, .int .i64 n, .string s], .agg #[.int .i64 b, .int .i64 m, .string t]] _ _
  simp only at H1 hs ht
  have hC := fun W => texts_any s t W hs ht
  generalize textsF s t = z3 at *
  by_cases q1 : lessF a b = 0
  · by_cases q2 : lessF n m = 0
    · have HB := Lib.hid (H1.out.trans (show firstNZ [lessF a b, lessF n m, z3] = z3 from by simp [firstNZ, q1, q2]; intro h; exact h.symm))
      have Q1 := Lib.hid q1
      have Q2 := Lib.hid q2
      clear q1 q2 H1
      go_enter Tryz.func109, Tryz.ntmps109
      go_wp2_with (first
        | (go_at_call 110; refine (less_any _ _ _).mono ?_; rintro e w2 ⟨rfl, rfl⟩; first | rw [Q1.out] | rw [Q2.out] | skip)
        | (go_at_call 136; refine (hC _).mono ?_; rintro e w4 ⟨rfl, x4⟩))
      go_ret
      exact ⟨by rw [HB.out]; rfl, by (repeat (first | exact Ext.refl _ | assumption | refine Ext.alloc ?_ _ | refine Ext.trans ?_ x4)); done⟩
    · have HB := Lib.hid (H1.out.trans (show firstNZ [lessF a b, lessF n m, z3] = lessF n m from by simp [firstNZ, q1, q2]))
      have q3 : (lessF n m == 0) = false := by simpa using q2
      have q4 : (lessF n m != 0) = true := by simpa using q2
      have Q1 := Lib.hid q1
      have Q2 : Hid (lessF a b = 0) := Q1
      clear q1 q2 H1
      go_enter Tryz.func109, Tryz.ntmps109
      go_wp2_with (first
        | (go_at_call 110; refine (less_any _ _ _).mono ?_; rintro e w2 ⟨rfl, rfl⟩; first | rw [Q1.out] | rw [Q2.out] | skip)
        | (go_at_call 136; refine (hC _).mono ?_; rintro e w4 ⟨rfl, x4⟩))
      go_ret
      exact ⟨by rw [HB.out]; rfl, by (repeat (first | exact Ext.refl _ | assumption | refine Ext.alloc ?_ _ | refine Ext.trans ?_ x4)); done⟩
  · have HB := Lib.hid (H1.out.trans (show firstNZ [lessF a b, lessF n m, z3] = lessF a b from by simp [firstNZ, q1]))
    have q3 : (lessF a b == 0) = false := by simpa using q1
    have q4 : (lessF a b != 0) = true := by simpa using q1
    have Q1 : Hid ((0 : Int) = 0) := Lib.hid rfl
    have Q2 := Q1
    clear q1 H1
    go_enter Tryz.func109, Tryz.ntmps109
    go_wp2_with (first
      | (go_at_call 110; refine (less_any _ _ _).mono ?_; rintro e w2 ⟨rfl, rfl⟩; first | rw [Q1.out] | rw [Q2.out] | skip)
      | (go_at_call 136; refine (hC _).mono ?_; rintro e w4 ⟨rfl, x4⟩))
    go_ret
    exact ⟨by rw [HB.out]; rfl, by (repeat (first | exact Ext.refl _ | assumption | refine Ext.alloc ?_ _ | refine Ext.trans ?_ x4)); done⟩
end
section
open Go.RowKit
set_option linter.unusedVariables false
set_option maxRecDepth 20000
set_option linter.unusedSimpArgs false
set_option linter.unusedSectionVars false
set_option maxRecDepth 20000
attribute [local go_sem] Oper.semAt_some

def crF : List Vl → List Vl → Int
  | [], [] => 0
  | [], _ :: _ => -1
  | _ :: _, [] => 1
  | x :: l, y :: m => if cmpF x y = 0 then crF l m else cmpF x y
theorem crF_at : ∀ (l m : List Vl) (k : Nat), k < l.length → k < m.length → (∀ j, j < k → cmpF (nthV l j) (nthV m j) = 0) → ¬ cmpF (nthV l k) (nthV m k) = 0 → crF l m = cmpF (nthV l k) (nthV m k)
  | [], m, k, h, _, _, _ => by simp at h
  | x :: l, [], k, _, h, _, _ => by simp at h
  | x :: l, y :: m, 0, _, _, _, hn => by
    have e1 : nthV (x :: l) 0 = x := rfl
    have e2 : nthV (y :: m) 0 = y := rfl
    rw [e1, e2] at hn ⊢
    simp [crF, hn]
  | x :: l, y :: m, k + 1, h1, h2, h0, hn => by
    have e := h0 0 (by omega)
    have e1 : nthV (x :: l) 0 = x := rfl
    have e2 : nthV (y :: m) 0 = y := rfl
    rw [e1, e2] at e
    have e3 : ∀ j, nthV (x :: l) (j + 1) = nthV l j := fun j => by simp [nthV]
    have e4 : ∀ j, nthV (y :: m) (j + 1) = nthV m j := fun j => by simp [nthV]
    rw [e3, e4] at hn ⊢
    simp only [crF, if_pos e]
    exact crF_at l m k (by simpa using h1) (by simpa using h2) (fun j hj => by have := h0 (j + 1) (by omega); rwa [e3, e4] at this) hn
theorem crF_end : ∀ (l m : List Vl) (k : Nat), k ≤ l.length → k ≤ m.length → (k = l.length ∨ k = m.length) → (∀ j, j < k → cmpF (nthV l j) (nthV m j) = 0) → crF l m = lessF l.length m.length
  | [], [], k, _, _, _, _ => by simp [crF, lessF]
  | [], y :: m, k, _, _, _, _ => by simp only [crF, lessF, List.length_nil, List.length_cons]; rw [if_pos (by omega)]
  | x :: l, [], k, _, _, _, _ => by simp only [crF, lessF, List.length_nil, List.length_cons]; rw [if_neg (by omega), if_pos (by omega)]
  | x :: l, y :: m, 0, _, _, h, _ => by simp at h
  | x :: l, y :: m, k + 1, h1, h2, h3, h0 => by
    have e := h0 0 (by omega)
    have e1 : nthV (x :: l) 0 = x := rfl
    have e2 : nthV (y :: m) 0 = y := rfl
    rw [e1, e2] at e
    have e3 : ∀ j, nthV (x :: l) (j + 1) = nthV l j := fun j => by simp [nthV]
    have e4 : ∀ j, nthV (y :: m) (j + 1) = nthV m j := fun j => by simp [nthV]
    have := crF_end l m k (by simpa using h1) (by simpa using h2) (by simpa using h3) (fun j hj => by have := h0 (j + 1) (by omega); rwa [e3, e4] at this)
    simp only [crF, if_pos e, this]
    unfold lessF
    have e5 : (((x :: l).length : Int) < ((y :: m).length : Int)) = ((l.length : Int) < (m.length : Int)) := propext (by simp only [List.length_cons]; omega)
    have e6 : (((y :: m).length : Int) < ((x :: l).length : Int)) = ((m.length : Int) < (l.length : Int)) := propext (by simp only [List.length_cons]; omega)
    simp only [e5, e6]



set_option maxHeartbeats 4000000 in
theorem rcmprows_any (P Q : Option Addr) (cap cap2 : Nat) (l m : List Vl) (w : World) (h : SlV w P cap l) (h2 : SlV w Q cap2 m) (o1 : ∀ x ∈ l, x.2.2.size ≤ 140737488355328) (o2 : ∀ x ∈ m, x.2.2.size ≤ 140737488355328) :
    Calls Tryz.prog 82 #[.slice P l.length cap, .slice Q m.length cap2] w fun e w' => e = .returned (.int .i64 (crF l m)) ∧ Ext w w' := by
  have hlen := h.len
  have hlen2 := h2.len
  go_enter Tryz.func82, Tryz.ntmps82
  go_wp2
  go_loopw [5, 6] (fun i _ wr => ∃ k : Nat, k ≤ l.length ∧ k ≤ m.length ∧ i = .int .i64 k ∧ (∀ j, j < k → cmpF (nthV l j) (nthV m j) = 0) ∧ Ext w wr) (fun i _ _ => l.length - (intOf i).toNat)
  case atStart => exact ⟨0, by omega, by omega, rfl, by intro j hj; omega, Ext.refl w⟩
  case round =>
    obtain ⟨k, hk, hk2, rfl, hall, hx⟩ := hrel
    by_cases hlt : k < l.length
    · have c1 : (k : Int) < l.length := by omega
      have d1 : IntKind.i64.wrap ((k : Int) + 1) = (k : Int) + 1 := IntWalk.i64_in _ ⟨by omega, by omega⟩
      by_cases hlt2 : k < m.length
      · have hs1 := o1 _ (nthV_mem hlt)
        have hs2 := o2 _ (nthV_mem hlt2)
        obtain ⟨b, off, hP, p0, p1, p2⟩ := h.valAt k hlt
        obtain ⟨b2, off2, hQ, q0, q1, q2⟩ := h2.valAt k hlt2
        subst hP
        subst hQ
        have p0 := hx.cell p0
        have p1 := hx.cell p1
        have p2 := hx.cell p2
        have q0 := hx.cell q0
        have q1 := hx.cell q1
        have q2 := hx.cell q2
        have hb2 : b2 < wr.heap.size := block_lt q0
        have c2 : (k : Int) < m.length := by omega
        have hb : b < wr.heap.size := block_lt p0
        have hV := fun W => rcompare_any (nthV l k) (nthV m k) W hs1 hs2
        unfold Vl.v at hV
        by_cases he : cmpF (nthV l k) (nthV m k) = 0
        · have Hy : Hid (∀ j, j < k + 1 → cmpF (nthV l j) (nthV m j) = 0) := Lib.hid (fun j hj => by
            by_cases hjk : j = k
            · subst hjk; exact he
            · exact hall j (by omega))
          rw [he] at hV
          generalize nthV l k = x at *
          generalize nthV m k = y at *
          clear hall he
          go_wp2
          go_region_held3 (fun w' => w'.cell? ⟨b, off + k * 3, none⟩ = some (.int .i64 x.1) ∧ w'.cell? ⟨b, off + k * 3 + 1, none⟩ = some (.int .i64 x.2.1) ∧ w'.cell? ⟨b, off + k * 3 + 2, none⟩ = some (.string x.2.2) ∧ w'.cell? ⟨b2, off2 + k * 3, none⟩ = some (.int .i64 y.1) ∧ w'.cell? ⟨b2, off2 + k * 3 + 1, none⟩ = some (.int .i64 y.2.1) ∧ w'.cell? ⟨b2, off2 + k * 3 + 2, none⟩ = some (.string y.2.2)) (first | go_keep | ((try dsimp only); (repeat' apply And.intro); all_goals first | go_keep | (refine Ext.cell ?_ p0; (repeat (first | exact Ext.refl _ | assumption | refine Ext.drew ?_ | refine Ext.drewN ?_ _ | refine Ext.alloc ?_ _ | refine Ext.trans ?_ x4 | refine Ext.trans ?_ x3)); done) | (refine Ext.cell ?_ p1; (repeat (first | exact Ext.refl _ | assumption | refine Ext.drew ?_ | refine Ext.drewN ?_ _ | refine Ext.alloc ?_ _ | refine Ext.trans ?_ x4 | refine Ext.trans ?_ x3)); done) | (refine Ext.cell ?_ p2; (repeat (first | exact Ext.refl _ | assumption | refine Ext.drew ?_ | refine Ext.drewN ?_ _ | refine Ext.alloc ?_ _ | refine Ext.trans ?_ x4 | refine Ext.trans ?_ x3)); done) | (refine Ext.cell ?_ q0; (repeat (first | exact Ext.refl _ | assumption | refine Ext.drew ?_ | refine Ext.drewN ?_ _ | refine Ext.alloc ?_ _ | refine Ext.trans ?_ x4 | refine Ext.trans ?_ x3)); done) | (refine Ext.cell ?_ q1; (repeat (first | exact Ext.refl _ | assumption | refine Ext.drew ?_ | refine Ext.drewN ?_ _ | refine Ext.alloc ?_ _ | refine Ext.trans ?_ x4 | refine Ext.trans ?_ x3)); done) | (refine Ext.cell ?_ q2; (repeat (first | exact Ext.refl _ | assumption | refine Ext.drew ?_ | refine Ext.drewN ?_ _ | refine Ext.alloc ?_ _ | refine Ext.trans ?_ x4 | refine Ext.trans ?_ x3)); done)))
            (first
              | (go_at_call 109; refine (hV _).mono ?_; rintro e w3 ⟨rfl, x3⟩)
              | fail)
          go_wp2
          go_roundw
          case rel => exact ⟨k + 1, by omega, by omega, by go_num, Hy.out, by (repeat (first | exact Ext.refl _ | assumption | refine Ext.drew ?_ | refine Ext.drewN ?_ _ | refine Ext.alloc ?_ _ | refine Ext.trans ?_ x4 | refine Ext.trans ?_ x3)); done⟩
          case measure => simp [intOf]; omega
        · have Hn := Lib.hid (crF_at l m k hlt hlt2 hall he)
          have he1 : (cmpF (nthV l k) (nthV m k) == 0) = false := by simpa using he
          have he2 : (cmpF (nthV l k) (nthV m k) != 0) = true := by simpa using he
          clear hall he
          generalize cmpF (nthV l k) (nthV m k) = z at *
          generalize nthV l k = x at *
          generalize nthV m k = y at *
          go_wp2
          go_region_held3 (fun w' => w'.cell? ⟨b, off + k * 3, none⟩ = some (.int .i64 x.1) ∧ w'.cell? ⟨b, off + k * 3 + 1, none⟩ = some (.int .i64 x.2.1) ∧ w'.cell? ⟨b, off + k * 3 + 2, none⟩ = some (.string x.2.2) ∧ w'.cell? ⟨b2, off2 + k * 3, none⟩ = some (.int .i64 y.1) ∧ w'.cell? ⟨b2, off2 + k * 3 + 1, none⟩ = some (.int .i64 y.2.1) ∧ w'.cell? ⟨b2, off2 + k * 3 + 2, none⟩ = some (.string y.2.2)) (first | go_keep | ((try dsimp only); (repeat' apply And.intro); all_goals first | go_keep | (refine Ext.cell ?_ p0; (repeat (first | exact Ext.refl _ | assumption | refine Ext.drew ?_ | refine Ext.drewN ?_ _ | refine Ext.alloc ?_ _ | refine Ext.trans ?_ x4 | refine Ext.trans ?_ x3)); done) | (refine Ext.cell ?_ p1; (repeat (first | exact Ext.refl _ | assumption | refine Ext.drew ?_ | refine Ext.drewN ?_ _ | refine Ext.alloc ?_ _ | refine Ext.trans ?_ x4 | refine Ext.trans ?_ x3)); done) | (refine Ext.cell ?_ p2; (repeat (first | exact Ext.refl _ | assumption | refine Ext.drew ?_ | refine Ext.drewN ?_ _ | refine Ext.alloc ?_ _ | refine Ext.trans ?_ x4 | refine Ext.trans ?_ x3)); done) | (refine Ext.cell ?_ q0; (repeat (first | exact Ext.refl _ | assumption | refine Ext.drew ?_ | refine Ext.drewN ?_ _ | refine Ext.alloc ?_ _ | refine Ext.trans ?_ x4 | refine Ext.trans ?_ x3)); done) | (refine Ext.cell ?_ q1; (repeat (first | exact Ext.refl _ | assumption | refine Ext.drew ?_ | refine Ext.drewN ?_ _ | refine Ext.alloc ?_ _ | refine Ext.trans ?_ x4 | refine Ext.trans ?_ x3)); done) | (refine Ext.cell ?_ q2; (repeat (first | exact Ext.refl _ | assumption | refine Ext.drew ?_ | refine Ext.drewN ?_ _ | refine Ext.alloc ?_ _ | refine Ext.trans ?_ x4 | refine Ext.trans ?_ x3)); done)))
            (first
              | (go_at_call 109; refine (hV _).mono ?_; rintro e w3 ⟨rfl, x3⟩)
              | fail)
          go_wp2
          go_ret
          exact ⟨by rw [Hn.out]; rfl, by (repeat (first | exact Ext.refl _ | assumption | refine Ext.drew ?_ | refine Ext.drewN ?_ _ | refine Ext.alloc ?_ _ | refine Ext.trans ?_ x4 | refine Ext.trans ?_ x3)); done⟩
      · have c2 : decide ((k : Int) < m.length) = false := decide_eq_false (by omega)
        have Hn := Lib.hid (crF_end l m k hk hk2 (by omega) hall)
        have hno := Lib.hid hlt2
        clear hall hlt2
        go_wp2_with (go_at_call 110; refine (less_any _ _ _).mono ?_; rintro e w1 ⟨rfl, rfl⟩)
        all_goals first
          | (exfalso; have := hno.out; omega)
          | (go_ret
             exact ⟨by rw [Hn.out]; rfl, hx⟩)
    · have c1 : decide ((k : Int) < l.length) = false := decide_eq_false (by omega)
      have Hn := Lib.hid (crF_end l m k hk hk2 (by omega) hall)
      have hno := Lib.hid hlt
      clear hall hlt
      go_wp2_with (go_at_call 110; refine (less_any _ _ _).mono ?_; rintro e w1 ⟨rfl, rfl⟩)
      all_goals first
        | (exfalso; have := hno.out; omega)
        | (go_ret
           exact ⟨by rw [Hn.out]; rfl, hx⟩)
end
section
open Go.RowKit
set_option linter.unusedVariables false
set_option maxRecDepth 20000
set_option linter.unusedSimpArgs false
set_option linter.unusedSectionVars false
set_option maxRecDepth 20000

/-- an order, told by -1, 0, 1 -/
structure Ord3 {α : Type} (c : α → α → Int) : Prop where
  rng : ∀ x y, c x y = -1 ∨ c x y = 0 ∨ c x y = 1
  anti : ∀ x y, c x y = - c y x
  eq0 : ∀ x y, c x y = 0 ↔ x = y
  trans : ∀ x y z, c x y ≤ 0 → c y z ≤ 0 → c x z ≤ 0
def lexL {α : Type} (c : α → α → Int) : List α → List α → Int
  | [], [] => 0
  | [], _ :: _ => -1
  | _ :: _, [] => 1
  | x :: l, y :: m => if c x y = 0 then lexL c l m else c x y
def lex2 {α β : Type} (c : α → α → Int) (d : β → β → Int) (x y : α × β) : Int := if c x.1 y.1 = 0 then d x.2 y.2 else c x.1 y.1
theorem ord_less : Ord3 lessF := by
  refine ⟨fun x y => ?_, fun x y => ?_, fun x y => ?_, fun x y z => ?_⟩ <;> unfold lessF <;> (repeat' split) <;> omega
theorem ord_lex2 {α β : Type} {c : α → α → Int} {d : β → β → Int} (hc : Ord3 c) (hd : Ord3 d) : Ord3 (lex2 c d) := by
  refine ⟨fun x y => ?_, fun x y => ?_, fun x y => ?_, fun x y z => ?_⟩
  · unfold lex2
    split
    · exact hd.rng _ _
    · exact hc.rng _ _
  · unfold lex2
    have h1 := hc.anti x.1 y.1
    by_cases h : c x.1 y.1 = 0
    · rw [if_pos h, if_pos (by omega)]; exact hd.anti _ _
    · rw [if_neg h, if_neg (by omega)]; exact h1
  · obtain ⟨x1, x2⟩ := x
    obtain ⟨y1, y2⟩ := y
    unfold lex2
    simp only [Prod.mk.injEq]
    by_cases h : c x1 y1 = 0
    · rw [if_pos h, hd.eq0, ← hc.eq0 x1 y1]
      simp [h]
    · rw [if_neg h, ← hc.eq0 x1 y1]
      simp [h]
  · obtain ⟨x1, x2⟩ := x
    obtain ⟨y1, y2⟩ := y
    obtain ⟨z1, z2⟩ := z
    unfold lex2
    simp only
    intro h1 h2
    by_cases a : c x1 y1 = 0
    · rw [if_pos a] at h1
      obtain rfl := (hc.eq0 _ _).1 a
      by_cases b : c x1 z1 = 0
      · rw [if_pos b] at h2 ⊢
        exact hd.trans _ _ _ h1 h2
      · rw [if_neg b] at h2 ⊢
        exact h2
    · rw [if_neg a] at h1
      by_cases b : c y1 z1 = 0
      · obtain rfl := (hc.eq0 _ _).1 b
        rw [if_neg a]
        exact h1
      · rw [if_neg b] at h2
        have h3 := hc.trans _ _ _ h1 h2
        have h4 : ¬ c x1 z1 = 0 := fun e => by
          obtain rfl := (hc.eq0 _ _).1 e
          have := hc.anti x1 y1
          have := hc.rng x1 y1
          omega
        rw [if_neg h4]
        exact h3
theorem ord_lexL {α : Type} {c : α → α → Int} (hc : Ord3 c) : Ord3 (lexL c) := by
  refine ⟨?_, ?_, ?_, ?_⟩
  · intro x
    induction x with
    | nil => intro y; cases y <;> simp [lexL]
    | cons a x ih =>
      intro y
      cases y with
      | nil => simp [lexL]
      | cons b y =>
        simp only [lexL]
        split
        · exact ih y
        · exact hc.rng _ _
  · intro x
    induction x with
    | nil => intro y; cases y <;> simp [lexL]
    | cons a x ih =>
      intro y
      cases y with
      | nil => simp [lexL]
      | cons b y =>
        have h1 := hc.anti a b
        simp only [lexL]
        by_cases h : c a b = 0
        · rw [if_pos h, if_pos (by omega)]; exact ih y
        · rw [if_neg h, if_neg (by omega)]; exact h1
  · intro x
    induction x with
    | nil => intro y; cases y <;> simp [lexL]
    | cons a x ih =>
      intro y
      cases y with
      | nil => simp [lexL]
      | cons b y =>
        simp only [lexL, List.cons.injEq]
        by_cases h : c a b = 0
        · rw [if_pos h, ih, ← hc.eq0 a b]
          simp [h]
        · rw [if_neg h, ← hc.eq0 a b]
          simp [h]
  · intro x
    induction x with
    | nil => intro y z h1 h2; cases y <;> cases z <;> simp [lexL] at *
    | cons a x ih =>
      intro y z
      cases y with
      | nil => intro h1 h2; simp [lexL] at h1
      | cons b y =>
        cases z with
        | nil => intro h1 h2; simp [lexL] at h2
        | cons d z =>
          simp only [lexL]
          intro h1 h2
          by_cases p : c a b = 0
          · rw [if_pos p] at h1
            obtain rfl := (hc.eq0 _ _).1 p
            by_cases q : c a d = 0
            · rw [if_pos q] at h2 ⊢
              exact ih y z h1 h2
            · rw [if_neg q] at h2 ⊢
              exact h2
          · rw [if_neg p] at h1
            by_cases q : c b d = 0
            · obtain rfl := (hc.eq0 _ _).1 q
              rw [if_neg p]
              exact h1
            · rw [if_neg q] at h2
              have h3 := hc.trans _ _ _ h1 h2
              have h4 : ¬ c a d = 0 := fun e => by
                obtain rfl := (hc.eq0 _ _).1 e
                have := hc.anti a b
                have := hc.rng a b
                omega
              rw [if_neg h4]
              exact h3
def lessU (a b : UInt8) : Int := lessF a.toNat b.toNat
theorem ord_lessU : Ord3 lessU := by
  refine ⟨fun x y => ord_less.rng _ _, fun x y => ord_less.anti _ _, fun x y => ?_, fun x y z => ord_less.trans _ _ _⟩
  unfold lessU
  rw [ord_less.eq0]
  exact ⟨fun h => UInt8.toNat_inj.1 (by omega), fun h => by rw [h]⟩
theorem texts_lex : ∀ (s t : List UInt8), (if Op.bytesLess s t = true then (-1 : Int) else if s = t then 0 else 1) = lexL lessU s t
  | [], [] => by simp [Op.bytesLess, lexL]
  | [], y :: t => by simp [Op.bytesLess, lexL]
  | x :: s, [] => by simp [Op.bytesLess, lexL]
  | x :: s, y :: t => by
    have ih := texts_lex s t
    simp only [lexL]
    by_cases h : x = y
    · subst h
      rw [if_pos ((ord_lessU.eq0 _ _).2 rfl), ← ih]
      simp [Op.bytesLess]
    · rw [if_neg (fun e => h ((ord_lessU.eq0 _ _).1 e))]
      unfold lessU lessF
      by_cases hl : x < y
      · have := UInt8.lt_iff_toNat_lt.1 hl
        have e1 : Op.bytesLess (x :: s) (y :: t) = true := by simp [Op.bytesLess, hl]
        rw [if_pos e1, if_pos (by omega)]
      · have h3 : ¬ x.toNat < y.toNat := fun h => hl (UInt8.lt_iff_toNat_lt.2 h)
        have h4 : x.toNat ≠ y.toNat := fun e => h (UInt8.toNat_inj.1 e)
        have e1 : ¬ Op.bytesLess (x :: s) (y :: t) = true := by simp [Op.bytesLess, hl, h]
        have e2 : ¬ x :: s = y :: t := by simp [h]
        rw [if_neg e1, if_neg e2, if_neg (by omega), if_pos (by omega)]
theorem ord_texts : Ord3 textsF := by
  have e : ∀ s t, textsF s t = lexL lessU s.toList t.toList := fun s t => texts_lex _ _
  have o := ord_lexL ord_lessU
  refine ⟨fun x y => by rw [e]; exact o.rng _ _, fun x y => by rw [e, e]; exact o.anti _ _, fun x y => ?_, fun x y z => by rw [e, e, e]; exact o.trans _ _ _⟩
  rw [e, o.eq0]
  constructor
  · intro h
    rw [Lib.toList_data, Lib.toList_data] at h
    exact ByteArray.ext (Array.ext' h)
  · intro h; rw [h]
theorem ord_cmp : Ord3 cmpF := by
  have e : ∀ x y, cmpF x y = lex2 lessF (lex2 lessF textsF) x y := fun x y => by
    unfold cmpF lex2 firstNZ firstNZ firstNZ firstNZ
    by_cases h1 : lessF x.1 y.1 = 0
    · rw [if_pos h1, if_pos h1]
      by_cases h2 : lessF x.2.1 y.2.1 = 0
      · rw [if_pos h2, if_pos h2]
        by_cases h3 : textsF x.2.2 y.2.2 = 0
        · rw [if_pos h3, h3]
        · rw [if_neg h3]
      · rw [if_neg h2, if_neg h2]
    · rw [if_neg h1, if_neg h1]
  have := ord_lex2 ord_less (ord_lex2 ord_less ord_texts)
  rwa [← show cmpF = lex2 lessF (lex2 lessF textsF) from funext fun x => funext fun y => e x y] at this
theorem ord_rows : Ord3 crF := by
  have e : ∀ l m, crF l m = lexL cmpF l m := by
    intro l
    induction l with
    | nil => intro m; cases m <;> rfl
    | cons x l ih =>
      intro m
      cases m with
      | nil => rfl
      | cons y m => simp only [crF, lexL, ih]
  have := ord_lexL ord_cmp
  rwa [← show crF = lexL cmpF from funext fun x => funext fun y => e x y] at this
end
section
open Go.RowKit
set_option linter.unusedVariables false
set_option maxRecDepth 20000
set_option linter.unusedSimpArgs false
set_option linter.unusedSectionVars false
set_option maxRecDepth 20000
attribute [local go_sem] Oper.semAt_some

theorem text_eq {s t : ByteArray} : s.toList = t.toList ↔ s = t := by
  rw [Lib.toList_data, Lib.toList_data]
  exact ⟨fun h => ByteArray.ext (Array.ext' h), fun h => by rw [h]⟩
theorem eq_vl (x y : Vl) (w : World) : (Op.equalIn 10000 68 (.agg #[.int .i64 x.1, .int .i64 x.2.1, .string x.2.2]) (.agg #[.int .i64 y.1, .int .i64 y.2.1, .string y.2.2])).run Tryz.prog w = .ok (decide (cmpF x y = 0)) w := by
  have u3 := Tryz.underlying3
  have a3 := Tryz.isAgg3
  have z3 := Tryz.sizeOf3
  have u9 := Tryz.underlying9
  have a9 := Tryz.isAgg9
  have z9 := Tryz.sizeOf9
  have hS : Tryz.prog.underlying 68 = some (.struct (Tryz.prog.fieldsOf 68)) := by kernel_rfl
  rw [show (10000 : Nat) = 9999 + 1 from rfl, run_equalIn_agg w 9999 68 _ _ hS (by kernel_rfl)]
  simp only [Program.fieldsOf, Tryz.underlying68]
  go_simp
  obtain ⟨a, n, s⟩ := x
  obtain ⟨b, m, t⟩ := y
  rw [show decide (cmpF (a, n, s) (b, m, t) = 0) = decide ((a, n, s) = (b, m, t)) from decide_eq_decide.2 (ord_cmp.eq0 _ _)]
  simp only [Prod.mk.injEq]
  by_cases h1 : a = b <;> by_cases h2 : n = m <;> by_cases h3 : s = t <;> simp [h1, h2, h3, text_eq]
set_option maxHeartbeats 4000000 in
theorem equal_any (P Q : Option Addr) (cap cap2 : Nat) (l m : List Vl) (w : World) (h : SlV w P cap l) (h2 : SlV w Q cap2 m) :
    Calls Tryz.prog 80 #[.slice P l.length cap, .slice Q m.length cap2] w fun e w' => e = .returned (.bool (decide (crF l m = 0))) ∧ Ext w w' := by
  have hlen := h.len
  have hlen2 := h2.len
  by_cases hl : l.length = m.length
  · rw [← hl]
    have HL := Lib.hid hl
    clear hl
    go_enter Tryz.func80, Tryz.ntmps80
    go_wp2
    go_loopw [13, 5] (fun i _ wr => ∃ k : Nat, k ≤ l.length ∧ i = .int .i64 k ∧ (∀ j, j < k → cmpF (nthV l j) (nthV m j) = 0) ∧ Ext w wr) (fun i _ _ => l.length - (intOf i).toNat)
    case atStart => exact ⟨0, by omega, rfl, by intro j hj; omega, Ext.refl w⟩
    case round =>
      obtain ⟨k, hk, rfl, hall, hx⟩ := hrel
      by_cases hlt : k < l.length
      · have c1 : (k : Int) < l.length := by omega
        have d1 : IntKind.i64.wrap ((k : Int) + 1) = (k : Int) + 1 := IntWalk.i64_in _ ⟨by omega, by omega⟩
        obtain ⟨b, off, hP, p0, p1, p2⟩ := h.valAt k hlt
        obtain ⟨b2, off2, hQ, q0, q1, q2⟩ := h2.valAt k (by have := HL.out; omega)
        subst hP
        subst hQ
        have p0 := hx.cell p0
        have p1 := hx.cell p1
        have p2 := hx.cell p2
        have q0 := hx.cell q0
        have q1 := hx.cell q1
        have q2 := hx.cell q2
        have hG := fun (op : BinOp) (u v : Operand) (xs ys : Array Value) (W : World) => run_eqGuard_agg (P := Tryz.prog) W op 68 u v xs ys (by kernel_rfl)
        have hE := fun W => eq_vl (nthV l k) (nthV m k) W
        by_cases he : cmpF (nthV l k) (nthV m k) = 0
        · have Hy : Hid (∀ j, j < k + 1 → cmpF (nthV l j) (nthV m j) = 0) := Lib.hid (fun j hj => by
            by_cases hjk : j = k
            · subst hjk; exact he
            · exact hall j (by omega))
          simp only [he, decide_true] at hE
          generalize nthV l k = x at *
          generalize nthV m k = y at *
          clear hall he
          go_wp2
          go_quiet (fail)
          go_wp2
          go_roundw
          case rel => exact ⟨k + 1, by omega, by go_num, Hy.out, hx.drewN _⟩
          case measure => simp [intOf]; omega
        · have Hn := Lib.hid (show crF l m ≠ 0 from by rw [crF_at l m k hlt (by have := HL.out; omega) hall he]; exact he)
          rw [decide_eq_false he] at hE
          generalize nthV l k = x at *
          generalize nthV m k = y at *
          clear hall he
          go_wp2
          go_quiet (fail)
          go_wp2
          go_ret
          exact ⟨by rw [decide_eq_false Hn.out]; rfl, hx.drewN _⟩
      · obtain rfl : k = l.length := by omega
        have Hn := Lib.hid (show crF l m = 0 from by rw [crF_end l m l.length (Nat.le_refl _) (by have := HL.out; omega) (.inl rfl) hall, HL.out]; exact lessF_refl _)
        clear hall
        go_wp2
        go_ret
        exact ⟨by rw [decide_eq_true Hn.out]; rfl, hx⟩
  · have Hn := Lib.hid (show crF l m ≠ 0 from fun e => hl (by rw [(ord_rows.eq0 l m).1 e]))
    have hl1 : ((l.length : Int) == m.length) = false := by simp; omega
    have hl2 : ((l.length : Int) != m.length) = true := by simp; omega
    clear hl
    go_enter Tryz.func80, Tryz.ntmps80
    go_wp2
    go_ret
    exact ⟨by rw [decide_eq_false Hn.out]; rfl, Ext.refl w⟩

theorem rsame_any (P Q : Option Addr) (cap cap2 : Nat) (l m : List Vl) (w : World) (h : SlV w P cap l) (h2 : SlV w Q cap2 m) (o1 : ∀ x ∈ l, x.2.2.size ≤ 140737488355328) (o2 : ∀ x ∈ m, x.2.2.size ≤ 140737488355328) :
    Calls Tryz.prog 45 #[.slice P l.length cap, .slice Q m.length cap2] w fun e w' => e = .returned (.bool (decide (crF l m = 0))) ∧ Ext w w' := by
  have hC := rcmprows_any P Q cap cap2 l m w h h2 o1 o2
  generalize crF l m = z at *
  go_enter Tryz.func45, Tryz.ntmps45
  go_wp2_with (go_at_call 82; refine hC.mono ?_; rintro e w1 ⟨rfl, hx1⟩)
  go_ret
  exact ⟨by first | rfl | (simp; done) | (congr 1; simp; done) | trace_state, hx1⟩
end
section
open Go.RowKit
set_option linter.unusedVariables false
set_option maxRecDepth 20000
set_option linter.unusedSimpArgs false
set_option linter.unusedSectionVars false
set_option maxRecDepth 20000
attribute [local go_sem] Oper.semAt_some

/-- a copy of a list, of the call's own -/
def ResO {α : Type} (cs : α → List Value) (e : TypeId) (k : Nat) (w : World) (base : Nat) (v : Value) (l : List α) : Prop := ∃ P cap, v = .slice P l.length cap ∧ OwnG cs e k w base v l
theorem OwnG.res {α : Type} {cs : α → List Value} {t e : TypeId} {k bytes : Nat} (E : ElemG cs t e k bytes) {w : World} {base : Nat} {v : Value} {l : List α} (h : OwnG cs e k w base v l) (hl : l.length ≤ 9223372036854775807) : ResO cs e k w base v l := by
  obtain ⟨P, cap, e, _⟩ := h.slG E hl
  exact ⟨P, cap, e, h⟩

set_option maxHeartbeats 4000000 in
theorem clonev_any (P : Option Addr) (cap : Nat) (l : List Vl) (w : World) (h : SlG Vl.cells w P cap l) (h2 : l.length ≤ 100000) (h3 : P = none → cap = 0) :
    Calls Tryz.prog 84 #[.slice P l.length cap] w fun e w' => (∃ v, e = .returned v ∧ OwnG Vl.cells 68 3 w' w.heap.size v l) ∧ Ext w w' := by
  have hlen := h.len
  have qT : ∀ (w : World) (a : Option Addr) (n c n' c' : Nat), (binOp .eql 33 (.slice a n c) (.slice none n' c')).run Tryz.prog w = .ok (.bool a.isNone) w := fun w a n c n' c' => Lib.run_eql_slice_nil w _ _ a n c n' c' Tryz.underlying33
  cases P with
  | none =>
    obtain rfl := h3 rfl
    obtain rfl : l = [] := List.length_eq_zero_iff.1 (by have := h.le; omega)
    go_enter Tryz.func84, Tryz.ntmps84
    go_wp2
    go_ret
    exact ⟨⟨_, rfl, OwnG.nil _ _ _ _ _⟩, Ext.refl _⟩
  | some ad =>
    go_enter Tryz.func84, Tryz.ntmps84
    go_wp2_with (at_builtin; refine wpList_app_G _ elemV rfl _ _ rfl (base := w.heap.size) (l := []) rfl (OwnG.lit0 (Nat.le_refl _)) rfl (h.ext ((Ext.refl _).alloc _)) (fun h => by cases h) (by simp; omega) (by simp; omega) (by simp) ?_)
    intro v' w' ho hb
    go_wp2
    go_ret
    exact ⟨⟨_, rfl, ho⟩, below_ext ((Ext.refl _).alloc _) hb (Nat.le_refl _)⟩
end
section
open Go.RowKit
set_option linter.unusedVariables false
set_option linter.unusedSimpArgs false
set_option linter.unusedSectionVars false
set_option maxRecDepth 100000
attribute [local go_sem] Oper.semAt_some

theorem eqv_any (P Q : Option Addr) (c d : Nat) (l m : List Vl) (w : World) (h : SlV w P c l) (h2 : SlV w Q d m) :
    Calls Tryz.prog 80 #[.slice P l.length c, .slice Q m.length d] w fun e w' => e = .returned (.bool (decide (l = m))) ∧ Ext w w' := by
  have := equal_any P Q c d l m w h h2
  rwa [show decide (crF l m = 0) = decide (l = m) from by simp only [ord_rows.eq0]] at this
theorem chash_any (s : ByteArray) (w : World) (hs : s.size ≤ 140737488355328) :
    Calls Tryz.prog 92 #[.string s] w fun e w' => e = .returned (.int .u64 (hashF s)) ∧ w = w' := by
  have hH := fun W => hash_any s W hs
  go_enter Tryz.func92, Tryz.ntmps92
  go_wp2_with (go_at_call 117; refine (hH _).mono ?_; rintro e w1 ⟨rfl, rfl⟩)
  go_ret
  exact ⟨rfl, rfl⟩
theorem home_any (P : Option Addr) (c : Nat) (row : List Vl) (h : Nat) (w : World) (hs : SlV w P c row) (h1 : 1 ≤ h) (h2 : h ≤ 100) (ht : Tab w) :
    Calls Tryz.prog 58 #[.slice P row.length c, .int .i64 h] w fun e w' => e = .returned (.int .i64 (homeV row % h : Nat)) ∧ Ext w w' := by
  have hT := text_any P c row w hs ht
  have hH := fun W => chash_any (txB row) W (by have := txB_size row; omega)
  rw [homeV_hash] at hH
  have hle := homeV_le row
  have c1 : (1 : Int) ≤ h := by omega
  have c2 : (h : Int) ≤ 100 := by omega
  change Calls _ _ _ w fun e w' => e = .returned (.string (txB row)) ∧ Ext w w' at hT
  generalize txB row = X at *
  generalize homeV row = v at *
  have c5 : (v : Int) ≤ 18446744073709551615 := by omega
  go_enter Tryz.func58, Tryz.ntmps58
  go_wp2_with (first
    | (go_at_call 55; refine hT.mono ?_; rintro e w2 ⟨rfl, hx2⟩)
    | (go_at_call 92; refine (hH _).mono ?_; rintro e w3 ⟨rfl, rfl⟩))
  go_ret
  exact ⟨by rw [← mod_wrap v h h1 h2]; first | rfl | (simp; done) | (congr 1), hx2⟩
def askB (row : List Vl) (k : Int) : Bool := rowB row && keyB k
theorem asked_any (t : Nat) (P : Option Addr) (c : Nat) (row : List Vl) (k : Int) (w : World) (hs : SlV w P c row) :
    Calls Tryz.prog 41 #[.pointer (some ⟨t, 0, none⟩), .slice P row.length c, .int .i64 k] w fun e w' => e = .returned (.int .i64 (if askB row k then 0 else 1)) ∧ Ext w w' := by
  have hR := row_any P c row w hs
  have hK := fun W => key_any k W
  unfold askB
  cases hr : rowB row <;> rw [hr] at hR <;> cases hk : keyB k <;> rw [hk] at hK
  all_goals
    go_enter Tryz.func41, Tryz.ntmps41
    go_wp2_with (first
      | (go_at_call 56; refine hR.mono ?_; rintro e w1 ⟨rfl, hx1⟩)
      | (go_at_call 57; refine (hK _).mono ?_; rintro e w2 ⟨rfl, rfl⟩))
    go_ret
    exact ⟨rfl, hx1⟩
end
section
open Go.RowKit
set_option linter.unusedVariables false
set_option linter.unusedSimpArgs false
set_option linter.unusedSectionVars false
set_option maxRecDepth 100000
attribute [local go_sem] Oper.semAt_some

theorem with1_any (x : HdR) (P : Option Addr) (c : Nat) (row : List Vl) (cb : Nat) (w : World) (hc : w.cell? ⟨cb, 0, none⟩ = some (.slice P row.length c)) (hs : SlV w P c row) (hx : SlV w x.1.1 x.1.2.1 x.1.2.2) :
    Calls Tryz.prog 79 #[.agg #[.slice x.1.1 x.1.2.2.length x.1.2.1, .int .i64 x.2], .pointer (some ⟨cb, 0, none⟩)] w fun e w' => e = .returned (.bool (decide (x.1.2.2 = row))) ∧ Ext w w' := by
  have hx0 := (Ext.refl w).alloc (.cells #[.slice x.1.1 x.1.2.2.length x.1.2.1, .int .i64 x.2] 56)
  have hE := eqv_any x.1.1 P x.1.2.1 c x.1.2.2 row _ (hx.ext hx0) (hs.ext hx0)
  have hc' := hx0.cell hc
  have hb := BoxN.new w 56 #[.slice x.1.1 x.1.2.2.length x.1.2.1, .int .i64 x.2]
  have b0 := hb.cell (i := 0) rfl
  obtain ⟨⟨A, B, L⟩, K⟩ := x
  dsimp only at *
  generalize decide (L = row) = z at *
  go_enter Tryz.func79, Tryz.ntmps79
  go_wp2_with (fail)
  generalize w.alloc (.cells #[.slice A L.length B, .int .i64 K] 56) = W at *
  go_wp2_with (go_at_call 80; refine hE.mono ?_; rintro e w1 ⟨rfl, hx1⟩)
  go_ret
  exact ⟨rfl, hx0.trans hx1⟩
/-- the places below i whose row is the row -/
def alikeN (m : List HdR) (row : List Vl) (i : Nat) : List Int := ((List.range i).filter fun j => decide ((nthH m j).1.2.2 = row)).map fun j : Nat => (j : Int)
theorem alikeN_le (m : List HdR) (row : List Vl) (i : Nat) : (alikeN m row i).length ≤ i := by
  unfold alikeN
  rw [List.length_map]
  exact Nat.le_trans (List.length_filter_le ..) (by simp)
theorem alikeN_yes {m : List HdR} {row : List Vl} {i : Nat} (h : (nthH m i).1.2.2 = row) : alikeN m row (i + 1) = alikeN m row i ++ [(i : Int)] := by
  unfold alikeN
  rw [List.range_succ, List.filter_append]
  simp [h]
theorem alikeN_no {m : List HdR} {row : List Vl} {i : Nat} (h : ¬ (nthH m i).1.2.2 = row) : alikeN m row (i + 1) = alikeN m row i := by
  unfold alikeN
  rw [List.range_succ, List.filter_append]
  simp [h]
set_option maxHeartbeats 4000000 in
theorem alike_any (Q : Option Addr) (d : Nat) (m : List HdR) (P : Option Addr) (c : Nat) (row : List Vl) (cb : Nat) (w : World) (hm : SlH w Q d m) (hl : m.length ≤ 100000) (hc : w.cell? ⟨cb, 0, none⟩ = some (.slice P row.length c)) (hs : SlV w P c row) :
    Calls Tryz.prog 78 #[.slice Q m.length d, .func (.func 79) #[] #[.pointer (some ⟨cb, 0, none⟩)]] w fun e w' => (∃ v, e = .returned v ∧ OwnI w' w.heap.size v (alikeN m row m.length)) ∧ Ext w w' := by
  have hlen := hm.sl.len
  go_enter Tryz.func78, Tryz.ntmps78
  go_wp2
  go_loopw [10, 5, 6, 7] (fun i v _ _ wr => ∃ j : Nat, j ≤ m.length ∧ i = .int .i64 j ∧ OwnI wr w.heap.size v (alikeN m row j) ∧ Ext w wr) (fun i _ _ _ _ => m.length - (intOf i).toNat)
  case atStart => exact ⟨0, by omega, rfl, OwnG.nil _ _ _ _ _, Ext.refl _⟩
  case round =>
    obtain ⟨j, hj, rfl, ho, hx⟩ := hrel
    by_cases hlt : j < m.length
    · have cj : (j : Int) < m.length := by omega
      have d1 : IntKind.i64.wrap ((j : Int) + 1) = (j : Int) + 1 := IntWalk.i64_in _ ⟨by omega, by omega⟩
      obtain ⟨b, off, hP, g0, g1⟩ := (hm.ext hx).at_ j hlt
      subst hP
      have hrw := ((hm.row _ (nthH_mem hlt)).1)
      have HB0 := Lib.hid (BoxN.new wr 56 #[.slice (nthH m j).1.1 (nthH m j).1.2.2.length (nthH m j).1.2.1, .int .i64 (nthH m j).2])
      have hx1 := hx.alloc (.cells #[.slice (nthH m j).1.1 (nthH m j).1.2.2.length (nthH m j).1.2.1, .int .i64 (nthH m j).2] 56)
      have hW := fun W (hxx : Ext w W) => with1_any (nthH m j) P c row cb W (hxx.cell hc) (hs.ext hxx) (hrw.ext hxx)
      have HX := Lib.hid hx
      have HO := Lib.hid (OwnG.ext ho ((Ext.refl wr).alloc (.cells #[.slice (nthH m j).1.1 (nthH m j).1.2.2.length (nthH m j).1.2.1, .int .i64 (nthH m j).2] 56)))
      have HAL := Lib.hid (alikeN_le m row j)
      have hb0 := HB0.out.cell (i := 0) rfl
      have hb1 := HB0.out.cell (i := 1) rfl
      by_cases he : (nthH m j).1.2.2 = row
      · have HY := Lib.hid (alikeN_yes he)
        simp only [decide_eq_true he] at hW
        clear ho hrw he
        generalize nthH m j = x at *
        go_wp2_with (fail)
        generalize wr.alloc (.cells #[.slice x.1.1 x.1.2.2.length x.1.2.1, .int .i64 x.2] 56) = W at *
        go_wp2_with (first
          | (go_at_call 79; refine (hW _ hx1).mono ?_; rintro e w1 ⟨rfl, hx2⟩)
          | (at_builtin; refine wpList_app_G _ elemI rfl _ _ rfl (base := w.heap.size) rfl (OwnG.ext (OwnG.ext HO.out hx2) ((Ext.refl _).alloc _)) (m := [(j : Int)]) rfl (SlG.one elemI.hk _ ?c1 ?c2) ?c3 ?c4 ?c5 ?c6 ?_))
        all_goals first
          | rfl
          | (intro e; cases e; done)
          | (have := HAL.out; have := hx2.size; have := hx1.size; simp; omega; done)
          | skip
        intro v7 w7 ho7 hb7
        have hx7 := below_ext ((hx1.trans hx2).alloc (.cells #[.int .i64 (j : Int)] 3)) hb7 (Nat.le_refl _)
        go_wp2_with (fail)
        go_roundw
        case rel => exact ⟨j + 1, by omega, by go_num, by rw [HY.out]; exact ho7, hx7⟩
        case measure => simp [intOf]; omega
      · have HY := Lib.hid (alikeN_no he)
        simp only [decide_eq_false he] at hW
        clear ho hrw he
        generalize nthH m j = x at *
        go_wp2_with (fail)
        generalize wr.alloc (.cells #[.slice x.1.1 x.1.2.2.length x.1.2.1, .int .i64 x.2] 56) = W at *
        go_wp2_with (go_at_call 79; refine (hW _ hx1).mono ?_; rintro e w1 ⟨rfl, hx2⟩)
        go_roundw
        case rel => exact ⟨j + 1, by omega, by go_num, by rw [HY.out]; exact OwnG.ext HO.out hx2, hx1.trans hx2⟩
        case measure => simp [intOf]; omega
    · obtain rfl : j = m.length := by omega
      go_wp2
      go_ret
      exact ⟨⟨_, rfl, ho⟩, hx⟩
end
end Go.Proofs.YtcbinafokhekmaaGreatDoor
