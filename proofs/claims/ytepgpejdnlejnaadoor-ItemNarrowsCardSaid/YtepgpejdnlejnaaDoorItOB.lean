/- Values are compared: Compare of both. -/
import Derived.Test.YtepgpejdnlejnaaDoorItOA
namespace Go.Proofs.YtepgpejdnlejnaaDoor
open Go.RowKit
set_option linter.unusedVariables false
set_option linter.unusedSimpArgs false
set_option linter.unusedSectionVars false
set_option maxRecDepth 20000
attribute [local go_sem] Oper.semAt_some

abbrev SlN := @SlG Int (fun x => [.int .i64 x])
def nthN (l : List Int) (i : Nat) : Int := l.getD i 0
theorem nthN_some {l : List Int} {i : Nat} (h : i < l.length) : l[i]? = some (nthN l i) := by simp [nthN, List.getD_eq_getElem?_getD, h]
theorem numAt {w : World} {P : Option Addr} {cap : Nat} {l : List Int} (h : SlN w P cap l) (i : Nat) (hi : i < l.length) :
    ∃ b off, P = some ⟨b, off, none⟩ ∧ w.cell? ⟨b, off + i, none⟩ = some (.int .i64 (nthN l i)) := by
  obtain ⟨b, off, e, h1⟩ := h.at_ i _ (nthN_some hi)
  exact ⟨b, off, e, by have := h1 0 _ rfl; simpa using this⟩
def firstNZ : List Int → Int
  | [] => 0
  | x :: r => if x = 0 then firstNZ r else x
theorem firstNZ_at : ∀ (l : List Int) (k : Nat) (x : Int), l[k]? = some x → (∀ j, j < k → l[j]? = some 0) → ¬ x = 0 → firstNZ l = x
  | [], k, x, h, _, _ => by simp at h
  | y :: l, 0, x, h, _, hx => by simp at h; subst h; simp [firstNZ, hx]
  | y :: l, k + 1, x, h, h0, hx => by
    have := h0 0 (by omega)
    simp at this
    subst this
    simp only [firstNZ, if_pos]
    exact firstNZ_at l k x (by simpa using h) (fun j hj => by have := h0 (j + 1) (by omega); simpa using this) hx
theorem firstNZ_no : ∀ (l : List Int), (∀ j, j < l.length → l[j]? = some 0) → firstNZ l = 0
  | [], _ => rfl
  | y :: l, h0 => by
    have := h0 0 (by simp)
    simp at this
    subst this
    simp only [firstNZ, if_pos]
    exact firstNZ_no l (fun j hj => by have := h0 (j + 1) (by simp; omega); simpa using this)
theorem or_any (P : Option Addr) (cap : Nat) (l : List Int) (w : World) (h : SlN w P cap l) :
    Calls Tryd.prog 64 #[.slice P l.length cap] w fun e w' => e = .returned (.int .i64 (firstNZ l)) ∧ w' = w := by
  have hlen := h.len
  go_enter Tryd.func64, Tryd.ntmps64
  go_wp2
  go_loopw [8, 5] (fun i _ wr => ∃ k : Nat, k ≤ l.length ∧ i = .int .i64 k ∧ (∀ j, j < k → l[j]? = some 0) ∧ wr = w) (fun i _ _ => l.length - (intOf i).toNat)
  case atStart => exact ⟨0, by omega, rfl, by intro j hj; omega, rfl⟩
  case round =>
    obtain ⟨k, hk, rfl, hall, rfl⟩ := hrel
    by_cases hlt : k < l.length
    · obtain ⟨b, off, hP, g0⟩ := numAt h k hlt
      subst hP
      have c1 : (k : Int) < l.length := by omega
      have d1 : IntKind.i64.wrap ((k : Int) + 1) = (k : Int) + 1 := IntWalk.i64_in _ ⟨by omega, by omega⟩
      have hs := nthN_some hlt
      by_cases he : nthN l k = 0
      · have Hy : Hid (∀ j, j < k + 1 → l[j]? = some 0) := Lib.hid (fun j hj => by
          by_cases hjk : j = k
          · subst hjk; rw [hs, he]
          · exact hall j (by omega))
        rw [he] at g0
        clear hall hs he
        go_wp2
        go_roundw
        case rel => exact ⟨k + 1, by omega, by go_num, Hy.out, by first | trivial | rfl⟩
        case measure => simp [intOf]; omega
      · have Hn := Lib.hid (firstNZ_at l k _ hs hall he)
        have he1 : (nthN l k == 0) = false := by simpa using he
        have he2 : (nthN l k != 0) = true := by simpa using he
        generalize nthN l k = x at *
        clear hall hs he
        go_wp2
        go_ret
        exact ⟨by rw [Hn.out]; rfl, rfl⟩
    · obtain rfl : k = l.length := by omega
      have Hn := Lib.hid (firstNZ_no l hall)
      clear hall
      go_wp2
      go_ret
      exact ⟨by rw [Hn.out]; rfl, rfl⟩
def cmpF (x y : Vl) : Int := firstNZ [lessF x.1 y.1, lessF x.2.1 y.2.1, textsF x.2.2 y.2.2]
theorem slN_three {w w1 : World} {a b c : Int} {t : TypeId} (hx : Ext (w.alloc (.cells #[.int .i64 a, .int .i64 b, .int .i64 c] t)) w1) : SlN w1 (some ⟨w.heap.size, 0, none⟩) 3 [a, b, c] := by
  refine ⟨fun i x hi => ⟨_, _, rfl, fun j v hj => ?_⟩, by simp, by omega⟩
  have key := box1 hx
  match j, hj with
  | 0, hj =>
    simp at hj
    subst hj
    match i, hi with
    | 0, hi => simp at hi; subst hi; exact key 0 _ rfl
    | 1, hi => simp at hi; subst hi; exact key 1 _ rfl
    | 2, hi => simp at hi; subst hi; exact key 2 _ rfl
    | i + 3, hi => simp at hi
  | j + 1, hj => simp at hj
theorem or3_any {a b c : Int} {W W2 : World} {t : TypeId} (hx : Ext (W.alloc (.cells #[.int .i64 a, .int .i64 b, .int .i64 c] t)) W2) :
    Calls Tryd.prog 64 #[.slice (some ⟨W.heap.size, 0, none⟩) 3 3] W2 fun e w' => e = .returned (.int .i64 (firstNZ [a, b, c])) ∧ w' = W2 := or_any _ 3 [a, b, c] W2 (slN_three hx)
set_option maxHeartbeats 4000000 in
theorem compare_any (x y : Vl) (w : World) : Calls Tryd.prog 24 #[x.v, y.v] w fun e w' => e = .returned (.int .i64 (cmpF x y)) ∧ Ext w w' := by
  have H1 := Lib.hid (show cmpF x y = firstNZ [lessF x.1 y.1, lessF x.2.1 y.2.1, textsF x.2.2 y.2.2] from rfl)
  obtain ⟨a, n, s⟩ := x
  obtain ⟨b, m, t⟩ := y
  show Calls _ _ #[.agg #[.int .i64 a, .int .i64 n, .string s], .agg #[.int .i64 b, .int .i64 m, .string t]] _ _
  simp only at H1
  go_enter Tryd.func24, Tryd.ntmps24
  go_wp2
  obtain ⟨W1, hW1⟩ : ∃ W1, (w.alloc (.cells #[.int .i64 a, .int .i64 n, .string s] 29)).alloc (.cells #[.int .i64 b, .int .i64 m, .string t] 29) = W1 := ⟨_, rfl⟩
  rw [hW1]
  have hx0 : Ext w W1 := hW1 ▸ ((Ext.refl w).alloc _).alloc _
  obtain ⟨k1, k2⟩ := boxes2 (w := w) (w1 := W1) (by rw [hW1]; exact Ext.refl _)
  have c0 := k1 0 _ rfl
  have c1 := k1 1 _ rfl
  have c2 := k1 2 _ rfl
  have c3 := k2 0 _ rfl
  have c4 := k2 1 _ rfl
  have c5 := k2 2 _ rfl
  clear k1 k2 hW1
  generalize w.heap.size + 1 = C at *
  generalize w.heap.size = B at *
  go_region_held3 (fun w' => w'.cell? ⟨B, 0, none⟩ = some (.int .i64 a) ∧ w'.cell? ⟨B, 1, none⟩ = some (.int .i64 n) ∧ w'.cell? ⟨B, 2, none⟩ = some (.string s) ∧ w'.cell? ⟨C, 0, none⟩ = some (.int .i64 b) ∧ w'.cell? ⟨C, 1, none⟩ = some (.int .i64 m) ∧ w'.cell? ⟨C, 2, none⟩ = some (.string t)) (first | go_keep | ((try dsimp only); (repeat' apply And.intro); all_goals first | go_keep | (refine Ext.cell ?_ c0; (repeat (first | exact Ext.refl _ | assumption | refine Ext.drew ?_ | refine Ext.drewN ?_ _ | refine Ext.alloc ?_ _ | refine Ext.trans ?_ x4 | refine Ext.trans ?_ x3)); done) | (refine Ext.cell ?_ c1; (repeat (first | exact Ext.refl _ | assumption | refine Ext.drew ?_ | refine Ext.drewN ?_ _ | refine Ext.alloc ?_ _ | refine Ext.trans ?_ x4 | refine Ext.trans ?_ x3)); done) | (refine Ext.cell ?_ c2; (repeat (first | exact Ext.refl _ | assumption | refine Ext.drew ?_ | refine Ext.drewN ?_ _ | refine Ext.alloc ?_ _ | refine Ext.trans ?_ x4 | refine Ext.trans ?_ x3)); done) | (refine Ext.cell ?_ c3; (repeat (first | exact Ext.refl _ | assumption | refine Ext.drew ?_ | refine Ext.drewN ?_ _ | refine Ext.alloc ?_ _ | refine Ext.trans ?_ x4 | refine Ext.trans ?_ x3)); done) | (refine Ext.cell ?_ c4; (repeat (first | exact Ext.refl _ | assumption | refine Ext.drew ?_ | refine Ext.drewN ?_ _ | refine Ext.alloc ?_ _ | refine Ext.trans ?_ x4 | refine Ext.trans ?_ x3)); done) | (refine Ext.cell ?_ c5; (repeat (first | exact Ext.refl _ | assumption | refine Ext.drew ?_ | refine Ext.drewN ?_ _ | refine Ext.alloc ?_ _ | refine Ext.trans ?_ x4 | refine Ext.trans ?_ x3)); done)))
    (first
      | (go_at_call 65; refine (cmpint_any _ _ _).mono ?_; rintro e w2 ⟨rfl, rfl⟩)
      | (go_at_call 66; refine (cmpstr_any _ _ _).mono ?_; rintro e w3 ⟨rfl, rfl⟩)
      | (go_at_call 64; refine (or3_any (Ext.refl _).drew).mono ?_; rintro e w4 ⟨rfl, rfl⟩)
      | fail)
  all_goals (
    go_wp2
    go_ret
    exact ⟨by rw [H1.out]; rfl, by (repeat (first | exact Ext.refl _ | assumption | refine Ext.drew ?_ | refine Ext.drewN ?_ _ | refine Ext.alloc ?_ _ | refine Ext.trans ?_ x4 | refine Ext.trans ?_ x3)); done⟩)
theorem lessF_refl (a : Int) : lessF a a = 0 := by simp [lessF]
set_option maxHeartbeats 4000000 in
theorem rcompare_any (x y : Vl) (w : World) (hs : x.2.2.size ≤ 140737488355328) (ht : y.2.2.size ≤ 140737488355328) : Calls Tryd.prog 25 #[x.v, y.v] w fun e w' => e = .returned (.int .i64 (cmpF x y)) ∧ Ext w w' := by
  have H1 := Lib.hid (show cmpF x y = firstNZ [lessF x.1 y.1, lessF x.2.1 y.2.1, textsF x.2.2 y.2.2] from rfl)
  obtain ⟨a, n, s⟩ := x
  obtain ⟨b, m, t⟩ := y
  show Calls _ _ #[.agg #[.int .i64 a, .int .i64 n, .string s], .agg #[.int .i64 b, .int .i64 m, .string t]] _ _
  simp only at H1 hs ht
  have hC := fun W => texts_any s t W hs ht
  generalize textsF s t = z3 at *
  by_cases q1 : lessF a b = 0
  · by_cases q2 : lessF n m = 0
    · have HB := Lib.hid (H1.out.trans (show firstNZ [lessF a b, lessF n m, z3] = z3 from by simp [firstNZ, q1, q2]; intro h; exact h.symm))
      have Q1 := Lib.hid q1
      have Q2 := Lib.hid q2
      clear q1 q2 H1
      go_enter Tryd.func25, Tryd.ntmps25
      go_wp2_with (first
        | (go_at_call 67; refine (less_any _ _ _).mono ?_; rintro e w2 ⟨rfl, rfl⟩; first | rw [Q1.out] | rw [Q2.out] | skip)
        | (go_at_call 68; refine (hC _).mono ?_; rintro e w4 ⟨rfl, x4⟩))
      go_ret
      exact ⟨by rw [HB.out]; rfl, by (repeat (first | exact Ext.refl _ | assumption | refine Ext.alloc ?_ _ | refine Ext.trans ?_ x4)); done⟩
    · have HB := Lib.hid (H1.out.trans (show firstNZ [lessF a b, lessF n m, z3] = lessF n m from by simp [firstNZ, q1, q2]))
      have q3 : (lessF n m == 0) = false := by simpa using q2
      have q4 : (lessF n m != 0) = true := by simpa using q2
      have Q1 := Lib.hid q1
      have Q2 : Hid (lessF a b = 0) := Q1
      clear q1 q2 H1
      go_enter Tryd.func25, Tryd.ntmps25
      go_wp2_with (first
        | (go_at_call 67; refine (less_any _ _ _).mono ?_; rintro e w2 ⟨rfl, rfl⟩; first | rw [Q1.out] | rw [Q2.out] | skip)
        | (go_at_call 68; refine (hC _).mono ?_; rintro e w4 ⟨rfl, x4⟩))
      go_ret
      exact ⟨by rw [HB.out]; rfl, by (repeat (first | exact Ext.refl _ | assumption | refine Ext.alloc ?_ _ | refine Ext.trans ?_ x4)); done⟩
  · have HB := Lib.hid (H1.out.trans (show firstNZ [lessF a b, lessF n m, z3] = lessF a b from by simp [firstNZ, q1]))
    have q3 : (lessF a b == 0) = false := by simpa using q1
    have q4 : (lessF a b != 0) = true := by simpa using q1
    have Q1 : Hid ((0 : Int) = 0) := Lib.hid rfl
    have Q2 := Q1
    clear q1 H1
    go_enter Tryd.func25, Tryd.ntmps25
    go_wp2_with (first
      | (go_at_call 67; refine (less_any _ _ _).mono ?_; rintro e w2 ⟨rfl, rfl⟩; first | rw [Q1.out] | rw [Q2.out] | skip)
      | (go_at_call 68; refine (hC _).mono ?_; rintro e w4 ⟨rfl, x4⟩))
    go_ret
    exact ⟨by rw [HB.out]; rfl, by (repeat (first | exact Ext.refl _ | assumption | refine Ext.alloc ?_ _ | refine Ext.trans ?_ x4)); done⟩
end Go.Proofs.YtepgpejdnlejnaaDoor
