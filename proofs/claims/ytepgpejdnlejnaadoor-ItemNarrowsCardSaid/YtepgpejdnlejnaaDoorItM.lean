/- Items: whether a value fits an item, of both. -/
import Derived.Test.YtepgpejdnlejnaaDoorItL
namespace Go.Proofs.YtepgpejdnlejnaaDoor
open Go.RowKit
set_option linter.unusedVariables false
set_option linter.unusedSimpArgs false
set_option linter.unusedSectionVars false
set_option maxRecDepth 20000
attribute [local go_sem] Oper.semAt_some

def fitB (x : It) (v : Vl) : Bool := valB v && decide (v.1 = x.2.1) && (if v.1 = 2 then decide ((v.2.2.size : Int) ≤ x.2.2.2.2) else withinB v.2.1 x.2.2.1 x.2.2.2.1)
theorem valB_kind {v : Vl} (h : valB v = true) : v.1 = 1 ∨ v.1 = 2 := by
  unfold valB at h
  split at h
  · exact .inl (by assumption)
  · exact .inr (of_decide_eq_true h).1
/-- two boxes were made, then the world grew: what they hold -/
theorem boxes2 {w w1 : World} {A B : Array Value} {t u : TypeId} (hx : Ext ((w.alloc (.cells A t)).alloc (.cells B u)) w1) :
    (∀ i v, A[i]? = some v → w1.cell? ⟨w.heap.size, i, none⟩ = some v) ∧ (∀ i v, B[i]? = some v → w1.cell? ⟨w.heap.size + 1, i, none⟩ = some v) :=
  ⟨fun i v h => hx.cell ((World.cell?_alloc2_first A t _ i).trans h), fun i v h => hx.cell ((World.cell?_alloc2_new _ B u i).trans h)⟩
theorem box1 {w w1 : World} {A : Array Value} {t : TypeId} (hx : Ext (w.alloc (.cells A t)) w1) :
    ∀ i v, A[i]? = some v → w1.cell? ⟨w.heap.size, i, none⟩ = some v := fun i v h => hx.cell ((World.cell?_alloc_mark _ _ _ _ i).trans h)

set_option maxHeartbeats 4000000 in
theorem takes_any (x : It) (v : Vl) (w : World) : Calls Tryd.prog 62 #[x.v, v.v] w fun e w' => e = .returned (.bool (fitB x v)) ∧ Ext w w' := by
  have hV := fun W => value_any v W
  have hk := @valB_kind v
  obtain ⟨s, k, lo, hi, n⟩ := x
  obtain ⟨a, c, t⟩ := v
  show Calls _ _ #[.agg #[.string s, .int .i64 k, .int .i64 lo, .int .i64 hi, .int .i64 n], .agg #[.int .i64 a, .int .i64 c, .string t]] _ _
  unfold Vl.v at hV
  cases hv : valB (a, c, t) with
  | false =>
    have HB := Lib.hid (show fitB (s, k, lo, hi, n) (a, c, t) = false from by simp [fitB, hv])
    simp only [hv] at hV
    clear hk hv
    go_enter Tryd.func62, Tryd.ntmps62
    go_wp2_with (first
      | (go_at_call 12; refine (hV _).mono ?_; rintro e w1 ⟨rfl, hx1⟩; obtain ⟨hA, hB⟩ := boxes2 hx1; have fa1 := hA 1 _ rfl; have fa2 := hA 2 _ rfl; have fa3 := hA 3 _ rfl; have fa4 := hA 4 _ rfl; have fb0 := hB 0 _ rfl; have fb1 := hB 1 _ rfl; have fb2 := hB 2 _ rfl; clear hA hB)
      | (go_at_call 54; refine (within_any _ _ _ _).mono ?_; rintro e w2 ⟨rfl, rfl⟩))
    go_ret
    exact ⟨by rw [HB.out]; first | rfl | (simp; done), (((Ext.refl w).alloc _).alloc _).trans hx1⟩
  | true =>
    have hk := hk hv
    simp only [hv] at hV
    by_cases e : a = k
    · subst e
      rcases hk with hk | hk
      · simp only at hk
        subst hk
        have HB := Lib.hid (show fitB (s, 1, lo, hi, n) (1, c, t) = withinB c lo hi from by simp [fitB, hv])
        clear hv
        go_enter Tryd.func62, Tryd.ntmps62
        go_wp2_with (first
          | (go_at_call 12; refine (hV _).mono ?_; rintro e w1 ⟨rfl, hx1⟩; obtain ⟨hA, hB⟩ := boxes2 hx1; have fa1 := hA 1 _ rfl; have fa2 := hA 2 _ rfl; have fa3 := hA 3 _ rfl; have fa4 := hA 4 _ rfl; have fb0 := hB 0 _ rfl; have fb1 := hB 1 _ rfl; have fb2 := hB 2 _ rfl; clear hA hB)
          | (go_at_call 54; refine (within_any _ _ _ _).mono ?_; rintro e w2 ⟨rfl, rfl⟩))
        go_ret
        exact ⟨by rw [HB.out]; first | rfl | (simp; done), (((Ext.refl w).alloc _).alloc _).trans hx1⟩
      · simp only at hk
        subst hk
        by_cases q1 : (t.size : Int) ≤ n
        · have HB := Lib.hid (show fitB (s, 2, lo, hi, n) (2, c, t) = true from by simp [fitB, hv, q1])
          clear hv
          go_enter Tryd.func62, Tryd.ntmps62
          go_wp2_with (first
            | (go_at_call 12; refine (hV _).mono ?_; rintro e w1 ⟨rfl, hx1⟩; obtain ⟨hA, hB⟩ := boxes2 hx1; have fa1 := hA 1 _ rfl; have fa2 := hA 2 _ rfl; have fa3 := hA 3 _ rfl; have fa4 := hA 4 _ rfl; have fb0 := hB 0 _ rfl; have fb1 := hB 1 _ rfl; have fb2 := hB 2 _ rfl; clear hA hB)
            | (go_at_call 54; refine (within_any _ _ _ _).mono ?_; rintro e w2 ⟨rfl, rfl⟩))
          go_ret
          exact ⟨by rw [HB.out]; first | rfl | (simp; done), (((Ext.refl w).alloc _).alloc _).trans hx1⟩
        · have HB := Lib.hid (show fitB (s, 2, lo, hi, n) (2, c, t) = false from by simp [fitB, hv, q1])
          have q3 : decide ((t.size : Int) ≤ n) = false := decide_eq_false q1
          clear hv q1
          go_enter Tryd.func62, Tryd.ntmps62
          go_wp2_with (first
            | (go_at_call 12; refine (hV _).mono ?_; rintro e w1 ⟨rfl, hx1⟩; obtain ⟨hA, hB⟩ := boxes2 hx1; have fa1 := hA 1 _ rfl; have fa2 := hA 2 _ rfl; have fa3 := hA 3 _ rfl; have fa4 := hA 4 _ rfl; have fb0 := hB 0 _ rfl; have fb1 := hB 1 _ rfl; have fb2 := hB 2 _ rfl; clear hA hB)
            | (go_at_call 54; refine (within_any _ _ _ _).mono ?_; rintro e w2 ⟨rfl, rfl⟩))
          go_ret
          exact ⟨by rw [HB.out]; first | rfl | (simp; done), (((Ext.refl w).alloc _).alloc _).trans hx1⟩
    · have HB := Lib.hid (show fitB (s, k, lo, hi, n) (a, c, t) = false from by simp [fitB, e])
      have e1 : (a == k) = false := by simpa using e
      have e2 : (a != k) = true := by simpa using e
      clear hk hv e
      go_enter Tryd.func62, Tryd.ntmps62
      go_wp2_with (first
        | (go_at_call 12; refine (hV _).mono ?_; rintro e w1 ⟨rfl, hx1⟩; obtain ⟨hA, hB⟩ := boxes2 hx1; have fa1 := hA 1 _ rfl; have fa2 := hA 2 _ rfl; have fa3 := hA 3 _ rfl; have fa4 := hA 4 _ rfl; have fb0 := hB 0 _ rfl; have fb1 := hB 1 _ rfl; have fb2 := hB 2 _ rfl; clear hA hB)
        | (go_at_call 54; refine (within_any _ _ _ _).mono ?_; rintro e w2 ⟨rfl, rfl⟩))
      go_ret
      exact ⟨by rw [HB.out]; first | rfl | (simp; done), (((Ext.refl w).alloc _).alloc _).trans hx1⟩

set_option maxHeartbeats 4000000 in
theorem rholds_any (x : It) (v : Vl) (w : World) : Calls Tryd.prog 63 #[x.v, v.v] w fun e w' => e = .returned (.bool (fitB x v)) ∧ Ext w w' := by
  have hV := fun W => rvalue_any v W
  have hk := @valB_kind v
  obtain ⟨s, k, lo, hi, n⟩ := x
  obtain ⟨a, c, t⟩ := v
  show Calls _ _ #[.agg #[.string s, .int .i64 k, .int .i64 lo, .int .i64 hi, .int .i64 n], .agg #[.int .i64 a, .int .i64 c, .string t]] _ _
  unfold Vl.v at hV
  cases hv : valB (a, c, t) with
  | false =>
    have HB := Lib.hid (show fitB (s, k, lo, hi, n) (a, c, t) = false from by simp [fitB, hv])
    simp only [hv] at hV
    clear hk hv
    go_enter Tryd.func63, Tryd.ntmps63
    go_wp2_with (first
      | (go_at_call 13; refine (hV _).mono ?_; rintro e w1 ⟨rfl, hx1⟩; obtain ⟨hA, hB⟩ := boxes2 hx1; have fa1 := hA 1 _ rfl; have fa2 := hA 2 _ rfl; have fa3 := hA 3 _ rfl; have fa4 := hA 4 _ rfl; have fb0 := hB 0 _ rfl; have fb1 := hB 1 _ rfl; have fb2 := hB 2 _ rfl; clear hA hB)
      | (go_at_call 54; refine (within_any _ _ _ _).mono ?_; rintro e w2 ⟨rfl, rfl⟩))
    go_ret
    exact ⟨by rw [HB.out]; first | rfl | (simp; done), (((Ext.refl w).alloc _).alloc _).trans hx1⟩
  | true =>
    have hk := hk hv
    simp only [hv] at hV
    by_cases e : a = k
    · subst e
      rcases hk with hk | hk
      · simp only at hk
        subst hk
        by_cases q1 : lo ≤ c
        · by_cases q2 : c ≤ hi
          · have HB := Lib.hid (show fitB (s, 1, lo, hi, n) (1, c, t) = true from by simp [fitB, hv, withinB, q1, q2])
            clear hv
            go_enter Tryd.func63, Tryd.ntmps63
            go_wp2_with (first
              | (go_at_call 13; refine (hV _).mono ?_; rintro e w1 ⟨rfl, hx1⟩; obtain ⟨hA, hB⟩ := boxes2 hx1; have fa1 := hA 1 _ rfl; have fa2 := hA 2 _ rfl; have fa3 := hA 3 _ rfl; have fa4 := hA 4 _ rfl; have fb0 := hB 0 _ rfl; have fb1 := hB 1 _ rfl; have fb2 := hB 2 _ rfl; clear hA hB)
              | (go_at_call 54; refine (within_any _ _ _ _).mono ?_; rintro e w2 ⟨rfl, rfl⟩))
            go_ret
            exact ⟨by rw [HB.out]; first | rfl | (simp; done), (((Ext.refl w).alloc _).alloc _).trans hx1⟩
          · have HB := Lib.hid (show fitB (s, 1, lo, hi, n) (1, c, t) = false from by simp [fitB, hv, withinB, q1, q2])
            have q3 : decide (c ≤ hi) = false := decide_eq_false q2
            clear hv q2
            go_enter Tryd.func63, Tryd.ntmps63
            go_wp2_with (first
              | (go_at_call 13; refine (hV _).mono ?_; rintro e w1 ⟨rfl, hx1⟩; obtain ⟨hA, hB⟩ := boxes2 hx1; have fa1 := hA 1 _ rfl; have fa2 := hA 2 _ rfl; have fa3 := hA 3 _ rfl; have fa4 := hA 4 _ rfl; have fb0 := hB 0 _ rfl; have fb1 := hB 1 _ rfl; have fb2 := hB 2 _ rfl; clear hA hB)
              | (go_at_call 54; refine (within_any _ _ _ _).mono ?_; rintro e w2 ⟨rfl, rfl⟩))
            go_ret
            exact ⟨by rw [HB.out]; first | rfl | (simp; done), (((Ext.refl w).alloc _).alloc _).trans hx1⟩
        · have HB := Lib.hid (show fitB (s, 1, lo, hi, n) (1, c, t) = false from by simp [fitB, hv, withinB, q1])
          have q3 : decide (lo ≤ c) = false := decide_eq_false q1
          clear hv q1
          go_enter Tryd.func63, Tryd.ntmps63
          go_wp2_with (first
            | (go_at_call 13; refine (hV _).mono ?_; rintro e w1 ⟨rfl, hx1⟩; obtain ⟨hA, hB⟩ := boxes2 hx1; have fa1 := hA 1 _ rfl; have fa2 := hA 2 _ rfl; have fa3 := hA 3 _ rfl; have fa4 := hA 4 _ rfl; have fb0 := hB 0 _ rfl; have fb1 := hB 1 _ rfl; have fb2 := hB 2 _ rfl; clear hA hB)
            | (go_at_call 54; refine (within_any _ _ _ _).mono ?_; rintro e w2 ⟨rfl, rfl⟩))
          go_ret
          exact ⟨by rw [HB.out]; first | rfl | (simp; done), (((Ext.refl w).alloc _).alloc _).trans hx1⟩
      · simp only at hk
        subst hk
        by_cases q1 : (t.size : Int) ≤ n
        · have HB := Lib.hid (show fitB (s, 2, lo, hi, n) (2, c, t) = true from by simp [fitB, hv, q1])
          clear hv
          go_enter Tryd.func63, Tryd.ntmps63
          go_wp2_with (first
            | (go_at_call 13; refine (hV _).mono ?_; rintro e w1 ⟨rfl, hx1⟩; obtain ⟨hA, hB⟩ := boxes2 hx1; have fa1 := hA 1 _ rfl; have fa2 := hA 2 _ rfl; have fa3 := hA 3 _ rfl; have fa4 := hA 4 _ rfl; have fb0 := hB 0 _ rfl; have fb1 := hB 1 _ rfl; have fb2 := hB 2 _ rfl; clear hA hB)
            | (go_at_call 54; refine (within_any _ _ _ _).mono ?_; rintro e w2 ⟨rfl, rfl⟩))
          go_ret
          exact ⟨by rw [HB.out]; first | rfl | (simp; done), (((Ext.refl w).alloc _).alloc _).trans hx1⟩
        · have HB := Lib.hid (show fitB (s, 2, lo, hi, n) (2, c, t) = false from by simp [fitB, hv, q1])
          have q3 : decide ((t.size : Int) ≤ n) = false := decide_eq_false q1
          clear hv q1
          go_enter Tryd.func63, Tryd.ntmps63
          go_wp2_with (first
            | (go_at_call 13; refine (hV _).mono ?_; rintro e w1 ⟨rfl, hx1⟩; obtain ⟨hA, hB⟩ := boxes2 hx1; have fa1 := hA 1 _ rfl; have fa2 := hA 2 _ rfl; have fa3 := hA 3 _ rfl; have fa4 := hA 4 _ rfl; have fb0 := hB 0 _ rfl; have fb1 := hB 1 _ rfl; have fb2 := hB 2 _ rfl; clear hA hB)
            | (go_at_call 54; refine (within_any _ _ _ _).mono ?_; rintro e w2 ⟨rfl, rfl⟩))
          go_ret
          exact ⟨by rw [HB.out]; first | rfl | (simp; done), (((Ext.refl w).alloc _).alloc _).trans hx1⟩
    · have HB := Lib.hid (show fitB (s, k, lo, hi, n) (a, c, t) = false from by simp [fitB, e])
      have e1 : (a == k) = false := by simpa using e
      have e2 : (a != k) = true := by simpa using e
      clear hk hv e
      go_enter Tryd.func63, Tryd.ntmps63
      go_wp2_with (first
        | (go_at_call 13; refine (hV _).mono ?_; rintro e w1 ⟨rfl, hx1⟩; obtain ⟨hA, hB⟩ := boxes2 hx1; have fa1 := hA 1 _ rfl; have fa2 := hA 2 _ rfl; have fa3 := hA 3 _ rfl; have fa4 := hA 4 _ rfl; have fb0 := hB 0 _ rfl; have fb1 := hB 1 _ rfl; have fb2 := hB 2 _ rfl; clear hA hB)
        | (go_at_call 54; refine (within_any _ _ _ _).mono ?_; rintro e w2 ⟨rfl, rfl⟩))
      go_ret
      exact ⟨by rw [HB.out]; first | rfl | (simp; done), (((Ext.refl w).alloc _).alloc _).trans hx1⟩
end Go.Proofs.YtepgpejdnlejnaaDoor
