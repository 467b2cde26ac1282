/- PageChanges and PageBack return true, for all arguments. -/
import Derived.Test.YtfinljcembipkaaChgB
namespace Go.Proofs.Ytfinljcembipkaa
open Go.RowKit
set_option linter.unusedVariables false

/-- what Made gives: nothing, or a page with these cells -/
theorem made_cases (size : Int) (A : Option Addr) (cap n : Nat) (f : Nat → Cel) (hz0 : -9223372036854775808 ≤ size) (hz1 : size ≤ 9223372036854775807) (hn : n ≤ 140737488355328) (hsz : ∀ i, i < n → (f i).2.size ≤ 140737488355328) :
    (∀ w, SlC w A n f → Calls Try.prog 9 #[.int .i64 size, .slice A n cap] w fun e w' => (∃ s, e = .returned (.tuple #[.string s, .bool false])) ∧ Ext w w') ∨
    (∃ p, ValidR p ∧ cnt p = n ∧ (∀ i, i < n → cel p i = f i) ∧ ∀ w, SlC w A n f → Calls Try.prog 9 #[.int .i64 size, .slice A n cap] w fun e w' => e = .returned (.tuple #[.string p, .bool true]) ∧ Ext w w') := by
  cases hb : smallB n f with
  | false => exact .inl fun w hs => (made_no size A cap n f w hn hs hsz hb).mono fun e w' ⟨he, hx⟩ => ⟨⟨_, he⟩, hx⟩
  | true =>
    have hM := fun (w : World) (hs : SlC w A n f) => made_yes size A cap n f w hz0 hz1 hn hs hsz hb
    by_cases h0 : (fillRes size n f).2 = 0
    · right
      have hg : ¬ AnyBad f n := fun h => by unfold fillRes at h0; rw [if_pos h] at h0; cases h0
      have hz : sizeB size = true := by
        cases h : sizeB size with
        | true => rfl
        | false => unfold fillRes at h0; rw [if_neg hg, h] at h0; simp at h0
      obtain ⟨m, rfl⟩ : ∃ m : Nat, size = m := ⟨size.toNat, by simp [sizeB] at hz; omega⟩
      have e : fillRes m n f = filledRes m n f := by
        unfold fillRes filledRes
        rw [if_neg hg, hz]
        simp
      rw [e] at h0 hM
      obtain ⟨e1, e2, e3, e4⟩ := filled_valid m n f hg hz h0
      refine ⟨_, e2, e3, e4, fun w hs => (hM w hs).mono fun e w' ⟨he, hx⟩ => ⟨?_, hx⟩⟩
      rw [he, h0]
      rfl
    · left
      intro w hs
      refine (hM w hs).mono fun e w' ⟨he, hx⟩ => ⟨⟨(fillRes size n f).1, ?_⟩, hx⟩
      rw [he, beq_eq_false_iff_ne.2 h0]

set_option maxRecDepth 20000 in
set_option maxHeartbeats 2000000 in
theorem changes_any (size : Int) (A : Option Addr) (cap n : Nat) (f : Nat → Cel) (line other : Int) (s : ByteArray) (w : World) (hz0 : -9223372036854775808 ≤ size) (hz1 : size ≤ 9223372036854775807) (hn : n ≤ 140737488355328) (hs : SlC w A n f) (hsz : ∀ i, i < n → (f i).2.size ≤ 140737488355328) (hs2 : s.size ≤ 140737488355328)
    (hl : -9223372036854775808 ≤ line ∧ line ≤ 9223372036854775807) (ho : -9223372036854775808 ≤ other ∧ other ≤ 9223372036854775807) :
    Calls Try.prog 8 #[.int .i64 size, .slice A n cap, .int .i64 line, .int .i64 other, .string s] w fun e w' => e = .returned (.bool true) ∧ Ext w w' := by
  rcases made_cases size A cap n f hz0 hz1 hn hsz with hM | ⟨p, hv, _, _, hM⟩
  · go_enter Try.func8, Try.ntmps8
    go_wp2_with (first
      | (go_at_call 9; refine (hM _ hs).mono ?_; rintro e w1 ⟨⟨s1, rfl⟩, hx1⟩)
      | (go_at_call 10; refine (awake_any _).mono ?_; rintro e w2 ⟨rfl, hx2⟩))
    go_ret
    exact ⟨rfl, hx1.trans hx2⟩
  · by_cases h5 : s.size ≤ 5000
    · exact changes_walk size A cap n f line other s p w h5 hv hM hs hl ho
    · have d1 : (5000 : Int) < s.size := by omega
      go_enter Try.func8, Try.ntmps8
      go_wp2_with (first
        | (go_at_call 9; refine (hM _ hs).mono ?_; rintro e w1 ⟨rfl, hx1⟩)
        | (go_at_call 10; refine (awake_any _).mono ?_; rintro e w2 ⟨rfl, hx2⟩))
      go_ret
      exact ⟨rfl, hx1.trans hx2⟩
end Go.Proofs.Ytfinljcembipkaa
