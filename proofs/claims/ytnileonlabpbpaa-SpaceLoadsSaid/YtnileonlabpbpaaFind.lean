/- page.asked, page.find. -/
import Derived.Test.YtnileonlabpbpaaReadE
namespace Go.Proofs.Ytnileonlabpbpaa
open Go.RowKit
set_option linter.unusedVariables false
set_option maxRecDepth 20000

theorem asked_no (p : ByteArray) (x : Int) (w : World) (hp : p.size ≤ 140737488355328) (hv : ¬ ValidR p) :
    Calls Try.prog 47 #[.string p, .int .i64 x] w fun e w' => e = .returned (.int .i64 1) ∧ Ext w w' := by
  go_enter Try.func47, Try.ntmps47
  go_wp2_with (go_at_call 44; refine (valid_any p _ hp).mono ?_; rintro e w1 ⟨rfl, hx1⟩; rw [decide_eq_false hv])
  go_ret
  exact ⟨rfl, hx1⟩
theorem asked_ok (p : ByteArray) (x : Int) (w : World) (hv : ValidR p) (h0 : -9223372036854775808 ≤ x) (h1 : x ≤ 9223372036854775807) :
    Calls Try.prog 47 #[.string p, .int .i64 x] w fun e w' => e = .returned (.int .i64 (if lineB x then 0 else 7)) ∧ Ext w w' := by
  obtain ⟨z1, z2⟩ := sizes_of hv
  cases hl : lineB x with
  | true =>
    go_enter Try.func47, Try.ntmps47
    go_wp2_with (first
      | (go_at_call 44; refine (valid_any p _ (by omega)).mono ?_; rintro e w1 ⟨rfl, hx1⟩; rw [decide_eq_true hv])
      | (go_at_call 50; refine (line_any x _ h0 h1).mono ?_; rintro e w2 ⟨rfl, rfl⟩; rw [hl]))
    go_ret
    exact ⟨rfl, hx1⟩
  | false =>
    go_enter Try.func47, Try.ntmps47
    go_wp2_with (first
      | (go_at_call 44; refine (valid_any p _ (by omega)).mono ?_; rintro e w1 ⟨rfl, hx1⟩; rw [decide_eq_true hv])
      | (go_at_call 50; refine (line_any x _ h0 h1).mono ?_; rintro e w2 ⟨rfl, rfl⟩; rw [hl]))
    go_ret
    exact ⟨rfl, hx1⟩

/-- where a line stands among cells in order, or would -/
structure PosI (n : Nat) (f : Nat → Cel) (x : Int) (pos : Nat) : Prop where
  le : pos ≤ n
  below : ∀ i, i < pos → (f i).1 < x
  above : ∀ i, pos ≤ i → i < n → x ≤ (f i).1
theorem pos_of {n : Nat} {f : Nat → Cel} (hg : ¬ AnyBad f n) (x : Int) : ∃ pos, PosI n f x pos := by
  obtain ⟨pos, h1, hmin⟩ := least_of (Q := fun i => i = n ∨ (i < n ∧ x ≤ (f i).1)) ⟨n, .inl rfl⟩
  have hle : pos ≤ n := by rcases h1 with h | h <;> omega
  refine ⟨pos, hle, fun i hi => ?_, fun i h2 h3 => ?_⟩
  · apply Classical.byContradiction
    intro hc
    exact hmin i hi (.inr ⟨by omega, by omega⟩)
  · rcases h1 with h | ⟨h, h'⟩
    · omega
    · have := lines_up hg pos i h2 h3
      omega

theorem cmp_any (c : Cel) (x : Int) (w : World) (h1 : -1000 ≤ c.1 ∧ c.1 ≤ 1000) (h2 : -1000 ≤ x ∧ x ≤ 1000) :
    Calls Try.prog 62 #[.agg #[.int .i64 c.1, .string c.2], .int .i64 x] w fun e w' => e = .returned (.int .i64 (c.1 - x)) ∧ Ext w w' := by
  go_enter Try.func62, Try.ntmps62
  go_wp2
  go_ret
  exact ⟨rfl, (Ext.refl w).alloc _⟩

theorem ret_found {p : Int} {a b : Bool} (h : a = b) : Ending.returned (.tuple #[.int .i64 p, .bool a]) = .returned (.tuple #[.int .i64 p, .bool b]) := by rw [h]
set_option maxHeartbeats 1000000 in
theorem search_any (A : Option Addr) (cap n : Nat) (f : Nat → Cel) (x : Int) (w : World) (hn : n ≤ 200) (hs : SlC w A n f) (hg : ¬ AnyBad f n) (h2 : 1 ≤ x ∧ x ≤ 200) (pos : Nat) (hp : PosI n f x pos) :
    Calls Try.prog 61 #[.slice A n cap, .int .i64 x, .func (.func 62) #[] #[]] w fun e w' => e = .returned (.tuple #[.int .i64 pos, .bool (decide (pos < n ∧ (f pos).1 = x))]) ∧ Ext w w' := by
  have hc := fun i (hi : i < n) W => cmp_any (f i) x W (by have := good_at hg i hi; omega) (by omega)
  have hle := hp.le
  go_enter Try.func61, Try.ntmps61
  go_wp2
  go_loopw [9, 10] (fun a b wr => ∃ i j : Nat, i ≤ pos ∧ pos ≤ j ∧ j ≤ n ∧ a = .int .i64 i ∧ b = .int .i64 j ∧ Ext w wr) (fun a b _ => (intOf b).toNat - (intOf a).toNat)
  case atStart => exact ⟨0, n, by omega, by omega, by omega, rfl, rfl, Ext.refl w⟩
  case round =>
    obtain ⟨i, j, h3, h4, h5, rfl, rfl, hx⟩ := hrel
    by_cases hlt : i < j
    · obtain ⟨b, off, rfl, g1, g2⟩ := hs.at_ ((i + j) / 2) (by omega)
      replace g1 := hx.cell g1
      replace g2 := hx.cell g2
      have hh := hc ((i + j) / 2) (by omega)
      have E1 := Lib.hid (show ((i : Int) + j) / 2 = (((i + j) / 2 : Nat) : Int) by omega)
      by_cases c : (f ((i + j) / 2)).1 < x
      · have hpos : (i + j) / 2 < pos := by
          apply Classical.byContradiction
          intro hc'
          have := hp.above ((i + j) / 2) (by omega) (by omega)
          omega
        have d1 : (f ((i + j) / 2)).1 - x < 0 := by omega
        go_wp2_with (go_at_call 62; refine (hh _).mono ?_; rintro e w1 ⟨rfl, hx1⟩)
        exact ⟨⟨(i + j) / 2 + 1, j, by omega, by omega, by omega, by rw [E1.out]; go_num, rfl, hx.trans hx1⟩, by simp [intOf]; omega⟩
      · have hpos : pos ≤ (i + j) / 2 := by
          apply Classical.byContradiction
          intro hc'
          have := hp.below ((i + j) / 2) (by omega)
          omega
        have d1 : ¬ (f ((i + j) / 2)).1 - x < 0 := by omega
        go_wp2_with (go_at_call 62; refine (hh _).mono ?_; rintro e w1 ⟨rfl, hx1⟩)
        exact ⟨⟨i, (i + j) / 2, by omega, by omega, by omega, rfl, by rw [E1.out], hx.trans hx1⟩, by simp [intOf]; omega⟩
    · obtain rfl : i = j := by omega
      obtain rfl : i = pos := by omega
      by_cases hin : i < n
      · obtain ⟨b, off, rfl, g1, g2⟩ := hs.at_ i hin
        replace g1 := hx.cell g1
        replace g2 := hx.cell g2
        have hh := hc i hin
        go_wp2_with (go_at_call 62; refine (hh _).mono ?_; rintro e w1 ⟨rfl, hx1⟩)
        go_ret2
        refine ⟨ret_found ?_, hx.trans hx1⟩
        by_cases e : (f i).1 = x
        · simp [hin, e]
        · have : ¬ (f i).1 - x = 0 := by omega
          simp [hin, e, this]
      · go_wp2
        go_ret2
        exact ⟨ret_found (by simp [hin]), hx⟩

theorem find_any (A : Option Addr) (cap n : Nat) (f : Nat → Cel) (x : Int) (w : World) (hn : n ≤ 200) (hs : SlC w A n f) (hg : ¬ AnyBad f n) (h2 : 1 ≤ x ∧ x ≤ 200) (pos : Nat) (hp : PosI n f x pos) :
    Calls Try.prog 49 #[.slice A n cap, .int .i64 x] w fun e w' => e = .returned (.tuple #[.int .i64 pos, .bool (decide (pos < n ∧ (f pos).1 = x))]) ∧ Ext w w' := by
  go_enter Try.func49, Try.ntmps49
  go_wp2_with (go_at_call 61; refine (search_any A cap n f x _ hn hs hg h2 pos hp).mono ?_; rintro e w1 ⟨rfl, hx1⟩)
  go_ret2
  exact ⟨ret_found (by simp), hx1⟩
end Go.Proofs.Ytnileonlabpbpaa
