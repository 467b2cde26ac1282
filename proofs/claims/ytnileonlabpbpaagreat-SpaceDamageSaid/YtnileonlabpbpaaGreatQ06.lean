/- ReadE; Find; Own; Set; BackA; Del (merged by group.py) -/
import Derived.Test.YtnileonlabpbpaaGreatQ05
import Derived.Laws.OwnMore
import Derived.Deep.RegionLaw
namespace Go.Proofs.YtnileonlabpbpaaGreat
section
open Go.RowKit
set_option linter.unusedVariables false
set_option maxRecDepth 20000

/-- the least free line, as the program counts -/
def nextF (f : Nat → Cel) : Nat → Nat
  | 0 => 1
  | k + 1 => if (f k).1 = nextF f k then nextF f k + 1 else nextF f k
structure NextI (f : Nat → Cel) (k : Nat) : Prop where
  used : ∀ m : Nat, 1 ≤ m → m < nextF f k → ∃ i, i < k ∧ (f i).1 = m
  free : ∀ i, i < k → (f i).1 ≠ nextF f k
  ge : 1 ≤ nextF f k
  le : nextF f k ≤ 201
theorem nextI {f : Nat → Cel} {n : Nat} (hg : ¬ AnyBad f n) : ∀ k, k ≤ n → NextI f k := by
  intro k
  induction k with
  | zero => exact fun _ => ⟨fun m h1 h2 => by simp [nextF] at h2; omega, fun i hi => by omega, by simp [nextF], by simp [nextF]⟩
  | succ k ih =>
    intro hk
    have I := ih (by omega)
    have hgk := good_at hg k (by omega)
    by_cases h : (f k).1 = nextF f k
    · have e : nextF f (k + 1) = nextF f k + 1 := by simp [nextF, h]
      refine ⟨fun m h1 h2 => ?_, fun i hi => ?_, ?_, ?_⟩
      · rw [e] at h2
        by_cases hm : m = nextF f k
        · exact ⟨k, by omega, by rw [h, hm]⟩
        · obtain ⟨i, hi, he⟩ := I.used m h1 (by omega)
          exact ⟨i, by omega, he⟩
      · rw [e]
        by_cases hik : i = k
        · rw [hik]; omega
        · have := line_lt hg i k (by omega) (by omega); omega
      · omega
      · omega
    · have e : nextF f (k + 1) = nextF f k := by simp [nextF, h]
      refine ⟨fun m h1 h2 => ?_, fun i hi => ?_, by rw [e]; exact I.ge, by rw [e]; exact I.le⟩
      · rw [e] at h2
        obtain ⟨i, hi, he⟩ := I.used m h1 h2
        exact ⟨i, by omega, he⟩
      · rw [e]
        by_cases hik : i = k
        · rw [hik]; exact h
        · exact I.free i (by omega)

theorem quantity2_any (size : Int) (A : Option Addr) (cap n : Nat) (f : Nat → Cel) (w : World) (hn : n ≤ 200) (hs : SlC w A n f) (hg : ¬ AnyBad f n) :
    Calls Tryz.prog 133 #[.int .i64 size, .slice A n cap] w fun e w' => e = .returned (.int .i64 (nextF f n)) ∧ Ext w w' := by
  have hI := fun k hk => nextI hg k hk
  clear hg
  go_enter Tryz.func133, Tryz.ntmps133
  go_wp2
  go_loopw [5, 10] (fun x i wr => ∃ k : Nat, k ≤ n ∧ i = .int .i64 k ∧ x = .int .i64 (nextF f k) ∧ Ext w wr) (fun _ i _ => n - (intOf i).toNat)
  case atStart => exact ⟨0, by omega, rfl, rfl, Ext.refl w⟩
  case round =>
    obtain ⟨k, hk, rfl, rfl, hx⟩ := hrel
    by_cases hlt : k < n
    · obtain ⟨b, off, rfl, h1, h2⟩ := hs.at_ k hlt
      replace h1 := hx.cell h1
      replace h2 := hx.cell h2
      have hle := (hI k hk).le
      have e : nextF f (k + 1) = if (f k).1 = nextF f k then nextF f k + 1 else nextF f k := rfl
      by_cases c : (f k).1 = nextF f k
      · rw [if_pos c] at e
        have E := Lib.hid e
        clear e hI
        generalize nextF f k = m at *
        go_wp2
        exact ⟨⟨k + 1, by omega, by go_num, by rw [E.out]; go_num, hx.alloc _⟩, by simp [intOf]; omega⟩
      · rw [if_neg c] at e
        have E := Lib.hid e
        clear e hI
        generalize nextF f k = m at *
        go_wp2
        exact ⟨⟨k + 1, by omega, by go_num, by rw [E.out], hx.alloc _⟩, by simp [intOf]; omega⟩
    · obtain rfl : k = n := by omega
      go_wp2
      go_ret
      exact ⟨rfl, hx⟩

theorem refAt_hit (A : Option Addr) (cap n : Nat) (f : Nat → Cel) (x : Int) (w : World) (hn : n ≤ 4611686018427387904) (hs : SlC w A n f) (i0 : Nat) (hi0 : i0 < n) (h0 : (f i0).1 = x) (hm : ∀ i, i < i0 → (f i).1 ≠ x) :
    Calls Tryz.prog 98 #[.slice A n cap, .int .i64 x] w fun e w' => e = .returned (.string (f i0).2) ∧ w = w' := by
  go_enter Tryz.func98, Tryz.ntmps98
  go_wp2
  go_loop [5] (fun i => ∃ k : Nat, k ≤ i0 ∧ i = .int .i64 k) (fun i => n - (intOf i).toNat)
  case atStart => exact ⟨0, by omega, rfl⟩
  case round =>
    obtain ⟨k, hk, rfl⟩ := hrel
    obtain ⟨b, off, rfl, h1, h2⟩ := hs.at_ k (by omega)
    by_cases hlt : k < i0
    · have hne := hm k hlt
      have hne' : ¬ (f k).1 = x := hne
      go_wp2
      exact ⟨⟨k + 1, by omega, by go_num⟩, by simp [intOf]; omega⟩
    · obtain rfl : k = i0 := by omega
      rw [h0] at h1
      go_wp2
      go_ret
      exact ⟨rfl, rfl⟩
theorem refAt_none (A : Option Addr) (cap n : Nat) (f : Nat → Cel) (x : Int) (w : World) (hn : n ≤ 4611686018427387904) (hs : SlC w A n f) (hm : ∀ i, i < n → (f i).1 ≠ x) :
    Calls Tryz.prog 98 #[.slice A n cap, .int .i64 x] w fun e w' => e = .returned (.string ⟨#[]⟩) ∧ w = w' := by
  go_enter Tryz.func98, Tryz.ntmps98
  go_wp2
  go_loop [5] (fun i => ∃ k : Nat, k ≤ n ∧ i = .int .i64 k) (fun i => n - (intOf i).toNat)
  case atStart => exact ⟨0, by omega, rfl⟩
  case round =>
    obtain ⟨k, hk, rfl⟩ := hrel
    by_cases hlt : k < n
    · obtain ⟨b, off, rfl, h1, h2⟩ := hs.at_ k (by omega)
      have hne' : ¬ (f k).1 = x := hm k hlt
      go_wp2
      exact ⟨⟨k + 1, by omega, by go_num⟩, by simp [intOf]; omega⟩
    · obtain rfl : k = n := by omega
      go_wp2
      go_ret
      exact ⟨rfl, rfl⟩

/-- what At finds at a used line is not empty -/
theorem refAt_used (A : Option Addr) (cap n : Nat) (f : Nat → Cel) (x : Int) (w : World) (hn : n ≤ 200) (hs : SlC w A n f) (hg : ¬ AnyBad f n) (hu : ∃ i, i < n ∧ (f i).1 = x) :
    ∃ s : ByteArray, s.toList ≠ [] ∧ Calls Tryz.prog 98 #[.slice A n cap, .int .i64 x] w fun e w' => e = .returned (.string s) ∧ w = w' := by
  obtain ⟨i0, ⟨h1, h2⟩, hmin⟩ := least_of (Q := fun i => i < n ∧ (f i).1 = x) hu
  refine ⟨(f i0).2, ?_, refAt_hit A cap n f x w (by omega) hs i0 h1 h2 (fun i hi he => hmin i hi ⟨by omega, he⟩)⟩
  have := good_at hg i0 h1
  rw [ne_eq, toList_nil]
  omega

theorem refLeast_any (A : Option Addr) (cap n : Nat) (f : Nat → Cel) (w : World) (hn : n ≤ 200) (hs : SlC w A n f) (hg : ¬ AnyBad f n) :
    Calls Tryz.prog 101 #[.slice A n cap] w fun e w' => e = .returned (.int .i64 (nextF f n)) ∧ w = w' := by
  have I := nextI hg n (Nat.le_refl _)
  have i1 := I.ge
  have i2 := I.le
  go_enter Tryz.func101, Tryz.ntmps101
  go_wp2
  go_loop [3] (fun x => ∃ m : Nat, 1 ≤ m ∧ m ≤ nextF f n ∧ x = .int .i64 m) (fun x => nextF f n - (intOf x).toNat)
  case atStart => exact ⟨1, by omega, by omega, rfl⟩
  case round =>
    obtain ⟨m, h1, h2, rfl⟩ := hrel
    by_cases hlt : m < nextF f n
    · obtain ⟨s, hs1, hs2⟩ := refAt_used A cap n f m w hn hs hg (I.used m h1 hlt)
      have d1 : (m : Int) ≤ 200 := by omega
      have d3 : s.toList.isEmpty = false := by simpa using hs1
      clear hs1
      go_wp2_with (go_at_call 98; refine hs2.mono ?_; rintro e w1 ⟨rfl, rfl⟩)
      exact ⟨⟨m + 1, by omega, by omega, by go_num⟩, by simp [intOf]; omega⟩
    · obtain rfl : m = nextF f n := by omega
      by_cases h200 : nextF f n ≤ 200
      · have d1 : (nextF f n : Int) ≤ 200 := by omega
        go_wp2_with (go_at_call 98; refine (refAt_none A cap n f _ _ (by omega) hs I.free).mono ?_; rintro e w1 ⟨rfl, rfl⟩)
        go_ret
        exact ⟨rfl, rfl⟩
      · have d1 : ¬ (nextF f n : Int) ≤ 200 := by omega
        go_wp2
        go_ret
        exact ⟨rfl, rfl⟩

theorem next_ok (p : ByteArray) (w : World) (hv : ValidR p) :
    Calls Tryz.prog 100 #[.string p] w fun e w' => e = .returned (if nextF (cel p) (cnt p) ≤ 200 then .tuple #[.int .i64 (nextF (cel p) (cnt p)), .int .i64 0] else .tuple #[.int .i64 0, .int .i64 13]) ∧ Ext w w' := by
  obtain ⟨z1, z2⟩ := sizes_of hv
  have hC := fun W => cells_of p W hv
  have hG := cel_good hv
  have hn := cnt_le hv
  have hI := (nextI hG _ (Nat.le_refl _)).le
  generalize cnt p = n at *
  generalize cel p = f at *
  have hix := index1
  have hQ := fun A cap W hs => quantity2_any p.size A cap n f W hn hs hG
  generalize nextF f n = m at *
  by_cases h2 : m ≤ 200
  · rw [if_pos h2]
    go_enter Tryz.func100, Tryz.ntmps100
    go_wp2_with (first
      | (go_at_call 87; refine (valid_any p _ (by omega)).mono ?_; rintro e w1 ⟨rfl, hx1⟩; rw [decide_eq_true hv])
      | (go_at_call 125; refine (quantities_any _).mono ?_; rintro e w2 ⟨rfl, hx2⟩)
      | (go_at_call 92; refine (hC _).mono ?_; rintro e w3 ⟨A, cap, rfl, hs, hx3⟩)
      | (go_at_call 133; refine (hQ A cap _ hs).mono ?_; rintro e w4 ⟨rfl, hx4⟩))
    go_ret2
    exact ⟨rfl, ((hx1.trans hx2).trans hx3).trans hx4⟩
  · rw [if_neg h2]
    have h3 : (200 : Int) < m := by omega
    go_enter Tryz.func100, Tryz.ntmps100
    go_wp2_with (first
      | (go_at_call 87; refine (valid_any p _ (by omega)).mono ?_; rintro e w1 ⟨rfl, hx1⟩; rw [decide_eq_true hv])
      | (go_at_call 125; refine (quantities_any _).mono ?_; rintro e w2 ⟨rfl, hx2⟩)
      | (go_at_call 92; refine (hC _).mono ?_; rintro e w3 ⟨A, cap, rfl, hs, hx3⟩)
      | (go_at_call 133; refine (hQ A cap _ hs).mono ?_; rintro e w4 ⟨rfl, hx4⟩))
    go_ret2
    exact ⟨rfl, ((hx1.trans hx2).trans hx3).trans hx4⟩
theorem next_no (p : ByteArray) (w : World) (hp : p.size ≤ 140737488355328) (hv : ¬ ValidR p) :
    Calls Tryz.prog 100 #[.string p] w fun e w' => e = .returned (.tuple #[.int .i64 0, .int .i64 1]) ∧ Ext w w' := by
  go_enter Tryz.func100, Tryz.ntmps100
  go_wp2_with (go_at_call 87; refine (valid_any p _ hp).mono ?_; rintro e w1 ⟨rfl, hx1⟩; rw [decide_eq_false hv])
  go_ret2
  exact ⟨rfl, hx1⟩
end
section
open Go.RowKit
set_option linter.unusedVariables false
set_option maxRecDepth 20000

theorem asked_no (p : ByteArray) (x : Int) (w : World) (hp : p.size ≤ 140737488355328) (hv : ¬ ValidR p) :
    Calls Tryz.prog 91 #[.string p, .int .i64 x] w fun e w' => e = .returned (.int .i64 1) ∧ Ext w w' := by
  go_enter Tryz.func91, Tryz.ntmps91
  go_wp2_with (go_at_call 87; refine (valid_any p _ hp).mono ?_; rintro e w1 ⟨rfl, hx1⟩; rw [decide_eq_false hv])
  go_ret
  exact ⟨rfl, hx1⟩
theorem asked_ok (p : ByteArray) (x : Int) (w : World) (hv : ValidR p) (h0 : -9223372036854775808 ≤ x) (h1 : x ≤ 9223372036854775807) :
    Calls Tryz.prog 91 #[.string p, .int .i64 x] w fun e w' => e = .returned (.int .i64 (if lineB x then 0 else 7)) ∧ Ext w w' := by
  obtain ⟨z1, z2⟩ := sizes_of hv
  cases hl : lineB x with
  | true =>
    go_enter Tryz.func91, Tryz.ntmps91
    go_wp2_with (first
      | (go_at_call 87; refine (valid_any p _ (by omega)).mono ?_; rintro e w1 ⟨rfl, hx1⟩; rw [decide_eq_true hv])
      | (go_at_call 116; refine (line_any x _ h0 h1).mono ?_; rintro e w2 ⟨rfl, rfl⟩; rw [hl]))
    go_ret
    exact ⟨rfl, hx1⟩
  | false =>
    go_enter Tryz.func91, Tryz.ntmps91
    go_wp2_with (first
      | (go_at_call 87; refine (valid_any p _ (by omega)).mono ?_; rintro e w1 ⟨rfl, hx1⟩; rw [decide_eq_true hv])
      | (go_at_call 116; refine (line_any x _ h0 h1).mono ?_; rintro e w2 ⟨rfl, rfl⟩; rw [hl]))
    go_ret
    exact ⟨rfl, hx1⟩

/-- where a line stands among cells in order, or would -/
structure PosI (n : Nat) (f : Nat → Cel) (x : Int) (pos : Nat) : Prop where
  le : pos ≤ n
  below : ∀ i, i < pos → (f i).1 < x
  above : ∀ i, pos ≤ i → i < n → x ≤ (f i).1
theorem pos_of {n : Nat} {f : Nat → Cel} (hg : ¬ AnyBad f n) (x : Int) : ∃ pos, PosI n f x pos := by
  obtain ⟨pos, h1, hmin⟩ := least_of (Q := fun i => i = n ∨ (i < n ∧ x ≤ (f i).1)) ⟨n, .inl rfl⟩
  have hle : pos ≤ n := by rcases h1 with h | h <;> omega
  refine ⟨pos, hle, fun i hi => ?_, fun i h2 h3 => ?_⟩
  · apply Classical.byContradiction
    intro hc
    exact hmin i hi (.inr ⟨by omega, by omega⟩)
  · rcases h1 with h | ⟨h, h'⟩
    · omega
    · have := lines_up hg pos i h2 h3
      omega

theorem cmp_any (c : Cel) (x : Int) (w : World) (h1 : -1000 ≤ c.1 ∧ c.1 ≤ 1000) (h2 : -1000 ≤ x ∧ x ≤ 1000) :
    Calls Tryz.prog 120 #[.agg #[.int .i64 c.1, .string c.2], .int .i64 x] w fun e w' => e = .returned (.int .i64 (c.1 - x)) ∧ Ext w w' := by
  go_enter Tryz.func120, Tryz.ntmps120
  go_wp2
  go_ret
  exact ⟨rfl, (Ext.refl w).alloc _⟩

theorem ret_found {p : Int} {a b : Bool} (h : a = b) : Ending.returned (.tuple #[.int .i64 p, .bool a]) = .returned (.tuple #[.int .i64 p, .bool b]) := by rw [h]
set_option maxHeartbeats 1000000 in
theorem search_any (A : Option Addr) (cap n : Nat) (f : Nat → Cel) (x : Int) (w : World) (hn : n ≤ 200) (hs : SlC w A n f) (hg : ¬ AnyBad f n) (h2 : 1 ≤ x ∧ x ≤ 200) (pos : Nat) (hp : PosI n f x pos) :
    Calls Tryz.prog 119 #[.slice A n cap, .int .i64 x, .func (.func 120) #[] #[]] w fun e w' => e = .returned (.tuple #[.int .i64 pos, .bool (decide (pos < n ∧ (f pos).1 = x))]) ∧ Ext w w' := by
  have hc := fun i (hi : i < n) W => cmp_any (f i) x W (by have := good_at hg i hi; omega) (by omega)
  have hle := hp.le
  go_enter Tryz.func119, Tryz.ntmps119
  go_wp2
  go_loopw [9, 10] (fun a b wr => ∃ i j : Nat, i ≤ pos ∧ pos ≤ j ∧ j ≤ n ∧ a = .int .i64 i ∧ b = .int .i64 j ∧ Ext w wr) (fun a b _ => (intOf b).toNat - (intOf a).toNat)
  case atStart => exact ⟨0, n, by omega, by omega, by omega, rfl, rfl, Ext.refl w⟩
  case round =>
    obtain ⟨i, j, h3, h4, h5, rfl, rfl, hx⟩ := hrel
    by_cases hlt : i < j
    · obtain ⟨b, off, rfl, g1, g2⟩ := hs.at_ ((i + j) / 2) (by omega)
      replace g1 := hx.cell g1
      replace g2 := hx.cell g2
      have hh := hc ((i + j) / 2) (by omega)
      have E1 := Lib.hid (show ((i : Int) + j) / 2 = (((i + j) / 2 : Nat) : Int) by omega)
      by_cases c : (f ((i + j) / 2)).1 < x
      · have hpos : (i + j) / 2 < pos := by
          apply Classical.byContradiction
          intro hc'
          have := hp.above ((i + j) / 2) (by omega) (by omega)
          omega
        have d1 : (f ((i + j) / 2)).1 - x < 0 := by omega
        go_wp2_with (go_at_call 120; refine (hh _).mono ?_; rintro e w1 ⟨rfl, hx1⟩)
        exact ⟨⟨(i + j) / 2 + 1, j, by omega, by omega, by omega, by rw [E1.out]; go_num, rfl, hx.trans hx1⟩, by simp [intOf]; omega⟩
      · have hpos : pos ≤ (i + j) / 2 := by
          apply Classical.byContradiction
          intro hc'
          have := hp.below ((i + j) / 2) (by omega)
          omega
        have d1 : ¬ (f ((i + j) / 2)).1 - x < 0 := by omega
        go_wp2_with (go_at_call 120; refine (hh _).mono ?_; rintro e w1 ⟨rfl, hx1⟩)
        exact ⟨⟨i, (i + j) / 2, by omega, by omega, by omega, rfl, by rw [E1.out], hx.trans hx1⟩, by simp [intOf]; omega⟩
    · obtain rfl : i = j := by omega
      obtain rfl : i = pos := by omega
      by_cases hin : i < n
      · obtain ⟨b, off, rfl, g1, g2⟩ := hs.at_ i hin
        replace g1 := hx.cell g1
        replace g2 := hx.cell g2
        have hh := hc i hin
        go_wp2_with (go_at_call 120; refine (hh _).mono ?_; rintro e w1 ⟨rfl, hx1⟩)
        go_ret2
        refine ⟨ret_found ?_, hx.trans hx1⟩
        by_cases e : (f i).1 = x
        · simp [hin, e]
        · have : ¬ (f i).1 - x = 0 := by omega
          simp [hin, e, this]
      · go_wp2
        go_ret2
        exact ⟨ret_found (by simp [hin]), hx⟩

theorem find_any (A : Option Addr) (cap n : Nat) (f : Nat → Cel) (x : Int) (w : World) (hn : n ≤ 200) (hs : SlC w A n f) (hg : ¬ AnyBad f n) (h2 : 1 ≤ x ∧ x ≤ 200) (pos : Nat) (hp : PosI n f x pos) :
    Calls Tryz.prog 93 #[.slice A n cap, .int .i64 x] w fun e w' => e = .returned (.tuple #[.int .i64 pos, .bool (decide (pos < n ∧ (f pos).1 = x))]) ∧ Ext w w' := by
  go_enter Tryz.func93, Tryz.ntmps93
  go_wp2_with (go_at_call 119; refine (search_any A cap n f x _ hn hs hg h2 pos hp).mono ?_; rintro e w1 ⟨rfl, hx1⟩)
  go_ret2
  exact ⟨ret_found (by simp), hx1⟩
end
section
open Go.RowKit
set_option linter.unusedVariables false
set_option maxRecDepth 20000

theorem cellsOwn_any (p : ByteArray) (w : World) (hv : ValidR p) :
    Calls Tryz.prog 92 #[.string p] w fun e w' => ∃ v, e = .returned v ∧ w'.ownsRow w.heap.size 101 2 v (usedL p (twoF p 0)).length (flatC (usedL p (twoF p 0))) ∧ Ext w w' := by
  have hz := sizes_of hv
  have hc : (w.alloc (.cells #[.string p] 9)).cell? ⟨w.heap.size, 0, none⟩ = some (.string p) := (Boxed.new w 9 (.string p)).cell
  have hmf : ∀ (fn : Fn) (first cap : Array Value) (w : World), (Instr.makeFunc fn first cap).run Tryz.prog w = .ok (.func fn first cap) w := fun _ _ _ _ => rfl
  go_enter Tryz.func92, Tryz.ntmps92
  go_wp2_with (go_at_call 117; refine (gather_any p _ _ hz.1 hz.2 hv.1.2.2 hc (fun k hk => slot_le hv k hk)).mono ?_; rintro e w1 ⟨v, rfl, hown, hx⟩)
  go_ret
  exact ⟨v, rfl, ownsRow_base hown (by simp), ((Ext.refl w).alloc _).trans hx⟩

/-- cells of a list, by its index -/
theorem nthC_set (l : List Cel) (i : Nat) (c : Cel) (j : Nat) (hi : i < l.length) : nthC (l.set i c) j = if j = i then c else nthC l j := by
  unfold nthC
  rw [List.getD_eq_getElem?_getD, List.getD_eq_getElem?_getD, List.getElem?_set]
  by_cases h : i = j
  · subst h
    simp [hi]
  · rw [if_neg h, if_neg (fun e => h e.symm)]

theorem filled_any (size : Nat) (A : Option Addr) (cap n : Nat) (f : Nat → Cel) (w : World) (hn : n ≤ 200) (hs : SlC w A n f) (hg : ¬ AnyBad f n) (hsz : ∀ i, i < n → (f i).2.size ≤ 140737488355328) (hz : sizeB (size : Int) = true) :
    Calls Tryz.prog 94 #[.int .i64 size, .slice A n cap] w fun e w' => e = .returned (.tuple #[.string (filledRes size n f).1, .int .i64 (filledRes size n f).2]) ∧ Ext w w' := by
  have hgd := good_of hg hsz
  have hz' : 32 ≤ size ∧ size ≤ 4096 := by simp [sizeB] at hz; omega
  unfold filledRes
  by_cases hr : roomF size f n < 0
  · rw [if_pos hr]
    exact filled_full size A cap n f w hn hs hgd hz'.2 hr
  · rw [if_neg hr]
    have hf := fit_of_good hg hn hz hr
    rcases Nat.eq_zero_or_pos n with h0 | h0
    · subst h0
      exact filled_none size A cap f w hf
    · exact filled_fits size A cap n f w h0 hn hs hgd hf

theorem flatC_set (l : List Cel) : ∀ (i : Nat) (s : ByteArray), i < l.length → flatC (l.set i ((nthC l i).1, s)) = (flatC l).set (i * 2 + 1) (.string s) := by
  induction l with
  | nil => intro i s hi; simp at hi
  | cons c l ih =>
    intro i s hi
    cases i with
    | zero => simp [flatC, nthC]
    | succ i =>
      have e : (i + 1) * 2 + 1 = i * 2 + 1 + 1 + 1 := by omega
      have h := ih i s (by simpa using hi)
      rw [e]
      simp only [List.set_cons_succ]
      have e2 : nthC (c :: l) (i + 1) = nthC l i := rfl
      rw [e2]
      have e3 : ∀ m : List Cel, flatC (c :: m) = .int .i64 c.1 :: .string c.2 :: flatC m := fun m => by simp [flatC]
      rw [e3, e3, h]
      simp
end
section
open Go.RowKit
set_option linter.unusedVariables false
set_option maxRecDepth 20000

/-- cells with other data at one place -/
def setF (f : Nat → Cel) (pos : Nat) (s : ByteArray) (i : Nat) : Cel := if i = pos then ((f pos).1, s) else f i
theorem setF_good {n : Nat} {f : Nat → Cel} (hg : ¬ AnyBad f n) (pos : Nat) (s : ByteArray) (hs : 0 < s.size) : ¬ AnyBad (setF f pos s) n := by
  rintro ⟨i, hi, hb⟩
  have h1 := good_at hg i hi
  have e1 : ∀ j, (setF f pos s j).1 = (f j).1 := fun j => by unfold setF; split <;> simp_all
  unfold BadF at hb
  rw [e1, e1] at hb
  rcases hb with h | h | ⟨h, h'⟩ | h
  · omega
  · omega
  · have := line_lt hg (i - 1) i (by omega) hi; omega
  · unfold setF at h
    split at h
    · have h' : s.size = 0 := h
      omega
    · omega

theorem frozen_ext {a b : World} (h : Ext a b) {p : Addr} (hp : p.block < a.heap.size) : b.frozen? p = a.frozen? p := World.frozen?_of_block (h.block hp)
set_option maxHeartbeats 2000000 in
theorem set_hit (p : ByteArray) (x : Int) (s : ByteArray) (w : World) (hv : ValidR p) (hs : 0 < s.size) (hs2 : s.size ≤ 140737488355328) (hx : 1 ≤ x ∧ x ≤ 200) (pos : Nat) (hpos : pos < cnt p) (hp : PosI (cnt p) (cel p) x pos) (he : (cel p pos).1 = x) :
    Calls Tryz.prog 50 #[.string p, .int .i64 x, .string s] w fun e w' => e = .returned (.tuple #[.string (filledRes p.size (cnt p) (setF (cel p) pos s)).1, .int .i64 (filledRes p.size (cnt p) (setF (cel p) pos s)).2]) ∧ Ext w w' := by
  obtain ⟨z1, z2⟩ := sizes_of hv
  have hG := cel_good hv
  have hn := cnt_le hv
  have hS := cel_size hv
  have hlb : lineB x = true := by simp [lineB]; omega
  have hA := fun W => asked_ok p x W hv (by omega) (by omega)
  rw [hlb, if_pos rfl] at hA
  have hsb := hv.1.1
  have d3 : s.toList.isEmpty = false := by
    have : s.toList ≠ [] := by rw [ne_eq, toList_nil]; omega
    simpa using this
  have hC := fun W => cellsOwn_any p W hv
  have hfil : ∀ A cap W, SlC W A (cnt p) (setF (cel p) pos s) → Calls Tryz.prog 94 #[.int .i64 p.size, .slice A (cnt p) cap] W fun e w' => e = .returned (.tuple #[.string (filledRes p.size (cnt p) (setF (cel p) pos s)).1, .int .i64 (filledRes p.size (cnt p) (setF (cel p) pos s)).2]) ∧ Ext W w' := fun A cap W h =>
    filled_any p.size A cap (cnt p) _ W hn h (setF_good hG pos s hs) (fun i hi => by unfold setF; split; exact hs2; exact hS i hi) hsb
  have hfind := fun A cap W h => find_any A cap (cnt p) (cel p) x W hn h hG hx pos hp
  rw [decide_eq_true (⟨hpos, he⟩ : pos < cnt p ∧ (cel p pos).1 = x)] at hfind
  go_enter Tryz.func50, Tryz.ntmps50
  go_wp2_with (first
    | (go_at_call 91; refine (hA _).mono ?_; rintro e w1 ⟨rfl, hx1⟩)
    | (go_at_call 92; refine (hC _).mono ?_; rintro e w2 ⟨v, rfl, hown, hx2⟩))
  have hlen : (usedL p (twoF p 0)).length = cnt p := rfl
  rcases id hown.2 with ⟨_, h0⟩ | ⟨g, cap, cur, rfl, hgb, _⟩
  · omega
  have hsl : SlC w2 (some ⟨g, 0, none⟩) (cnt p) (cel p) := by
    obtain ⟨A', cap', hv', hs'⟩ := slC_of_row hown
    simp only [Value.slice.injEq] at hv'
    rw [hv'.1]; exact hs'
  have hst := hown.stored (pos * 2 + 1) (.string s)
  have hgw : w1.heap.size ≤ g := hgb
  obtain ⟨b', off', hbo, g1, g2⟩ := hsl.at_ pos hpos
  simp only [Option.some.injEq, Addr.mk.injEq] at hbo
  obtain ⟨rfl, rfl, _⟩ := hbo
  have gf := hown.frozenAt (pos * 2 + 1)
  rw [hlen] at hown hst ⊢
  have hnew : ∀ W, SlC W (some ⟨g, 0, none⟩) (cnt p) (cel p) → SlC (W.setCell ⟨g, pos * 2 + 1, none⟩ (.string s)) (some ⟨g, 0, none⟩) (cnt p) (setF (cel p) pos s) := fun W hW => by
    refine ⟨fun i hi => ?_⟩
    obtain ⟨b3, o3, e3, c1, c2⟩ := hW.at_ i hi
    simp only [Option.some.injEq, Addr.mk.injEq] at e3
    obtain ⟨rfl, rfl, _⟩ := e3
    rw [Nat.zero_add] at c1 c2
    refine ⟨g, 0, rfl, ?_, ?_⟩
    · rw [Nat.zero_add, World.cell?_setCell_other _ _ _ _ (fun e => by have := congrArg Addr.off e; simp at this; omega), c1]
      unfold setF
      split
      · rename_i h; rw [h]
      · rfl
    · rw [Nat.zero_add]
      unfold setF
      split
      · rename_i h
        subst h
        exact World.cell?_setCell_same' _ _ _ (by rw [c2]; rfl)
      · rename_i h
        rw [World.cell?_setCell_other _ _ _ _ (fun e => by have := congrArg Addr.off e; simp at this; omega), c2]
  have q1 : (pos : Int) < cnt p := by omega
  rw [Nat.zero_add] at g1 g2
  go_wp2_with (first
    | (go_at_call 93; refine (hfind _ cap _ hsl).mono ?_; rintro e w3 ⟨rfl, hx3⟩; have k2 := hx3.cell g2; have f3 : w3.frozen? ⟨g, pos * 2 + 1, none⟩ = false := (frozen_ext hx3 (block_lt g2)).trans gf)
    | (go_at_call 94; refine (hfil _ cap _ (hnew _ (hsl.ext hx3))).mono ?_; rintro e w4 ⟨rfl, hx4⟩))
  go_ret2
  exact ⟨rfl, (Ext.setCell ((hx1.trans hx2).trans hx3) (Nat.le_trans hx1.size hgw) _).trans hx4⟩
end
section
open Go.RowKit
set_option linter.unusedVariables false
set_option maxRecDepth 20000

theorem setF_same (f : Nat → Cel) (pos : Nat) : setF f pos (f pos).2 = f := by
  funext i
  unfold setF
  split
  · rename_i h; rw [h]
  · rfl
theorem filled_cells {p : ByteArray} (hv : ValidR p) : filledRes p.size (cnt p) (cel p) = (p, 0) := by
  have h := fill_cells hv
  have hg := cel_good hv
  have hs := hv.1.1
  have hr : ¬ roomF p.size (cel p) (cnt p) < 0 := by
    have hr := cel_room hv
    have ht := topF_in p hv.1.2.2 _ hv.2.1
    omega
  unfold filledRes
  rw [if_neg hr]
  simp only [fillRes, hg, hr, hs, if_false, Int.toNat_natCast] at h
  simpa using h
theorem set_old (p : ByteArray) (i : Nat) (w : World) (hv : ValidR p) (hi : i < cnt p) :
    Calls Tryz.prog 50 #[.string p, .int .i64 (cel p i).1, .string (cel p i).2] w fun e w' => e = .returned (.tuple #[.string p, .int .i64 0]) ∧ Ext w w' := by
  have hg := cel_good hv
  have h1 := good_at hg i hi
  have hp : PosI (cnt p) (cel p) (cel p i).1 i := ⟨by omega, fun j hj => line_lt hg j i hj hi, fun j h2 h3 => lines_up hg i j h2 h3⟩
  have := set_hit p (cel p i).1 (cel p i).2 w hv h1.2.2 (cel_size hv i hi) ⟨h1.1, h1.2.1⟩ i hi hp rfl
  rw [setF_same, filled_cells hv] at this
  exact this
end
section
open Go.RowKit
set_option linter.unusedVariables false
set_option maxRecDepth 20000

theorem ownsRow_head {w : World} {base : Nat} {g n cap : Nat} {xs : List Value} (h : w.ownsRow base 101 2 (.slice (some ⟨g, 0, none⟩) n cap) n xs) (i : Nat) (hi : i ≤ n) :
    w.ownsRow base 101 2 (.slice (some ⟨g, 0, none⟩) i cap) i (xs.take (i * 2)) := by
  refine ⟨by rw [List.length_take, h.1]; omega, ?_⟩
  rcases h.2 with ⟨h', _⟩ | ⟨g', cap', cur, h', hb, hg, hnc, hcm, hcs, htake⟩
  · simp at h'
  · simp only [Value.slice.injEq, Option.some.injEq, Addr.mk.injEq, and_true, true_and] at h'
    obtain ⟨rfl, rfl⟩ := h'
    refine .inr ⟨g, cap, cur, rfl, hb, hg, by omega, hcm, hcs, ?_⟩
    rw [← htake, List.take_take]
    congr 1
    omega
theorem flatC_take (l : List Cel) (i : Nat) : (flatC l).take (i * 2) = flatC (l.take i) := by
  induction l generalizing i with
  | nil => simp [flatC]
  | cons c l ih =>
    cases i with
    | zero => simp [flatC]
    | succ i =>
      have e : (i + 1) * 2 = i * 2 + 1 + 1 := by omega
      have h := ih i
      simp only [flatC, List.flatMap_cons, List.cons_append, List.nil_append, List.take_succ_cons, e] at h ⊢
      rw [h]
theorem flatC_drop (l : List Cel) (i : Nat) : (flatC l).drop (i * 2) = flatC (l.drop i) := by
  induction l generalizing i with
  | nil => simp [flatC]
  | cons c l ih =>
    cases i with
    | zero => simp
    | succ i =>
      have e : (i + 1) * 2 = i * 2 + 1 + 1 := by omega
      have h := ih i
      simp only [flatC, List.flatMap_cons, List.cons_append, List.nil_append, List.drop_succ_cons, e] at h ⊢
      rw [h]

/-- a cell of an owned row's block, filled or spare -/
theorem spare_some {w : World} {base : Nat} {e : TypeId} {size g n cap : Nat} {xs : List Value} (h : w.ownsRow base e size (.slice (some ⟨g, 0, none⟩) n cap) n xs) (j : Nat) (hj : j < cap * size) : (w.cell? ⟨g, j, none⟩).isSome = true := by
  rcases h.2 with ⟨h', _⟩ | ⟨g', cap', cur, h', hb, hg, hnc, hcm, hcs, htake⟩
  · simp at h'
  · simp only [Value.slice.injEq, Option.some.injEq, Addr.mk.injEq, and_true, true_and] at h'
    obtain ⟨rfl, rfl⟩ := h'
    rw [cell_of_row w g j cur e (0, 0) hg]
    simp [hcs, hj]
theorem clear_one (g o c : Nat) (w : World) (x y : Value) (h1 : w.cell? ⟨g, o, none⟩ = some x) (h2 : w.cell? ⟨g, o + 1, none⟩ = some y) (f1 : w.frozen? ⟨g, o, none⟩ = false) (f2 : w.frozen? ⟨g, o + 1, none⟩ = false) :
    (Builtin.clear_ #[97] 0 #[.slice (some ⟨g, o, none⟩) 1 c]).run Tryz.prog w = .ok (.tuple #[]) ((w.setCell ⟨g, o, none⟩ (.int .i64 0)).setCell ⟨g, o + 1, none⟩ (.string ⟨#[]⟩)) := by
  unfold Builtin.clear_
  go_simp
  have e : (Builtin.zeroCells #[Value.int IntKind.i64 0, Value.string { data := #[] }] 1).toList = [.int .i64 0, .string ⟨#[]⟩] := by simp [Builtin.zeroCells, Array.range]
  rw [e]
  have n1 : (⟨g, o, none⟩ : Addr) ≠ ⟨g, o + 1, none⟩ := fun h => by have := congrArg Addr.off h; simp at this
  have g2 : (w.setCell ⟨g, o, none⟩ (.int .i64 0)).cell? ⟨g, o + 1, none⟩ = some y := by rw [World.cell?_setCell_other _ _ _ _ n1]; exact h2
  have g3 : (w.setCell ⟨g, o, none⟩ (.int .i64 0)).frozen? ⟨g, o + 1, none⟩ = false := by rw [World.frozen?_setCell]; exact f2
  go_simp

set_option maxHeartbeats 1000000 in
theorem delete_any (L : List Cel) (g cap base : Nat) (i : Nat) (w : World) (hL : L.length ≤ 200) (hi : i < L.length) (hown : w.ownsRow base 101 2 (.slice (some ⟨g, 0, none⟩) L.length cap) L.length (flatC L)) :
    Calls Tryz.prog 96 #[.slice (some ⟨g, 0, none⟩) L.length cap, .int .i64 i, .int .i64 (i + 1)] w fun e w' =>
      e = .returned (.slice (some ⟨g, 0, none⟩) (L.length - 1) cap) ∧ w'.ownsRow base 101 2 (.slice (some ⟨g, 0, none⟩) (L.length - 1) cap) (L.length - 1) (flatC (L.eraseIdx i)) ∧ Upd w g w' := by
  have hnc : L.length ≤ cap := by
    rcases hown.2 with ⟨h', _⟩ | ⟨g', cap', cur, h', hb, hg, hnc, _⟩
    · simp at h'
    · simp only [Value.slice.injEq, Option.some.injEq, Addr.mk.injEq, and_true, true_and] at h'
      omega
  have hcap : cap ≤ 9223372036854775807 := by
    rcases hown.2 with ⟨h', _⟩ | ⟨g', cap', cur, h', hb, hg, _, hm, _⟩
    · simp at h'
    · simp only [Value.slice.injEq, Option.some.injEq, Addr.mk.injEq, and_true, true_and] at h'
      simp only [maxLen] at hm
      omega
  have q1 : (i : Int) + 1 ≤ L.length := by omega
  have q2 : (i : Int) ≤ cap := by omega
  have q3 : (L.length : Int) ≤ cap := by omega
  have q4 : ((i : Int) + 1).toNat = i + 1 := by omega
  have q5 : (0 : Int) ≤ (i : Int) + 1 := by omega
  have q6 : (i : Int) ≤ (i : Int) + 1 := by omega
  have q7 : ¬ (i : Int) = (i : Int) + 1 := by omega
  have hh := ownsRow_head (w := w.drew) (n := L.length) (ownsRow_ext hown ((Ext.refl w).drew)) i (by omega)
  have hdrop : ((flatC L).drop ((i + 1) * 2)).length = (L.length - (i + 1)) * 2 := by rw [flatC_drop, flatC_length, List.length_drop]
  have hrun : ∃ w1, (Builtin.append_ #[97, 97] 97 #[.slice (some ⟨g, 0, none⟩) i cap, .slice (if cap = i + 1 then some ⟨g, 0, none⟩ else some ⟨g, (i + 1) * 2, none⟩) (L.length - (i + 1)) (cap - (i + 1))]).run Tryz.prog w.drew = .ok (.slice (some ⟨g, 0, none⟩) (i + (L.length - (i + 1))) cap) w1 ∧
      w1.ownsRow base 101 2 (.slice (some ⟨g, 0, none⟩) (i + (L.length - (i + 1))) cap) (i + (L.length - (i + 1))) ((flatC L).take (i * 2) ++ (flatC L).drop ((i + 1) * 2)) ∧ w.drew.grownBy w1 (some g) := by
    obtain ⟨i0, hi0, hz0, hz1, hz2⟩ := info_parts Tryz.infoC
    have hone : ∀ u ∈ (flatC L).drop ((i + 1) * 2), u.oneCell' = true := fun u hu => by
      have := List.mem_of_mem_drop hu
      simp only [flatC, List.mem_flatMap] at this
      obtain ⟨c, _, hc⟩ := this
      simp at hc
      rcases hc with rfl | rfl <;> rfl
    by_cases hc : cap = i + 1
    · rw [if_pos hc]
      have e0 : L.length - (i + 1) = 0 := by omega
      have e1 : (flatC L).drop ((i + 1) * 2) = [] := by rw [← List.length_eq_zero_iff, hdrop, e0]
      refine run_append_fits (P := Tryz.prog) _ base _ _ 101 i0 2 Tryz.underlying97 hi0 hz1 g i cap _ hh ⟨g, 0, none⟩ _ _ _ hdrop (fun j u hj => ?_) hone (by omega)
      rw [e1] at hj
      simp at hj
    · rw [if_neg hc]
      refine run_append_fits (P := Tryz.prog) _ base _ _ 101 i0 2 Tryz.underlying97 hi0 hz1 g i cap _ hh ⟨g, (i + 1) * 2, none⟩ _ _ _ hdrop (fun j u hj => ?_) hone (by omega)
      rw [List.getElem?_drop] at hj
      have hjl : (i + 1) * 2 + j < (flatC L).length := (List.getElem?_eq_some_iff.1 hj).1
      rw [flatC_length] at hjl
      have := hown.cellAt ((i + 1) * 2 + j) hjl
      rw [Go.WideShapes.add_plain]
      exact this.trans hj
  obtain ⟨w1, hrun, hown1, hgr⟩ := hrun
  have hk : ∃ k, k + 1 = L.length := ⟨L.length - 1, by omega⟩
  obtain ⟨k, hk⟩ := hk
  have ek : i + (L.length - (i + 1)) = k := by omega
  rw [ek] at hrun hown1
  have hown2 : w1.ownsRow base 101 2 (.slice (some ⟨g, 0, none⟩) k cap) k (flatC (L.eraseIdx i)) := by
    rw [flatC_take, flatC_drop] at hown1
    rw [List.eraseIdx_eq_take_drop_succ]
    have : flatC (L.take i) ++ flatC (L.drop (i + 1)) = flatC (L.take i ++ L.drop (i + 1)) := by simp [flatC]
    rw [← this]
    exact hown1
  clear hown1
  have hu1 : Upd w g w1 := (Upd.refl w g).drew.trans hgr
  have hsp : (w1.cell? ⟨g, k * 2, none⟩).isSome = true ∧ (w1.cell? ⟨g, k * 2 + 1, none⟩).isSome = true ∧ w1.frozen? ⟨g, k * 2, none⟩ = false ∧ w1.frozen? ⟨g, k * 2 + 1, none⟩ = false := by
    refine ⟨?_, ?_, hown2.frozenAt _, hown2.frozenAt _⟩ <;> exact spare_some hown2 _ (by omega)
  obtain ⟨s1, s2, f1, f2⟩ := hsp
  obtain ⟨x, s1⟩ := Option.isSome_iff_exists.1 s1
  obtain ⟨y, s2⟩ := Option.isSome_iff_exists.1 s2
  have hclr := clear_one g (k * 2) (cap - k) w1 x y s1 s2 f1 f2
  have hout : ((w1.setCell ⟨g, k * 2, none⟩ (.int .i64 0)).setCell ⟨g, k * 2 + 1, none⟩ (.string ⟨#[]⟩)).ownsRow base 101 2 (.slice (some ⟨g, 0, none⟩) k cap) k (flatC (L.eraseIdx i)) := by
    have e1 := (hown2.stored (k * 2) (.int .i64 0)).1
    have hl := hown2.1
    rw [List.set_eq_of_length_le (by omega)] at e1
    have e2 := (e1.stored (k * 2 + 1) (.string ⟨#[]⟩)).1
    rwa [List.set_eq_of_length_le (by omega)] at e2
  have q8 : (k : Int) ≤ L.length := by omega
  have q9 : ((L.length : Int)).toNat = L.length := rfl
  have q10 : L.length - k = 1 := by omega
  have q11 : ¬ cap = k := by omega
  have q12 : L.length - 1 = k := by omega
  rw [q12]
  generalize hn : L.length = n at *
  go_enter Tryz.func96, Tryz.ntmps96
  go_wp2
  go_region_law (refine wp_append_at (.tmp 22) (.tmp 25) 97 rfl (.slice (some ⟨g, 0, none⟩) i cap) (.slice (if cap = i + 1 then some ⟨g, 0, none⟩ else some ⟨g, (i + 1) * 2, none⟩) (n - (i + 1)) (cap - (i + 1))) rfl rfl hrun ?_)
  go_wp2
  all_goals (
    go_ret
    refine ⟨rfl, ?_, ?_⟩
    · first
        | exact hout
        | (rw [show i + 1 = cap from by omega]; exact hout)
    · exact (hu1.trans (Upd.setCell _ _ _ _)).trans (Upd.setCell _ _ _ _))
end
end Go.Proofs.YtnileonlabpbpaaGreat
