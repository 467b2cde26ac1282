/- Next, of the program and of the reference; the reference's At and Least. -/
import Derived.Test.YtfinljcembipkaaReadD
namespace Go.Proofs.Ytfinljcembipkaa
open Go.RowKit
set_option linter.unusedVariables false

/-- the least free line, as the program counts -/
def nextF (f : Nat → Cel) : Nat → Nat
  | 0 => 1
  | k + 1 => if (f k).1 = nextF f k then nextF f k + 1 else nextF f k
structure NextI (f : Nat → Cel) (k : Nat) : Prop where
  used : ∀ m : Nat, 1 ≤ m → m < nextF f k → ∃ i, i < k ∧ (f i).1 = m
  free : ∀ i, i < k → (f i).1 ≠ nextF f k
  ge : 1 ≤ nextF f k
  le : nextF f k ≤ 201
theorem nextI {f : Nat → Cel} {n : Nat} (hg : ¬ AnyBad f n) : ∀ k, k ≤ n → NextI f k := by
  intro k
  induction k with
  | zero => exact fun _ => ⟨fun m h1 h2 => by simp [nextF] at h2; omega, fun i hi => by omega, by simp [nextF], by simp [nextF]⟩
  | succ k ih =>
    intro hk
    have I := ih (by omega)
    have hgk := good_at hg k (by omega)
    by_cases h : (f k).1 = nextF f k
    · have e : nextF f (k + 1) = nextF f k + 1 := by simp [nextF, h]
      refine ⟨fun m h1 h2 => ?_, fun i hi => ?_, ?_, ?_⟩
      · rw [e] at h2
        by_cases hm : m = nextF f k
        · exact ⟨k, by omega, by rw [h, hm]⟩
        · obtain ⟨i, hi, he⟩ := I.used m h1 (by omega)
          exact ⟨i, by omega, he⟩
      · rw [e]
        by_cases hik : i = k
        · rw [hik]; omega
        · have := line_lt hg i k (by omega) (by omega); omega
      · omega
      · omega
    · have e : nextF f (k + 1) = nextF f k := by simp [nextF, h]
      refine ⟨fun m h1 h2 => ?_, fun i hi => ?_, by rw [e]; exact I.ge, by rw [e]; exact I.le⟩
      · rw [e] at h2
        obtain ⟨i, hi, he⟩ := I.used m h1 h2
        exact ⟨i, by omega, he⟩
      · rw [e]
        by_cases hik : i = k
        · rw [hik]; exact h
        · exact I.free i (by omega)

theorem quantity2_any (size : Int) (A : Option Addr) (cap n : Nat) (f : Nat → Cel) (w : World) (hn : n ≤ 200) (hs : SlC w A n f) (hg : ¬ AnyBad f n) :
    Calls Try.prog 77 #[.int .i64 size, .slice A n cap] w fun e w' => e = .returned (.int .i64 (nextF f n)) ∧ Ext w w' := by
  have hI := fun k hk => nextI hg k hk
  clear hg
  go_enter Try.func77, Try.ntmps77
  go_wp2
  go_loopw [5, 10] (fun x i wr => ∃ k : Nat, k ≤ n ∧ i = .int .i64 k ∧ x = .int .i64 (nextF f k) ∧ Ext w wr) (fun _ i _ => n - (intOf i).toNat)
  case atStart => exact ⟨0, by omega, rfl, rfl, Ext.refl w⟩
  case round =>
    obtain ⟨k, hk, rfl, rfl, hx⟩ := hrel
    by_cases hlt : k < n
    · obtain ⟨b, off, rfl, h1, h2⟩ := hs.at_ k hlt
      replace h1 := hx.cell h1
      replace h2 := hx.cell h2
      have hle := (hI k hk).le
      have e : nextF f (k + 1) = if (f k).1 = nextF f k then nextF f k + 1 else nextF f k := rfl
      by_cases c : (f k).1 = nextF f k
      · rw [if_pos c] at e
        have E := Lib.hid e
        clear e hI
        generalize nextF f k = m at *
        go_wp2
        exact ⟨⟨k + 1, by omega, by go_num, by rw [E.out]; go_num, hx.alloc _⟩, by simp [intOf]; omega⟩
      · rw [if_neg c] at e
        have E := Lib.hid e
        clear e hI
        generalize nextF f k = m at *
        go_wp2
        exact ⟨⟨k + 1, by omega, by go_num, by rw [E.out], hx.alloc _⟩, by simp [intOf]; omega⟩
    · obtain rfl : k = n := by omega
      go_wp2
      go_ret
      exact ⟨rfl, hx⟩

theorem refAt_hit (A : Option Addr) (cap n : Nat) (f : Nat → Cel) (x : Int) (w : World) (hn : n ≤ 4611686018427387904) (hs : SlC w A n f) (i0 : Nat) (hi0 : i0 < n) (h0 : (f i0).1 = x) (hm : ∀ i, i < i0 → (f i).1 ≠ x) :
    Calls Try.prog 66 #[.slice A n cap, .int .i64 x] w fun e w' => e = .returned (.string (f i0).2) ∧ w = w' := by
  go_enter Try.func66, Try.ntmps66
  go_wp2
  go_loop [5] (fun i => ∃ k : Nat, k ≤ i0 ∧ i = .int .i64 k) (fun i => n - (intOf i).toNat)
  case atStart => exact ⟨0, by omega, rfl⟩
  case round =>
    obtain ⟨k, hk, rfl⟩ := hrel
    obtain ⟨b, off, rfl, h1, h2⟩ := hs.at_ k (by omega)
    by_cases hlt : k < i0
    · have hne := hm k hlt
      have hne' : ¬ (f k).1 = x := hne
      go_wp2
      exact ⟨⟨k + 1, by omega, by go_num⟩, by simp [intOf]; omega⟩
    · obtain rfl : k = i0 := by omega
      rw [h0] at h1
      go_wp2
      go_ret
      exact ⟨rfl, rfl⟩
theorem refAt_none (A : Option Addr) (cap n : Nat) (f : Nat → Cel) (x : Int) (w : World) (hn : n ≤ 4611686018427387904) (hs : SlC w A n f) (hm : ∀ i, i < n → (f i).1 ≠ x) :
    Calls Try.prog 66 #[.slice A n cap, .int .i64 x] w fun e w' => e = .returned (.string ⟨#[]⟩) ∧ w = w' := by
  go_enter Try.func66, Try.ntmps66
  go_wp2
  go_loop [5] (fun i => ∃ k : Nat, k ≤ n ∧ i = .int .i64 k) (fun i => n - (intOf i).toNat)
  case atStart => exact ⟨0, by omega, rfl⟩
  case round =>
    obtain ⟨k, hk, rfl⟩ := hrel
    by_cases hlt : k < n
    · obtain ⟨b, off, rfl, h1, h2⟩ := hs.at_ k (by omega)
      have hne' : ¬ (f k).1 = x := hm k hlt
      go_wp2
      exact ⟨⟨k + 1, by omega, by go_num⟩, by simp [intOf]; omega⟩
    · obtain rfl : k = n := by omega
      go_wp2
      go_ret
      exact ⟨rfl, rfl⟩

/-- what At finds at a used line is not empty -/
theorem refAt_used (A : Option Addr) (cap n : Nat) (f : Nat → Cel) (x : Int) (w : World) (hn : n ≤ 200) (hs : SlC w A n f) (hg : ¬ AnyBad f n) (hu : ∃ i, i < n ∧ (f i).1 = x) :
    ∃ s : ByteArray, s.toList ≠ [] ∧ Calls Try.prog 66 #[.slice A n cap, .int .i64 x] w fun e w' => e = .returned (.string s) ∧ w = w' := by
  obtain ⟨i0, ⟨h1, h2⟩, hmin⟩ := least_of (Q := fun i => i < n ∧ (f i).1 = x) hu
  refine ⟨(f i0).2, ?_, refAt_hit A cap n f x w (by omega) hs i0 h1 h2 (fun i hi he => hmin i hi ⟨by omega, he⟩)⟩
  have := good_at hg i0 h1
  rw [ne_eq, toList_nil]
  omega

theorem refLeast_any (A : Option Addr) (cap n : Nat) (f : Nat → Cel) (w : World) (hn : n ≤ 200) (hs : SlC w A n f) (hg : ¬ AnyBad f n) :
    Calls Try.prog 60 #[.slice A n cap] w fun e w' => e = .returned (.int .i64 (nextF f n)) ∧ w = w' := by
  have I := nextI hg n (Nat.le_refl _)
  have i1 := I.ge
  have i2 := I.le
  go_enter Try.func60, Try.ntmps60
  go_wp2
  go_loop [3] (fun x => ∃ m : Nat, 1 ≤ m ∧ m ≤ nextF f n ∧ x = .int .i64 m) (fun x => nextF f n - (intOf x).toNat)
  case atStart => exact ⟨1, by omega, by omega, rfl⟩
  case round =>
    obtain ⟨m, h1, h2, rfl⟩ := hrel
    by_cases hlt : m < nextF f n
    · obtain ⟨s, hs1, hs2⟩ := refAt_used A cap n f m w hn hs hg (I.used m h1 hlt)
      have d1 : (m : Int) ≤ 200 := by omega
      have d3 : s.toList.isEmpty = false := by simpa using hs1
      clear hs1
      go_wp2_with (go_at_call 66; refine hs2.mono ?_; rintro e w1 ⟨rfl, rfl⟩)
      exact ⟨⟨m + 1, by omega, by omega, by go_num⟩, by simp [intOf]; omega⟩
    · obtain rfl : m = nextF f n := by omega
      by_cases h200 : nextF f n ≤ 200
      · have d1 : (nextF f n : Int) ≤ 200 := by omega
        go_wp2_with (go_at_call 66; refine (refAt_none A cap n f _ _ (by omega) hs I.free).mono ?_; rintro e w1 ⟨rfl, rfl⟩)
        go_ret
        exact ⟨rfl, rfl⟩
      · have d1 : ¬ (nextF f n : Int) ≤ 200 := by omega
        go_wp2
        go_ret
        exact ⟨rfl, rfl⟩

theorem next_ok (p : ByteArray) (w : World) (hv : ValidR p) :
    Calls Try.prog 26 #[.string p] w fun e w' => e = .returned (if nextF (cel p) (cnt p) ≤ 200 then .tuple #[.int .i64 (nextF (cel p) (cnt p)), .int .i64 0] else .tuple #[.int .i64 0, .int .i64 13]) ∧ Ext w w' := by
  obtain ⟨z1, z2⟩ := sizes_of hv
  have hC := fun W => cells_of p W hv
  have hG := cel_good hv
  have hn := cnt_le hv
  have hI := (nextI hG _ (Nat.le_refl _)).le
  generalize cnt p = n at *
  generalize cel p = f at *
  have hix := index1
  have hQ := fun A cap W hs => quantity2_any p.size A cap n f W hn hs hG
  generalize nextF f n = m at *
  by_cases h2 : m ≤ 200
  · rw [if_pos h2]
    go_enter Try.func26, Try.ntmps26
    go_wp2_with (first
      | (go_at_call 20; refine (valid_any p _ (by omega)).mono ?_; rintro e w1 ⟨rfl, hx1⟩; rw [decide_eq_true hv])
      | (go_at_call 59; refine (quantities_any _).mono ?_; rintro e w2 ⟨rfl, hx2⟩)
      | (go_at_call 45; refine (hC _).mono ?_; rintro e w3 ⟨A, cap, rfl, hs, hx3⟩)
      | (go_at_call 77; refine (hQ A cap _ hs).mono ?_; rintro e w4 ⟨rfl, hx4⟩))
    go_ret2
    exact ⟨rfl, ((hx1.trans hx2).trans hx3).trans hx4⟩
  · rw [if_neg h2]
    have h3 : (200 : Int) < m := by omega
    go_enter Try.func26, Try.ntmps26
    go_wp2_with (first
      | (go_at_call 20; refine (valid_any p _ (by omega)).mono ?_; rintro e w1 ⟨rfl, hx1⟩; rw [decide_eq_true hv])
      | (go_at_call 59; refine (quantities_any _).mono ?_; rintro e w2 ⟨rfl, hx2⟩)
      | (go_at_call 45; refine (hC _).mono ?_; rintro e w3 ⟨A, cap, rfl, hs, hx3⟩)
      | (go_at_call 77; refine (hQ A cap _ hs).mono ?_; rintro e w4 ⟨rfl, hx4⟩))
    go_ret2
    exact ⟨rfl, ((hx1.trans hx2).trans hx3).trans hx4⟩
theorem next_no (p : ByteArray) (w : World) (hp : p.size ≤ 140737488355328) (hv : ¬ ValidR p) :
    Calls Try.prog 26 #[.string p] w fun e w' => e = .returned (.tuple #[.int .i64 0, .int .i64 1]) ∧ Ext w w' := by
  go_enter Try.func26, Try.ntmps26
  go_wp2_with (go_at_call 20; refine (valid_any p _ hp).mono ?_; rintro e w1 ⟨rfl, hx1⟩; rw [decide_eq_false hv])
  go_ret2
  exact ⟨rfl, hx1⟩
theorem refNext_ok (p : ByteArray) (w : World) (hv : ValidR p) :
    Calls Try.prog 27 #[.string p] w fun e w' => e = .returned (if nextF (cel p) (cnt p) ≤ 200 then .tuple #[.int .i64 (nextF (cel p) (cnt p)), .int .i64 0] else .tuple #[.int .i64 0, .int .i64 13]) ∧ Ext w w' := by
  obtain ⟨z1, z2⟩ := sizes_of hv
  have hC := fun W => refCells_of p W hv
  have hG := cel_good hv
  have hn := cnt_le hv
  have hI := (nextI hG _ (Nat.le_refl _)).le
  generalize cnt p = n at *
  generalize cel p = f at *
  have hQ := fun A cap W hs => refLeast_any A cap n f W hn hs hG
  generalize nextF f n = m at *
  by_cases h2 : m ≤ 200
  · rw [if_pos h2]
    go_enter Try.func27, Try.ntmps27
    go_wp2_with (first
      | (go_at_call 22; refine (hC _).mono ?_; rintro e w3 ⟨A, cap, rfl, hs, hx3⟩)
      | (go_at_call 60; refine (hQ A cap _ hs).mono ?_; rintro e w4 ⟨rfl, rfl⟩))
    go_ret2
    exact ⟨rfl, hx3⟩
  · rw [if_neg h2]
    have h3 : (200 : Int) < m := by omega
    go_enter Try.func27, Try.ntmps27
    go_wp2_with (first
      | (go_at_call 22; refine (hC _).mono ?_; rintro e w3 ⟨A, cap, rfl, hs, hx3⟩)
      | (go_at_call 60; refine (hQ A cap _ hs).mono ?_; rintro e w4 ⟨rfl, rfl⟩))
    go_ret2
    exact ⟨rfl, hx3⟩
theorem refNext_no (p : ByteArray) (w : World) (hp : p.size ≤ 140737488355328) (hv : ¬ ValidR p) :
    Calls Try.prog 27 #[.string p] w fun e w' => e = .returned (.tuple #[.int .i64 0, .int .i64 1]) ∧ Ext w w' := by
  go_enter Try.func27, Try.ntmps27
  go_wp2_with (go_at_call 22; refine (refCells_no p _ hp hv).mono ?_; rintro e w1 ⟨rfl, hx1⟩)
  go_ret2
  exact ⟨rfl, hx1⟩
end Go.Proofs.Ytfinljcembipkaa
