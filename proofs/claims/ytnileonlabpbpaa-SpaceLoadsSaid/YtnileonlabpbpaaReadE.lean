/- Next, of the program and of the reference; the reference's At and Least. -/
import Derived.Test.YtnileonlabpbpaaReadD
namespace Go.Proofs.Ytnileonlabpbpaa
open Go.RowKit
set_option linter.unusedVariables false
set_option maxRecDepth 20000

/-- the least free line, as the program counts -/
def nextF (f : Nat → Cel) : Nat → Nat
  | 0 => 1
  | k + 1 => if (f k).1 = nextF f k then nextF f k + 1 else nextF f k
structure NextI (f : Nat → Cel) (k : Nat) : Prop where
  used : ∀ m : Nat, 1 ≤ m → m < nextF f k → ∃ i, i < k ∧ (f i).1 = m
  free : ∀ i, i < k → (f i).1 ≠ nextF f k
  ge : 1 ≤ nextF f k
  le : nextF f k ≤ 201
theorem nextI {f : Nat → Cel} {n : Nat} (hg : ¬ AnyBad f n) : ∀ k, k ≤ n → NextI f k := by
  intro k
  induction k with
  | zero => exact fun _ => ⟨fun m h1 h2 => by simp [nextF] at h2; omega, fun i hi => by omega, by simp [nextF], by simp [nextF]⟩
  | succ k ih =>
    intro hk
    have I := ih (by omega)
    have hgk := good_at hg k (by omega)
    by_cases h : (f k).1 = nextF f k
    · have e : nextF f (k + 1) = nextF f k + 1 := by simp [nextF, h]
      refine ⟨fun m h1 h2 => ?_, fun i hi => ?_, ?_, ?_⟩
      · rw [e] at h2
        by_cases hm : m = nextF f k
        · exact ⟨k, by omega, by rw [h, hm]⟩
        · obtain ⟨i, hi, he⟩ := I.used m h1 (by omega)
          exact ⟨i, by omega, he⟩
      · rw [e]
        by_cases hik : i = k
        · rw [hik]; omega
        · have := line_lt hg i k (by omega) (by omega); omega
      · omega
      · omega
    · have e : nextF f (k + 1) = nextF f k := by simp [nextF, h]
      refine ⟨fun m h1 h2 => ?_, fun i hi => ?_, by rw [e]; exact I.ge, by rw [e]; exact I.le⟩
      · rw [e] at h2
        obtain ⟨i, hi, he⟩ := I.used m h1 h2
        exact ⟨i, by omega, he⟩
      · rw [e]
        by_cases hik : i = k
        · rw [hik]; exact h
        · exact I.free i (by omega)

theorem quantity2_any (size : Int) (A : Option Addr) (cap n : Nat) (f : Nat → Cel) (w : World) (hn : n ≤ 200) (hs : SlC w A n f) (hg : ¬ AnyBad f n) :
    Calls Try.prog 67 #[.int .i64 size, .slice A n cap] w fun e w' => e = .returned (.int .i64 (nextF f n)) ∧ Ext w w' := by
  have hI := fun k hk => nextI hg k hk
  clear hg
  go_enter Try.func67, Try.ntmps67
  go_wp2
  go_loopw [5, 10] (fun x i wr => ∃ k : Nat, k ≤ n ∧ i = .int .i64 k ∧ x = .int .i64 (nextF f k) ∧ Ext w wr) (fun _ i _ => n - (intOf i).toNat)
  case atStart => exact ⟨0, by omega, rfl, rfl, Ext.refl w⟩
  case round =>
    obtain ⟨k, hk, rfl, rfl, hx⟩ := hrel
    by_cases hlt : k < n
    · obtain ⟨b, off, rfl, h1, h2⟩ := hs.at_ k hlt
      replace h1 := hx.cell h1
      replace h2 := hx.cell h2
      have hle := (hI k hk).le
      have e : nextF f (k + 1) = if (f k).1 = nextF f k then nextF f k + 1 else nextF f k := rfl
      by_cases c : (f k).1 = nextF f k
      · rw [if_pos c] at e
        have E := Lib.hid e
        clear e hI
        generalize nextF f k = m at *
        go_wp2
        exact ⟨⟨k + 1, by omega, by go_num, by rw [E.out]; go_num, hx.alloc _⟩, by simp [intOf]; omega⟩
      · rw [if_neg c] at e
        have E := Lib.hid e
        clear e hI
        generalize nextF f k = m at *
        go_wp2
        exact ⟨⟨k + 1, by omega, by go_num, by rw [E.out], hx.alloc _⟩, by simp [intOf]; omega⟩
    · obtain rfl : k = n := by omega
      go_wp2
      go_ret
      exact ⟨rfl, hx⟩





theorem next_ok (p : ByteArray) (w : World) (hv : ValidR p) :
    Calls Try.prog 45 #[.string p] w fun e w' => e = .returned (if nextF (cel p) (cnt p) ≤ 200 then .tuple #[.int .i64 (nextF (cel p) (cnt p)), .int .i64 0] else .tuple #[.int .i64 0, .int .i64 13]) ∧ Ext w w' := by
  obtain ⟨z1, z2⟩ := sizes_of hv
  have hC := fun W => cells_of p W hv
  have hG := cel_good hv
  have hn := cnt_le hv
  have hI := (nextI hG _ (Nat.le_refl _)).le
  generalize cnt p = n at *
  generalize cel p = f at *
  have hix := index1
  have hQ := fun A cap W hs => quantity2_any p.size A cap n f W hn hs hG
  generalize nextF f n = m at *
  by_cases h2 : m ≤ 200
  · rw [if_pos h2]
    go_enter Try.func45, Try.ntmps45
    go_wp2_with (first
      | (go_at_call 44; refine (valid_any p _ (by omega)).mono ?_; rintro e w1 ⟨rfl, hx1⟩; rw [decide_eq_true hv])
      | (go_at_call 54; refine (quantities_any _).mono ?_; rintro e w2 ⟨rfl, hx2⟩)
      | (go_at_call 48; refine (hC _).mono ?_; rintro e w3 ⟨A, cap, rfl, hs, hx3⟩)
      | (go_at_call 67; refine (hQ A cap _ hs).mono ?_; rintro e w4 ⟨rfl, hx4⟩))
    go_ret2
    exact ⟨rfl, ((hx1.trans hx2).trans hx3).trans hx4⟩
  · rw [if_neg h2]
    have h3 : (200 : Int) < m := by omega
    go_enter Try.func45, Try.ntmps45
    go_wp2_with (first
      | (go_at_call 44; refine (valid_any p _ (by omega)).mono ?_; rintro e w1 ⟨rfl, hx1⟩; rw [decide_eq_true hv])
      | (go_at_call 54; refine (quantities_any _).mono ?_; rintro e w2 ⟨rfl, hx2⟩)
      | (go_at_call 48; refine (hC _).mono ?_; rintro e w3 ⟨A, cap, rfl, hs, hx3⟩)
      | (go_at_call 67; refine (hQ A cap _ hs).mono ?_; rintro e w4 ⟨rfl, hx4⟩))
    go_ret2
    exact ⟨rfl, ((hx1.trans hx2).trans hx3).trans hx4⟩
theorem next_no (p : ByteArray) (w : World) (hp : p.size ≤ 140737488355328) (hv : ¬ ValidR p) :
    Calls Try.prog 45 #[.string p] w fun e w' => e = .returned (.tuple #[.int .i64 0, .int .i64 1]) ∧ Ext w w' := by
  go_enter Try.func45, Try.ntmps45
  go_wp2_with (go_at_call 44; refine (valid_any p _ hp).mono ?_; rintro e w1 ⟨rfl, hx1⟩; rw [decide_eq_false hv])
  go_ret2
  exact ⟨rfl, hx1⟩


end Go.Proofs.Ytnileonlabpbpaa
