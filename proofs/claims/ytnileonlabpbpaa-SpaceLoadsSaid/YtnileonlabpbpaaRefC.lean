/- Contracts of the reference's Fill and New. -/
import Derived.Test.YtnileonlabpbpaaRefB
namespace Go.Proofs.Ytnileonlabpbpaa
open Go.RowKit
set_option linter.unusedVariables false
set_option maxRecDepth 20000

def BadF (f : Nat → Cel) (i : Nat) : Prop := (f i).1 < 1 ∨ 200 < (f i).1 ∨ (0 < i ∧ (f i).1 ≤ (f (i - 1)).1) ∨ (f i).2.size = 0
def AnyBad (f : Nat → Cel) (n : Nat) : Prop := ∃ i, i < n ∧ BadF f i
open Classical in
/-- what Fill comes to -/
noncomputable def fillRes (size : Int) (n : Nat) (f : Nat → Cel) : ByteArray × Int :=
  if AnyBad f n then (⟨#[]⟩, 1) else if sizeB size = false then (⟨#[]⟩, 7) else if roomF size f n < 0 then (⟨#[]⟩, 13) else (⟨(bufF size.toNat n f n).toArray⟩, 0)
theorem ret_pair {s t : ByteArray} {a b : Int} (h1 : s = t) (h2 : a = b) : Ending.returned (.tuple #[.string s, .int .i64 a]) = .returned (.tuple #[.string t, .int .i64 b]) := by rw [h1, h2]

theorem lines_up {f : Nat → Cel} {n : Nat} (h : ¬ AnyBad f n) : ∀ i j, i ≤ j → j < n → (f i).1 ≤ (f j).1 := by
  intro i j hij hj
  induction j with
  | zero => have : i = 0 := by omega
            subst this; exact Int.le_refl _
  | succ j ih =>
    rcases Nat.lt_or_ge i (j + 1) with h1 | h1
    · have h2 := ih (by omega) (by omega)
      have h3 : ¬ BadF f (j + 1) := fun hb => h ⟨j + 1, hj, hb⟩
      unfold BadF at h3
      simp only [Nat.add_sub_cancel] at h3
      omega
    · have : i = j + 1 := by omega
      subst this; exact Int.le_refl _
theorem good_at {f : Nat → Cel} {n : Nat} (h : ¬ AnyBad f n) (i : Nat) (hi : i < n) : 1 ≤ (f i).1 ∧ (f i).1 ≤ 200 ∧ 0 < (f i).2.size := by
  have h3 : ¬ BadF f i := fun hb => h ⟨i, hi, hb⟩
  unfold BadF at h3
  omega
theorem last_of_good {f : Nat → Cel} {n : Nat} (h : ¬ AnyBad f n) : 0 ≤ lastF f n ∧ lastF f n ≤ 200 := by
  unfold lastF
  by_cases h0 : n = 0
  · simp [h0]
  · rw [if_neg h0]; have := good_at h (n - 1) (by omega); omega
theorem fit_of_good {f : Nat → Cel} {n : Nat} {size : Nat} (h : ¬ AnyBad f n) (hn : n ≤ 200) (hs : sizeB (size : Int) = true) (hr : ¬ roomF size f n < 0) : Fit size n f := by
  simp only [sizeB, Bool.and_eq_true, decide_eq_true_eq] at hs
  refine ⟨hn, by omega, by omega, fun i hi => (good_at h i hi).1, fun i hi => ?_, fun i hi => (good_at h i hi).2.2, ?_⟩
  · unfold lastF
    rw [if_neg (by omega)]
    exact lines_up h i (n - 1) (by omega) (by omega)
  · unfold roomF at hr; omega



end Go.Proofs.Ytnileonlabpbpaa
