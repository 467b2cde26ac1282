/- PageFills returns true: New and Fill are those of the reference, and what Fill gives is a page with these cells. -/
import Derived.Test.YtnileonlabpbpaaLawA
namespace Go.Proofs.Ytnileonlabpbpaa
open Go.RowKit
set_option linter.unusedVariables false
set_option maxRecDepth 20000

theorem fill_ok {size : Int} {n : Nat} {f : Nat → Cel} (h60 : n ≤ 200) (h : (fillRes size n f).2 = 0) :
    ¬ AnyBad f n ∧ sizeB size = true ∧ Fit size.toNat n f ∧ ((size.toNat : Nat) : Int) = size ∧ (fillRes size n f).1 = ⟨(bufF size.toNat n f n).toArray⟩ := by
  by_cases h1 : AnyBad f n
  · simp [fillRes, h1] at h
  · by_cases h2 : sizeB size = false
    · simp [fillRes, h1, h2] at h
    · by_cases h3 : roomF size f n < 0
      · simp [fillRes, h1, h2, h3] at h
      · have hs : sizeB size = true := by simpa using h2
        have hz : 32 ≤ size ∧ size ≤ 4096 := by simp [sizeB] at hs; omega
        have hc : ((size.toNat : Nat) : Int) = size := by omega
        exact ⟨h1, hs, fit_of_good h1 (by omega) (by rw [hc]; exact hs) (by rw [hc]; exact h3), hc, by simp [fillRes, h1, hs, h3]⟩
theorem range_nth (n : Nat) (f : Nat → Cel) : ((List.range n).map f).length = n ∧ ∀ i, i < n → nthC ((List.range n).map f) i = f i := by
  refine ⟨by simp, fun i hi => ?_⟩
  simp [nthC, List.getD_eq_getElem?_getD, hi]


end Go.Proofs.Ytnileonlabpbpaa
