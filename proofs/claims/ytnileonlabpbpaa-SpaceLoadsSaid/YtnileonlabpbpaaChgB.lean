/- PageChanges returns true. -/
import Derived.Test.YtnileonlabpbpaaChgA
namespace Go.Proofs.Ytnileonlabpbpaa
open Go.RowKit
set_option linter.unusedVariables false
set_option maxRecDepth 20000

theorem filled_valid (size m : Nat) (g : Nat → Cel) (hg : ¬ AnyBad g m) (hz : sizeB size = true) (h0 : (filledRes size m g).2 = 0) :
    (filledRes size m g).1.size = size ∧ ValidR (filledRes size m g).1 ∧ cnt (filledRes size m g).1 = m ∧ ∀ i, i < m → cel (filledRes size m g).1 i = g i := by
  have hr : ¬ roomF size g m < 0 := by
    intro h
    unfold filledRes at h0
    rw [if_pos h] at h0
    cases h0
  have hm := count_le hg
  obtain ⟨h1, h2, h3⟩ := built_page size m g hg (fit_of_good hg hm hz hr) hz (filledRes size m g).1 (by unfold filledRes; rw [if_neg hr])
  have h4 : cnt (filledRes size m g).1 = m := by unfold cnt; rw [h3]; simp
  refine ⟨h1, h2, h4, fun i hi => ?_⟩
  unfold cel
  rw [h3]
  exact nthC_listF g m i hi

/-- a call of the program and one of the reference that end alike -/
def Both2 (F G : FuncId) (args : Array Value) (r : ByteArray × Int) : Prop :=
  (∀ w, Calls Try.prog F args w fun e w' => e = two2 r ∧ Ext w w') ∧ (∀ w, Calls Try.prog G args w fun e w' => e = two2 r ∧ Ext w w')

section
variable (p : ByteArray) (x : Int) (s : ByteArray) (hv : ValidR p) (h0 : -9223372036854775808 ≤ x) (h1 : x ≤ 9223372036854775807)
include hv h0 h1





end


end Go.Proofs.Ytnileonlabpbpaa
