/- Set with the old data is the page. -/
import Derived.Test.YtnileonlabpbpaaSet
namespace Go.Proofs.Ytnileonlabpbpaa
open Go.RowKit
set_option linter.unusedVariables false
set_option maxRecDepth 20000

theorem setF_same (f : Nat → Cel) (pos : Nat) : setF f pos (f pos).2 = f := by
  funext i
  unfold setF
  split
  · rename_i h; rw [h]
  · rfl
theorem filled_cells {p : ByteArray} (hv : ValidR p) : filledRes p.size (cnt p) (cel p) = (p, 0) := by
  have h := fill_cells hv
  have hg := cel_good hv
  have hs := hv.1.1
  have hr : ¬ roomF p.size (cel p) (cnt p) < 0 := by
    have hr := cel_room hv
    have ht := topF_in p hv.1.2.2 _ hv.2.1
    omega
  unfold filledRes
  rw [if_neg hr]
  simp only [fillRes, hg, hr, hs, if_false, Int.toNat_natCast] at h
  simpa using h

end Go.Proofs.Ytnileonlabpbpaa
