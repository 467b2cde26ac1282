/- Set with the old data is the page. -/
import Derived.Test.YtfinljcembipkaaSet
namespace Go.Proofs.Ytfinljcembipkaa
open Go.RowKit
set_option linter.unusedVariables false

theorem setF_same (f : Nat → Cel) (pos : Nat) : setF f pos (f pos).2 = f := by
  funext i
  unfold setF
  split
  · rename_i h; rw [h]
  · rfl
theorem filled_cells {p : ByteArray} (hv : ValidR p) : filledRes p.size (cnt p) (cel p) = (p, 0) := by
  have h := fill_cells hv
  have hg := cel_good hv
  have hs := hv.1.1
  have hr : ¬ roomF p.size (cel p) (cnt p) < 0 := by
    have hr := cel_room hv
    have ht := topF_in p hv.1.2.2 _ hv.2.1
    omega
  unfold filledRes
  rw [if_neg hr]
  simp only [fillRes, hg, hr, hs, if_false, Int.toNat_natCast] at h
  simpa using h
theorem set_old (p : ByteArray) (i : Nat) (w : World) (hv : ValidR p) (hi : i < cnt p) :
    Calls Try.prog 34 #[.string p, .int .i64 (cel p i).1, .string (cel p i).2] w fun e w' => e = .returned (.tuple #[.string p, .int .i64 0]) ∧ Ext w w' := by
  have hg := cel_good hv
  have h1 := good_at hg i hi
  have hp : PosI (cnt p) (cel p) (cel p i).1 i := ⟨by omega, fun j hj => line_lt hg j i hj hi, fun j h2 h3 => lines_up hg i j h2 h3⟩
  have := set_hit p (cel p i).1 (cel p i).2 w hv h1.2.2 (cel_size hv i hi) ⟨h1.1, h1.2.1⟩ i hi hp rfl
  rw [setF_same, filled_cells hv] at this
  exact this
end Go.Proofs.Ytfinljcembipkaa
