/- page.Set. -/
import Derived.Test.YtnileonlabpbpaaOwn
import Derived.Laws.OwnMore
namespace Go.Proofs.Ytnileonlabpbpaa
open Go.RowKit
set_option linter.unusedVariables false
set_option maxRecDepth 20000

/-- cells with other data at one place -/
def setF (f : Nat → Cel) (pos : Nat) (s : ByteArray) (i : Nat) : Cel := if i = pos then ((f pos).1, s) else f i
theorem setF_good {n : Nat} {f : Nat → Cel} (hg : ¬ AnyBad f n) (pos : Nat) (s : ByteArray) (hs : 0 < s.size) : ¬ AnyBad (setF f pos s) n := by
  rintro ⟨i, hi, hb⟩
  have h1 := good_at hg i hi
  have e1 : ∀ j, (setF f pos s j).1 = (f j).1 := fun j => by unfold setF; split <;> simp_all
  unfold BadF at hb
  rw [e1, e1] at hb
  rcases hb with h | h | ⟨h, h'⟩ | h
  · omega
  · omega
  · have := line_lt hg (i - 1) i (by omega) hi; omega
  · unfold setF at h
    split at h
    · have h' : s.size = 0 := h
      omega
    · omega

theorem frozen_ext {a b : World} (h : Ext a b) {p : Addr} (hp : p.block < a.heap.size) : b.frozen? p = a.frozen? p := World.frozen?_of_block (h.block hp)

end Go.Proofs.Ytnileonlabpbpaa
