/- Contract of the reference's Built: the page of cells that fit. -/
import Derived.Test.YtnileonlabpbpaaRefA
import Derived.Test.YtnileonlabpbpaaOps
import Derived.Outline
import Derived.Deep.AppendLies
namespace Go.Proofs.Ytnileonlabpbpaa
open Go.RowKit
set_option linter.unusedVariables false
set_option maxRecDepth 20000

/-- the buffer behind k cells -/
def bufF (size n : Nat) (f : Nat → Cel) : Nat → List UInt8
  | 0 => splice (List.replicate size 0) 0 (ent (lastF f n).toNat)
  | k + 1 => splice (splice (splice (bufF size n f k) (4 * (f k).1.toNat - 2) (ent (size - bytesF f (k + 1)))) (4 * (f k).1.toNat) (ent (f k).2.size)) (size - bytesF f (k + 1)) (f k).2.data.toList

/-- cells that are right and fit -/
structure Fit (size n : Nat) (f : Nat → Cel) : Prop where
  n_le : n ≤ 200
  size_le : size ≤ 4096
  size_ge : 32 ≤ size
  pos : ∀ i, i < n → 1 ≤ (f i).1
  le : ∀ i, i < n → (f i).1 ≤ lastF f n
  data : ∀ i, i < n → 0 < (f i).2.size
  room : 2 + 4 * lastF f n + bytesF f n ≤ size
theorem Fit.last0 {size n : Nat} {f : Nat → Cel} (h : Fit size n f) : 0 ≤ lastF f n := by
  unfold lastF
  by_cases h0 : n = 0
  · simp [h0]
  · rw [if_neg h0]; have := h.pos (n - 1) (by omega); omega
theorem bytesF_mono (f : Nat → Cel) {a b : Nat} (h : a ≤ b) : bytesF f a ≤ bytesF f b := by
  induction b with
  | zero => simp at h; subst h; exact Nat.le_refl _
  | succ b ih =>
    rcases Nat.lt_or_ge a (b + 1) with h1 | h1
    · have := ih (by omega); simp only [bytesF]; omega
    · have : a = b + 1 := by omega
      subst this; exact Nat.le_refl _
theorem length_bufF (size n : Nat) (f : Nat → Cel) (h : Fit size n f) : ∀ k, k ≤ n → (bufF size n f k).length = size := by
  have h0 : 2 ≤ size := by have := h.size_ge; omega
  intro k
  induction k with
  | zero => intro _; unfold bufF; rw [length_splice _ _ _ (by simp [ent]; omega)]; simp
  | succ k ih =>
    intro hk
    have ihk := ih (by omega)
    have h1 := h.pos k (by omega)
    have h2 := h.le k (by omega)
    have h3 := h.room
    have h4 := bytesF_mono f hk
    have h5 : bytesF f (k + 1) = bytesF f k + (f k).2.size := rfl
    unfold bufF
    have hd : (f k).2.data.toList.length = (f k).2.size := by simp
    have l1 : (splice (bufF size n f k) (4 * (f k).1.toNat - 2) (ent (size - bytesF f (k + 1)))).length = size := by
      rw [length_splice _ _ _ (by rw [ihk]; show _ + 2 ≤ size; omega)]; exact ihk
    have l2 : (splice (splice (bufF size n f k) (4 * (f k).1.toNat - 2) (ent (size - bytesF f (k + 1)))) (4 * (f k).1.toNat) (ent (f k).2.size)).length = size := by
      rw [length_splice _ _ _ (by rw [l1]; show _ + 2 ≤ size; omega)]; exact l1
    rw [length_splice _ _ _ (by rw [hd, l2]; omega)]; exact l2


end Go.Proofs.Ytnileonlabpbpaa
