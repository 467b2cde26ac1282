/- reference With: cells with other data for a line. -/
import Derived.Test.YtnileonlabpbpaaPutB
namespace Go.Proofs.Ytnileonlabpbpaa
open Go.RowKit
set_option linter.unusedVariables false
set_option maxRecDepth 20000

/-- what With has behind k cells, and whether the line is done -/
def withW (f : Nat → Cel) (x : Int) (s : ByteArray) : Nat → List Cel × Bool
  | 0 => ([], s.toList.isEmpty)
  | k + 1 => if (withW f x s k).2 = false ∧ x ≤ (f k).1 then ((withW f x s k).1 ++ [(x, s)] ++ (if (f k).1 = x then [] else [f k]), true)
    else ((withW f x s k).1 ++ (if (f k).1 = x then [] else [f k]), (withW f x s k).2)
def withL (f : Nat → Cel) (x : Int) (s : ByteArray) (n : Nat) : List Cel := if (withW f x s n).2 then (withW f x s n).1 else (withW f x s n).1 ++ [(x, s)]
theorem withW_len (f : Nat → Cel) (x : Int) (s : ByteArray) : ∀ k, (withW f x s k).1.length ≤ 2 * k := by
  intro k
  induction k with
  | zero => simp [withW]
  | succ k ih =>
    unfold withW
    split <;> split <;> simp <;> omega


end Go.Proofs.Ytnileonlabpbpaa
