/- Arrays: slices.Concat of blocks; Keys and Count of both. -/
import Derived.Test.YtgdbhmdhonnmgaaDoorArG
namespace Go.Proofs.YtgdbhmdhonnmgaaDoor
open Go.RowKit Go.Maps
set_option linter.unusedVariables false
set_option maxRecDepth 20000
set_option linter.unusedSimpArgs false
set_option maxRecDepth 20000

/-- how many keys the first k blocks have -/
def lenT (LL : List (List Int)) (k : Nat) : Nat := (LL.take k).flatten.length
theorem lenT_le (LL : List (List Int)) (k : Nat) : lenT LL k ≤ LL.flatten.length := flat_take_le LL k
theorem lenT_succ {LL : List (List Int)} {k : Nat} (h : k < LL.length) : lenT LL (k + 1) = lenT LL k + (nthA LL k).length := by
  unfold lenT; rw [flat_take h, List.length_append]
theorem lenT_end (LL : List (List Int)) : lenT LL LL.length = LL.flatten.length := by unfold lenT; rw [List.take_length]


theorem ArOk.ne {b : Int} {LL : List (List Int)} (h : ArOk b LL) : ∀ l ∈ LL, l ≠ [] := fun l hl => (h.blocks l hl).1
theorem ArOk.le {b : Int} {LL : List (List Int)} (h : ArOk b LL) : LL.flatten.length ≤ 1000 := by have := h.keys.2.2; omega
theorem validF_no {b : Int} {LL : List (List Int)} (h : ¬ ArOk b LL) : validF b LL = false := by
  cases hv : validF b LL with
  | false => rfl
  | true => exact absurd (validF_iff.1 hv) h

/-- how Keys ends -/
def KeysPost (LL : List (List Int)) (w : World) (e : Ending) (w' : World) : Prop := ∃ v, e = .returned (.tuple #[v, .int .i64 0]) ∧ w'.ownsRow w.heap.size 3 1 v LL.flatten.length (intVs LL.flatten) ∧ Ext w w'
section
variable (b : Int) (P : Option Addr) (cap : Nat) (Q : Nat → Option Addr) (C : Nat → Nat) (LL : List (List Int)) (w : World) (h : SlA w P cap Q C LL)
include h






end
end Go.Proofs.YtgdbhmdhonnmgaaDoor
