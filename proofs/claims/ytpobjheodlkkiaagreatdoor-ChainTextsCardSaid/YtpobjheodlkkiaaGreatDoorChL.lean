/- The members of a ring: the iterator, both ways. -/
import Derived.Test.YtpobjheodlkkiaaGreatDoorChK
import Derived.Deep.RegionHeld3
import Derived.StillTailTactics
import Derived.Sort.LoopGhostIn
namespace Go.Proofs.YtpobjheodlkkiaaGreatDoor
open Go.RowKit Go.Sort
set_option linter.unusedVariables false
set_option maxRecDepth 20000
set_option linter.unusedSimpArgs false
set_option linter.unusedSectionVars false
set_option maxRecDepth 100000
attribute [local go_sem] Oper.semAt_some




/-- a way through a ring: the round's places, one behind the other -/
structure Way (o : Int) (ms : List Int) (dir : Lk → Int) (r : Nat → Nat) : Prop where
  zero : r 0 = 0
  lt : ∀ j, r j < ms.length + 1
  step : ∀ j, j ≤ ms.length → dir (lkF (o :: ms) o (nthI (o :: ms) (r j))) = nthI (o :: ms) (r (j + 1))
  ne : ∀ j, j < ms.length → r (j + 1) ≠ 0
  last : r (ms.length + 1) = 0

end Go.Proofs.YtpobjheodlkkiaaGreatDoor
