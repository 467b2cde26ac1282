/- Arrays in memory, read: a slice of numbers, a slice of such slices. -/
import Derived.Test.YtgdbhmdhonnmgaaDoorMap
import Derived.Test.YtgdbhmdhonnmgaaDoorRange
import Derived.Test.YtgdbhmdhonnmgaaDoorArO
import Derived.RegionTactic
import Derived.ChangeAlike
namespace Go.Proofs.YtgdbhmdhonnmgaaDoor
open Go.RowKit
set_option linter.unusedVariables false
set_option maxRecDepth 20000
set_option maxRecDepth 20000

/-- a number that an int can hold -/
def In64 (x : Int) : Prop := -9223372036854775808 ≤ x ∧ x ≤ 9223372036854775807
theorem In64.wf {x : Int} (h : In64 x) : (Lit.int .i64 x).wf = true := by
  obtain ⟨h1, h2⟩ := h
  simp [Lit.wf, IntKind.min, IntKind.max, IntKind.signed, IntKind.bits]
  omega
/-- a slice of numbers, read -/
structure SlI (w : World) (P : Option Addr) (cap : Nat) (l : List Int) : Prop where
  at_ : ∀ i, i < l.length → ∃ b off, P = some ⟨b, off, none⟩ ∧ w.cell? ⟨b, off + i, none⟩ = some (.int .i64 (nthI l i))
  le : l.length ≤ cap
  cap : cap ≤ 9223372036854775807
theorem SlI.ext {w w' : World} {P : Option Addr} {cap : Nat} {l : List Int} (h : SlI w P cap l) (hx : Ext w w') : SlI w' P cap l :=
  ⟨fun i hi => by obtain ⟨b, off, e, h1⟩ := h.at_ i hi; exact ⟨b, off, e, hx.cell h1⟩, h.le, h.cap⟩
theorem SlI.nil (w : World) : SlI w none 0 [] := ⟨fun i hi => by simp at hi, Nat.le_refl _, by omega⟩
/-- a slice of such slices, read -/
structure SlA (w : World) (P : Option Addr) (cap : Nat) (Q : Nat → Option Addr) (C : Nat → Nat) (LL : List (List Int)) : Prop where
  at_ : ∀ i, i < LL.length → ∃ b off, P = some ⟨b, off, none⟩ ∧ w.cell? ⟨b, off + i, none⟩ = some (.slice (Q i) (nthA LL i).length (C i))
  row : ∀ i, i < LL.length → SlI w (Q i) (C i) (nthA LL i)
  le : LL.length ≤ cap
  cap : cap ≤ 9223372036854775807
section
variable {w w' : World} {P : Option Addr} {cap : Nat} {Q : Nat → Option Addr} {C : Nat → Nat} {LL : List (List Int)}
theorem SlA.ext (h : SlA w P cap Q C LL) (hx : Ext w w') : SlA w' P cap Q C LL :=
  ⟨fun i hi => by obtain ⟨b, off, e, h1⟩ := h.at_ i hi; exact ⟨b, off, e, hx.cell h1⟩, fun i hi => (h.row i hi).ext hx, h.le, h.cap⟩
theorem SlA.len (h : SlA w P cap Q C LL) : LL.length ≤ 9223372036854775807 := Nat.le_trans h.le h.cap
theorem SlA.rowLen (h : SlA w P cap Q C LL) (i : Nat) (hi : i < LL.length) : (nthA LL i).length ≤ 9223372036854775807 := Nat.le_trans (h.row i hi).le (h.row i hi).cap
end
end Go.Proofs.YtgdbhmdhonnmgaaDoor
