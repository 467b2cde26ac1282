/-
  No cell of these rows narrows 'for every input' (looked for: loops, veiled, ifaces, maps, wideKeys, modest, calm, conditions, laid).
  DERIVED. THE GIVEN ROWS OF THIS SEAT. 5 by the template 'for every input the law returns true; each argument reads behind the call as it read before'; 0 by the template 'total and deterministic' (their statements: YtnileonlabpbpaaGreatTotals.lean).
  GIVEN WITH THE SEED: the statements are not yours to turn. If you find one false, say at which input.
  Laid BY PROGRAM, IN A SANDBOX (cutbox-rows.mjs): the forced cells as the released guide's own fill.sh prints them over the translation 4629e0b1443020d8… (all of the seat's roots in one cut). By AI agents, Wed Nov 11 2026. No macro, syntax, notation, axiom, sorry.
-/
import Derived.Test.YtnileonlabpbpaaGreatChecked
import GoSem.Claim
import GoSem.ClaimJoined
import GoSem.ClaimMapViews
import Derived.JoinedTies
import Derived.KernelRfl
namespace Go.Proofs.YtnileonlabpbpaaGreat
/- THE CELL 'sum', in the pinned program and in every row, IS THE sha256 OF THE DUMP (.gsa) THAT YtnileonlabpbpaaGreatProg.lean LOADS. Nothing in Lean hashes anything: it is a label: what it is worth is what the hold of that sum in a sandbox is worth. -/
noncomputable def Tryz.pinned : Pinned := { name := "ytnileonlabpbpaagreat", sum := "4629e0b1443020d8a80d16f940183e4d15d075b21b666017080dfa9a04083426", checked := Tryz.checked }
namespace Rows
def none {H : Type} : Left H := { results := [], args := [] }

/-- 'ringworklaw07.SpacePlays': WHATEVER THE INPUT: true; the input reads as it did. -/
def spacePlaysSpec : ChangeSpec := { name := "spacePlays", fn := fun _ => fun
  | [d1, d2, d3] => { results := [.lit (.bool true)], args := [d1, d2, d3] }
  | _ => none }
def spacePlaysRow : OpenClaim := { program := "ytnileonlabpbpaagreat", sum := "4629e0b1443020d8a80d16f940183e4d15d075b21b666017080dfa9a04083426", func := "ringwork/ringworklaw07.SpacePlays", spec := "spacePlays", inPlace := ["slices.overlaps[ringwork/api.Cell]"], unfollowed := true, recurses := true, apart := false }
def SpacePlaysSaid : Prop := spacePlaysRow.holds Tryz.pinned (OpenSpec.ofChange spacePlaysSpec)

/-- ITS FALSE NEIGHBOUR: 'it returns false'. Refute it at one input. -/
def spacePlaysWrong : ChangeSpec := { name := "spacePlays", fn := fun _ => fun
  | [d1, d2, d3] => { results := [.lit (.bool false)], args := [d1, d2, d3] }
  | _ => none }
def SpacePlaysWrongFalsely : Prop := spacePlaysRow.holds Tryz.pinned (OpenSpec.ofChange spacePlaysWrong)

/-- 'ringworklaw07.SpaceApart': WHATEVER THE INPUT: true; the input reads as it did. -/
def spaceApartSpec : ChangeSpec := { name := "spaceApart", fn := fun _ => fun
  | [d1, d2, d3, d4, d5] => { results := [.lit (.bool true)], args := [d1, d2, d3, d4, d5] }
  | _ => none }
def spaceApartRow : OpenClaim := { program := "ytnileonlabpbpaagreat", sum := "4629e0b1443020d8a80d16f940183e4d15d075b21b666017080dfa9a04083426", func := "ringwork/ringworklaw07.SpaceApart", spec := "spaceApart", inPlace := ["slices.overlaps[ringwork/api.Cell]"], unfollowed := true, recurses := true, apart := false }
def SpaceApartSaid : Prop := spaceApartRow.holds Tryz.pinned (OpenSpec.ofChange spaceApartSpec)

/-- ITS FALSE NEIGHBOUR: 'it returns false'. Refute it at one input. -/
def spaceApartWrong : ChangeSpec := { name := "spaceApart", fn := fun _ => fun
  | [d1, d2, d3, d4, d5] => { results := [.lit (.bool false)], args := [d1, d2, d3, d4, d5] }
  | _ => none }
def SpaceApartWrongFalsely : Prop := spaceApartRow.holds Tryz.pinned (OpenSpec.ofChange spaceApartWrong)

/-- 'ringworklaw07.SpaceTells': WHATEVER THE INPUT: true; the input reads as it did. -/
def spaceTellsSpec : ChangeSpec := { name := "spaceTells", fn := fun _ => fun
  | [d1, d2, d3, d4, d5, d6] => { results := [.lit (.bool true)], args := [d1, d2, d3, d4, d5, d6] }
  | _ => none }
def spaceTellsRow : OpenClaim := { program := "ytnileonlabpbpaagreat", sum := "4629e0b1443020d8a80d16f940183e4d15d075b21b666017080dfa9a04083426", func := "ringwork/ringworklaw07.SpaceTells", spec := "spaceTells", inPlace := ["slices.overlaps[ringwork/api.Cell]"], unfollowed := true, recurses := true, apart := false }
def SpaceTellsSaid : Prop := spaceTellsRow.holds Tryz.pinned (OpenSpec.ofChange spaceTellsSpec)

/-- ITS FALSE NEIGHBOUR: 'it returns false'. Refute it at one input. -/
def spaceTellsWrong : ChangeSpec := { name := "spaceTells", fn := fun _ => fun
  | [d1, d2, d3, d4, d5, d6] => { results := [.lit (.bool false)], args := [d1, d2, d3, d4, d5, d6] }
  | _ => none }
def SpaceTellsWrongFalsely : Prop := spaceTellsRow.holds Tryz.pinned (OpenSpec.ofChange spaceTellsWrong)

/-- 'ringworklaw07.SpaceImages': WHATEVER THE INPUT: true; the input reads as it did. -/
def spaceImagesSpec : ChangeSpec := { name := "spaceImages", fn := fun _ => fun
  | [d1, d2, d3, d4] => { results := [.lit (.bool true)], args := [d1, d2, d3, d4] }
  | _ => none }
def spaceImagesRow : OpenClaim := { program := "ytnileonlabpbpaagreat", sum := "4629e0b1443020d8a80d16f940183e4d15d075b21b666017080dfa9a04083426", func := "ringwork/ringworklaw07.SpaceImages", spec := "spaceImages", inPlace := ["slices.overlaps[ringwork/api.Cell]"], unfollowed := true, recurses := true, apart := false }
def SpaceImagesSaid : Prop := spaceImagesRow.holds Tryz.pinned (OpenSpec.ofChange spaceImagesSpec)

/-- ITS FALSE NEIGHBOUR: 'it returns false'. Refute it at one input. -/
def spaceImagesWrong : ChangeSpec := { name := "spaceImages", fn := fun _ => fun
  | [d1, d2, d3, d4] => { results := [.lit (.bool false)], args := [d1, d2, d3, d4] }
  | _ => none }
def SpaceImagesWrongFalsely : Prop := spaceImagesRow.holds Tryz.pinned (OpenSpec.ofChange spaceImagesWrong)

/-- 'ringworklaw07.SpaceDamage': WHATEVER THE INPUT: true; the input reads as it did. -/
def spaceDamageSpec : ChangeSpec := { name := "spaceDamage", fn := fun _ => fun
  | [d1, d2, d3, d4, d5] => { results := [.lit (.bool true)], args := [d1, d2, d3, d4, d5] }
  | _ => none }
def spaceDamageRow : OpenClaim := { program := "ytnileonlabpbpaagreat", sum := "4629e0b1443020d8a80d16f940183e4d15d075b21b666017080dfa9a04083426", func := "ringwork/ringworklaw07.SpaceDamage", spec := "spaceDamage", inPlace := ["slices.overlaps[ringwork/api.Cell]"], unfollowed := true, recurses := true, apart := false }
def SpaceDamageSaid : Prop := spaceDamageRow.holds Tryz.pinned (OpenSpec.ofChange spaceDamageSpec)

/-- ITS FALSE NEIGHBOUR: 'it returns false'. Refute it at one input. -/
def spaceDamageWrong : ChangeSpec := { name := "spaceDamage", fn := fun _ => fun
  | [d1, d2, d3, d4, d5] => { results := [.lit (.bool false)], args := [d1, d2, d3, d4, d5] }
  | _ => none }
def SpaceDamageWrongFalsely : Prop := spaceDamageRow.holds Tryz.pinned (OpenSpec.ofChange spaceDamageWrong)

/- THE SECOND FORM. 'bulk': how many values and letters a reading holds, each counted each time it is reached (what is shared counts as often as it is met; a slice's spare places count too). A statement '..UptoSaid' is the law's where the arguments, and the package variables that the reading takes, are together of bulk at most 1048576: NARROWER than '..Said'. Prove '..Said' where nothing that the law and all that it calls make is longer than what came in: it says more and counts as full. Else prove '..UptoSaid'. A law counts once. -/
mutual
def uptoBulk {H : Type} : DataW H → Nat
  | .lit (.string bytes) => bytes.length + 1
  | .lit _ => 1
  | .nil => 1
  | .ptr d => uptoBulk d + 1
  | .slice elems spare => uptoBulkAll elems + uptoBulkAll spare + 1
  | .agg parts => uptoBulkAll parts + 1
  | .iface _ d => uptoBulk d + 1
  | .map entries => uptoBulkEntries entries + 1
  | .held _ => 1
def uptoBulkAll {H : Type} : List (DataW H) → Nat
  | [] => 0
  | d :: r => uptoBulk d + uptoBulkAll r
def uptoBulkEntries {H : Type} : List (Lit × DataW H) → Nat
  | [] => 0
  | x :: r => uptoBulkEntry x + uptoBulkEntries r
def uptoBulkEntry {H : Type} : Lit × DataW H → Nat
  | (.string bytes, d) => bytes.length + uptoBulk d + 1
  | (_, d) => uptoBulk d + 1
 end
def uptoSmall : (H : Type) → List (DataW H) → Bool := fun _ ds => decide (uptoBulkAll ds ≤ 1048576)
def OpenSpec.upto (s : _root_.Go.ChangeSpec) : _root_.Go.OpenSpec := { _root_.Go.OpenSpec.ofChange s with cond := some uptoSmall }

/-- 'ringworklaw07.SpacePlays', WHERE WHAT IT READS IS OF BULK AT MOST 1048576: true; the input reads as it did. -/
def spacePlaysUptoRow : OpenClaim := { program := "ytnileonlabpbpaagreat", sum := "4629e0b1443020d8a80d16f940183e4d15d075b21b666017080dfa9a04083426", func := "ringwork/ringworklaw07.SpacePlays", spec := "spacePlays", inPlace := ["slices.overlaps[ringwork/api.Cell]"], unfollowed := true, recurses := true, apart := false, narrowed := true }
def SpacePlaysUptoSaid : Prop := spacePlaysUptoRow.holds Tryz.pinned (OpenSpec.upto spacePlaysSpec)

/-- 'ringworklaw07.SpaceApart', WHERE WHAT IT READS IS OF BULK AT MOST 1048576: true; the input reads as it did. -/
def spaceApartUptoRow : OpenClaim := { program := "ytnileonlabpbpaagreat", sum := "4629e0b1443020d8a80d16f940183e4d15d075b21b666017080dfa9a04083426", func := "ringwork/ringworklaw07.SpaceApart", spec := "spaceApart", inPlace := ["slices.overlaps[ringwork/api.Cell]"], unfollowed := true, recurses := true, apart := false, narrowed := true }
def SpaceApartUptoSaid : Prop := spaceApartUptoRow.holds Tryz.pinned (OpenSpec.upto spaceApartSpec)

/-- 'ringworklaw07.SpaceTells', WHERE WHAT IT READS IS OF BULK AT MOST 1048576: true; the input reads as it did. -/
def spaceTellsUptoRow : OpenClaim := { program := "ytnileonlabpbpaagreat", sum := "4629e0b1443020d8a80d16f940183e4d15d075b21b666017080dfa9a04083426", func := "ringwork/ringworklaw07.SpaceTells", spec := "spaceTells", inPlace := ["slices.overlaps[ringwork/api.Cell]"], unfollowed := true, recurses := true, apart := false, narrowed := true }
def SpaceTellsUptoSaid : Prop := spaceTellsUptoRow.holds Tryz.pinned (OpenSpec.upto spaceTellsSpec)

/-- 'ringworklaw07.SpaceImages', WHERE WHAT IT READS IS OF BULK AT MOST 1048576: true; the input reads as it did. -/
def spaceImagesUptoRow : OpenClaim := { program := "ytnileonlabpbpaagreat", sum := "4629e0b1443020d8a80d16f940183e4d15d075b21b666017080dfa9a04083426", func := "ringwork/ringworklaw07.SpaceImages", spec := "spaceImages", inPlace := ["slices.overlaps[ringwork/api.Cell]"], unfollowed := true, recurses := true, apart := false, narrowed := true }
def SpaceImagesUptoSaid : Prop := spaceImagesUptoRow.holds Tryz.pinned (OpenSpec.upto spaceImagesSpec)

/-- 'ringworklaw07.SpaceDamage', WHERE WHAT IT READS IS OF BULK AT MOST 1048576: true; the input reads as it did. -/
def spaceDamageUptoRow : OpenClaim := { program := "ytnileonlabpbpaagreat", sum := "4629e0b1443020d8a80d16f940183e4d15d075b21b666017080dfa9a04083426", func := "ringwork/ringworklaw07.SpaceDamage", spec := "spaceDamage", inPlace := ["slices.overlaps[ringwork/api.Cell]"], unfollowed := true, recurses := true, apart := false, narrowed := true }
def SpaceDamageUptoSaid : Prop := spaceDamageUptoRow.holds Tryz.pinned (OpenSpec.upto spaceDamageSpec)

end Rows
end Go.Proofs.YtnileonlabpbpaaGreat
