/- Areas: play's loop cut into declarations: its body, its relation. -/
import Derived.Test.YtnileonlabpbpaaGreatQ21
namespace Go.Proofs.YtnileonlabpbpaaGreat
open Go.RowKit
set_option linter.unusedVariables false
set_option linter.unusedSimpArgs false
set_option linter.unusedSectionVars false
set_option maxRecDepth 1000000

/-- how play ends -/
def PlayPost (w : World) (e : Ending) (w' : World) : Prop := ∃ (pp P : Option Addr) (n c : Nat) (sz : Int) (ok : Bool), e = .returned (.agg #[.pointer pp, .int .i64 sz, .slice P n c, .bool true, .bool ok]) ∧ Ext w w' ∧
  (ok = true → ∃ X A g size cap l lv, pp = some ⟨A, 0, none⟩ ∧ sz = (size : Nat) ∧ n = List.length l ∧ Mid w.heap.size w' X A g size cap l lv l P c)

def firstLoop : Code → Option Code
  | .loop c => some c
  | .seq a b => match firstLoop a with
    | some c => some c
    | none => firstLoop b
  | .block _ c => firstLoop c
  | .scope c => firstLoop c
  | .cond _ a b => match firstLoop a with
    | some c => some c
    | none => firstLoop b
  | _ => none
noncomputable def playBody : Code := ((Tryz.f10.body.bind firstLoop).getD .skip)
/-- the areas of a play behind some acts -/
def PRel (w : World) (X sz : Nat) (wr : World) : Prop := (∃ A g l lv cap P c ok, FCell 30 wr X (.pointer (some ⟨A, 0, none⟩)) (.int .i64 sz) (.slice P (List.length l) c) (.bool true) (.bool ok) ∧ Mid (w.heap.size + 1) wr X A g sz cap l lv l P c) ∧ FCell 30 wr w.heap.size (.pointer none) (.int .i64 0) (.slice none 0 0) (.bool false) (.bool false) ∧ Ext w wr
end Go.Proofs.YtnileonlabpbpaaGreat
