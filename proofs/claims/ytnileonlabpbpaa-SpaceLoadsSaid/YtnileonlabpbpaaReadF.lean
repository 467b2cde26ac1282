/- page.Lines. -/
import Derived.Test.YtnileonlabpbpaaReadE
namespace Go.Proofs.Ytnileonlabpbpaa
open Go.RowKit
set_option linter.unusedVariables false
set_option maxRecDepth 20000
attribute [local go_sem] Oper.semAt_some

def flatI (l : List Cel) : List Value := l.map fun c => .int .i64 c.1
theorem flatI_snoc (l : List Cel) (c : Cel) : flatI (l ++ [c]) = flatI l ++ [.int .i64 c.1] := by simp [flatI]
theorem Try.infoI : (Try.prog.info? 3).map (fun i => (i.zero, i.size, i.bytes)) = some (some (.int .i64 0), 1, 8) := by kernel_rfl



end Go.Proofs.Ytnileonlabpbpaa
