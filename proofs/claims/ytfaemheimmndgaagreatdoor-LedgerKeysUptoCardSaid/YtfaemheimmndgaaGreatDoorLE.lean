/- What the run is told of the program: its types, its functions. -/
import Derived.Test.YtfaemheimmndgaaGreatDoorXQ
import Derived.Test.YtfaemheimmndgaaGreatDoorRows
set_option linter.unusedVariables false
namespace Go.Proofs.YtfaemheimmndgaaGreatDoor
open Go.Proofs.YtfaemheimmndgaaGreatDoor.XI
noncomputable def ext (f : FuncId) (args : List AV) : Option AV := none
noncomputable def E : Env := envOf Tryz.prog ext
theorem E_ok : E.Ok := envOf_ok (by kernel_rfl) (fun f args x h => nomatch (show (none : Option AV) = some x from h))
theorem mixed : E.P.follows .mixedOrders = true := by kernel_rfl
end Go.Proofs.YtfaemheimmndgaaGreatDoor
