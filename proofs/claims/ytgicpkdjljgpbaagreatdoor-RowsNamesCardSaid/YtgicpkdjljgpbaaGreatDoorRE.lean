/- What the run is told of the program: its types, its functions, three functions without a body. -/
import Derived.Test.YtgicpkdjljgpbaaGreatDoorXQ
import Derived.Test.YtgicpkdjljgpbaaGreatDoorRows
set_option linter.unusedVariables false
namespace Go.Proofs.YtgicpkdjljgpbaaGreatDoor
open Go.Proofs.YtgicpkdjljgpbaaGreatDoor.XI
/-! What the run is told of the program. -/
noncomputable def ext (f : FuncId) (args : List AV) : Option AV := cond (Nat.beq f 76) (xBits args) (cond (Nat.beq f 110) (xFrom args) (cond (Nat.beq f 240) (xCount args) none))
noncomputable def E : Env := envOf Tryz.prog ext
theorem ext_ok : ExtOk Tryz.prog ext := by
  intro f args z hx
  unfold ext at hx
  simp only [Go.Proofs.YtgicpkdjljgpbaaGreatDoor.XI.cond_eq_if, natBeq] at hx
  split at hx
  · rename_i h; obtain rfl := of_decide_eq_true h
    exact extAt_of Tryz.func76 (by kernel_rfl) (by kernel_rfl) (by kernel_rfl) (by kernel_rfl) xBits_ok args z hx
  · split at hx
    · rename_i h; obtain rfl := of_decide_eq_true h
      exact extAt_of Tryz.func110 (by kernel_rfl) (by kernel_rfl) (by kernel_rfl) (by kernel_rfl) xFrom_ok args z hx
    · split at hx
      · rename_i h; obtain rfl := of_decide_eq_true h
        exact extAt_of Tryz.func240 (by kernel_rfl) (by kernel_rfl) (by kernel_rfl) (by kernel_rfl) xCount_ok args z hx
      · cases hx
theorem E_ok : E.Ok := envOf_ok (by kernel_rfl) ext_ok
theorem mixed : E.P.follows .mixedOrders = true := by kernel_rfl

end Go.Proofs.YtgicpkdjljgpbaaGreatDoor
