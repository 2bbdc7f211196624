/- The run of RowsNames. -/
import Derived.Test.YtgicpkdjljgpbaaGreatDoorRPA
namespace Go.Proofs.YtgicpkdjljgpbaaGreatDoor
open Go.Proofs.YtgicpkdjljgpbaaGreatDoor.XI
theorem run_true : isT (callM E (drawA E) ledv 100000 60 (.fn 4) [] H.empty) = true := by kernel_rfl
end Go.Proofs.YtgicpkdjljgpbaaGreatDoor
