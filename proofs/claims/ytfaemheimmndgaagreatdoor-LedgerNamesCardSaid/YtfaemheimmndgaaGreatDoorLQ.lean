/- The run of LedgerNames. -/
import Derived.Test.YtfaemheimmndgaaGreatDoorLPA
namespace Go.Proofs.YtfaemheimmndgaaGreatDoor
open Go.Proofs.YtfaemheimmndgaaGreatDoor.XI
theorem run_true : isT (callM E (drawA E) ledv 100000 60 (.fn 3) [] H.empty) = true := by kernel_rfl
end Go.Proofs.YtfaemheimmndgaaGreatDoor
