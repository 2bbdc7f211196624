/- The run of QueryNames, reckoned by the kernel: it answers true. -/
import Derived.Test.YtnamonkinpdgdaaGreatDoorQE
namespace Go.Proofs.YtnamonkinpdgdaaGreatDoor.queryNames
open Go.Proofs.YtnamonkinpdgdaaGreatDoor.XI
/-- THE RUN: by the kernel. -/
theorem run_true : isT (callN E (drawA E) 100000 60 3 [] H.empty) = true := by kernel_rfl

end Go.Proofs.YtnamonkinpdgdaaGreatDoor.queryNames
