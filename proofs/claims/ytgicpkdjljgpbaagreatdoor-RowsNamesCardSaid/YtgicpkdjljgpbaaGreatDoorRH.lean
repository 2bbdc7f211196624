/- What the card of RowsNames asks of the program: closed facts. -/
import Derived.Test.YtgicpkdjljgpbaaGreatDoorRows
import Derived.SevenTiedAt
import GoSem.ClaimSeven
set_option linter.unusedVariables false
namespace Go.Proofs.YtgicpkdjljgpbaaGreatDoor.rowsNames
set_option maxRecDepth 100000
theorem fnNamed : Tryz.prog.funcNamed "heartwood/heartwoodlaw25.RowsNames" = some 4 := by kernel_rfl
theorem looksOff : false = Tryz.pinned.checked.prog.looks [] := by kernel_rfl
theorem byText : Rows.rowsNamesRow.wfByText (OpenSpec.ofChange Rows.rowsNamesSpec) = true := by kernel_rfl
theorem goesBy : false = Rows.rowsNamesRow.goesBy Tryz.pinned.checked.prog := by kernel_rfl
theorem mainIs : Tryz.pinned.checked.prog.mainIs = some (true, "3135256889bfa465b6365ebec7a864bd322af4da816ae7709da482d6c1b9768e".toList) := by kernel_rfl
end Go.Proofs.YtgicpkdjljgpbaaGreatDoor.rowsNames
