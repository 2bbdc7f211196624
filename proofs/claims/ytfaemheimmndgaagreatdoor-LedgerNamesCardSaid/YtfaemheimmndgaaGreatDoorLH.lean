/- What the card of LedgerNames asks of the program: closed facts. -/
import Derived.Test.YtfaemheimmndgaaGreatDoorRows
import Derived.SevenTiedAt
import GoSem.ClaimSeven
set_option linter.unusedVariables false
namespace Go.Proofs.YtfaemheimmndgaaGreatDoor.ledgerNames
set_option maxRecDepth 100000
theorem fnNamed : Tryz.prog.funcNamed "heartwood/heartwoodlaw20.LedgerNames" = some 3 := by kernel_rfl
theorem looksOff : false = Tryz.pinned.checked.prog.looks [] := by kernel_rfl
theorem byText : Rows.ledgerNamesRow.wfByText (OpenSpec.ofChange Rows.ledgerNamesSpec) = true := by kernel_rfl
theorem goesBy : false = Rows.ledgerNamesRow.goesBy Tryz.pinned.checked.prog := by kernel_rfl
theorem mainIs : Tryz.pinned.checked.prog.mainIs = some (true, "12ea23d2c6ae34e591f93883cc3ea26259ef1ba1c198ae490e03ea91c439068a".toList) := by kernel_rfl
end Go.Proofs.YtfaemheimmndgaaGreatDoor.ledgerNames
