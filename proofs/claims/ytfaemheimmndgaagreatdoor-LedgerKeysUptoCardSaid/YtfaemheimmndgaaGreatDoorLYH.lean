/- What the card of LedgerKeys asks of the program: closed facts. -/
import Derived.Test.YtfaemheimmndgaaGreatDoorRows
import Derived.SevenTiedAt
import GoSem.ClaimSeven
set_option linter.unusedVariables false
namespace Go.Proofs.YtfaemheimmndgaaGreatDoor.ledgerKeys
set_option maxRecDepth 100000
theorem fnNamed : Tryz.prog.funcNamed "heartwood/heartwoodlaw20.LedgerKeys" = some 6 := by kernel_rfl
theorem looksOff : false = Tryz.pinned.checked.prog.looks [] := by kernel_rfl
theorem byText : Rows.ledgerKeysUptoRow.wfByText (Rows.OpenSpec.upto Rows.ledgerKeysSpec) = true := by kernel_rfl
theorem goesBy : false = Rows.ledgerKeysUptoRow.goesBy Tryz.pinned.checked.prog := by kernel_rfl
theorem mainIs : Tryz.pinned.checked.prog.mainIs = some (true, "12ea23d2c6ae34e591f93883cc3ea26259ef1ba1c198ae490e03ea91c439068a".toList) := by kernel_rfl
theorem noStand : Tryz.pinned.checked.prog.wantsStandIn 9 = false := by kernel_rfl
end Go.Proofs.YtfaemheimmndgaaGreatDoor.ledgerKeys
