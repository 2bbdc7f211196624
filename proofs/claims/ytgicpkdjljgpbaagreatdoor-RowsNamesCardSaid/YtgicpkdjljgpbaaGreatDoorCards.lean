/-
  DERIVED. GIVEN WITH THE SEED: THE CARDS: each row of YtgicpkdjljgpbaaGreatDoorRows.lean that lists a variable, with what it lists TIED to the program's text (the seventh form; the later family's looks); each row that meets fmt, with fmt's text TOLD by the authors' own Lean function (tested against real Go, not proved from fmt's source: count such statements apart). THE CARD IS WHAT COUNTS. Prove the row's statement (the work); the ties are given (YtgicpkdjljgpbaaGreatDoorTie.lean); close each card by the builder's one call (the guide's Derived/Test/ToyasCard.lean, 'card_holds'). Laid BY PROGRAM, IN A SANDBOX (cutbox-door.mjs). By AI agents, Wed Nov 11 2026. No macro, syntax, notation, axiom, sorry.
-/
import Derived.Test.YtgicpkdjljgpbaaGreatDoorRows
import GoSem.ClaimSeven
namespace Go.Proofs.YtgicpkdjljgpbaaGreatDoor
namespace Rows

/-- THE TIED CARD OF 'heartwoodlaw25.RowsForms'. -/
def rowsFormsCard : Claim7 := { stood := { row := rowsFormsRow, standIns := [], harness := (true, "3135256889bfa465b6365ebec7a864bd322af4da816ae7709da482d6c1b9768e"), looks := false }, kinds := [], alts := [], laidByText := true, laidKinds := [.data, .pinned], laidTests := true, laidLooks := .later }
def RowsFormsCardSaid : Prop := Claim7.holds Tryz.pinned (.plain (OpenSpec.ofChange rowsFormsSpec)) rowsFormsCard

/-- THE TIED CARD OF 'heartwoodlaw25.RowsNames'. -/
def rowsNamesCard : Claim7 := { stood := { row := rowsNamesRow, standIns := [], harness := (true, "3135256889bfa465b6365ebec7a864bd322af4da816ae7709da482d6c1b9768e"), looks := false }, kinds := [], alts := [], laidByText := true, laidKinds := [.data, .pinned], laidTests := true, laidLooks := .later }
def RowsNamesCardSaid : Prop := Claim7.holds Tryz.pinned (.plain (OpenSpec.ofChange rowsNamesSpec)) rowsNamesCard

/-- THE TIED CARD OF 'heartwoodlaw25.RowsBack'. -/
def rowsBackCard : Claim7 := { stood := { row := rowsBackRow, standIns := [], harness := (true, "3135256889bfa465b6365ebec7a864bd322af4da816ae7709da482d6c1b9768e"), looks := false }, kinds := [], alts := [], laidByText := true, laidKinds := [.data, .pinned], laidTests := true, laidLooks := .later }
def RowsBackCardSaid : Prop := Claim7.holds Tryz.pinned (.plain (OpenSpec.ofChange rowsBackSpec)) rowsBackCard

/-- THE TIED CARD OF 'heartwoodlaw25.RowsOrder'. -/
def rowsOrderCard : Claim7 := { stood := { row := rowsOrderRow, standIns := [], harness := (true, "3135256889bfa465b6365ebec7a864bd322af4da816ae7709da482d6c1b9768e"), looks := false }, kinds := [], alts := [], laidByText := true, laidKinds := [.data, .pinned], laidTests := true, laidLooks := .later }
def RowsOrderCardSaid : Prop := Claim7.holds Tryz.pinned (.plain (OpenSpec.ofChange rowsOrderSpec)) rowsOrderCard

/-- THE SECOND FORM's CARD OF 'heartwoodlaw25.RowsForms'. -/
def rowsFormsUptoCard : Claim7 := { stood := { row := rowsFormsUptoRow, standIns := [], harness := (true, "3135256889bfa465b6365ebec7a864bd322af4da816ae7709da482d6c1b9768e"), looks := false }, kinds := [], alts := [], laidByText := true, laidKinds := [.data, .pinned], laidTests := true, laidLooks := .later }
def RowsFormsUptoCardSaid : Prop := Claim7.holds Tryz.pinned (.plain (OpenSpec.upto rowsFormsSpec)) rowsFormsUptoCard

/-- THE SECOND FORM's CARD OF 'heartwoodlaw25.RowsNames'. -/
def rowsNamesUptoCard : Claim7 := { stood := { row := rowsNamesUptoRow, standIns := [], harness := (true, "3135256889bfa465b6365ebec7a864bd322af4da816ae7709da482d6c1b9768e"), looks := false }, kinds := [], alts := [], laidByText := true, laidKinds := [.data, .pinned], laidTests := true, laidLooks := .later }
def RowsNamesUptoCardSaid : Prop := Claim7.holds Tryz.pinned (.plain (OpenSpec.upto rowsNamesSpec)) rowsNamesUptoCard

/-- THE SECOND FORM's CARD OF 'heartwoodlaw25.RowsBack'. -/
def rowsBackUptoCard : Claim7 := { stood := { row := rowsBackUptoRow, standIns := [], harness := (true, "3135256889bfa465b6365ebec7a864bd322af4da816ae7709da482d6c1b9768e"), looks := false }, kinds := [], alts := [], laidByText := true, laidKinds := [.data, .pinned], laidTests := true, laidLooks := .later }
def RowsBackUptoCardSaid : Prop := Claim7.holds Tryz.pinned (.plain (OpenSpec.upto rowsBackSpec)) rowsBackUptoCard

/-- THE SECOND FORM's CARD OF 'heartwoodlaw25.RowsOrder'. -/
def rowsOrderUptoCard : Claim7 := { stood := { row := rowsOrderUptoRow, standIns := [], harness := (true, "3135256889bfa465b6365ebec7a864bd322af4da816ae7709da482d6c1b9768e"), looks := false }, kinds := [], alts := [], laidByText := true, laidKinds := [.data, .pinned], laidTests := true, laidLooks := .later }
def RowsOrderUptoCardSaid : Prop := Claim7.holds Tryz.pinned (.plain (OpenSpec.upto rowsOrderSpec)) rowsOrderUptoCard
end Rows
end Go.Proofs.YtgicpkdjljgpbaaGreatDoor
