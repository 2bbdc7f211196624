/-
  DERIVED. GIVEN WITH THE SEED: THE CARDS: each row of YtfaemheimmndgaaGreatDoorRows.lean that lists a variable, with what it lists TIED to the program's text (the seventh form; the later family's looks); each row that meets fmt, with fmt's text TOLD by the authors' own Lean function (tested against real Go, not proved from fmt's source: count such statements apart). THE CARD IS WHAT COUNTS. Prove the row's statement (the work); the ties are given (YtfaemheimmndgaaGreatDoorTie.lean); close each card by the builder's one call (the guide's Derived/Test/ToyasCard.lean, 'card_holds'). Laid BY PROGRAM, IN A SANDBOX (cutbox-door.mjs). By AI agents, Wed Nov 11 2026. No macro, syntax, notation, axiom, sorry.
-/
import Derived.Test.YtfaemheimmndgaaGreatDoorRows
import GoSem.ClaimSeven
namespace Go.Proofs.YtfaemheimmndgaaGreatDoor
namespace Rows

/-- THE TIED CARD OF 'heartwoodlaw20.LedgerNames'. -/
def ledgerNamesCard : Claim7 := { stood := { row := ledgerNamesRow, standIns := [], harness := (true, "12ea23d2c6ae34e591f93883cc3ea26259ef1ba1c198ae490e03ea91c439068a"), looks := false }, kinds := [], alts := [], laidByText := true, laidKinds := [.data, .pinned], laidTests := true, laidLooks := .later }
def LedgerNamesCardSaid : Prop := Claim7.holds Tryz.pinned (.plain (OpenSpec.ofChange ledgerNamesSpec)) ledgerNamesCard

/-- THE TIED CARD OF 'heartwoodlaw20.LedgerWrites'. -/
def ledgerWritesCard : Claim7 := { stood := { row := ledgerWritesRow, standIns := [], harness := (true, "12ea23d2c6ae34e591f93883cc3ea26259ef1ba1c198ae490e03ea91c439068a"), looks := false }, kinds := [], alts := [], laidByText := true, laidKinds := [.data, .pinned], laidTests := true, laidLooks := .later }
def LedgerWritesCardSaid : Prop := Claim7.holds Tryz.pinned (.plain (OpenSpec.ofChange ledgerWritesSpec)) ledgerWritesCard

/-- THE TIED CARD OF 'heartwoodlaw20.LedgerReads'. -/
def ledgerReadsCard : Claim7 := { stood := { row := ledgerReadsRow, standIns := [], harness := (true, "12ea23d2c6ae34e591f93883cc3ea26259ef1ba1c198ae490e03ea91c439068a"), looks := false }, kinds := [], alts := [], laidByText := true, laidKinds := [.data, .pinned], laidTests := true, laidLooks := .later }
def LedgerReadsCardSaid : Prop := Claim7.holds Tryz.pinned (.plain (OpenSpec.ofChange ledgerReadsSpec)) ledgerReadsCard

/-- THE TIED CARD OF 'heartwoodlaw20.LedgerKeys'. -/
def ledgerKeysCard : Claim7 := { stood := { row := ledgerKeysRow, standIns := [], harness := (true, "12ea23d2c6ae34e591f93883cc3ea26259ef1ba1c198ae490e03ea91c439068a"), looks := false }, kinds := [], alts := [], laidByText := true, laidKinds := [.data, .pinned], laidTests := true, laidLooks := .later }
def LedgerKeysCardSaid : Prop := Claim7.holds Tryz.pinned (.plain (OpenSpec.ofChange ledgerKeysSpec)) ledgerKeysCard

/-- THE TIED CARD OF 'heartwoodlaw20.LedgerNil'. -/
def ledgerNilCard : Claim7 := { stood := { row := ledgerNilRow, standIns := [], harness := (true, "12ea23d2c6ae34e591f93883cc3ea26259ef1ba1c198ae490e03ea91c439068a"), looks := false }, kinds := [], alts := [], laidByText := true, laidKinds := [.data, .pinned], laidTests := true, laidLooks := .later }
def LedgerNilCardSaid : Prop := Claim7.holds Tryz.pinned (.plain (OpenSpec.ofChange ledgerNilSpec)) ledgerNilCard

/-- THE SECOND FORM's CARD OF 'heartwoodlaw20.LedgerNames'. -/
def ledgerNamesUptoCard : Claim7 := { stood := { row := ledgerNamesUptoRow, standIns := [], harness := (true, "12ea23d2c6ae34e591f93883cc3ea26259ef1ba1c198ae490e03ea91c439068a"), looks := false }, kinds := [], alts := [], laidByText := true, laidKinds := [.data, .pinned], laidTests := true, laidLooks := .later }
def LedgerNamesUptoCardSaid : Prop := Claim7.holds Tryz.pinned (.plain (OpenSpec.upto ledgerNamesSpec)) ledgerNamesUptoCard

/-- THE SECOND FORM's CARD OF 'heartwoodlaw20.LedgerWrites'. -/
def ledgerWritesUptoCard : Claim7 := { stood := { row := ledgerWritesUptoRow, standIns := [], harness := (true, "12ea23d2c6ae34e591f93883cc3ea26259ef1ba1c198ae490e03ea91c439068a"), looks := false }, kinds := [], alts := [], laidByText := true, laidKinds := [.data, .pinned], laidTests := true, laidLooks := .later }
def LedgerWritesUptoCardSaid : Prop := Claim7.holds Tryz.pinned (.plain (OpenSpec.upto ledgerWritesSpec)) ledgerWritesUptoCard

/-- THE SECOND FORM's CARD OF 'heartwoodlaw20.LedgerReads'. -/
def ledgerReadsUptoCard : Claim7 := { stood := { row := ledgerReadsUptoRow, standIns := [], harness := (true, "12ea23d2c6ae34e591f93883cc3ea26259ef1ba1c198ae490e03ea91c439068a"), looks := false }, kinds := [], alts := [], laidByText := true, laidKinds := [.data, .pinned], laidTests := true, laidLooks := .later }
def LedgerReadsUptoCardSaid : Prop := Claim7.holds Tryz.pinned (.plain (OpenSpec.upto ledgerReadsSpec)) ledgerReadsUptoCard

/-- THE SECOND FORM's CARD OF 'heartwoodlaw20.LedgerKeys'. -/
def ledgerKeysUptoCard : Claim7 := { stood := { row := ledgerKeysUptoRow, standIns := [], harness := (true, "12ea23d2c6ae34e591f93883cc3ea26259ef1ba1c198ae490e03ea91c439068a"), looks := false }, kinds := [], alts := [], laidByText := true, laidKinds := [.data, .pinned], laidTests := true, laidLooks := .later }
def LedgerKeysUptoCardSaid : Prop := Claim7.holds Tryz.pinned (.plain (OpenSpec.upto ledgerKeysSpec)) ledgerKeysUptoCard

/-- THE SECOND FORM's CARD OF 'heartwoodlaw20.LedgerNil'. -/
def ledgerNilUptoCard : Claim7 := { stood := { row := ledgerNilUptoRow, standIns := [], harness := (true, "12ea23d2c6ae34e591f93883cc3ea26259ef1ba1c198ae490e03ea91c439068a"), looks := false }, kinds := [], alts := [], laidByText := true, laidKinds := [.data, .pinned], laidTests := true, laidLooks := .later }
def LedgerNilUptoCardSaid : Prop := Claim7.holds Tryz.pinned (.plain (OpenSpec.upto ledgerNilSpec)) ledgerNilUptoCard
end Rows
end Go.Proofs.YtfaemheimmndgaaGreatDoor
