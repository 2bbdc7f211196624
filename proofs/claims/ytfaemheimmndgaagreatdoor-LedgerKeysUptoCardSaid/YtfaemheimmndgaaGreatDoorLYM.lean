/- LedgerKeys returns true of every three strings of bulk at most 1048576, in every world that holds the two listed tables, and changes nothing that was there: the tied card. No condition beside the row's own (the bulk, the listed tables). -/
import Derived.Test.YtfaemheimmndgaaGreatDoorLYH
import Derived.Test.YtfaemheimmndgaaGreatDoorLYN
import Derived.Test.YtfaemheimmndgaaGreatDoorCards
import Derived.Test.YtfaemheimmndgaaGreatDoorTie
import Derived.WalkKit
import Derived.ProofKit
set_option linter.unusedVariables false
namespace Go.Proofs.YtfaemheimmndgaaGreatDoor.ledgerKeys
open Go.ChangeShapes Go.WideShapes Go.ChangeAt Go.RowKit

/-- No parameter wants a stand-in; the program's own looks are off: what the card asks. -/
theorem plain (f : FuncId) (fn : Func) (hf : Tryz.pinned.checked.prog.funcNamed "heartwood/heartwoodlaw20.LedgerKeys" = some f) (hfn : Tryz.pinned.checked.prog.funcs[f]? = some fn) :
    false = Tryz.pinned.checked.prog.looks [] ∧ ∀ (j : Nat) t, fn.params[j]? = some t → Tryz.pinned.checked.prog.wantsStandIn t = false := by
  obtain rfl : f = 6 := Option.some.inj (fnNamed.symm.trans hf) |>.symm
  obtain rfl : fn = Tryz.f6 := (Option.some.inj (Tryz.func6.symm.trans hfn)).symm
  refine ⟨looksOff, fun j t ht => ?_⟩
  rw [Tryz.params6] at ht
  match j, ht with
  | 0, ht => simp at ht; subst ht; exact noStand
  | 1, ht => simp at ht; subst ht; exact noStand
  | 2, ht => simp at ht; subst ht; exact noStand
  | j + 3, ht => simp at ht

/-- ████ THE CARD ████ -/
theorem card : Rows.LedgerKeysUptoCardSaid :=
  Claim7.holds_tied_plain_at .later [] _ _ _ _ said (fun _ h => by cases h) byText (fun _ h => by cases h) ledgerKeysUpto_row_tie rfl ⟨rfl, rfl⟩ mainIs rfl plain goesBy
end Go.Proofs.YtfaemheimmndgaaGreatDoor.ledgerKeys
