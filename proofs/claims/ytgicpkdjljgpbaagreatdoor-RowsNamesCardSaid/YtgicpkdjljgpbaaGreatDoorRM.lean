/- RowsNames returns true in every world that holds the two listed tables, and changes nothing that was there: the tied card. No condition beside the row's own (the listed tables). -/
import Derived.Test.YtgicpkdjljgpbaaGreatDoorRH
import Derived.Test.YtgicpkdjljgpbaaGreatDoorRN
import Derived.Test.YtgicpkdjljgpbaaGreatDoorCards
import Derived.Test.YtgicpkdjljgpbaaGreatDoorTie
import Derived.WalkKit
import Derived.ProofKit
set_option linter.unusedVariables false
namespace Go.Proofs.YtgicpkdjljgpbaaGreatDoor.rowsNames
open Go.ChangeShapes Go.WideShapes Go.ChangeAt Go.RowKit

/-- No parameter wants a stand-in; the program's own looks are off: what the card asks. -/
theorem plain (f : FuncId) (fn : Func) (hf : Tryz.pinned.checked.prog.funcNamed "heartwood/heartwoodlaw25.RowsNames" = some f) (hfn : Tryz.pinned.checked.prog.funcs[f]? = some fn) :
    false = Tryz.pinned.checked.prog.looks [] ∧ ∀ (j : Nat) t, fn.params[j]? = some t → Tryz.pinned.checked.prog.wantsStandIn t = false := by
  obtain rfl : f = 4 := Option.some.inj (fnNamed.symm.trans hf) |>.symm
  obtain rfl : fn = Tryz.f4 := (Option.some.inj (Tryz.func4.symm.trans hfn)).symm
  refine ⟨looksOff, fun j t ht => ?_⟩
  rw [Tryz.params4] at ht
  simp at ht

/-- ████ THE CARD ████ -/
theorem card : Rows.RowsNamesCardSaid :=
  Claim7.holds_tied_plain_at .later [] _ _ _ _ said (fun _ h => by cases h) byText (fun _ h => by cases h) rowsNames_row_tie rfl ⟨rfl, rfl⟩ mainIs rfl plain goesBy
end Go.Proofs.YtgicpkdjljgpbaaGreatDoor.rowsNames
