/- lives() of layer 20 answers true, whatever there is: no condition. -/
import Derived.Test.YtfaemheimmndgaaGreatDoorLPA
set_option linter.unusedVariables false
namespace Go.Proofs.YtfaemheimmndgaaGreatDoor
open Go.Proofs.YtfaemheimmndgaaGreatDoor.XI
theorem lives_run : isT (callM E (drawA E) ledv 100000 60 (.fn 8) [] H.empty) = true := by kernel_rfl
theorem lives_ok {M : Mem} (h : H) : CallS E M (.fn 8) [] h (.b true) h := by
  obtain ⟨h1, e⟩ := isT_some lives_run
  exact closed_told (callM_ok E_ok mixed ledv_ok 100000 60 _ _ _ _ _ e) h
/-- What is told of lives(). -/
noncomputable def livesC : CallF := fun t args h => match t, args with
  | .fn f, [] => cond (Nat.beq f 8) (some (.b true, h)) none
  | _, _ => none
theorem livesC_ok {M : Mem} : CallOk E M livesC := by
  intro t args h z h' e
  unfold livesC at e
  split at e
  · rename_i f
    rw [Go.Proofs.YtfaemheimmndgaaGreatDoor.XI.cond_eq_if, natBeq] at e
    split at e
    · rename_i hf
      have hf := of_decide_eq_true hf
      subst hf
      cases e
      exact lives_ok h
    · cases e
  · cases e
end Go.Proofs.YtfaemheimmndgaaGreatDoor
