/- All told calls. -/
import Derived.Test.YtfaemheimmndgaaGreatDoorLP0
set_option linter.unusedVariables false
namespace Go.Proofs.YtfaemheimmndgaaGreatDoor
open Go.Proofs.YtfaemheimmndgaaGreatDoor.XI
noncomputable def leds : List Orc := [led0, led1, led2]
theorem leds_true {M : Mem} : ∀ o ∈ leds, o.True E M := by
  have hc : CallOk E M (callM E (drawA E) shav 100000 60) := callM_ok E_ok mixed shav_ok 100000 60
  intro o ho
  unfold leds at ho
  simp only [List.mem_cons, List.not_mem_nil, or_false] at ho
  rcases ho with rfl | rfl | rfl
  · exact orc_true hc led0_chk
  · exact orc_true hc led1_chk
  · exact orc_true hc led2_chk
noncomputable def ledv : CallF := orElse shav (orcs leds)
theorem ledv_ok {M : Mem} : CallOk E M ledv := orElse_ok shav_ok (orcs_ok leds_true)
end Go.Proofs.YtfaemheimmndgaaGreatDoor
