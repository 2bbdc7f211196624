/- All told calls. -/
import Derived.Test.YtgicpkdjljgpbaaGreatDoorRP0
import Derived.Test.YtgicpkdjljgpbaaGreatDoorRP1
set_option linter.unusedVariables false
namespace Go.Proofs.YtgicpkdjljgpbaaGreatDoor
open Go.Proofs.YtgicpkdjljgpbaaGreatDoor.XI
noncomputable def leds : List Orc := [led0, led1, led2, led3, led4, led5, led6]
theorem leds_true {M : Mem} : ∀ o ∈ leds, o.True E M := by
  have hc : CallOk E M (callM E (drawA E) shav 100000 60) := callM_ok E_ok mixed shav_ok 100000 60
  intro o ho
  unfold leds at ho
  simp only [List.mem_cons, List.not_mem_nil, or_false] at ho
  rcases ho with rfl | rfl | rfl | rfl | rfl | rfl | rfl
  · exact orc_true hc led0_chk
  · exact orc_true hc led1_chk
  · exact orc_true hc led2_chk
  · exact orc_true hc led3_chk
  · exact orc_true hc led4_chk
  · exact orc_true hc led5_chk
  · exact orc_true hc led6_chk
noncomputable def ledv : CallF := orElse shav (orcs leds)
theorem ledv_ok {M : Mem} : CallOk E M ledv := orElse_ok shav_ok (orcs_ok leds_true)
end Go.Proofs.YtgicpkdjljgpbaaGreatDoor
