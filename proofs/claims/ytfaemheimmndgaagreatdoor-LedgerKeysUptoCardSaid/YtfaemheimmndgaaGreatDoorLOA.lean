/- All told calls. -/
import Derived.Test.YtfaemheimmndgaaGreatDoorLO0
set_option linter.unusedVariables false
namespace Go.Proofs.YtfaemheimmndgaaGreatDoor
open Go.Proofs.YtfaemheimmndgaaGreatDoor.XI
noncomputable def shas : List Orc := [sha0, sha1, sha2, sha3, sha4, sha5, sha6, sha7, sha8, sha9, sha10, sha11, sha12, sha13]
theorem shas_true {M : Mem} : ∀ o ∈ shas, o.True E M := by
  have hc : CallOk E M (callM E (drawA E) told1 100000 60) := callM_ok E_ok mixed told1_ok 100000 60
  intro o ho
  unfold shas at ho
  simp only [List.mem_cons, List.not_mem_nil, or_false] at ho
  rcases ho with rfl | rfl | rfl | rfl | rfl | rfl | rfl | rfl | rfl | rfl | rfl | rfl | rfl | rfl
  · exact orc_true hc sha0_chk
  · exact orc_true hc sha1_chk
  · exact orc_true hc sha2_chk
  · exact orc_true hc sha3_chk
  · exact orc_true hc sha4_chk
  · exact orc_true hc sha5_chk
  · exact orc_true hc sha6_chk
  · exact orc_true hc sha7_chk
  · exact orc_true hc sha8_chk
  · exact orc_true hc sha9_chk
  · exact orc_true hc sha10_chk
  · exact orc_true hc sha11_chk
  · exact orc_true hc sha12_chk
  · exact orc_true hc sha13_chk
noncomputable def shav : CallF := orElse told1 (orcs shas)
theorem shav_ok {M : Mem} : CallOk E M shav := orElse_ok told1_ok (orcs_ok shas_true)
end Go.Proofs.YtfaemheimmndgaaGreatDoor
