/- All told calls. -/
import Derived.Test.YtgicpkdjljgpbaaGreatDoorRO0
import Derived.Test.YtgicpkdjljgpbaaGreatDoorRO1
import Derived.Test.YtgicpkdjljgpbaaGreatDoorRO2
set_option linter.unusedVariables false
namespace Go.Proofs.YtgicpkdjljgpbaaGreatDoor
open Go.Proofs.YtgicpkdjljgpbaaGreatDoor.XI
noncomputable def shas : List Orc := [sha0, sha1, sha2, sha3, sha4, sha5, sha6, sha7, sha8, sha9, sha10, sha11, sha12, sha13, sha14, sha15, sha16, sha17, sha18, sha19, sha20, sha21, sha22, sha23, sha24, sha25, sha26, sha27, sha28, sha29, sha30, sha31, sha32, sha33, sha34, sha35, sha36, sha37]
theorem shas_true {M : Mem} : ∀ o ∈ shas, o.True E M := by
  have hc : CallOk E M (callM E (drawA E) told1 100000 60) := callM_ok E_ok mixed told1_ok 100000 60
  intro o ho
  unfold shas at ho
  simp only [List.mem_cons, List.not_mem_nil, or_false] at ho
  rcases ho with rfl | rfl | rfl | rfl | rfl | rfl | rfl | rfl | rfl | rfl | rfl | rfl | rfl | rfl | rfl | rfl | rfl | rfl | rfl | rfl | rfl | rfl | rfl | rfl | rfl | rfl | rfl | rfl | rfl | rfl | rfl | rfl | rfl | rfl | rfl | rfl | rfl | rfl
  · exact orc_true hc sha0_chk
  · exact orc_true hc sha1_chk
  · exact orc_true hc sha2_chk
  · exact orc_true hc sha3_chk
  · exact orc_true hc sha4_chk
  · exact orc_true hc sha5_chk
  · exact orc_true hc sha6_chk
  · exact orc_true hc sha7_chk
  · exact orc_true hc sha8_chk
  · exact orc_true hc sha9_chk
  · exact orc_true hc sha10_chk
  · exact orc_true hc sha11_chk
  · exact orc_true hc sha12_chk
  · exact orc_true hc sha13_chk
  · exact orc_true hc sha14_chk
  · exact orc_true hc sha15_chk
  · exact orc_true hc sha16_chk
  · exact orc_true hc sha17_chk
  · exact orc_true hc sha18_chk
  · exact orc_true hc sha19_chk
  · exact orc_true hc sha20_chk
  · exact orc_true hc sha21_chk
  · exact orc_true hc sha22_chk
  · exact orc_true hc sha23_chk
  · exact orc_true hc sha24_chk
  · exact orc_true hc sha25_chk
  · exact orc_true hc sha26_chk
  · exact orc_true hc sha27_chk
  · exact orc_true hc sha28_chk
  · exact orc_true hc sha29_chk
  · exact orc_true hc sha30_chk
  · exact orc_true hc sha31_chk
  · exact orc_true hc sha32_chk
  · exact orc_true hc sha33_chk
  · exact orc_true hc sha34_chk
  · exact orc_true hc sha35_chk
  · exact orc_true hc sha36_chk
  · exact orc_true hc sha37_chk
noncomputable def shav : CallF := orElse told1 (orcs shas)
theorem shav_ok {M : Mem} : CallOk E M shav := orElse_ok told1_ok (orcs_ok shas_true)
end Go.Proofs.YtgicpkdjljgpbaaGreatDoor
