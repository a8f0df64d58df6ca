/- CubeNone: what the form of the claim asks of the program, reckoned piece by piece. -/
import Derived.Test.YtdkicjlbfhmfkaaGreatDoorUg
import Derived.JoinedOf
set_option linter.unusedVariables false
namespace Go.Proofs.YtdkicjlbfhmfkaaGreatDoor.cubeNone
theorem jf1 : (Rows.cubeNoneRow.inPlace == Tryz.prog.inPlace 5) = true := by kernel_rfl
theorem jf2 : (Rows.cubeNoneRow.unfollowed == Tryz.prog.unfollowed 5) = true := by kernel_rfl
theorem jf3 : (Rows.cubeNoneRow.recurses == Tryz.prog.recurses 5) = true := by kernel_rfl
theorem jf4 : (Rows.cubeNoneRow.named == Tryz.prog.varsNamed 5) = true := by kernel_rfl
theorem jf : joinedFacts Tryz.prog 5 Tryz.f5 Rows.cubeNoneSpec Rows.cubeNoneRow = true := by
  unfold joinedFacts
  rw [jf1, jf2, jf3, jf4]
  kernel_rfl
end Go.Proofs.YtdkicjlbfhmfkaaGreatDoor.cubeNone
