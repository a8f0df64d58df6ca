/- VectorNone: what the form of the claim asks of the program, reckoned piece by piece. -/
import Derived.Test.YtdkicjlbfhmfkaaGreatDoorGg
import Derived.JoinedOf
set_option linter.unusedVariables false
namespace Go.Proofs.YtdkicjlbfhmfkaaGreatDoor.vectorNone
theorem jf1 : (Rows.vectorNoneRow.inPlace == Tryz.prog.inPlace 4) = true := by kernel_rfl
theorem jf2 : (Rows.vectorNoneRow.unfollowed == Tryz.prog.unfollowed 4) = true := by kernel_rfl
theorem jf3 : (Rows.vectorNoneRow.recurses == Tryz.prog.recurses 4) = true := by kernel_rfl
theorem jf4 : (Rows.vectorNoneRow.named == Tryz.prog.varsNamed 4) = true := by kernel_rfl
theorem jf : joinedFacts Tryz.prog 4 Tryz.f4 Rows.vectorNoneSpec Rows.vectorNoneRow = true := by
  unfold joinedFacts
  rw [jf1, jf2, jf3, jf4]
  kernel_rfl
end Go.Proofs.YtdkicjlbfhmfkaaGreatDoor.vectorNone
