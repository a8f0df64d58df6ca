/- PumpNone: what the form of the claim asks of the program, reckoned piece by piece. -/
import Derived.Test.YtdkicjlbfhmfkaaGreatDoorPg
import Derived.JoinedOf
set_option linter.unusedVariables false
namespace Go.Proofs.YtdkicjlbfhmfkaaGreatDoor.pumpNone
theorem jf1 : (Rows.pumpNoneRow.inPlace == Tryz.prog.inPlace 8) = true := by kernel_rfl
theorem jf2 : (Rows.pumpNoneRow.unfollowed == Tryz.prog.unfollowed 8) = true := by kernel_rfl
theorem jf3 : (Rows.pumpNoneRow.recurses == Tryz.prog.recurses 8) = true := by kernel_rfl
theorem jf4 : (Rows.pumpNoneRow.named == Tryz.prog.varsNamed 8) = true := by kernel_rfl
theorem jf : joinedFacts Tryz.prog 8 Tryz.f8 Rows.pumpNoneSpec Rows.pumpNoneRow = true := by
  unfold joinedFacts
  rw [jf1, jf2, jf3, jf4]
  kernel_rfl
end Go.Proofs.YtdkicjlbfhmfkaaGreatDoor.pumpNone
