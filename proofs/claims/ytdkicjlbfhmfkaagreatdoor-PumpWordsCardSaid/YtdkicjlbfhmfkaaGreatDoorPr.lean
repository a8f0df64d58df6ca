/- PumpWords: what the form of the claim asks of the program, reckoned piece by piece. -/
import Derived.Test.YtdkicjlbfhmfkaaGreatDoorPq
import Derived.JoinedOf
set_option linter.unusedVariables false
namespace Go.Proofs.YtdkicjlbfhmfkaaGreatDoor.pumpWords
theorem jf1 : (Rows.pumpWordsRow.inPlace == Tryz.prog.inPlace 7) = true := by kernel_rfl
theorem jf2 : (Rows.pumpWordsRow.unfollowed == Tryz.prog.unfollowed 7) = true := by kernel_rfl
theorem jf3 : (Rows.pumpWordsRow.recurses == Tryz.prog.recurses 7) = true := by kernel_rfl
theorem jf4 : (Rows.pumpWordsRow.named == Tryz.prog.varsNamed 7) = true := by kernel_rfl
theorem jf : joinedFacts Tryz.prog 7 Tryz.f7 Rows.pumpWordsSpec Rows.pumpWordsRow = true := by
  unfold joinedFacts
  rw [jf1, jf2, jf3, jf4]
  kernel_rfl
end Go.Proofs.YtdkicjlbfhmfkaaGreatDoor.pumpWords
