/- What the form of the claim asks of the program, reckoned piece by piece. -/
import Derived.Test.YtanfejbkoheblaaGreatDoorRows
import Derived.Test.YtanfejbkoheblaaGreatDoorChecked
import Derived.KernelRfl
import Derived.JoinedOf
set_option linter.unusedVariables false
namespace Go.Proofs.YtanfejbkoheblaaGreatDoor.recordReads
theorem jf1 : (Rows.recordReadsRow.inPlace == Tryz.prog.inPlace 8) = true := by kernel_rfl
theorem jf2 : (Rows.recordReadsRow.unfollowed == Tryz.prog.unfollowed 8) = true := by kernel_rfl
theorem jf3 : (Rows.recordReadsRow.recurses == Tryz.prog.recurses 8) = true := by kernel_rfl
theorem jf4 : (Rows.recordReadsRow.named == Tryz.prog.varsNamed 8) = true := by kernel_rfl
end Go.Proofs.YtanfejbkoheblaaGreatDoor.recordReads
