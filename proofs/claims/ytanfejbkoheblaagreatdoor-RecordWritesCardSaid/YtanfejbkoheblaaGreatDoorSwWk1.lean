/- What the form of the claim asks of the program, reckoned piece by piece. -/
import Derived.Test.YtanfejbkoheblaaGreatDoorRows
import Derived.Test.YtanfejbkoheblaaGreatDoorChecked
import Derived.KernelRfl
import Derived.JoinedOf
set_option linter.unusedVariables false
namespace Go.Proofs.YtanfejbkoheblaaGreatDoor.recordWrites
theorem jf1 : (Rows.recordWritesRow.inPlace == Tryz.prog.inPlace 7) = true := by kernel_rfl
theorem jf2 : (Rows.recordWritesRow.unfollowed == Tryz.prog.unfollowed 7) = true := by kernel_rfl
theorem jf3 : (Rows.recordWritesRow.recurses == Tryz.prog.recurses 7) = true := by kernel_rfl
theorem jf4 : (Rows.recordWritesRow.named == Tryz.prog.varsNamed 7) = true := by kernel_rfl
end Go.Proofs.YtanfejbkoheblaaGreatDoor.recordWrites
