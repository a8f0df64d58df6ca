/- What the form of the claim asks of the program, reckoned piece by piece. -/
import Derived.Test.YtanfejbkoheblaaGreatDoorRows
import Derived.Test.YtanfejbkoheblaaGreatDoorChecked
import Derived.KernelRfl
import Derived.JoinedOf
set_option linter.unusedVariables false
namespace Go.Proofs.YtanfejbkoheblaaGreatDoor.recordLong
theorem jf1 : (Rows.recordLongRow.inPlace == Tryz.prog.inPlace 12) = true := by kernel_rfl
theorem jf2 : (Rows.recordLongRow.unfollowed == Tryz.prog.unfollowed 12) = true := by kernel_rfl
theorem jf3 : (Rows.recordLongRow.recurses == Tryz.prog.recurses 12) = true := by kernel_rfl
theorem jf4 : (Rows.recordLongRow.named == Tryz.prog.varsNamed 12) = true := by kernel_rfl
end Go.Proofs.YtanfejbkoheblaaGreatDoor.recordLong
