/- What the form of the claim asks of the program, reckoned piece by piece. -/
import Derived.Test.YtanfejbkoheblaaGreatDoorRows
import Derived.Test.YtanfejbkoheblaaGreatDoorChecked
import Derived.KernelRfl
import Derived.JoinedOf
set_option linter.unusedVariables false
namespace Go.Proofs.YtanfejbkoheblaaGreatDoor.recordParses
theorem jf1 : (Rows.recordParsesRow.inPlace == Tryz.prog.inPlace 11) = true := by kernel_rfl
theorem jf2 : (Rows.recordParsesRow.unfollowed == Tryz.prog.unfollowed 11) = true := by kernel_rfl
theorem jf3 : (Rows.recordParsesRow.recurses == Tryz.prog.recurses 11) = true := by kernel_rfl
theorem jf4 : (Rows.recordParsesRow.named == Tryz.prog.varsNamed 11) = true := by kernel_rfl
end Go.Proofs.YtanfejbkoheblaaGreatDoor.recordParses
