/- What the form of every claim asks of the program, reckoned piece by piece (3). -/
import Derived.Test.YtanfejbkoheblaaGreatDoorRows
import Derived.Test.YtanfejbkoheblaaGreatDoorChecked
import Derived.KernelRfl
import Derived.JoinedOf
set_option linter.unusedVariables false
namespace Go.Proofs.YtanfejbkoheblaaGreatDoor
open Go
theorem g_lift : Tryz.prog.liftsFinal = Rows.recordWritesRow.lifted := by kernel_rfl
theorem g_make : Tryz.prog.make = some Rows.recordWritesRow.make := by kernel_rfl
end Go.Proofs.YtanfejbkoheblaaGreatDoor
