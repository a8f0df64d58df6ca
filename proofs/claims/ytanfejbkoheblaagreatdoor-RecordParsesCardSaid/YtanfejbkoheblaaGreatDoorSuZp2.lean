/- What the form of every claim asks of the program, reckoned piece by piece (2). -/
import Derived.Test.YtanfejbkoheblaaGreatDoorChecked
import Derived.KernelRfl
import Derived.JoinedOf
set_option linter.unusedVariables false
namespace Go.Proofs.YtanfejbkoheblaaGreatDoor
open Go
theorem g_enter : Tryz.prog.mayEnter = true := by kernel_rfl
theorem g_rowed : mapsRowed Tryz.prog = true := by kernel_rfl
end Go.Proofs.YtanfejbkoheblaaGreatDoor
