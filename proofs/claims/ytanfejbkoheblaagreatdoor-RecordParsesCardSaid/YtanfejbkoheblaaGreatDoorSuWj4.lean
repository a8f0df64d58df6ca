/- What the form of the claim asks of the program, put together. -/
import Derived.Test.YtanfejbkoheblaaGreatDoorSuWk4
import Derived.Test.YtanfejbkoheblaaGreatDoorSuZp1
import Derived.Test.YtanfejbkoheblaaGreatDoorSuZp2
import Derived.Test.YtanfejbkoheblaaGreatDoorSuZp3
import Derived.KernelRfl
import Derived.JoinedOf
set_option linter.unusedVariables false
namespace Go.Proofs.YtanfejbkoheblaaGreatDoor.recordParses
theorem jf : joinedFacts Tryz.prog 11 Tryz.f11 Rows.recordParsesSpec Rows.recordParsesRow = true := by
  unfold joinedFacts
  rw [jf1, jf2, jf3, jf4, g_laid, g_heard, g_enter, g_rowed, g_lift, g_make]
  kernel_rfl
end Go.Proofs.YtanfejbkoheblaaGreatDoor.recordParses
