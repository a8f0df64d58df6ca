/- What the form of the claim asks of the program, put together. -/
import Derived.Test.YtanfejbkoheblaaGreatDoorSrWk2
import Derived.Test.YtanfejbkoheblaaGreatDoorSrZp1
import Derived.Test.YtanfejbkoheblaaGreatDoorSrZp2
import Derived.Test.YtanfejbkoheblaaGreatDoorSrZp3
import Derived.KernelRfl
import Derived.JoinedOf
set_option linter.unusedVariables false
namespace Go.Proofs.YtanfejbkoheblaaGreatDoor.recordReads
theorem jf : joinedFacts Tryz.prog 8 Tryz.f8 Rows.recordReadsSpec Rows.recordReadsRow = true := by
  unfold joinedFacts
  rw [jf1, jf2, jf3, jf4, g_laid, g_heard, g_enter, g_rowed, g_lift, g_make]
  kernel_rfl
end Go.Proofs.YtanfejbkoheblaaGreatDoor.recordReads
