/- What the form of the claim asks of the program, put together. -/
import Derived.Test.YtanfejbkoheblaaGreatDoorSwWk1
import Derived.Test.YtanfejbkoheblaaGreatDoorSwZp1
import Derived.Test.YtanfejbkoheblaaGreatDoorSwZp2
import Derived.Test.YtanfejbkoheblaaGreatDoorSwZp3
import Derived.KernelRfl
import Derived.JoinedOf
set_option linter.unusedVariables false
namespace Go.Proofs.YtanfejbkoheblaaGreatDoor.recordWrites
theorem jf : joinedFacts Tryz.prog 7 Tryz.f7 Rows.recordWritesSpec Rows.recordWritesRow = true := by
  unfold joinedFacts
  rw [jf1, jf2, jf3, jf4, g_laid, g_heard, g_enter, g_rowed, g_lift, g_make]
  kernel_rfl
end Go.Proofs.YtanfejbkoheblaaGreatDoor.recordWrites
