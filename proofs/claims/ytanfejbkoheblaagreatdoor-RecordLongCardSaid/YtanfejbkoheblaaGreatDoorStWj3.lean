/- What the form of the claim asks of the program, put together. -/
import Derived.Test.YtanfejbkoheblaaGreatDoorStWk3
import Derived.Test.YtanfejbkoheblaaGreatDoorStZp1
import Derived.Test.YtanfejbkoheblaaGreatDoorStZp2
import Derived.Test.YtanfejbkoheblaaGreatDoorStZp3
import Derived.KernelRfl
import Derived.JoinedOf
set_option linter.unusedVariables false
namespace Go.Proofs.YtanfejbkoheblaaGreatDoor.recordLong
theorem jf : joinedFacts Tryz.prog 12 Tryz.f12 Rows.recordLongSpec Rows.recordLongRow = true := by
  unfold joinedFacts
  rw [jf1, jf2, jf3, jf4, g_laid, g_heard, g_enter, g_rowed, g_lift, g_make]
  kernel_rfl
end Go.Proofs.YtanfejbkoheblaaGreatDoor.recordLong
