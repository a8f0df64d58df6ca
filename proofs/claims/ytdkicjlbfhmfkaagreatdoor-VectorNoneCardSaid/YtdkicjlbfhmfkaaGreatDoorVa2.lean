/- Merged: Vur5 Vur6 Vur7 Vur8 Vur9 Vur10 Vur11 Vur12. -/
import Derived.Test.YtdkicjlbfhmfkaaGreatDoorVud
/- CI: told runs of calls. Printed by wip/tools/stages.py. -/
set_option linter.unusedVariables false
set_option maxRecDepth 100000
namespace CI
open Go Go.Proofs
namespace Seat
theorem sm10_run : smCheck sm10 [] (callF cx0 4000 sm10.k sm10.args sm10.heap sm10.n0) = true := by kernel_rfl
theorem sm11_run : smCheck sm11 [] (callF (cxTab cx0 [167] [sm10]) 4000 sm11.k sm11.args sm11.heap sm11.n0) = true := by kernel_rfl
end Seat
end CI
/- CI: told runs of calls. Printed by wip/tools/stages.py. -/
set_option linter.unusedVariables false
set_option maxRecDepth 100000
namespace CI
open Go Go.Proofs
namespace Seat
theorem sm12_run : smCheck sm12 [] (callF cx0 4000 sm12.k sm12.args sm12.heap sm12.n0) = true := by kernel_rfl
theorem sm13_run : smCheck sm13 [21] (callF (cxTab cx0 [167] [sm12]) 4000 sm13.k sm13.args sm13.heap sm13.n0) = true := by kernel_rfl
end Seat
end CI
/- CI: told runs of calls. Printed by wip/tools/stages.py. -/
set_option linter.unusedVariables false
set_option maxRecDepth 100000
namespace CI
open Go Go.Proofs
namespace Seat
theorem sm14_run : smCheck sm14 [] (callF cx0 4000 sm14.k sm14.args sm14.heap sm14.n0) = true := by kernel_rfl
theorem sm15_run : smCheck sm15 [23] (callF (cxTab cx0 [167] [sm14]) 4000 sm15.k sm15.args sm15.heap sm15.n0) = true := by kernel_rfl
end Seat
end CI
/- CI: told runs of calls. Printed by wip/tools/stages.py. -/
set_option linter.unusedVariables false
set_option maxRecDepth 100000
namespace CI
open Go Go.Proofs
namespace Seat
theorem sm16_run : smCheck sm16 [] (callF (cxTab cx0 [167] [sm10]) 4000 sm16.k sm16.args sm16.heap sm16.n0) = true := by kernel_rfl
theorem sm17_run : smCheck sm17 [] (callF cx0 4000 sm17.k sm17.args sm17.heap sm17.n0) = true := by kernel_rfl
end Seat
end CI
/- CI: told runs of calls. Printed by wip/tools/stages.py. -/
set_option linter.unusedVariables false
set_option maxRecDepth 100000
namespace CI
open Go Go.Proofs
namespace Seat
theorem sm18_run : smCheck sm18 [] (callF (cxTab cx0 [167] [sm17]) 4000 sm18.k sm18.args sm18.heap sm18.n0) = true := by kernel_rfl
theorem sm19_run : smCheck sm19 [] (callF (cxTab cx0 [167] [sm17]) 4000 sm19.k sm19.args sm19.heap sm19.n0) = true := by kernel_rfl
end Seat
end CI
/- CI: told runs of calls. Printed by wip/tools/stages.py. -/
set_option linter.unusedVariables false
set_option maxRecDepth 100000
namespace CI
open Go Go.Proofs
namespace Seat
theorem sm20_run : smCheck sm20 [] (callF (cxTab cx0 [167] [sm17]) 4000 sm20.k sm20.args sm20.heap sm20.n0) = true := by kernel_rfl
theorem sm21_run : smCheck sm21 [] (callF cx0 4000 sm21.k sm21.args sm21.heap sm21.n0) = true := by kernel_rfl
end Seat
end CI
/- CI: told runs of calls. Printed by wip/tools/stages.py. -/
set_option linter.unusedVariables false
set_option maxRecDepth 100000
namespace CI
open Go Go.Proofs
namespace Seat
theorem sm22_run : smCheck sm22 [24] (callF (cxTab cx0 [167] [sm21]) 4000 sm22.k sm22.args sm22.heap sm22.n0) = true := by kernel_rfl
theorem sm23_run : smCheck sm23 [] (callF (cxTab cx0 [167] [sm17]) 4000 sm23.k sm23.args sm23.heap sm23.n0) = true := by kernel_rfl
end Seat
end CI
/- CI: told runs of calls. Printed by wip/tools/stages.py. -/
set_option linter.unusedVariables false
set_option maxRecDepth 100000
namespace CI
open Go Go.Proofs
namespace Seat
theorem sm24_run : smCheck sm24 [] (callF (cxTab cx0 [167] [sm17]) 4000 sm24.k sm24.args sm24.heap sm24.n0) = true := by kernel_rfl
theorem sm25_run : smCheck sm25 [] (callF (cxTab cx0 [167] [sm17]) 4000 sm25.k sm25.args sm25.heap sm25.n0) = true := by kernel_rfl
end Seat
end CI
