/- Merged: Vur0 Vur1 Vur2 Vur3 Vur4. -/
import Derived.Test.YtdkicjlbfhmfkaaGreatDoorVud
/- CI: told runs of calls. Printed by wip/tools/stages.py. -/
set_option linter.unusedVariables false
set_option maxRecDepth 100000
namespace CI
open Go Go.Proofs
namespace Seat
theorem sm0_run : smCheck sm0 [] (callF cx0 4000 sm0.k sm0.args sm0.heap sm0.n0) = true := by kernel_rfl
theorem sm1_run : smCheck sm1 [137, 140, 143, 148, 151] (callF cx0 4000 sm1.k sm1.args sm1.heap sm1.n0) = true := by kernel_rfl
end Seat
end CI
/- CI: told runs of calls. Printed by wip/tools/stages.py. -/
set_option linter.unusedVariables false
set_option maxRecDepth 100000
namespace CI
open Go Go.Proofs
namespace Seat
theorem sm2_run : smCheck sm2 [10, 18, 29, 55, 56, 58, 72, 78] (callF cx0 4000 sm2.k sm2.args sm2.heap sm2.n0) = true := by kernel_rfl
theorem sm3_run : smCheck sm3 [5, 6, 7, 8, 9, 10, 11, 12, 13, 15, 17, 21, 28, 34, 35, 38] (callF (cxTab cx0 [123] [sm2]) 4000 sm3.k sm3.args sm3.heap sm3.n0) = true := by kernel_rfl
end Seat
end CI
/- CI: told runs of calls. Printed by wip/tools/stages.py. -/
set_option linter.unusedVariables false
set_option maxRecDepth 100000
namespace CI
open Go Go.Proofs
namespace Seat
theorem sm4_run : smCheck sm4 [5, 6, 7, 8, 9, 10, 11, 12, 13, 14, 15, 16, 17, 18, 19, 20] (callF (cxTab cx0 [48, 62] [sm1, sm3]) 4000 sm4.k sm4.args sm4.heap sm4.n0) = true := by kernel_rfl
theorem sm5_run : smCheck sm5 [] (callF cx0 4000 sm5.k sm5.args sm5.heap sm5.n0) = true := by kernel_rfl
end Seat
end CI
/- CI: told runs of calls. Printed by wip/tools/stages.py. -/
set_option linter.unusedVariables false
set_option maxRecDepth 100000
namespace CI
open Go Go.Proofs
namespace Seat
theorem sm6_run : smCheck sm6 [] (callF cx0 4000 sm6.k sm6.args sm6.heap sm6.n0) = true := by kernel_rfl
theorem sm7_run : smCheck sm7 [] (callF cx0 4000 sm7.k sm7.args sm7.heap sm7.n0) = true := by kernel_rfl
end Seat
end CI
/- CI: told runs of calls. Printed by wip/tools/stages.py. -/
set_option linter.unusedVariables false
set_option maxRecDepth 100000
namespace CI
open Go Go.Proofs
namespace Seat
theorem ch8_0 : isSeq bd166 = true := by kernel_rfl
theorem ch8_1 : codeOK (sqL bd166) = true := by kernel_rfl
theorem ch8_2 : exlB cx0 4000 sm8.n0 40 (sqL bd166) ⟨argEnv sm8.args, sm8.heap, sm8.n0⟩ .normal ls8_0 = true := by kernel_rfl
theorem ch8_3 : isSeq (sqR bd166) = true := by kernel_rfl
theorem ch8_4 : codeOK (sqL (sqR bd166)) = true := by kernel_rfl
theorem ch8_5 : exlB cx0 4000 sm8.n0 40 (sqL (sqR bd166)) ls8_0.st .normal ls8_1 = true := by kernel_rfl
theorem ch8_6 : isSeq (sqR (sqR bd166)) = true := by kernel_rfl
theorem ch8_7 : isSeq (sqL (sqR (sqR bd166))) = true := by kernel_rfl
theorem ch8_8 : codeOK (sqL (sqL (sqR (sqR bd166)))) = true := by kernel_rfl
theorem ch8_9 : exlB cx0 4000 sm8.n0 40 (sqL (sqL (sqR (sqR bd166)))) ls8_1.st .normal ls8_2 = true := by kernel_rfl
theorem ch8_10 : (isBl 0 (sqR (sqL (sqR (sqR bd166)))) && isLp (blB (sqR (sqL (sqR (sqR bd166))))) && codeOK (lpB (blB (sqR (sqL (sqR (sqR bd166))))))) = true := by kernel_rfl
theorem ch8_11 : itB cx0 4000 sm8.n0 40 (lpB (blB (sqR (sqL (sqR (sqR bd166)))))) 64 ls8_2.st ls8_3 = true := by kernel_rfl
theorem ch8_12 : itB cx0 4000 sm8.n0 40 (lpB (blB (sqR (sqL (sqR (sqR bd166)))))) 64 ls8_3.st ls8_4 = true := by kernel_rfl
theorem ch8_13 : itB cx0 4000 sm8.n0 40 (lpB (blB (sqR (sqL (sqR (sqR bd166)))))) 64 ls8_4.st ls8_5 = true := by kernel_rfl
theorem ch8_14 : itB cx0 4000 sm8.n0 40 (lpB (blB (sqR (sqL (sqR (sqR bd166)))))) 64 ls8_5.st ls8_6 = true := by kernel_rfl
theorem ch8_15 : exlB cx0 4000 sm8.n0 40 (lpB (blB (sqR (sqL (sqR (sqR bd166)))))) ls8_6.st (.exit 0) ls8_7 = true := by kernel_rfl
theorem ch8_16 : isSeq (sqR (sqR (sqR bd166))) = true := by kernel_rfl
theorem ch8_17 : codeOK (sqL (sqR (sqR (sqR bd166)))) = true := by kernel_rfl
theorem ch8_18 : exlB cx0 4000 sm8.n0 40 (sqL (sqR (sqR (sqR bd166)))) ls8_7.st .normal ls8_8 = true := by kernel_rfl
theorem ch8_19 : codeOK (sqR (sqR (sqR (sqR bd166)))) = true := by kernel_rfl
theorem ch8_20 : exlB cx0 4000 sm8.n0 40 (sqR (sqR (sqR (sqR bd166)))) ls8_8.st .ret ls8_9 = true := by kernel_rfl
theorem ch8_21 : endB cx0 sm8 [1, 2] Tryz.f166.results.toList ls8_9 = true := by kernel_rfl
theorem sm9_run : smCheck sm9 [5, 6] (callF (cxTab cx0 [165, 166] [sm5, sm6, sm7, sm8]) 4000 sm9.k sm9.args sm9.heap sm9.n0) = true := by kernel_rfl
end Seat
end CI
