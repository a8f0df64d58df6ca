/- Merged: Vur13 Vur14 Vur15 Vur16 Vur17 Vur18 Vur19 Vur20 Vur21 Vuz Gl. -/
import Derived.Test.YtdkicjlbfhmfkaaGreatDoorVud
import Derived.Test.YtdkicjlbfhmfkaaGreatDoorVa1
import Derived.Test.YtdkicjlbfhmfkaaGreatDoorVa2
import Derived.Test.YtdkicjlbfhmfkaaGreatDoorCvs
/- CI: told runs of calls. Printed by wip/tools/stages.py. -/
set_option linter.unusedVariables false
set_option maxRecDepth 100000
namespace CI
open Go Go.Proofs
namespace Seat
theorem sm26_run : smCheck sm26 [] (callF (cxTab cx0 [167] [sm21]) 4000 sm26.k sm26.args sm26.heap sm26.n0) = true := by kernel_rfl
theorem sm27_run : smCheck sm27 [] (callF (cxTab cx0 [167] [sm17]) 4000 sm27.k sm27.args sm27.heap sm27.n0) = true := by kernel_rfl
end Seat
end CI
/- CI: told runs of calls. Printed by wip/tools/stages.py. -/
set_option linter.unusedVariables false
set_option maxRecDepth 100000
namespace CI
open Go Go.Proofs
namespace Seat
theorem sm28_run : smCheck sm28 [] (callF (cxTab cx0 [167] [sm17]) 4000 sm28.k sm28.args sm28.heap sm28.n0) = true := by kernel_rfl
theorem sm29_run : smCheck sm29 [] (callF (cxTab cx0 [167] [sm17]) 4000 sm29.k sm29.args sm29.heap sm29.n0) = true := by kernel_rfl
end Seat
end CI
/- CI: told runs of calls. Printed by wip/tools/stages.py. -/
set_option linter.unusedVariables false
set_option maxRecDepth 100000
namespace CI
open Go Go.Proofs
namespace Seat
theorem sm30_run : smCheck sm30 [] (callF (cxTab cx0 [167] [sm17]) 4000 sm30.k sm30.args sm30.heap sm30.n0) = true := by kernel_rfl
theorem sm31_run : smCheck sm31 [24, 30, 78, 89] (callF (cxTab cx0 [108] [sm11, sm13, sm15, sm16, sm18, sm19, sm20, sm22, sm23, sm24, sm25, sm26, sm27, sm28, sm29, sm30]) 4000 sm31.k sm31.args sm31.heap sm31.n0) = true := by kernel_rfl
end Seat
end CI
/- CI: told runs of calls. Printed by wip/tools/stages.py. -/
set_option linter.unusedVariables false
set_option maxRecDepth 100000
namespace CI
open Go Go.Proofs
namespace Seat
theorem sm32_run : smCheck sm32 [16, 17, 35, 36, 37, 38, 39] (callF (cxTab cx0 [52, 106] [sm9, sm31]) 4000 sm32.k sm32.args sm32.heap sm32.n0) = true := by kernel_rfl
theorem sm33_run : smCheck sm33 [] (callF (cxTab cx0 [167] [sm10]) 4000 sm33.k sm33.args sm33.heap sm33.n0) = true := by kernel_rfl
end Seat
end CI
/- CI: told runs of calls. Printed by wip/tools/stages.py. -/
set_option linter.unusedVariables false
set_option maxRecDepth 100000
namespace CI
open Go Go.Proofs
namespace Seat
theorem sm34_run : smCheck sm34 [21] (callF (cxTab cx0 [167] [sm12]) 4000 sm34.k sm34.args sm34.heap sm34.n0) = true := by kernel_rfl
theorem sm35_run : smCheck sm35 [23] (callF (cxTab cx0 [167] [sm14]) 4000 sm35.k sm35.args sm35.heap sm35.n0) = true := by kernel_rfl
end Seat
end CI
/- CI: told runs of calls. Printed by wip/tools/stages.py. -/
set_option linter.unusedVariables false
set_option maxRecDepth 100000
namespace CI
open Go Go.Proofs
namespace Seat
theorem sm36_run : smCheck sm36 [] (callF (cxTab cx0 [167] [sm10]) 4000 sm36.k sm36.args sm36.heap sm36.n0) = true := by kernel_rfl
theorem sm37_run : smCheck sm37 [] (callF (cxTab cx0 [167] [sm17]) 4000 sm37.k sm37.args sm37.heap sm37.n0) = true := by kernel_rfl
end Seat
end CI
/- CI: told runs of calls. Printed by wip/tools/stages.py. -/
set_option linter.unusedVariables false
set_option maxRecDepth 100000
namespace CI
open Go Go.Proofs
namespace Seat
theorem sm38_run : smCheck sm38 [] (callF (cxTab cx0 [167] [sm17]) 4000 sm38.k sm38.args sm38.heap sm38.n0) = true := by kernel_rfl
theorem sm39_run : smCheck sm39 [] (callF (cxTab cx0 [167] [sm17]) 4000 sm39.k sm39.args sm39.heap sm39.n0) = true := by kernel_rfl
end Seat
end CI
/- CI: told runs of calls. Printed by wip/tools/stages.py. -/
set_option linter.unusedVariables false
set_option maxRecDepth 100000
namespace CI
open Go Go.Proofs
namespace Seat
theorem sm40_run : smCheck sm40 [] (callF (cxTab cx0 [167] [sm21]) 4000 sm40.k sm40.args sm40.heap sm40.n0) = true := by kernel_rfl
theorem sm41_run : smCheck sm41 [24, 30, 35] (callF (cxTab cx0 [108] [sm33, sm34, sm35, sm36, sm37, sm38, sm39, sm40]) 4000 sm41.k sm41.args sm41.heap sm41.n0) = true := by kernel_rfl
end Seat
end CI
/- CI: told runs of calls. Printed by wip/tools/stages.py. -/
set_option linter.unusedVariables false
set_option maxRecDepth 100000
namespace CI
open Go Go.Proofs
namespace Seat
theorem sm42_run : smCheck sm42 [] (callF (cxTab cx0 [52, 106] [sm9, sm41]) 4000 sm42.k sm42.args sm42.heap sm42.n0) = true := by kernel_rfl
theorem sm43_run : smCheck sm43 [] (callF (cxTab cx0 [14, 23] [sm4, sm32, sm42]) 4000 sm43.k sm43.args sm43.heap sm43.n0) = true := by kernel_rfl
end Seat
end CI
/- CI: told runs of calls. Printed by wip/tools/stages.py. -/
set_option linter.unusedVariables false
set_option maxRecDepth 100000
namespace CI
open Go Go.Proofs
namespace Seat
theorem sm0_ok : CallOK cx0 (smCall sm0) := sm_ok sound0 sm0_run rfl
theorem sm1_ok : CallOK cx0 (smCall sm1) := sm_ok sound0 sm1_run rfl
theorem sm2_ok : CallOK cx0 (smCall sm2) := sm_ok sound0 sm2_run rfl
theorem sm3_ok : CallOK cx0 (smCall sm3) := sm_ok (cxTab_sound sound0 (tab_cons sm2_ok tab_nil)) sm3_run rfl
theorem sm4_ok : CallOK cx0 (smCall sm4) := sm_ok (cxTab_sound sound0 (tab_cons sm1_ok (tab_cons sm3_ok tab_nil))) sm4_run rfl
theorem sm5_ok : CallOK cx0 (smCall sm5) := sm_ok sound0 sm5_run rfl
theorem sm6_ok : CallOK cx0 (smCall sm6) := sm_ok sound0 sm6_run rfl
theorem sm7_ok : CallOK cx0 (smCall sm7) := sm_ok sound0 sm7_run rfl
theorem sm8_ok : CallOK cx0 (smCall sm8) := smR_ok (C := cx0) (fn := Tryz.f166) (body := bd166) sound0 Tryz.func166 (by kernel_rfl) (by kernel_rfl) (by decide) (Rn.seq' (C := cx0) ch8_0 (Rn.leaf (C := cx0) ch8_1 ch8_2) (Rn.seq' (C := cx0) ch8_3 (Rn.leaf (C := cx0) ch8_4 ch8_5) (Rn.seq' (C := cx0) ch8_6 (Rn.seq' (C := cx0) ch8_7 (Rn.leaf (C := cx0) ch8_8 ch8_9) (Rn.loopEnd (C := cx0) ch8_10 ch8_15 (fun se r => (LoopN.more ch8_11 (LoopN.more ch8_12 (LoopN.more ch8_13 (LoopN.more ch8_14 r))))))) (Rn.seq' (C := cx0) ch8_16 (Rn.leaf (C := cx0) ch8_17 ch8_18) (Rn.leaf (C := cx0) ch8_19 ch8_20))))) (.inr rfl) ch8_21 rfl
theorem sm9_ok : CallOK cx0 (smCall sm9) := sm_ok (cxTab_sound sound0 (tab_cons sm5_ok (tab_cons sm6_ok (tab_cons sm7_ok (tab_cons sm8_ok tab_nil))))) sm9_run rfl
theorem sm10_ok : CallOK cx0 (smCall sm10) := sm_ok sound0 sm10_run rfl
theorem sm11_ok : CallOK cx0 (smCall sm11) := sm_ok (cxTab_sound sound0 (tab_cons sm10_ok tab_nil)) sm11_run rfl
theorem sm12_ok : CallOK cx0 (smCall sm12) := sm_ok sound0 sm12_run rfl
theorem sm13_ok : CallOK cx0 (smCall sm13) := sm_ok (cxTab_sound sound0 (tab_cons sm12_ok tab_nil)) sm13_run rfl
theorem sm14_ok : CallOK cx0 (smCall sm14) := sm_ok sound0 sm14_run rfl
theorem sm15_ok : CallOK cx0 (smCall sm15) := sm_ok (cxTab_sound sound0 (tab_cons sm14_ok tab_nil)) sm15_run rfl
theorem sm16_ok : CallOK cx0 (smCall sm16) := sm_ok (cxTab_sound sound0 (tab_cons sm10_ok tab_nil)) sm16_run rfl
theorem sm17_ok : CallOK cx0 (smCall sm17) := sm_ok sound0 sm17_run rfl
theorem sm18_ok : CallOK cx0 (smCall sm18) := sm_ok (cxTab_sound sound0 (tab_cons sm17_ok tab_nil)) sm18_run rfl
theorem sm19_ok : CallOK cx0 (smCall sm19) := sm_ok (cxTab_sound sound0 (tab_cons sm17_ok tab_nil)) sm19_run rfl
theorem sm20_ok : CallOK cx0 (smCall sm20) := sm_ok (cxTab_sound sound0 (tab_cons sm17_ok tab_nil)) sm20_run rfl
theorem sm21_ok : CallOK cx0 (smCall sm21) := sm_ok sound0 sm21_run rfl
theorem sm22_ok : CallOK cx0 (smCall sm22) := sm_ok (cxTab_sound sound0 (tab_cons sm21_ok tab_nil)) sm22_run rfl
theorem sm23_ok : CallOK cx0 (smCall sm23) := sm_ok (cxTab_sound sound0 (tab_cons sm17_ok tab_nil)) sm23_run rfl
theorem sm24_ok : CallOK cx0 (smCall sm24) := sm_ok (cxTab_sound sound0 (tab_cons sm17_ok tab_nil)) sm24_run rfl
theorem sm25_ok : CallOK cx0 (smCall sm25) := sm_ok (cxTab_sound sound0 (tab_cons sm17_ok tab_nil)) sm25_run rfl
theorem sm26_ok : CallOK cx0 (smCall sm26) := sm_ok (cxTab_sound sound0 (tab_cons sm21_ok tab_nil)) sm26_run rfl
theorem sm27_ok : CallOK cx0 (smCall sm27) := sm_ok (cxTab_sound sound0 (tab_cons sm17_ok tab_nil)) sm27_run rfl
theorem sm28_ok : CallOK cx0 (smCall sm28) := sm_ok (cxTab_sound sound0 (tab_cons sm17_ok tab_nil)) sm28_run rfl
theorem sm29_ok : CallOK cx0 (smCall sm29) := sm_ok (cxTab_sound sound0 (tab_cons sm17_ok tab_nil)) sm29_run rfl
theorem sm30_ok : CallOK cx0 (smCall sm30) := sm_ok (cxTab_sound sound0 (tab_cons sm17_ok tab_nil)) sm30_run rfl
theorem sm31_ok : CallOK cx0 (smCall sm31) := sm_ok (cxTab_sound sound0 (tab_cons sm11_ok (tab_cons sm13_ok (tab_cons sm15_ok (tab_cons sm16_ok (tab_cons sm18_ok (tab_cons sm19_ok (tab_cons sm20_ok (tab_cons sm22_ok (tab_cons sm23_ok (tab_cons sm24_ok (tab_cons sm25_ok (tab_cons sm26_ok (tab_cons sm27_ok (tab_cons sm28_ok (tab_cons sm29_ok (tab_cons sm30_ok tab_nil))))))))))))))))) sm31_run rfl
theorem sm32_ok : CallOK cx0 (smCall sm32) := sm_ok (cxTab_sound sound0 (tab_cons sm9_ok (tab_cons sm31_ok tab_nil))) sm32_run rfl
theorem sm33_ok : CallOK cx0 (smCall sm33) := sm_ok (cxTab_sound sound0 (tab_cons sm10_ok tab_nil)) sm33_run rfl
theorem sm34_ok : CallOK cx0 (smCall sm34) := sm_ok (cxTab_sound sound0 (tab_cons sm12_ok tab_nil)) sm34_run rfl
theorem sm35_ok : CallOK cx0 (smCall sm35) := sm_ok (cxTab_sound sound0 (tab_cons sm14_ok tab_nil)) sm35_run rfl
theorem sm36_ok : CallOK cx0 (smCall sm36) := sm_ok (cxTab_sound sound0 (tab_cons sm10_ok tab_nil)) sm36_run rfl
theorem sm37_ok : CallOK cx0 (smCall sm37) := sm_ok (cxTab_sound sound0 (tab_cons sm17_ok tab_nil)) sm37_run rfl
theorem sm38_ok : CallOK cx0 (smCall sm38) := sm_ok (cxTab_sound sound0 (tab_cons sm17_ok tab_nil)) sm38_run rfl
theorem sm39_ok : CallOK cx0 (smCall sm39) := sm_ok (cxTab_sound sound0 (tab_cons sm17_ok tab_nil)) sm39_run rfl
theorem sm40_ok : CallOK cx0 (smCall sm40) := sm_ok (cxTab_sound sound0 (tab_cons sm21_ok tab_nil)) sm40_run rfl
theorem sm41_ok : CallOK cx0 (smCall sm41) := sm_ok (cxTab_sound sound0 (tab_cons sm33_ok (tab_cons sm34_ok (tab_cons sm35_ok (tab_cons sm36_ok (tab_cons sm37_ok (tab_cons sm38_ok (tab_cons sm39_ok (tab_cons sm40_ok tab_nil))))))))) sm41_run rfl
theorem sm42_ok : CallOK cx0 (smCall sm42) := sm_ok (cxTab_sound sound0 (tab_cons sm9_ok (tab_cons sm41_ok tab_nil))) sm42_run rfl
theorem sm43_ok : CallOK cx0 (smCall sm43) := sm_ok (cxTab_sound sound0 (tab_cons sm4_ok (tab_cons sm32_ok (tab_cons sm42_ok tab_nil)))) sm43_run rfl
noncomputable def cxT : Cx := (cxTab cx0 [14, 21] [sm0, sm43])
theorem soundT : cxT.Sound := (cxTab_sound sound0 (tab_cons sm0_ok (tab_cons sm43_ok tab_nil)))
end Seat
end CI
/- VectorNone: the law, run. -/
set_option linter.unusedVariables false
set_option maxRecDepth 100000
namespace CI
open Go
namespace Seat
theorem law4a (m : Nat) : (callN cxT 4000 4 ([Value.int .i64 (.ofNat m)].map abs) .nil 0).map (·.1) = some (.lit (.bool true)) := by rw [← callF_eq]; kernel_rfl
theorem law4b : (callN cxT 4000 4 ([Value.int .i64 (.negSucc 0)].map abs) .nil 0).map (·.1) = some (.lit (.bool true)) := by rw [← callF_eq]; kernel_rfl
theorem law4c (m : Nat) : (callN cxT 4000 4 ([Value.int .i64 (.negSucc (m + 1))].map abs) .nil 0).map (·.1) = some (.lit (.bool true)) := by rw [← callF_eq]; kernel_rfl
theorem law4 (n : Int) : (callN cxT 4000 4 ([Value.int .i64 n].map abs) .nil 0).map (·.1) = some (.lit (.bool true)) := by
  cases n with
  | ofNat m => exact law4a m
  | negSucc m =>
    cases m with
    | zero => exact law4b
    | succ m => exact law4c m
end Seat
end CI
