/- Merged: Cur0 Cur1 Cur2 Cur3 Cur4 Cur5 Cur6 Cur7 Cuz Ul. -/
import Derived.Test.YtdkicjlbfhmfkaaGreatDoorCud
import Derived.Test.YtdkicjlbfhmfkaaGreatDoorCvs
/- CI: told runs of calls. Printed by wip/tools/stages.py. -/
set_option linter.unusedVariables false
set_option maxRecDepth 100000
namespace CI
open Go
namespace Seat
theorem sm0_run : smCheck sm0 [] (callF cx0 4000 sm0.k sm0.args sm0.heap sm0.n0) = true := by kernel_rfl
theorem sm1_run : smCheck sm1 [47, 100, 101, 102, 103, 104, 105, 106, 107, 108, 109, 110, 111, 112, 113, 114, 115, 116, 117, 118, 119, 120, 121, 122, 123] (callF cx0 4000 sm1.k sm1.args sm1.heap sm1.n0) = true := by kernel_rfl
theorem sm2_run : smCheck sm2 [74, 81, 93, 105, 117, 129, 141, 153, 165, 177, 189, 201, 213, 225, 237, 249, 261, 273, 285, 297, 309, 321, 333, 345, 357, 367, 368, 370, 749, 753] (callF cx0 4000 sm2.k sm2.args sm2.heap sm2.n0) = true := by kernel_rfl
end Seat
end CI
/- CI: told runs of calls. Printed by wip/tools/stages.py. -/
set_option linter.unusedVariables false
set_option maxRecDepth 100000
namespace CI
open Go
namespace Seat
theorem sm3_run : smCheck sm3 [25, 26, 27, 28, 29, 30, 31, 32, 33, 34, 35, 36, 37, 38, 39, 40, 41, 42, 43, 44, 45, 46, 47, 48, 49, 50, 51, 52, 53, 54, 55, 57, 59, 63, 70, 77, 84, 91, 98, 105, 112, 119, 126, 133, 140, 147, 154, 161, 168, 175, 182, 189, 196, 203, 210, 217, 224, 230, 231, 234] (callF (cxTab cx0 [123] [sm2]) 4000 sm3.k sm3.args sm3.heap sm3.n0) = true := by kernel_rfl
theorem sm4_run : smCheck sm4 [25, 26, 27, 28, 29, 30, 31, 32, 33, 34, 35, 36, 37, 38, 39, 40, 41, 42, 43, 44, 45, 46, 47, 48, 49, 50, 51, 52, 53, 54, 55, 56, 57, 58, 59, 60, 61, 62, 63, 64, 65, 66, 67, 68, 69, 70, 71, 72, 73, 74, 75, 76, 77, 78, 79, 80, 81, 82, 83, 84] (callF (cxTab cx0 [48, 62] [sm1, sm3]) 4000 sm4.k sm4.args sm4.heap sm4.n0) = true := by kernel_rfl
theorem sm5_run : smCheck sm5 [65, 66, 72, 73, 79, 80, 86, 87, 93, 94, 100, 101, 107, 108, 114, 115, 121, 122, 128, 129, 135, 136, 142, 143, 149, 150, 156, 157, 163, 164, 170, 171, 177, 178, 184, 185, 191, 192, 198, 199, 205, 206, 212, 213, 219, 220, 226, 227, 233, 234] (callF cx0 4000 sm5.k sm5.args sm5.heap sm5.n0) = true := by kernel_rfl
end Seat
end CI
/- CI: told runs of calls. Printed by wip/tools/stages.py. -/
set_option linter.unusedVariables false
set_option maxRecDepth 100000
namespace CI
open Go
namespace Seat
theorem sm6_run : smCheck sm6 [189, 575, 576, 578, 580, 582, 584, 586, 588, 590, 592, 594, 596, 598, 600, 602, 604, 606, 608, 610, 612, 614, 616, 618, 620, 622, 624] (callF cx0 4000 sm6.k sm6.args sm6.heap sm6.n0) = true := by kernel_rfl
theorem sm7_run : smCheck sm7 [] (callF cx0 4000 sm7.k sm7.args sm7.heap sm7.n0) = true := by kernel_rfl
theorem sm8_run : smCheck sm8 [] (callF cx0 4000 sm8.k sm8.args sm8.heap sm8.n0) = true := by kernel_rfl
end Seat
end CI
/- CI: told runs of calls. Printed by wip/tools/stages.py. -/
set_option linter.unusedVariables false
set_option maxRecDepth 100000
namespace CI
open Go
namespace Seat
theorem sm9_run : smCheck sm9 [261, 265, 266, 267, 268, 269, 270, 271, 272, 273, 274, 275, 276, 277, 278, 279, 280, 281, 282, 283, 284, 285, 286, 287, 288, 289, 290, 291, 292, 293, 294, 295, 296, 297, 298, 299, 300, 301, 302, 303, 304, 305, 306, 307, 308, 309, 310, 311, 312, 313, 314, 315, 316, 317, 318, 319, 320, 321, 322, 323, 324, 325, 326, 327, 328, 329, 330, 331, 332, 333, 334, 335, 336, 337, 338, 339, 340, 341, 342, 343, 344, 345] (callF (cxTab cx0 [64, 65, 66, 67] [sm5, sm6, sm7, sm8]) 4000 sm9.k sm9.args sm9.heap sm9.n0) = true := by kernel_rfl
theorem sm10_run : smCheck sm10 [] (callF cx0 4000 sm10.k sm10.args sm10.heap sm10.n0) = true := by kernel_rfl
theorem sm11_run : smCheck sm11 [96, 99, 104, 107, 112] (callF cx0 4000 sm11.k sm11.args sm11.heap sm11.n0) = true := by kernel_rfl
end Seat
end CI
/- CI: told runs of calls. Printed by wip/tools/stages.py. -/
set_option linter.unusedVariables false
set_option maxRecDepth 100000
namespace CI
open Go
namespace Seat
theorem sm12_run : smCheck sm12 [8, 16, 32, 33, 35, 51, 58] (callF cx0 4000 sm12.k sm12.args sm12.heap sm12.n0) = true := by kernel_rfl
theorem sm13_run : smCheck sm13 [5, 6, 7, 8, 9, 10, 11, 12, 14, 16, 20, 26, 27, 30] (callF (cxTab cx0 [123] [sm12]) 4000 sm13.k sm13.args sm13.heap sm13.n0) = true := by kernel_rfl
theorem sm14_run : smCheck sm14 [5, 6, 7, 8, 9, 10, 11, 12, 13, 14, 15, 16, 17, 18] (callF (cxTab cx0 [48, 62] [sm11, sm13]) 4000 sm14.k sm14.args sm14.heap sm14.n0) = true := by kernel_rfl
end Seat
end CI
/- CI: told runs of calls. Printed by wip/tools/stages.py. -/
set_option linter.unusedVariables false
set_option maxRecDepth 100000
namespace CI
open Go
namespace Seat
theorem sm15_run : smCheck sm15 [19, 20, 27, 31, 37, 38] (callF cx0 4000 sm15.k sm15.args sm15.heap sm15.n0) = true := by kernel_rfl
theorem sm16_run : smCheck sm16 [78, 174, 175, 177, 182, 184, 187] (callF cx0 4000 sm16.k sm16.args sm16.heap sm16.n0) = true := by kernel_rfl
theorem sm17_run : smCheck sm17 [] (callF cx0 4000 sm17.k sm17.args sm17.heap sm17.n0) = true := by kernel_rfl
end Seat
end CI
/- CI: told runs of calls. Printed by wip/tools/stages.py. -/
set_option linter.unusedVariables false
set_option maxRecDepth 100000
namespace CI
open Go
namespace Seat
theorem sm18_run : smCheck sm18 [] (callF cx0 4000 sm18.k sm18.args sm18.heap sm18.n0) = true := by kernel_rfl
theorem sm19_run : smCheck sm19 [29, 40, 41, 42, 43, 44, 45, 46, 47, 48, 49, 50, 51, 52, 53, 54, 55, 56] (callF (cxTab cx0 [64, 65, 66, 67] [sm15, sm16, sm17, sm18]) 4000 sm19.k sm19.args sm19.heap sm19.n0) = true := by kernel_rfl
theorem sm20_run : smCheck sm20 [34, 35, 36, 51, 57] (callF cx0 4000 sm20.k sm20.args sm20.heap sm20.n0) = true := by kernel_rfl
end Seat
end CI
/- CI: told runs of calls. Printed by wip/tools/stages.py. -/
set_option linter.unusedVariables false
set_option maxRecDepth 100000
namespace CI
open Go
namespace Seat
theorem sm21_run : smCheck sm21 [] (callF (cxTab cx0 [22, 23, 24] [sm14, sm19, sm20]) 4000 sm21.k sm21.args sm21.heap sm21.n0) = true := by kernel_rfl
end Seat
end CI
/- CI: told runs of calls. Printed by wip/tools/stages.py. -/
set_option linter.unusedVariables false
set_option maxRecDepth 100000
namespace CI
open Go
namespace Seat
theorem sm0_ok : CallOK cx0 (smCall sm0) := sm_ok sound0 sm0_run rfl
theorem sm1_ok : CallOK cx0 (smCall sm1) := sm_ok sound0 sm1_run rfl
theorem sm2_ok : CallOK cx0 (smCall sm2) := sm_ok sound0 sm2_run rfl
theorem sm3_ok : CallOK cx0 (smCall sm3) := sm_ok (cxTab_sound sound0 (tab_cons sm2_ok tab_nil)) sm3_run rfl
theorem sm4_ok : CallOK cx0 (smCall sm4) := sm_ok (cxTab_sound sound0 (tab_cons sm1_ok (tab_cons sm3_ok tab_nil))) sm4_run rfl
theorem sm5_ok : CallOK cx0 (smCall sm5) := sm_ok sound0 sm5_run rfl
theorem sm6_ok : CallOK cx0 (smCall sm6) := sm_ok sound0 sm6_run rfl
theorem sm7_ok : CallOK cx0 (smCall sm7) := sm_ok sound0 sm7_run rfl
theorem sm8_ok : CallOK cx0 (smCall sm8) := sm_ok sound0 sm8_run rfl
theorem sm9_ok : CallOK cx0 (smCall sm9) := sm_ok (cxTab_sound sound0 (tab_cons sm5_ok (tab_cons sm6_ok (tab_cons sm7_ok (tab_cons sm8_ok tab_nil))))) sm9_run rfl
theorem sm10_ok : CallOK cx0 (smCall sm10) := sm_ok sound0 sm10_run rfl
theorem sm11_ok : CallOK cx0 (smCall sm11) := sm_ok sound0 sm11_run rfl
theorem sm12_ok : CallOK cx0 (smCall sm12) := sm_ok sound0 sm12_run rfl
theorem sm13_ok : CallOK cx0 (smCall sm13) := sm_ok (cxTab_sound sound0 (tab_cons sm12_ok tab_nil)) sm13_run rfl
theorem sm14_ok : CallOK cx0 (smCall sm14) := sm_ok (cxTab_sound sound0 (tab_cons sm11_ok (tab_cons sm13_ok tab_nil))) sm14_run rfl
theorem sm15_ok : CallOK cx0 (smCall sm15) := sm_ok sound0 sm15_run rfl
theorem sm16_ok : CallOK cx0 (smCall sm16) := sm_ok sound0 sm16_run rfl
theorem sm17_ok : CallOK cx0 (smCall sm17) := sm_ok sound0 sm17_run rfl
theorem sm18_ok : CallOK cx0 (smCall sm18) := sm_ok sound0 sm18_run rfl
theorem sm19_ok : CallOK cx0 (smCall sm19) := sm_ok (cxTab_sound sound0 (tab_cons sm15_ok (tab_cons sm16_ok (tab_cons sm17_ok (tab_cons sm18_ok tab_nil))))) sm19_run rfl
theorem sm20_ok : CallOK cx0 (smCall sm20) := sm_ok sound0 sm20_run rfl
theorem sm21_ok : CallOK cx0 (smCall sm21) := sm_ok (cxTab_sound sound0 (tab_cons sm14_ok (tab_cons sm19_ok (tab_cons sm20_ok tab_nil)))) sm21_run rfl
noncomputable def cxT : Cx := (cxTab cx0 [22, 23, 24, 30] [sm0, sm4, sm9, sm10, sm21])
theorem soundT : cxT.Sound := (cxTab_sound sound0 (tab_cons sm0_ok (tab_cons sm4_ok (tab_cons sm9_ok (tab_cons sm10_ok (tab_cons sm21_ok tab_nil))))))
end Seat
end CI
/- CubeNone: the law, run. -/
set_option linter.unusedVariables false
set_option maxRecDepth 100000
namespace CI
open Go
namespace Seat
theorem law5 (p q : Int) : (callN cxT 4000 5 ([Value.int .i64 p, Value.int .i64 q].map abs) .nil 0).map (·.1) = some (.lit (.bool true)) := by rw [← callF_eq]; kernel_rfl
end Seat
end CI
