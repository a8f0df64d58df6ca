/- Merged: Pud Pur0 Pur1 Pur2 Pur3 Puz Pw. -/
import Derived.Test.YtdkicjlbfhmfkaaGreatDoorCiw
import Derived.Test.YtdkicjlbfhmfkaaGreatDoorCrl
import Derived.Test.YtdkicjlbfhmfkaaGreatDoorCch
import Derived.KernelRfl
import Derived.Test.YtdkicjlbfhmfkaaGreatDoorCvt
/- CI: told runs of calls. Printed by wip/tools/stages.py. -/
set_option linter.unusedVariables false
set_option maxRecDepth 100000
namespace CI
open Go Go.Proofs
namespace Seat
def I (n : Int) : AV := .lit (.int .i64 n)
noncomputable def sm0 : Sm := ⟨24, [.lit (.pointer none)],
 [],
 .tuple [.lit (.pointer none), I 1],
 [],
 []⟩
noncomputable def sm1 : Sm := ⟨32, [.lit (.pointer none)],
 [],
 .tuple [.lit (.pointer none), I 1],
 [],
 []⟩
noncomputable def sm2 : Sm := ⟨42, [.lit (.pointer none)],
 [],
 .tuple [.agg [I 0, .lit (.string ⟨#[]⟩), .lit (.string ⟨#[]⟩), I 0, I 0], I 1],
 [],
 []⟩
noncomputable def sm3 : Sm := ⟨48, [.lit (.string ⟨#[40, 97, 42, 41, 42, 98]⟩), I 0],
 [],
 .tuple [.ptr 4 0, I 0, I 0],
 [],
 [some (.cells [I 1, .lit (.int .u64 0), .lit (.int .u64 8589934592), .lit (.int .u64 0), .lit (.int .u64 0), .lit (.bool false), .lit (.pointer none), .lit (.pointer none)] 32 false),
  some (.cells [I 4, .lit (.int .u64 0), .lit (.int .u64 0), .lit (.int .u64 0), .lit (.int .u64 0), .lit (.bool false), .ptr 0 0, .lit (.pointer none)] 32 false),
  some (.cells [I 4, .lit (.int .u64 0), .lit (.int .u64 0), .lit (.int .u64 0), .lit (.int .u64 0), .lit (.bool false), .ptr 1 0, .lit (.pointer none)] 32 false),
  some (.cells [I 1, .lit (.int .u64 0), .lit (.int .u64 17179869184), .lit (.int .u64 0), .lit (.int .u64 0), .lit (.bool false), .lit (.pointer none), .lit (.pointer none)] 32 false),
  some (.cells [I 2, .lit (.int .u64 0), .lit (.int .u64 0), .lit (.int .u64 0), .lit (.int .u64 0), .lit (.bool false), .ptr 2 0, .ptr 3 0] 32 false)]⟩
noncomputable def sm4 : Sm := ⟨62, [.ptr 0 0],
 [some (.cells [I 2, .lit (.int .u64 0), .lit (.int .u64 0), .lit (.int .u64 0), .lit (.int .u64 0), .lit (.bool false), .ptr 1 0, .ptr 2 0] 32 false),
  some (.cells [I 4, .lit (.int .u64 0), .lit (.int .u64 0), .lit (.int .u64 0), .lit (.int .u64 0), .lit (.bool false), .ptr 3 0, .lit (.pointer none)] 32 false),
  some (.cells [I 1, .lit (.int .u64 0), .lit (.int .u64 17179869184), .lit (.int .u64 0), .lit (.int .u64 0), .lit (.bool false), .lit (.pointer none), .lit (.pointer none)] 32 false),
  some (.cells [I 4, .lit (.int .u64 0), .lit (.int .u64 0), .lit (.int .u64 0), .lit (.int .u64 0), .lit (.bool false), .ptr 4 0, .lit (.pointer none)] 32 false),
  some (.cells [I 1, .lit (.int .u64 0), .lit (.int .u64 8589934592), .lit (.int .u64 0), .lit (.int .u64 0), .lit (.bool false), .lit (.pointer none), .lit (.pointer none)] 32 false)],
 .tuple [.ptr 14 0, I 0],
 [some (.cells [I 2, .lit (.int .u64 0), .lit (.int .u64 0), .lit (.int .u64 0), .lit (.int .u64 0), .lit (.bool false), .ptr 1 0, .ptr 2 0] 32 false),
  some (.cells [I 4, .lit (.int .u64 0), .lit (.int .u64 0), .lit (.int .u64 0), .lit (.int .u64 0), .lit (.bool false), .ptr 3 0, .lit (.pointer none)] 32 false),
  some (.cells [I 1, .lit (.int .u64 0), .lit (.int .u64 17179869184), .lit (.int .u64 0), .lit (.int .u64 0), .lit (.bool false), .lit (.pointer none), .lit (.pointer none)] 32 false),
  some (.cells [I 4, .lit (.int .u64 0), .lit (.int .u64 0), .lit (.int .u64 0), .lit (.int .u64 0), .lit (.bool false), .ptr 4 0, .lit (.pointer none)] 32 false),
  some (.cells [I 1, .lit (.int .u64 0), .lit (.int .u64 8589934592), .lit (.int .u64 0), .lit (.int .u64 0), .lit (.bool false), .lit (.pointer none), .lit (.pointer none)] 32 false)],
 [some (.cells [I 0, .map 10, .map 11, .slice 7 0 2 none 4, .slice 9 0 2 none 1] 229 false),
  some (.map [(I 0, I 2), (I 1, I 1)] false),
  some (.cells [.lit (.int .u64 0), .lit (.int .u64 8589934592), .lit (.int .u64 0), .lit (.int .u64 0), .lit (.int .u64 0), .lit (.int .u64 17179869184), .lit (.int .u64 0), .lit (.int .u64 0)] 30 false),
  some (.map [] false),
  some (.cells [.map 6, .map 8] 224 false),
  some (.map [(I 0, I 1), (I 1, I 1)] false),
  some (.map [(I 1, I 1)] false),
  some (.cells [I 1, I 1] 3 false),
  some (.cells [I 0, I 1] 3 false),
  some (.cells [.ptr 5 0, .slice 16 0 2 none 4, .slice 12 0 2 (some 2) 1, .slice 13 0 2 (some 2) 1, .slice 18 0 2 none 1] 146 false),
  some (.cells [I 2, I 1] 3 false),
  some (.cells [.lit (.int .u64 0), .lit (.int .u64 8589934592), .lit (.int .u64 0), .lit (.int .u64 0), .lit (.int .u64 0), .lit (.int .u64 17179869184), .lit (.int .u64 0), .lit (.int .u64 0)] 30 false),
  some (.cells [I 0, I 0] 3 false),
  some (.cells [.slice 15 0 2 (some 2) 1, .slice 17 0 2 (some 2) 1] 40 false)]⟩
noncomputable def sm5 : Sm := ⟨23, [.lit (.string ⟨#[40, 97, 42, 41, 42, 98]⟩), I 0],
 [],
 .tuple [.ptr 9 0, I 0, I 0],
 [],
 [some (.cells [I 0, .map 5, .map 6, .slice 2 0 2 none 4, .slice 4 0 2 none 1] 229 false),
  some (.map [(I 0, I 2), (I 1, I 1)] false),
  some (.cells [.lit (.int .u64 0), .lit (.int .u64 8589934592), .lit (.int .u64 0), .lit (.int .u64 0), .lit (.int .u64 0), .lit (.int .u64 17179869184), .lit (.int .u64 0), .lit (.int .u64 0)] 30 false),
  some (.map [] false),
  some (.cells [.map 1, .map 3] 224 false),
  some (.map [(I 0, I 1), (I 1, I 1)] false),
  some (.map [(I 1, I 1)] false),
  some (.cells [I 1, I 1] 3 false),
  some (.cells [I 0, I 1] 3 false),
  some (.cells [.ptr 0 0, .slice 11 0 2 none 4, .slice 7 0 2 (some 2) 1, .slice 8 0 2 (some 2) 1, .slice 13 0 2 none 1] 146 false),
  some (.cells [I 2, I 1] 3 false),
  some (.cells [.lit (.int .u64 0), .lit (.int .u64 8589934592), .lit (.int .u64 0), .lit (.int .u64 0), .lit (.int .u64 0), .lit (.int .u64 17179869184), .lit (.int .u64 0), .lit (.int .u64 0)] 30 false),
  some (.cells [I 0, I 0] 3 false),
  some (.cells [.slice 10 0 2 (some 2) 1, .slice 12 0 2 (some 2) 1] 40 false)]⟩
noncomputable def sm6 : Sm := ⟨64, [.ptr 0 0],
 [some (.cells [.ptr 1 0, .slice 2 0 2 none 1, .map 3, .lit (.pointer none), .lit (.slice none 0 0), .map 4, .lit (.pointer none), .map 5] 125 false),
  some (.cells [.ptr 6 0, .slice 7 0 2 none 4, .slice 8 0 2 (some 2) 1, .slice 9 0 2 (some 2) 1, .slice 10 0 2 none 1] 146 false),
  some (.cells [I 0, I 1] 3 false),
  some (.map [] false),
  some (.map [] false),
  some (.map [] false),
  some (.cells [I 0, .map 11, .map 12, .slice 13 0 2 none 4, .slice 14 0 2 none 1] 229 false),
  some (.cells [.lit (.int .u64 0), .lit (.int .u64 8589934592), .lit (.int .u64 0), .lit (.int .u64 0), .lit (.int .u64 0), .lit (.int .u64 17179869184), .lit (.int .u64 0), .lit (.int .u64 0)] 30 false),
  some (.cells [I 1, I 1] 3 false),
  some (.cells [I 0, I 1] 3 false),
  some (.cells [.slice 15 0 2 (some 2) 1, .slice 16 0 2 (some 2) 1] 40 false),
  some (.map [(I 0, I 1), (I 1, I 1)] false),
  some (.map [(I 1, I 1)] false),
  some (.cells [.lit (.int .u64 0), .lit (.int .u64 8589934592), .lit (.int .u64 0), .lit (.int .u64 0), .lit (.int .u64 0), .lit (.int .u64 17179869184), .lit (.int .u64 0), .lit (.int .u64 0)] 30 false),
  some (.cells [.map 17, .map 18] 224 false),
  some (.cells [I 2, I 1] 3 false),
  some (.cells [I 0, I 0] 3 false),
  some (.map [(I 0, I 2), (I 1, I 1)] false),
  some (.map [] false)],
 .tuple [],
 [some (.cells [.ptr 1 0, .slice 2 0 2 none 1, .map 3, .ptr 20 0, .lit (.slice none 0 0), .map 4, .lit (.pointer none), .map 5] 125 false),
  some (.cells [.ptr 6 0, .slice 7 0 2 none 4, .slice 8 0 2 (some 2) 1, .slice 9 0 2 (some 2) 1, .slice 10 0 2 none 1] 146 false),
  some (.cells [I 0, I 1] 3 false),
  some (.map [(I 0, .slice 22 0 2 none 1)] false),
  some (.map [] false),
  some (.map [] false),
  some (.cells [I 0, .map 11, .map 12, .slice 13 0 2 none 4, .slice 14 0 2 none 1] 229 false),
  some (.cells [.lit (.int .u64 0), .lit (.int .u64 8589934592), .lit (.int .u64 0), .lit (.int .u64 0), .lit (.int .u64 0), .lit (.int .u64 17179869184), .lit (.int .u64 0), .lit (.int .u64 0)] 30 false),
  some (.cells [I 1, I 1] 3 false),
  some (.cells [I 0, I 1] 3 false),
  some (.cells [.slice 15 0 2 (some 2) 1, .slice 16 0 2 (some 2) 1] 40 false),
  some (.map [(I 0, I 1), (I 1, I 1)] false),
  some (.map [(I 1, I 1)] false),
  some (.cells [.lit (.int .u64 0), .lit (.int .u64 8589934592), .lit (.int .u64 0), .lit (.int .u64 0), .lit (.int .u64 0), .lit (.int .u64 17179869184), .lit (.int .u64 0), .lit (.int .u64 0)] 30 false),
  some (.cells [.map 17, .map 18] 224 false),
  some (.cells [I 2, I 1] 3 false),
  some (.cells [I 0, I 0] 3 false),
  some (.map [(I 0, I 2), (I 1, I 1)] false),
  some (.map [] false)],
 [some (.cells [.map 21, .lit (.map none)] 122 false),
  some (.cells [.slice 19 0 2 (some 2) 1] 176 false),
  some (.map [(I 0, .lit (.bool true)), (I 1, .lit (.bool true))] false),
  some (.cells [I 0, I 1] 3 false)]⟩
noncomputable def sm7 : Sm := ⟨65, [.ptr 0 0],
 [some (.cells [.ptr 1 0, .slice 2 0 2 none 1, .map 3, .ptr 4 0, .lit (.slice none 0 0), .map 5, .lit (.pointer none), .map 6] 125 false),
  some (.cells [.ptr 7 0, .slice 8 0 2 none 4, .slice 9 0 2 (some 2) 1, .slice 10 0 2 (some 2) 1, .slice 11 0 2 none 1] 146 false),
  some (.cells [I 0, I 1] 3 false),
  some (.map [(I 0, .slice 12 0 2 none 1)] false),
  some (.cells [.slice 13 0 2 (some 2) 1] 176 false),
  some (.map [] false),
  some (.map [] false),
  some (.cells [I 0, .map 14, .map 15, .slice 16 0 2 none 4, .slice 17 0 2 none 1] 229 false),
  some (.cells [.lit (.int .u64 0), .lit (.int .u64 8589934592), .lit (.int .u64 0), .lit (.int .u64 0), .lit (.int .u64 0), .lit (.int .u64 17179869184), .lit (.int .u64 0), .lit (.int .u64 0)] 30 false),
  some (.cells [I 1, I 1] 3 false),
  some (.cells [I 0, I 1] 3 false),
  some (.cells [.slice 18 0 2 (some 2) 1, .slice 19 0 2 (some 2) 1] 40 false),
  some (.cells [I 0, I 1] 3 false),
  some (.cells [.map 20, .lit (.map none)] 122 false),
  some (.map [(I 0, I 1), (I 1, I 1)] false),
  some (.map [(I 1, I 1)] false),
  some (.cells [.lit (.int .u64 0), .lit (.int .u64 8589934592), .lit (.int .u64 0), .lit (.int .u64 0), .lit (.int .u64 0), .lit (.int .u64 17179869184), .lit (.int .u64 0), .lit (.int .u64 0)] 30 false),
  some (.cells [.map 21, .map 22] 224 false),
  some (.cells [I 2, I 1] 3 false),
  some (.cells [I 0, I 0] 3 false),
  some (.map [(I 0, .lit (.bool true)), (I 1, .lit (.bool true))] false),
  some (.map [(I 0, I 2), (I 1, I 1)] false),
  some (.map [] false)],
 .tuple [],
 [some (.cells [.ptr 1 0, .slice 2 0 2 none 1, .map 3, .ptr 4 0, .slice 23 0 2 none 2, .map 5, .ptr 25 0, .map 6] 125 false),
  some (.cells [.ptr 7 0, .slice 8 0 2 none 4, .slice 9 0 2 (some 2) 1, .slice 10 0 2 (some 2) 1, .slice 11 0 2 none 1] 146 false),
  some (.cells [I 0, I 1] 3 false),
  some (.map [(I 0, .slice 12 0 2 none 1)] false),
  some (.cells [.slice 13 0 2 (some 2) 1] 176 false),
  some (.map [(.agg [I 0, I 0], I 0), (.agg [I 1, I 1], I 1)] false),
  some (.map [] false),
  some (.cells [I 0, .map 14, .map 15, .slice 16 0 2 none 4, .slice 17 0 2 none 1] 229 false),
  some (.cells [.lit (.int .u64 0), .lit (.int .u64 8589934592), .lit (.int .u64 0), .lit (.int .u64 0), .lit (.int .u64 0), .lit (.int .u64 17179869184), .lit (.int .u64 0), .lit (.int .u64 0)] 30 false),
  some (.cells [I 1, I 1] 3 false),
  some (.cells [I 0, I 1] 3 false),
  some (.cells [.slice 18 0 2 (some 2) 1, .slice 19 0 2 (some 2) 1] 40 false),
  some (.cells [I 0, I 1] 3 false),
  some (.cells [.map 20, .lit (.map none)] 122 false),
  some (.map [(I 0, I 1), (I 1, I 1)] false),
  some (.map [(I 1, I 1)] false),
  some (.cells [.lit (.int .u64 0), .lit (.int .u64 8589934592), .lit (.int .u64 0), .lit (.int .u64 0), .lit (.int .u64 0), .lit (.int .u64 17179869184), .lit (.int .u64 0), .lit (.int .u64 0)] 30 false),
  some (.cells [.map 21, .map 22] 224 false),
  some (.cells [I 2, I 1] 3 false),
  some (.cells [I 0, I 0] 3 false),
  some (.map [(I 0, .lit (.bool true)), (I 1, .lit (.bool true))] false),
  some (.map [(I 0, I 2), (I 1, I 1)] false),
  some (.map [] false)],
 [some (.cells [I 0, I 0, I 1, I 1] 196 false),
  some (.cells [.map 26, .lit (.map none)] 122 false),
  some (.cells [.slice 24 0 2 (some 2) 1] 176 false),
  some (.map [(I 0, .lit (.bool true)), (I 1, .lit (.bool true))] false)]⟩
noncomputable def sm8 : Sm := ⟨24, [.ptr 0 0],
 [some (.cells [.ptr 1 0, .slice 2 0 2 none 4, .slice 3 0 2 (some 2) 1, .slice 4 0 2 (some 2) 1, .slice 5 0 2 none 1] 146 false),
  some (.cells [I 0, .map 6, .map 7, .slice 8 0 2 none 4, .slice 9 0 2 none 1] 229 false),
  some (.cells [.lit (.int .u64 0), .lit (.int .u64 8589934592), .lit (.int .u64 0), .lit (.int .u64 0), .lit (.int .u64 0), .lit (.int .u64 17179869184), .lit (.int .u64 0), .lit (.int .u64 0)] 30 false),
  some (.cells [I 1, I 1] 3 false),
  some (.cells [I 0, I 1] 3 false),
  some (.cells [.slice 10 0 2 (some 2) 1, .slice 11 0 2 (some 2) 1] 40 false),
  some (.map [(I 0, I 1), (I 1, I 1)] false),
  some (.map [(I 1, I 1)] false),
  some (.cells [.lit (.int .u64 0), .lit (.int .u64 8589934592), .lit (.int .u64 0), .lit (.int .u64 0), .lit (.int .u64 0), .lit (.int .u64 17179869184), .lit (.int .u64 0), .lit (.int .u64 0)] 30 false),
  some (.cells [.map 12, .map 13] 224 false),
  some (.cells [I 2, I 1] 3 false),
  some (.cells [I 0, I 0] 3 false),
  some (.map [(I 0, I 2), (I 1, I 1)] false),
  some (.map [] false)],
 .tuple [.ptr 18 0, I 0],
 [some (.cells [.ptr 1 0, .slice 2 0 2 none 4, .slice 3 0 2 (some 2) 1, .slice 4 0 2 (some 2) 1, .slice 5 0 2 none 1] 146 false),
  some (.cells [I 0, .map 6, .map 7, .slice 8 0 2 none 4, .slice 9 0 2 none 1] 229 false),
  some (.cells [.lit (.int .u64 0), .lit (.int .u64 8589934592), .lit (.int .u64 0), .lit (.int .u64 0), .lit (.int .u64 0), .lit (.int .u64 17179869184), .lit (.int .u64 0), .lit (.int .u64 0)] 30 false),
  some (.cells [I 1, I 1] 3 false),
  some (.cells [I 0, I 1] 3 false),
  some (.cells [.slice 10 0 2 (some 2) 1, .slice 11 0 2 (some 2) 1] 40 false),
  some (.map [(I 0, I 1), (I 1, I 1)] false),
  some (.map [(I 1, I 1)] false),
  some (.cells [.lit (.int .u64 0), .lit (.int .u64 8589934592), .lit (.int .u64 0), .lit (.int .u64 0), .lit (.int .u64 0), .lit (.int .u64 17179869184), .lit (.int .u64 0), .lit (.int .u64 0)] 30 false),
  some (.cells [.map 12, .map 13] 224 false),
  some (.cells [I 2, I 1] 3 false),
  some (.cells [I 0, I 0] 3 false),
  some (.map [(I 0, I 2), (I 1, I 1)] false),
  some (.map [] false)],
 [some (.cells [I 0, I 1] 3 false),
  some (.map [(I 0, .slice 22 0 2 none 1)] false),
  some (.map [(.agg [I 0, I 0], I 0), (.agg [I 1, I 1], I 1)] false),
  some (.map [(I 0, .lit (.bool true))] false),
  some (.cells [.ptr 0 0, .slice 14 0 2 none 1, .map 15, .ptr 20 0, .slice 23 0 2 none 2, .map 16, .ptr 25 0, .map 17] 125 false),
  some (.cells [.map 21, .lit (.map none)] 122 false),
  some (.cells [.slice 19 0 2 (some 2) 1] 176 false),
  some (.map [(I 0, .lit (.bool true)), (I 1, .lit (.bool true))] false),
  some (.cells [I 0, I 1] 3 false),
  some (.cells [I 0, I 0, I 1, I 1] 196 false),
  some (.cells [.map 26, .lit (.map none)] 122 false),
  some (.cells [.slice 24 0 2 (some 2) 1] 176 false),
  some (.map [(I 0, .lit (.bool true)), (I 1, .lit (.bool true))] false)]⟩
noncomputable def sm9 : Sm := ⟨32, [.ptr 0 0],
 [some (.cells [.ptr 1 0, .slice 2 0 2 none 4, .slice 3 0 2 (some 2) 1, .slice 4 0 2 (some 2) 1, .slice 5 0 2 none 1] 146 false),
  some (.cells [I 0, .map 6, .map 7, .slice 8 0 2 none 4, .slice 9 0 2 none 1] 229 false),
  some (.cells [.lit (.int .u64 0), .lit (.int .u64 8589934592), .lit (.int .u64 0), .lit (.int .u64 0), .lit (.int .u64 0), .lit (.int .u64 17179869184), .lit (.int .u64 0), .lit (.int .u64 0)] 30 false),
  some (.cells [I 1, I 1] 3 false),
  some (.cells [I 0, I 1] 3 false),
  some (.cells [.slice 10 0 2 (some 2) 1, .slice 11 0 2 (some 2) 1] 40 false),
  some (.map [(I 0, I 1), (I 1, I 1)] false),
  some (.map [(I 1, I 1)] false),
  some (.cells [.lit (.int .u64 0), .lit (.int .u64 8589934592), .lit (.int .u64 0), .lit (.int .u64 0), .lit (.int .u64 0), .lit (.int .u64 17179869184), .lit (.int .u64 0), .lit (.int .u64 0)] 30 false),
  some (.cells [.map 12, .map 13] 224 false),
  some (.cells [I 2, I 1] 3 false),
  some (.cells [I 0, I 0] 3 false),
  some (.map [(I 0, I 2), (I 1, I 1)] false),
  some (.map [] false)],
 .tuple [.ptr 14 0, I 0],
 [some (.cells [.ptr 1 0, .slice 2 0 2 none 4, .slice 3 0 2 (some 2) 1, .slice 4 0 2 (some 2) 1, .slice 5 0 2 none 1] 146 false),
  some (.cells [I 0, .map 6, .map 7, .slice 8 0 2 none 4, .slice 9 0 2 none 1] 229 false),
  some (.cells [.lit (.int .u64 0), .lit (.int .u64 8589934592), .lit (.int .u64 0), .lit (.int .u64 0), .lit (.int .u64 0), .lit (.int .u64 17179869184), .lit (.int .u64 0), .lit (.int .u64 0)] 30 false),
  some (.cells [I 1, I 1] 3 false),
  some (.cells [I 0, I 1] 3 false),
  some (.cells [.slice 10 0 2 (some 2) 1, .slice 11 0 2 (some 2) 1] 40 false),
  some (.map [(I 0, I 1), (I 1, I 1)] false),
  some (.map [(I 1, I 1)] false),
  some (.cells [.lit (.int .u64 0), .lit (.int .u64 8589934592), .lit (.int .u64 0), .lit (.int .u64 0), .lit (.int .u64 0), .lit (.int .u64 17179869184), .lit (.int .u64 0), .lit (.int .u64 0)] 30 false),
  some (.cells [.map 12, .map 13] 224 false),
  some (.cells [I 2, I 1] 3 false),
  some (.cells [I 0, I 0] 3 false),
  some (.map [(I 0, I 2), (I 1, I 1)] false),
  some (.map [] false)],
 [some (.cells [I 2, I 0, .lit (.pointer none)] 127 false)]⟩
noncomputable def sm10 : Sm := ⟨139, [.ptr 0 0, I 0],
 [some (.cells [.ptr 1 0, .slice 2 0 2 none 1, .map 3, .ptr 4 0, .slice 5 0 2 none 2, .map 6, .ptr 7 0, .map 8] 125 false),
  some (.cells [.ptr 9 0, .slice 10 0 2 none 4, .slice 11 0 2 (some 2) 1, .slice 12 0 2 (some 2) 1, .slice 13 0 2 none 1] 146 false),
  some (.cells [I 0, I 1] 3 false),
  some (.map [(I 0, .slice 14 0 2 none 1)] false),
  some (.cells [.slice 15 0 2 (some 2) 1] 176 false),
  some (.cells [I 0, I 0, I 1, I 1] 196 false),
  some (.map [(.agg [I 0, I 0], I 0), (.agg [I 1, I 1], I 1)] false),
  some (.cells [.slice 16 0 2 (some 2) 1] 176 false),
  some (.map [(I 0, .lit (.bool true))] false),
  some (.cells [I 0, .map 17, .map 18, .slice 19 0 2 none 4, .slice 20 0 2 none 1] 229 false),
  some (.cells [.lit (.int .u64 0), .lit (.int .u64 8589934592), .lit (.int .u64 0), .lit (.int .u64 0), .lit (.int .u64 0), .lit (.int .u64 17179869184), .lit (.int .u64 0), .lit (.int .u64 0)] 30 false),
  some (.cells [I 1, I 1] 3 false),
  some (.cells [I 0, I 1] 3 false),
  some (.cells [.slice 21 0 2 (some 2) 1, .slice 22 0 2 (some 2) 1] 40 false),
  some (.cells [I 0, I 1] 3 false),
  some (.cells [.map 23, .lit (.map none)] 122 false),
  some (.cells [.map 24, .lit (.map none)] 122 false),
  some (.map [(I 0, I 1), (I 1, I 1)] false),
  some (.map [(I 1, I 1)] false),
  some (.cells [.lit (.int .u64 0), .lit (.int .u64 8589934592), .lit (.int .u64 0), .lit (.int .u64 0), .lit (.int .u64 0), .lit (.int .u64 17179869184), .lit (.int .u64 0), .lit (.int .u64 0)] 30 false),
  some (.cells [.map 25, .map 26] 224 false),
  some (.cells [I 2, I 1] 3 false),
  some (.cells [I 0, I 0] 3 false),
  some (.map [(I 0, .lit (.bool true)), (I 1, .lit (.bool true))] false),
  some (.map [(I 0, .lit (.bool true)), (I 1, .lit (.bool true))] false),
  some (.map [(I 0, I 2), (I 1, I 1)] false),
  some (.map [] false)],
 .tuple [.lit (.string ⟨#[97]⟩), .lit (.bool true)],
 [some (.cells [.ptr 1 0, .slice 2 0 2 none 1, .map 3, .ptr 4 0, .slice 5 0 2 none 2, .map 6, .ptr 7 0, .map 8] 125 false),
  some (.cells [.ptr 9 0, .slice 10 0 2 none 4, .slice 11 0 2 (some 2) 1, .slice 12 0 2 (some 2) 1, .slice 13 0 2 none 1] 146 false),
  some (.cells [I 0, I 1] 3 false),
  some (.map [(I 0, .slice 14 0 2 none 1)] false),
  some (.cells [.slice 15 0 2 (some 2) 1] 176 false),
  some (.cells [I 0, I 0, I 1, I 1] 196 false),
  some (.map [(.agg [I 0, I 0], I 0), (.agg [I 1, I 1], I 1)] false),
  some (.cells [.slice 16 0 2 (some 2) 1] 176 false),
  some (.map [(I 0, .lit (.bool true))] false),
  some (.cells [I 0, .map 17, .map 18, .slice 19 0 2 none 4, .slice 20 0 2 none 1] 229 false),
  some (.cells [.lit (.int .u64 0), .lit (.int .u64 8589934592), .lit (.int .u64 0), .lit (.int .u64 0), .lit (.int .u64 0), .lit (.int .u64 17179869184), .lit (.int .u64 0), .lit (.int .u64 0)] 30 false),
  some (.cells [I 1, I 1] 3 false),
  some (.cells [I 0, I 1] 3 false),
  some (.cells [.slice 21 0 2 (some 2) 1, .slice 22 0 2 (some 2) 1] 40 false),
  some (.cells [I 0, I 1] 3 false),
  some (.cells [.map 23, .lit (.map none)] 122 false),
  some (.cells [.map 24, .lit (.map none)] 122 false),
  some (.map [(I 0, I 1), (I 1, I 1)] false),
  some (.map [(I 1, I 1)] false),
  some (.cells [.lit (.int .u64 0), .lit (.int .u64 8589934592), .lit (.int .u64 0), .lit (.int .u64 0), .lit (.int .u64 0), .lit (.int .u64 17179869184), .lit (.int .u64 0), .lit (.int .u64 0)] 30 false),
  some (.cells [.map 25, .map 26] 224 false),
  some (.cells [I 2, I 1] 3 false),
  some (.cells [I 0, I 0] 3 false),
  some (.map [(I 0, .lit (.bool true)), (I 1, .lit (.bool true))] false),
  some (.map [(I 0, .lit (.bool true)), (I 1, .lit (.bool true))] false),
  some (.map [(I 0, I 2), (I 1, I 1)] false),
  some (.map [] false)],
 []⟩
noncomputable def sm11 : Sm := ⟨79, [.ptr 0 0],
 [some (.cells [.ptr 1 0, .slice 2 0 2 none 1, .map 3, .ptr 4 0, .slice 5 0 2 none 2, .map 6, .ptr 7 0, .map 8] 125 false),
  some (.cells [.ptr 9 0, .slice 10 0 2 none 4, .slice 11 0 2 (some 2) 1, .slice 12 0 2 (some 2) 1, .slice 13 0 2 none 1] 146 false),
  some (.cells [I 0, I 1] 3 false),
  some (.map [(I 0, .slice 14 0 2 none 1)] false),
  some (.cells [.slice 15 0 2 (some 2) 1] 176 false),
  some (.cells [I 0, I 0, I 1, I 1] 196 false),
  some (.map [(.agg [I 0, I 0], I 0), (.agg [I 1, I 1], I 1)] false),
  some (.cells [.slice 16 0 2 (some 2) 1] 176 false),
  some (.map [(I 0, .lit (.bool true))] false),
  some (.cells [I 0, .map 17, .map 18, .slice 19 0 2 none 4, .slice 20 0 2 none 1] 229 false),
  some (.cells [.lit (.int .u64 0), .lit (.int .u64 8589934592), .lit (.int .u64 0), .lit (.int .u64 0), .lit (.int .u64 0), .lit (.int .u64 17179869184), .lit (.int .u64 0), .lit (.int .u64 0)] 30 false),
  some (.cells [I 1, I 1] 3 false),
  some (.cells [I 0, I 1] 3 false),
  some (.cells [.slice 21 0 2 (some 2) 1, .slice 22 0 2 (some 2) 1] 40 false),
  some (.cells [I 0, I 1] 3 false),
  some (.cells [.map 23, .lit (.map none)] 122 false),
  some (.cells [.map 24, .lit (.map none)] 122 false),
  some (.map [(I 0, I 1), (I 1, I 1)] false),
  some (.map [(I 1, I 1)] false),
  some (.cells [.lit (.int .u64 0), .lit (.int .u64 8589934592), .lit (.int .u64 0), .lit (.int .u64 0), .lit (.int .u64 0), .lit (.int .u64 17179869184), .lit (.int .u64 0), .lit (.int .u64 0)] 30 false),
  some (.cells [.map 25, .map 26] 224 false),
  some (.cells [I 2, I 1] 3 false),
  some (.cells [I 0, I 0] 3 false),
  some (.map [(I 0, .lit (.bool true)), (I 1, .lit (.bool true))] false),
  some (.map [(I 0, .lit (.bool true)), (I 1, .lit (.bool true))] false),
  some (.map [(I 0, I 2), (I 1, I 1)] false),
  some (.map [] false)],
 .agg [I 2, .lit (.string ⟨#[97]⟩), .lit (.string ⟨#[97]⟩), I 0, I 0],
 [some (.cells [.ptr 1 0, .slice 2 0 2 none 1, .map 3, .ptr 4 0, .slice 5 0 2 none 2, .map 6, .ptr 7 0, .map 8] 125 false),
  some (.cells [.ptr 9 0, .slice 10 0 2 none 4, .slice 11 0 2 (some 2) 1, .slice 12 0 2 (some 2) 1, .slice 13 0 2 none 1] 146 false),
  some (.cells [I 0, I 1] 3 false),
  some (.map [(I 0, .slice 14 0 2 none 1)] false),
  some (.cells [.slice 15 0 2 (some 2) 1] 176 false),
  some (.cells [I 0, I 0, I 1, I 1] 196 false),
  some (.map [(.agg [I 0, I 0], I 0), (.agg [I 1, I 1], I 1)] false),
  some (.cells [.slice 16 0 2 (some 2) 1] 176 false),
  some (.map [(I 0, .lit (.bool true))] false),
  some (.cells [I 0, .map 17, .map 18, .slice 19 0 2 none 4, .slice 20 0 2 none 1] 229 false),
  some (.cells [.lit (.int .u64 0), .lit (.int .u64 8589934592), .lit (.int .u64 0), .lit (.int .u64 0), .lit (.int .u64 0), .lit (.int .u64 17179869184), .lit (.int .u64 0), .lit (.int .u64 0)] 30 false),
  some (.cells [I 1, I 1] 3 false),
  some (.cells [I 0, I 1] 3 false),
  some (.cells [.slice 21 0 2 (some 2) 1, .slice 22 0 2 (some 2) 1] 40 false),
  some (.cells [I 0, I 1] 3 false),
  some (.cells [.map 23, .lit (.map none)] 122 false),
  some (.cells [.map 24, .lit (.map none)] 122 false),
  some (.map [(I 0, I 1), (I 1, I 1)] false),
  some (.map [(I 1, I 1)] false),
  some (.cells [.lit (.int .u64 0), .lit (.int .u64 8589934592), .lit (.int .u64 0), .lit (.int .u64 0), .lit (.int .u64 0), .lit (.int .u64 17179869184), .lit (.int .u64 0), .lit (.int .u64 0)] 30 false),
  some (.cells [.map 25, .map 26] 224 false),
  some (.cells [I 2, I 1] 3 false),
  some (.cells [I 0, I 0] 3 false),
  some (.map [(I 0, .lit (.bool true)), (I 1, .lit (.bool true))] false),
  some (.map [(I 0, .lit (.bool true)), (I 1, .lit (.bool true))] false),
  some (.map [(I 0, I 2), (I 1, I 1)] false),
  some (.map [] false)],
 []⟩
noncomputable def sm12 : Sm := ⟨42, [.ptr 0 0],
 [some (.cells [.ptr 1 0, .slice 2 0 2 none 4, .slice 3 0 2 (some 2) 1, .slice 4 0 2 (some 2) 1, .slice 5 0 2 none 1] 146 false),
  some (.cells [I 0, .map 6, .map 7, .slice 8 0 2 none 4, .slice 9 0 2 none 1] 229 false),
  some (.cells [.lit (.int .u64 0), .lit (.int .u64 8589934592), .lit (.int .u64 0), .lit (.int .u64 0), .lit (.int .u64 0), .lit (.int .u64 17179869184), .lit (.int .u64 0), .lit (.int .u64 0)] 30 false),
  some (.cells [I 1, I 1] 3 false),
  some (.cells [I 0, I 1] 3 false),
  some (.cells [.slice 10 0 2 (some 2) 1, .slice 11 0 2 (some 2) 1] 40 false),
  some (.map [(I 0, I 1), (I 1, I 1)] false),
  some (.map [(I 1, I 1)] false),
  some (.cells [.lit (.int .u64 0), .lit (.int .u64 8589934592), .lit (.int .u64 0), .lit (.int .u64 0), .lit (.int .u64 0), .lit (.int .u64 17179869184), .lit (.int .u64 0), .lit (.int .u64 0)] 30 false),
  some (.cells [.map 12, .map 13] 224 false),
  some (.cells [I 2, I 1] 3 false),
  some (.cells [I 0, I 0] 3 false),
  some (.map [(I 0, I 2), (I 1, I 1)] false),
  some (.map [] false)],
 .tuple [.agg [I 2, .lit (.string ⟨#[97]⟩), .lit (.string ⟨#[97]⟩), I 0, I 0], I 0],
 [some (.cells [.ptr 1 0, .slice 2 0 2 none 4, .slice 3 0 2 (some 2) 1, .slice 4 0 2 (some 2) 1, .slice 5 0 2 none 1] 146 false),
  some (.cells [I 0, .map 6, .map 7, .slice 8 0 2 none 4, .slice 9 0 2 none 1] 229 false),
  some (.cells [.lit (.int .u64 0), .lit (.int .u64 8589934592), .lit (.int .u64 0), .lit (.int .u64 0), .lit (.int .u64 0), .lit (.int .u64 17179869184), .lit (.int .u64 0), .lit (.int .u64 0)] 30 false),
  some (.cells [I 1, I 1] 3 false),
  some (.cells [I 0, I 1] 3 false),
  some (.cells [.slice 10 0 2 (some 2) 1, .slice 11 0 2 (some 2) 1] 40 false),
  some (.map [(I 0, I 1), (I 1, I 1)] false),
  some (.map [(I 1, I 1)] false),
  some (.cells [.lit (.int .u64 0), .lit (.int .u64 8589934592), .lit (.int .u64 0), .lit (.int .u64 0), .lit (.int .u64 0), .lit (.int .u64 17179869184), .lit (.int .u64 0), .lit (.int .u64 0)] 30 false),
  some (.cells [.map 12, .map 13] 224 false),
  some (.cells [I 2, I 1] 3 false),
  some (.cells [I 0, I 0] 3 false),
  some (.map [(I 0, I 2), (I 1, I 1)] false),
  some (.map [] false)],
 []⟩
noncomputable def sm13 : Sm := ⟨38, [],
 [],
 .lit (.bool true),
 [],
 []⟩
end Seat
end CI
/- CI: told runs of calls. Printed by wip/tools/stages.py. -/
set_option linter.unusedVariables false
set_option maxRecDepth 100000
namespace CI
open Go Go.Proofs
namespace Seat
theorem sm0_run : smCheck sm0 [] (callF cx0 4000 sm0.k sm0.args sm0.heap sm0.n0) = true := by kernel_rfl
theorem sm1_run : smCheck sm1 [] (callF (cxTab cx0 [24] [sm0]) 4000 sm1.k sm1.args sm1.heap sm1.n0) = true := by kernel_rfl
theorem sm2_run : smCheck sm2 [] (callF (cxTab cx0 [32] [sm1]) 4000 sm2.k sm2.args sm2.heap sm2.n0) = true := by kernel_rfl
theorem sm3_run : smCheck sm3 [128, 131, 138, 143, 146] (callF cx0 4000 sm3.k sm3.args sm3.heap sm3.n0) = true := by kernel_rfl
end Seat
end CI
/- CI: told runs of calls. Printed by wip/tools/stages.py. -/
set_option linter.unusedVariables false
set_option maxRecDepth 100000
namespace CI
open Go Go.Proofs
namespace Seat
theorem sm4_run : smCheck sm4 [8, 17, 37, 38, 40, 51, 58, 62, 64, 66, 70, 76, 77, 80] (callF cx0 4000 sm4.k sm4.args sm4.heap sm4.n0) = true := by kernel_rfl
theorem sm5_run : smCheck sm5 [5, 6, 7, 8, 9, 10, 11, 12, 13, 14, 15, 16, 17, 18] (callF (cxTab cx0 [48, 62] [sm3, sm4]) 4000 sm5.k sm5.args sm5.heap sm5.n0) = true := by kernel_rfl
theorem sm6_run : smCheck sm6 [19, 20, 27, 31] (callF cx0 4000 sm6.k sm6.args sm6.heap sm6.n0) = true := by kernel_rfl
theorem sm7_run : smCheck sm7 [28, 85, 86, 88] (callF cx0 4000 sm7.k sm7.args sm7.heap sm7.n0) = true := by kernel_rfl
end Seat
end CI
/- CI: told runs of calls. Printed by wip/tools/stages.py. -/
set_option linter.unusedVariables false
set_option maxRecDepth 100000
namespace CI
open Go Go.Proofs
namespace Seat
theorem sm8_run : smCheck sm8 [29, 38, 39, 40, 41, 42, 43, 44, 45, 46, 47, 48, 49] (callF (cxTab cx0 [64, 65] [sm6, sm7]) 4000 sm8.k sm8.args sm8.heap sm8.n0) = true := by kernel_rfl
theorem sm9_run : smCheck sm9 [31] (callF (cxTab cx0 [24] [sm8]) 4000 sm9.k sm9.args sm9.heap sm9.n0) = true := by kernel_rfl
theorem sm10_run : smCheck sm10 [] (callF cx0 4000 sm10.k sm10.args sm10.heap sm10.n0) = true := by kernel_rfl
theorem sm11_run : smCheck sm11 [] (callF (cxTab cx0 [139] [sm10]) 4000 sm11.k sm11.args sm11.heap sm11.n0) = true := by kernel_rfl
end Seat
end CI
/- CI: told runs of calls. Printed by wip/tools/stages.py. -/
set_option linter.unusedVariables false
set_option maxRecDepth 100000
namespace CI
open Go Go.Proofs
namespace Seat
theorem sm12_run : smCheck sm12 [] (callF (cxTab cx0 [24, 32, 79] [sm8, sm9, sm11]) 4000 sm12.k sm12.args sm12.heap sm12.n0) = true := by kernel_rfl
theorem sm13_run : smCheck sm13 [] (callF (cxTab cx0 [23, 42] [sm5, sm12]) 4000 sm13.k sm13.args sm13.heap sm13.n0) = true := by kernel_rfl
end Seat
end CI
/- CI: told runs of calls. Printed by wip/tools/stages.py. -/
set_option linter.unusedVariables false
set_option maxRecDepth 100000
namespace CI
open Go Go.Proofs
namespace Seat
theorem sm0_ok : CallOK cx0 (smCall sm0) := sm_ok sound0 sm0_run rfl
theorem sm1_ok : CallOK cx0 (smCall sm1) := sm_ok (cxTab_sound sound0 (tab_cons sm0_ok tab_nil)) sm1_run rfl
theorem sm2_ok : CallOK cx0 (smCall sm2) := sm_ok (cxTab_sound sound0 (tab_cons sm1_ok tab_nil)) sm2_run rfl
theorem sm3_ok : CallOK cx0 (smCall sm3) := sm_ok sound0 sm3_run rfl
theorem sm4_ok : CallOK cx0 (smCall sm4) := sm_ok sound0 sm4_run rfl
theorem sm5_ok : CallOK cx0 (smCall sm5) := sm_ok (cxTab_sound sound0 (tab_cons sm3_ok (tab_cons sm4_ok tab_nil))) sm5_run rfl
theorem sm6_ok : CallOK cx0 (smCall sm6) := sm_ok sound0 sm6_run rfl
theorem sm7_ok : CallOK cx0 (smCall sm7) := sm_ok sound0 sm7_run rfl
theorem sm8_ok : CallOK cx0 (smCall sm8) := sm_ok (cxTab_sound sound0 (tab_cons sm6_ok (tab_cons sm7_ok tab_nil))) sm8_run rfl
theorem sm9_ok : CallOK cx0 (smCall sm9) := sm_ok (cxTab_sound sound0 (tab_cons sm8_ok tab_nil)) sm9_run rfl
theorem sm10_ok : CallOK cx0 (smCall sm10) := sm_ok sound0 sm10_run rfl
theorem sm11_ok : CallOK cx0 (smCall sm11) := sm_ok (cxTab_sound sound0 (tab_cons sm10_ok tab_nil)) sm11_run rfl
theorem sm12_ok : CallOK cx0 (smCall sm12) := sm_ok (cxTab_sound sound0 (tab_cons sm8_ok (tab_cons sm9_ok (tab_cons sm11_ok tab_nil)))) sm12_run rfl
theorem sm13_ok : CallOK cx0 (smCall sm13) := sm_ok (cxTab_sound sound0 (tab_cons sm5_ok (tab_cons sm12_ok tab_nil))) sm13_run rfl
noncomputable def cxT : Cx := (cxTab cx0 [38, 42] [sm2, sm13])
theorem soundT : cxT.Sound := (cxTab_sound sound0 (tab_cons sm2_ok (tab_cons sm13_ok tab_nil)))
end Seat
end CI
/- PumpWords: the context in which the law is walked: the document's example is answered at once. -/
set_option linter.unusedVariables false
set_option maxRecDepth 100000
namespace CI
open Go Go.Proofs
namespace Seat
theorem awake38 : (callN cxT 4000 38 [] .nil 0).map (·.1) = some (.lit (.bool true)) := by rw [← callF_eq]; kernel_rfl
noncomputable def sums : Tr Value := (Tr.nil).put 38 (some (.bool true))
theorem sums_ok : ∀ f u, sums.get f = some u → ∃ n H' nx', callN cxT n f [] .nil 0 = some (.lit u, H', nx') := fun f u h => by
  simp only [sums, Tr.get_put, Tr.get_nil] at h
  split at h
  · rename_i hf; subst hf; injection h with h; subst h
    have := awake38
    simp only [Option.map_eq_some_iff] at this
    obtain ⟨⟨v, H', nx'⟩, h1, h2⟩ := this
    simp only at h2; subst h2
    exact ⟨4000, H', nx', h1⟩
  · cases h
noncomputable def cx : Cx := ⟨Tryz.prog, types, funcs, extX4 Tryz.prog exts sums idents cons, fun _ _ _ _ => none, fun _ _ _ _ => none⟩
theorem sound : cx.Sound where
  types := types_ok
  funs := fun k fn h => ⟨funcs_ok k fn h, fnOK_name (codes_ok k fn h)⟩
  exts := fun f args v h σ w xs hg hv => extX4_ok soundT exts_ok sums_ok idents_ok cons_ok h σ w xs hg hv
  mixed := mixed
  zs := fun k args H nx v H' nx' h => by cases h
  ys := fun k args H nx v H' nx' h => by cases h
  codes := fun k fn c h hb => fnOK_code (codes_ok k fn h) hb
end Seat
end CI
