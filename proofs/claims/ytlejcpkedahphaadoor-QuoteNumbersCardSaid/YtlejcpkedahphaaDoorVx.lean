/- What the seat's context answers at once. -/
import Derived.Test.YtlejcpkedahphaaDoorCiz
import Derived.Test.YtlejcpkedahphaaDoorCj
import Derived.Lib.ItoaNum
set_option linter.unusedVariables false
set_option linter.unusedSimpArgs false
namespace CI
open Go
namespace Seat
theorem x_none (k : Nat) (h61 : (k == 61) = false) (h72 : (k == 72) = false) (h47 : (k == 47) = false) (h44 : (k == 44) = false) (h5 : (k == 5) = false) (h15 : (k == 15) = false) (args : List AV) : cx.X k args = none := by
  show extX4 Go.Proofs.Tryd.prog exts sums idents cons k args = none
  have e1 : exts.get k = none := by simp only [exts, Tr.get_put, if_neg (show k ≠ 61 by simpa using h61), if_neg (show k ≠ 72 by simpa using h72), if_neg (show k ≠ 47 by simpa using h47), Tr.get_nil]
  have e2 : sums.get k = none := by simp only [sums, Tr.get_put, if_neg (show k ≠ 5 by simpa using h5), Tr.get_nil]
  have e3 : idents.get k = none := by simp only [idents, Tr.get_put, if_neg (show k ≠ 44 by simpa using h44), Tr.get_nil]
  have e4 : cons.get k = none := by simp only [cons, Tr.get_put, if_neg (show k ≠ 15 by simpa using h15), Tr.get_nil]
  simp [extX4, extX3, extX2, extX, e1, e2, e3, e4]
theorem x15 (n : Int) (h : -9223372036854775808 ≤ n ∧ n ≤ 9223372036854775807) : cx.X 15 [.lit (.int .i64 n)] = some (.lit (.string ⟨(Lib.itoa n).toArray⟩)) := by
  have h0 : cx.X 15 [.lit (.int .i64 n)] = (itoaC [.int .i64 n]).map abs := by kernel_rfl
  rw [h0]
  unfold itoaC
  simp only
  rw [if_pos h]
  rfl
theorem x_awake : cx.X 5 [] = some (.lit (.bool true)) := by kernel_rfl
end Seat
end CI
