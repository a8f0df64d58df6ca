/- What the seat's context answers at once. -/
import Derived.Test.YtlejcpkedahphaaCiz
import Derived.Test.YtlejcpkedahphaaCj
set_option linter.unusedVariables false
set_option linter.unusedSimpArgs false
namespace CI
open Go
namespace Seat
theorem x_none (k : Nat) (h : (k == 38) = false) (h53 : (k == 53) = false) (h46 : (k == 46) = false) (h9 : (k == 9) = false) (h21 : (k == 21) = false) (args : List AV) : cx.X k args = none := by
  show extX3 Go.Proofs.Try.prog exts sums idents k args = none
  have e1 : exts.get k = none := by simp only [exts, Tr.get_put, if_neg (show k ≠ 38 by simpa using h), if_neg (show k ≠ 53 by simpa using h53), Tr.get_nil]
  have e2 : sums.get k = none := by simp only [sums, Tr.get_put, if_neg (show k ≠ 9 by simpa using h9), if_neg (show k ≠ 21 by simpa using h21), Tr.get_nil]
  have e3 : idents.get k = none := by simp only [idents, Tr.get_put, if_neg (show k ≠ 46 by simpa using h46), Tr.get_nil]
  simp [extX3, extX2, extX, e1, e2, e3]
theorem x_awake : cx.X 9 [] = some (.lit (.bool true)) := by kernel_rfl
theorem x_awake2 : cx.X 21 [] = some (.lit (.bool true)) := by kernel_rfl
end Seat
end CI
