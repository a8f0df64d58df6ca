/- What the seat's context answers at once. -/
import Derived.Test.YtlejcpkedahphaaDoorCiz
import Derived.Test.YtlejcpkedahphaaDoorCj
import Derived.Lib.Bytealg
set_option linter.unusedVariables false
set_option linter.unusedSimpArgs false
namespace CI
open Go
namespace Seat
theorem x_none (k : Nat) (h61 : (k == 61) = false) (h72 : (k == 72) = false) (h47 : (k == 47) = false) (h44 : (k == 44) = false) (h5 : (k == 5) = false) (args : List AV) : cx.X k args = none := by
  show extX3 Go.Proofs.Tryd.prog exts sums idents k args = none
  have e1 : exts.get k = none := by simp only [exts, Tr.get_put, if_neg (show k ≠ 61 by simpa using h61), if_neg (show k ≠ 72 by simpa using h72), if_neg (show k ≠ 47 by simpa using h47), Tr.get_nil]
  have e2 : sums.get k = none := by simp only [sums, Tr.get_put, if_neg (show k ≠ 5 by simpa using h5), Tr.get_nil]
  have e3 : idents.get k = none := by simp only [idents, Tr.get_put, if_neg (show k ≠ 44 by simpa using h44), Tr.get_nil]
  simp [extX3, extX2, extX, e1, e2, e3]
theorem x_awake : cx.X 5 [] = some (.lit (.bool true)) := by kernel_rfl
end Seat
end CI
