/- CI: what the listed package-level variables hold (this seat lists none). -/
import Derived.Calls
noncomputable section
namespace CI
open Go
def GL (g : Nat) : Option (List Value) := none
end CI
