/- CI: what the listed package-level variables hold. Printed by wip/tools/gen_gl.py. -/
import Derived.Calls
set_option linter.unusedVariables false
noncomputable section
namespace CI
open Go
def gl3 : List Value := [.int .u64 1, .int .u64 10, .int .u64 100, .int .u64 1000, .int .u64 10000, .int .u64 100000, .int .u64 1000000, .int .u64 10000000, .int .u64 100000000, .int .u64 1000000000, .int .u64 10000000000, .int .u64 100000000000, .int .u64 1000000000000, .int .u64 10000000000000, .int .u64 100000000000000, .int .u64 1000000000000000, .int .u64 10000000000000000, .int .u64 100000000000000000, .int .u64 1000000000000000000, .int .u64 10000000000000000000]
def GC (g : Nat) : Option (List Value) := if g = 3 then some gl3 else none
def GI (g : Nat) : Bool := g == 0 || g == 1
def GL (g : Nat) : Option (List Value → Prop) := match GC g with
  | some cs => some fun x => x = cs
  | none => match GI g with
    | true => some fun x => ∃ t p, x = [.iface t p]
    | false => none
theorem GL_of {g : Nat} {cs : List Value} (h : GC g = some cs) : GL g = some fun x => x = cs := by
  unfold GL
  rw [h]
theorem GL_if {g : Nat} (h : GC g = none) (hi : GI g = true) : GL g = some fun x => ∃ t p, x = [.iface t p] := by
  unfold GL
  rw [h, hi]
end CI

