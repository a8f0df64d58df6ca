/- What the form of every claim asks of the program, reckoned piece by piece (4). -/
import Derived.Test.YtanfejbkoheblaaGreatDoorRows
import Derived.Test.YtanfejbkoheblaaGreatDoorChecked
import Derived.KernelRfl
import Derived.SevenTiedAt
set_option linter.unusedVariables false
namespace Go.Proofs.YtanfejbkoheblaaGreatDoor
open Go
theorem g_main : Tryz.pinned.checked.prog.mainIs = some (true, "0033701445e4860322363af03f6b293d17675cc11881eb497bce1c219518f811".toList) := by kernel_rfl
theorem g_looks : true = Tryz.pinned.checked.prog.looks [] := by kernel_rfl
theorem g_goes : Tryz.pinned.checked.prog.funcs.any Func.goes = false := by kernel_rfl
theorem goes_none {P : Program} (h : P.funcs.any Func.goes = false) (f : FuncId) : P.goes f = false := by
  unfold Program.goes
  rw [h, Bool.and_false, Bool.or_false, List.any_eq_false]
  intro g _
  cases hg : P.funcs[g]? with
  | none => simp
  | some fn =>
    simp only [Option.any_some]
    have := Array.any_eq_false.1 h
    obtain ⟨hi, he⟩ := Array.getElem?_eq_some_iff.1 hg
    have h2 := this g hi
    rw [he] at h2
    exact h2
theorem goesBy_none {P : Program} (h : P.funcs.any Func.goes = false) (c : OpenClaim) (hs : c.start = .entering) : false = c.goesBy P := by
  unfold OpenClaim.goesBy Program.goesAt Program.goesFrom
  rw [hs]
  cases P.funcNamed c.func with
  | none => rfl
  | some f => simp [goes_none h f]
end Go.Proofs.YtanfejbkoheblaaGreatDoor
