/- What the row's listed variable gives. -/
import Derived.Test.YtdkicjlbfhmfkaaGreatDoorW3
import Derived.Test.YtdkicjlbfhmfkaaGreatDoorRows
import Derived.Stop.LaidErr
import Derived.Lib.LaidTab
import Derived.MakeChecks
set_option linter.unusedVariables false
set_option linter.unusedSimpArgs false
namespace Go.Proofs.YtdkicjlbfhmfkaaGreatDoor.pumpWords
open Go.RowKit Go.ChangeShapes
theorem var_heap {P : Program} {W : World} {n : String} {g : Nat} {cs : Array Value} (hg : P.globalNamed n = some g) (h : W.var? P n = some cs) : ∃ t fz, W.heap[g]? = some (.cells cs t fz) := by
  unfold World.var? at h
  rw [hg] at h
  simp only [Option.bind_some] at h
  split at h
  · rename_i cs' t fz e
    injection h with h
    subst h
    exact ⟨t, fz, e⟩
  · cases h
def tab64 : List Int := [0, 1, 56, 2, 57, 49, 28, 3, 61, 58, 42, 50, 38, 29, 17, 4, 62, 47, 59, 36, 45, 43, 51, 22, 53, 39, 33, 30, 24, 18, 12, 5, 63, 55, 48, 27, 60, 41, 37, 16, 46, 35, 44, 21, 52, 32, 23, 11, 54, 26, 40, 15, 34, 20, 31, 10, 25, 14, 19, 9, 13, 8, 7, 6]
theorem gT : Tryz.prog.globalNamed "math/bits.deBruijn64tab" = some 0 := by kernel_rfl
theorem gTt : (Tryz.prog.globals[0]?).map (·.type) = some 280 := by kernel_rfl
theorem glb {W : World} (h : laidMetH Tryz.prog Rows.pumpWordsRow.laid W) : CI.Glb W := by
  rw [MakeChecks.laidMetH_plain _ _ _ (by kernel_rfl)] at h
  have hlaid : Rows.pumpWordsRow.laid = [("math/bits.deBruijn64tab", Lib.tabData .u8 tab64)] := by kernel_rfl
  rw [hlaid] at h
  have hT : Lib.TabIs Tryz.prog W "math/bits.deBruijn64tab" .u8 tab64 :=
    Lib.tabIs_of_head (n := 64) gT gTt Tryz.underlying280 Tryz.underlying5 (by kernel_rfl) (by kernel_rfl) h
  intro g q hq
  unfold CI.GL CI.GC at hq
  by_cases h3 : g = 0
  · subst h3
    rw [if_pos rfl] at hq
    injection hq with hq
    subst hq
    obtain ⟨t, fz, e⟩ := var_heap gT hT
    refine ⟨_, t, fz, e, ?_⟩
    have h1 : CI.gl0 = tab64.map fun z => Value.int .u8 z := by kernel_rfl
    rw [h1]
  · rw [if_neg h3] at hq
    have e1 : CI.GI g = false := rfl
    simp only [e1] at hq
    cases hq
end Go.Proofs.YtdkicjlbfhmfkaaGreatDoor.pumpWords
