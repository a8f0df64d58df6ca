/- What the row's listed variables give. -/
import Derived.Test.YtanfejbkoheblaaGreatDoorSuM18
import Derived.Test.YtanfejbkoheblaaGreatDoorRows
import Derived.Stop.LaidErr
import Derived.Lib.LaidTab
import Derived.MakeChecks
set_option linter.unusedVariables false
set_option maxRecDepth 100000
namespace Go.Proofs.YtanfejbkoheblaaGreatDoor.recordParses
open Go.RowKit Go.ChangeShapes
theorem gE : Tryz.prog.globalNamed "strconv.ErrSyntax" = some 3 := by kernel_rfl
theorem gF : Tryz.prog.globalNamed "strconv.ErrRange" = some 4 := by kernel_rfl
theorem gEt : (Tryz.prog.globals[3]?).map (·.type) = some 128 := by kernel_rfl
theorem gFt : (Tryz.prog.globals[4]?).map (·.type) = some 128 := by kernel_rfl
theorem gT : Tryz.prog.globalNamed "internal/strconv.uint64pow10" = some 2 := by kernel_rfl
theorem gTt : (Tryz.prog.globals[2]?).map (·.type) = some 494 := by kernel_rfl
theorem gU : Tryz.prog.globalNamed "math/bits.deBruijn64tab" = some 1 := by kernel_rfl
theorem gUt : (Tryz.prog.globals[1]?).map (·.type) = some 492 := by kernel_rfl
def tab64 : List Int := [0, 1, 56, 2, 57, 49, 28, 3, 61, 58, 42, 50, 38, 29, 17, 4, 62, 47, 59, 36, 45, 43, 51, 22, 53, 39, 33, 30, 24, 18, 12, 5, 63, 55, 48, 27, 60, 41, 37, 16, 46, 35, 44, 21, 52, 32, 23, 11, 54, 26, 40, 15, 34, 20, 31, 10, 25, 14, 19, 9, 13, 8, 7, 6]
theorem star : "*" ++ "errors.errorString" = "*errors.errorString" := by decide
theorem rowE (u : TypeId) (h : Tryz.prog.typeName? 3 u = some "*errors.errorString") : u = 513 :=
  typeName_ptr_named (nm := "errors.errorString") (by rw [star]; kernel_rfl) (by kernel_rfl) (by decide) u (by rw [star]; exact h)
theorem var_heap {P : Program} {W : World} {n : String} {g : Nat} {cs : Array Value} (hg : P.globalNamed n = some g) (h : W.var? P n = some cs) : ∃ t fz, W.heap[g]? = some (.cells cs t fz) := by
  unfold World.var? at h
  rw [hg] at h
  simp only [Option.bind_some] at h
  split at h
  · rename_i cs' t fz e
    injection h with h
    subst h
    exact ⟨t, fz, e⟩
  · cases h
theorem glb {W : World} (h : laidMetH Tryz.prog Rows.recordParsesRow.laid W) : CI.Glb W := by
  rw [MakeChecks.laidMetH_plain _ _ _ (by kernel_rfl)] at h
  have h1 : laidMet Tryz.prog _ W := h.tail
  have h2 : laidMet Tryz.prog _ W := h1.tail
  have hU : Lib.TabIs Tryz.prog W "math/bits.deBruijn64tab" .u8 tab64 :=
    Lib.tabIs_of_head (n := 64) gU gUt Tryz.underlying492 Tryz.underlying5 (by kernel_rfl) (by kernel_rfl) h1
  have hT : Lib.TabIs Tryz.prog W "internal/strconv.uint64pow10" .u64 Lib.pow10Tab :=
    Lib.tabIs_of_head (n := 20) gT gTt Tryz.underlying494 Tryz.underlying181 (by kernel_rfl) (by kernel_rfl) h2
  obtain ⟨a, s, hv, -, -, -⟩ := laid_sentinel h2.tail.tail gF gFt Tryz.underlying128 rowE Tryz.underlying513 Tryz.underlying515 rfl rfl Tryz.underlying9 (by kernel_rfl) (by kernel_rfl)
  obtain ⟨a0, s0, hv0, -, -, -⟩ := laid_sentinel h2.tail.tail.tail gE gEt Tryz.underlying128 rowE Tryz.underlying513 Tryz.underlying515 rfl rfl Tryz.underlying9 (by kernel_rfl) (by kernel_rfl)
  intro g q hq
  unfold CI.GL CI.GC at hq
  by_cases h1 : g = 1
  · subst h1
    rw [if_pos rfl] at hq
    injection hq with hq
    subst hq
    obtain ⟨t, fz, e⟩ := var_heap gU hU
    refine ⟨_, t, fz, e, ?_⟩
    have h1 : CI.gl1 = tab64.map fun z => Value.int .u8 z := by kernel_rfl
    rw [h1]
  · rw [if_neg h1] at hq
    by_cases h3 : g = 2
    · subst h3
      rw [if_pos rfl] at hq
      injection hq with hq
      subst hq
      obtain ⟨t, fz, e⟩ := var_heap gT hT
      refine ⟨_, t, fz, e, ?_⟩
      have h1 : CI.gl2 = Lib.pow10Tab.map fun z => Value.int .u64 z := by kernel_rfl
      rw [h1]
    · rw [if_neg h3] at hq
      by_cases h0 : g = 3
      · subst h0
        have e1 : CI.GI 3 = true := rfl
        simp only [e1] at hq
        injection hq with hq
        subst hq
        obtain ⟨t, fz, e⟩ := var_heap gE hv0
        exact ⟨_, t, fz, e, _, _, rfl⟩
      · by_cases h4 : g = 4
        · subst h4
          have e1 : CI.GI 4 = true := rfl
          simp only [e1] at hq
          injection hq with hq
          subst hq
          obtain ⟨t, fz, e⟩ := var_heap gF hv
          exact ⟨_, t, fz, e, _, _, rfl⟩
        · have e1 : CI.GI g = false := by simp [CI.GI, h0, h4]
          simp only [e1] at hq
          cases hq
end Go.Proofs.YtanfejbkoheblaaGreatDoor.recordParses
