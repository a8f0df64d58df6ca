/- What the row's listed variables give. -/
import Derived.Test.YtlejcpkedahphaaDoorVz
import Derived.Test.YtlejcpkedahphaaDoorRows
import Derived.Stop.LaidErr
import Derived.Lib.LaidTab
import Derived.MakeChecks
set_option linter.unusedVariables false
set_option maxRecDepth 100000
namespace Go.Proofs.YtlejcpkedahphaaDoor.quoteNumbers
open Go.RowKit Go.ChangeShapes
theorem gE : Tryd.prog.globalNamed "strconv.ErrSyntax" = some 0 := by kernel_rfl
theorem gF : Tryd.prog.globalNamed "strconv.ErrRange" = some 1 := by kernel_rfl
theorem gEt : (Tryd.prog.globals[0]?).map (·.type) = some 38 := by kernel_rfl
theorem gFt : (Tryd.prog.globals[1]?).map (·.type) = some 38 := by kernel_rfl
theorem gT : Tryd.prog.globalNamed "internal/strconv.uint64pow10" = some 3 := by kernel_rfl
theorem gTt : (Tryd.prog.globals[3]?).map (·.type) = some 92 := by kernel_rfl
theorem star : "*" ++ "errors.errorString" = "*errors.errorString" := by decide
theorem row98 (u : TypeId) (h : Tryd.prog.typeName? 3 u = some "*errors.errorString") : u = 98 :=
  typeName_ptr_named (nm := "errors.errorString") (by rw [star]; kernel_rfl) (by kernel_rfl) (by decide) u (by rw [star]; exact h)
theorem var_heap {P : Program} {W : World} {n : String} {g : Nat} {cs : Array Value} (hg : P.globalNamed n = some g) (h : W.var? P n = some cs) : ∃ t fz, W.heap[g]? = some (.cells cs t fz) := by
  unfold World.var? at h
  rw [hg] at h
  simp only [Option.bind_some] at h
  split at h
  · rename_i cs' t fz e
    injection h with h
    subst h
    exact ⟨t, fz, e⟩
  · cases h
theorem glb {W : World} (h : laidMetH Tryd.prog Rows.quoteNumbersRow.laid W) : CI.Glb W := by
  rw [MakeChecks.laidMetH_plain _ _ _ (by kernel_rfl)] at h
  have h2 : laidMet Tryd.prog _ W := h.tail.tail
  have hT : Lib.TabIs Tryd.prog W "internal/strconv.uint64pow10" .u64 Lib.pow10Tab :=
    Lib.tabIs_of_head (n := 20) gT gTt Tryd.underlying92 Tryd.underlying80 (by kernel_rfl) (by kernel_rfl) h2
  obtain ⟨a, s, hv, -, -, -⟩ := laid_sentinel h2.tail gF gFt Tryd.underlying38 row98 Tryd.underlying98 Tryd.underlying100 rfl rfl Tryd.underlying9 (by kernel_rfl) (by kernel_rfl)
  obtain ⟨a0, s0, hv0, -, -, -⟩ := laid_sentinel h2.tail.tail gE gEt Tryd.underlying38 row98 Tryd.underlying98 Tryd.underlying100 rfl rfl Tryd.underlying9 (by kernel_rfl) (by kernel_rfl)
  intro g q hq
  unfold CI.GL CI.GC at hq
  by_cases h3 : g = 3
  · subst h3
    rw [if_pos rfl] at hq
    injection hq with hq
    subst hq
    obtain ⟨t, fz, e⟩ := var_heap gT hT
    refine ⟨_, t, fz, e, ?_⟩
    have h1 : CI.gl3 = Lib.pow10Tab.map fun z => Value.int .u64 z := by kernel_rfl
    rw [h1]
  · rw [if_neg h3] at hq
    by_cases h0 : g = 0
    · subst h0
      have e1 : CI.GI 0 = true := rfl
      simp only [e1] at hq
      injection hq with hq
      subst hq
      obtain ⟨t, fz, e⟩ := var_heap gE hv0
      exact ⟨_, t, fz, e, _, _, rfl⟩
    · by_cases h1 : g = 1
      · subst h1
        have e1 : CI.GI 1 = true := rfl
        simp only [e1] at hq
        injection hq with hq
        subst hq
        obtain ⟨t, fz, e⟩ := var_heap gF hv
        exact ⟨_, t, fz, e, _, _, rfl⟩
      · have e1 : CI.GI g = false := by simp [CI.GI, h0, h1]
        simp only [e1] at hq
        cases hq
end Go.Proofs.YtlejcpkedahphaaDoor.quoteNumbers
