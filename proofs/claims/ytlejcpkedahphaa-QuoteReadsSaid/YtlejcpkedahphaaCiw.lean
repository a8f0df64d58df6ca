/- CI, part w: the interpreter over this seat is sound. -/
import Derived.Test.YtlejcpkedahphaaCiu
import Derived.Test.YtlejcpkedahphaaCiv
set_option linter.unusedVariables false
set_option maxRecDepth 100000
namespace CI
open Go Go.Proofs
namespace Seat
noncomputable def exts : Tr (Array Value → Sem Value) := (Tr.nil.put 38 (some add64Entry)).put 53 (some Extern.BytealgIndexByte.indexByte)
theorem exts_ok : ∀ f e, exts.get f = some e → ExtFact Try.prog f e := fun f e h => by
  simp only [exts, Tr.get_put, Tr.get_nil] at h
  split at h
  · rename_i hf; subst hf; injection h with h; subst h
    exact ⟨_, Try.func53, by kernel_rfl, by kernel_rfl, by kernel_rfl, by kernel_rfl⟩
  · split at h
    · rename_i hf; subst hf; injection h with h; subst h
      exact ⟨_, Try.func38, by kernel_rfl, by kernel_rfl, by kernel_rfl, by kernel_rfl⟩
    · cases h
noncomputable def idents : Tr Unit := Tr.nil.put 46 (some ())
theorem idents_ok : ∀ f u, idents.get f = some u → ExtFact Try.prog f Extern.AbiNoEscape.same := fun f e h => by
  simp only [idents, Tr.get_put, Tr.get_nil] at h
  split at h
  · rename_i hf; subst hf
    exact ⟨_, Try.func46, by kernel_rfl, by kernel_rfl, by kernel_rfl, by kernel_rfl⟩
  · cases h
/-- The context before any summary. -/
noncomputable def cx00 : Cx := ⟨Try.prog, types, funcs, extX Try.prog exts⟩
theorem sound00 : cx00.Sound where
  types := types_ok
  funs := fun k fn h => ⟨funcs_ok k fn h, fnOK_name (codes_ok k fn h)⟩
  exts := fun f args v h σ w xs hg hv => .inl (extX_ok exts_ok h σ w xs hv)
  mixed := mixed
  codes := fun k fn c h hb => fnOK_code (codes_ok k fn h) hb
noncomputable def cx0 : Cx := ⟨Try.prog, types, funcs, extX3 Try.prog exts .nil idents⟩
theorem sound0 : cx0.Sound where
  types := types_ok
  funs := fun k fn h => ⟨funcs_ok k fn h, fnOK_name (codes_ok k fn h)⟩
  exts := fun f args v h σ w xs hg hv => extX3_ok sound00 exts_ok (fun f u h => by simp [Tr.get_nil] at h) idents_ok h σ w xs hg hv
  mixed := mixed
  codes := fun k fn c h hb => fnOK_code (codes_ok k fn h) hb
theorem awake03 : (callN cx0 2000 9 [] .nil 0).map (·.1) = some (.lit (.bool true)) := by kernel_rfl
theorem awake02 : (callN cx0 4000 21 [] .nil 0).map (·.1) = some (.lit (.bool true)) := by kernel_rfl
noncomputable def sums : Tr Value := (Tr.nil.put 9 (some (.bool true))).put 21 (some (.bool true))
theorem sums_ok : ∀ f u, sums.get f = some u → ∃ n H' nx', callN cx0 n f [] .nil 0 = some (.lit u, H', nx') := fun f u h => by
  simp only [sums, Tr.get_put, Tr.get_nil] at h
  split at h
  · rename_i hf; subst hf; injection h with h; subst h
    have := awake02
    simp only [Option.map_eq_some_iff] at this
    obtain ⟨⟨v, H', nx'⟩, h1, h2⟩ := this
    simp only at h2; subst h2
    exact ⟨4000, H', nx', h1⟩
  · split at h
    · rename_i hf; subst hf; injection h with h; subst h
      have := awake03
      simp only [Option.map_eq_some_iff] at this
      obtain ⟨⟨v, H', nx'⟩, h1, h2⟩ := this
      simp only at h2; subst h2
      exact ⟨2000, H', nx', h1⟩
    · cases h
/-- The context: the document's example is answered at once. -/
noncomputable def cx : Cx := ⟨Try.prog, types, funcs, extX3 Try.prog exts sums idents⟩
theorem sound : cx.Sound where
  types := types_ok
  funs := fun k fn h => ⟨funcs_ok k fn h, fnOK_name (codes_ok k fn h)⟩
  exts := fun f args v h σ w xs hg hv => extX3_ok sound0 exts_ok sums_ok idents_ok h σ w xs hg hv
  mixed := mixed
  codes := fun k fn c h hb => fnOK_code (codes_ok k fn h) hb
end Seat
end CI
