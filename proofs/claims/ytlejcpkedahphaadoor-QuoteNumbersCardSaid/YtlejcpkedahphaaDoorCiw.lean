/- CI, part w: the interpreter over this seat is sound. Printed by wip/tools/gen_cw.py. -/
import Derived.Test.YtlejcpkedahphaaDoorCiu
import Derived.Test.YtlejcpkedahphaaDoorCiv
import Derived.Test.YtlejcpkedahphaaDoorCmn
import Derived.Test.YtlejcpkedahphaaDoorCfa
import Derived.Test.YtlejcpkedahphaaDoorCmz
import Derived.Test.YtlejcpkedahphaaDoorVc
import Derived.Test.YtlejcpkedahphaaDoorCvt
set_option linter.unusedVariables false
set_option maxRecDepth 100000
namespace CI
open Go Go.Proofs
namespace Seat
noncomputable def exts : Tr (Array Value → Sem Value) := (((Tr.nil).put 72 (some Extern.BytealgIndexByte.indexByte)).put 61 (some Extern.BytealgIndex.index)).put 47 (some Extern.BytealgCount.count)
theorem exts_ok : ∀ f e, exts.get f = some e → ExtFact Tryd.prog f e := fun f e h => by
  simp only [exts, Tr.get_put, Tr.get_nil] at h
  split at h
  · rename_i hf; subst hf; injection h with h; subst h
    exact ⟨_, Tryd.func47, by kernel_rfl, by kernel_rfl, by kernel_rfl, by kernel_rfl⟩
  · split at h
    · rename_i hf; subst hf; injection h with h; subst h
      exact ⟨_, Tryd.func61, by kernel_rfl, by kernel_rfl, by kernel_rfl, by kernel_rfl⟩
    · split at h
      · rename_i hf; subst hf; injection h with h; subst h
        exact ⟨_, Tryd.func72, by kernel_rfl, by kernel_rfl, by kernel_rfl, by kernel_rfl⟩
      · cases h
noncomputable def idents : Tr Unit := (Tr.nil).put 44 (some ())
theorem idents_ok : ∀ f u, idents.get f = some u → ExtFact Tryd.prog f Extern.AbiNoEscape.same := fun f e h => by
  simp only [idents, Tr.get_put, Tr.get_nil] at h
  split at h
  · rename_i hf; subst hf; exact ⟨_, Tryd.func44, by kernel_rfl, by kernel_rfl, by kernel_rfl, by kernel_rfl⟩
  · cases h
/-- The context before any summary. -/
noncomputable def cx00 : Cx := ⟨Tryd.prog, types, funcs, extX Tryd.prog exts, fun _ _ _ _ => none, fun _ _ _ _ => none⟩
theorem sound00 : cx00.Sound where
  types := types_ok
  funs := fun k fn h => ⟨funcs_ok k fn h, fnOK_name (codes_ok k fn h)⟩
  exts := fun f args v h σ w xs hg hv => .inl (extX_ok exts_ok h σ w xs hv)
  mixed := mixed
  zs := fun k args H nx v H' nx' h => by cases h
  ys := fun k args H nx v H' nx' h => by cases h
  codes := fun k fn c h hb => fnOK_code (codes_ok k fn h) hb
theorem mz_ok : MzFact Tryd.prog 49 41 5 where
  under := by kernel_rfl
  ext := ⟨_, _, Tryd.func49, by kernel_rfl, by kernel_rfl, by kernel_rfl, (show Extern.find Tryd.f49 = some (Extern.BytealgMakeNoZero.makeNoZero Tryd.f49.params #[41]) by kernel_rfl)⟩
noncomputable def cy0 : Cx := ⟨Tryd.prog, types, funcs, extX3 Tryd.prog exts .nil idents, fun _ _ _ _ => none, mzA 49 5⟩
theorem soundy0 : cy0.Sound where
  types := types_ok
  funs := fun k fn h => ⟨funcs_ok k fn h, fnOK_name (codes_ok k fn h)⟩
  exts := fun f args v h σ w xs hg hv => extX3_ok sound00 exts_ok (fun f u h => by simp [Tr.get_nil] at h) idents_ok h σ w xs hg hv
  mixed := mixed
  zs := fun k args H nx v H' nx' h σ w xs hx g => mzA_ok mz_ok h σ w xs hx g
  ys := fun k args H nx v H' nx' h => by cases h
  codes := fun k fn c h hb => fnOK_code (codes_ok k fn h) hb
noncomputable def cx0 : Cx := cy0
theorem sound0 : cx0.Sound := soundy0
theorem awake5 : (callN cx0 4000 5 [] .nil 0).map (·.1) = some (.lit (.bool true)) := by rw [← callF_eq]; kernel_rfl
noncomputable def sums : Tr Value := (Tr.nil).put 5 (some (.bool true))
theorem sums_ok : ∀ f u, sums.get f = some u → ∃ n H' nx', callN cx0 n f [] .nil 0 = some (.lit u, H', nx') := fun f u h => by
  simp only [sums, Tr.get_put, Tr.get_nil] at h
  split at h
  · rename_i hf; subst hf; injection h with h; subst h
    have := awake5
    simp only [Option.map_eq_some_iff] at this
    obtain ⟨⟨v, H', nx'⟩, h1, h2⟩ := this
    simp only at h2; subst h2
    exact ⟨4000, H', nx', h1⟩
  · cases h
noncomputable def cons : Tr (List Value → Option Value) := (Tr.nil).put 15 (some itoaC)
theorem cons_ok : ∀ f g, cons.get f = some g → ConFact Tryd.prog f g := fun f g h => by
  simp only [cons, Tr.get_put, Tr.get_nil] at h
  split at h
  · rename_i hf; subst hf; injection h with h; subst h; exact con15
  · cases h
/-- The context: the document's examples are answered at once. -/
noncomputable def cx : Cx := ⟨Tryd.prog, types, funcs, extX4 Tryd.prog exts sums idents cons, fun k args H nx => if k = 16 then atoiY args H nx else cy0.Y k args H nx, mzA 49 5⟩
theorem sound : cx.Sound where
  types := types_ok
  funs := fun k fn h => ⟨funcs_ok k fn h, fnOK_name (codes_ok k fn h)⟩
  exts := fun f args v h σ w xs hg hv => extX4_ok sound0 exts_ok sums_ok idents_ok cons_ok h σ w xs hg hv
  mixed := mixed
  zs := fun k args H nx v H' nx' h σ w xs hx g => mzA_ok mz_ok h σ w xs hx g
  ys := fun k args H nx v H' nx' h => by
    simp only [cx] at h
    split at h
    · rename_i hk
      subst hk
      exact fun σ w xs hx g => atoiY_ok h σ w xs hx g
    · exact sound0.ys k args H nx v H' nx' h
  codes := fun k fn c h hb => fnOK_code (codes_ok k fn h) hb
end Seat
end CI
