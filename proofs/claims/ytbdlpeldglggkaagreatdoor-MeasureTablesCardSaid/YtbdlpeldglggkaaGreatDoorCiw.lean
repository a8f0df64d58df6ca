/- CI, part w: the interpreter over this seat is sound. Printed by wip/tools/gen_cw.py. -/
import Derived.Test.YtbdlpeldglggkaaGreatDoorCiu
import Derived.Test.YtbdlpeldglggkaaGreatDoorCiv
import Derived.Test.YtbdlpeldglggkaaGreatDoorCmn
import Derived.Test.YtbdlpeldglggkaaGreatDoorCfa
import Derived.Test.YtbdlpeldglggkaaGreatDoorCmz
import Derived.Test.YtbdlpeldglggkaaGreatDoorTc
import Derived.Test.YtbdlpeldglggkaaGreatDoorCvt
set_option linter.unusedVariables false
set_option maxRecDepth 100000
namespace CI
open Go Go.Proofs
namespace Seat
noncomputable def exts : Tr (Array Value → Sem Value) := ((Tr.nil).put 94 (some add64Entry)).put 149 (some Extern.BytealgIndexByte.indexByte)
theorem exts_ok : ∀ f e, exts.get f = some e → ExtFact Tryz.prog f e := fun f e h => by
  simp only [exts, Tr.get_put, Tr.get_nil] at h
  split at h
  · rename_i hf; subst hf; injection h with h; subst h
    exact ⟨_, Tryz.func149, by kernel_rfl, by kernel_rfl, by kernel_rfl, by kernel_rfl⟩
  · split at h
    · rename_i hf; subst hf; injection h with h; subst h
      exact ⟨_, Tryz.func94, by kernel_rfl, by kernel_rfl, by kernel_rfl, by kernel_rfl⟩
    · cases h
noncomputable def idents : Tr Unit := (Tr.nil).put 50 (some ())
theorem idents_ok : ∀ f u, idents.get f = some u → ExtFact Tryz.prog f Extern.AbiNoEscape.same := fun f e h => by
  simp only [idents, Tr.get_put, Tr.get_nil] at h
  split at h
  · rename_i hf; subst hf; exact ⟨_, Tryz.func50, by kernel_rfl, by kernel_rfl, by kernel_rfl, by kernel_rfl⟩
  · cases h
/-- The context before any summary. -/
noncomputable def cx00 : Cx := ⟨Tryz.prog, types, funcs, extX Tryz.prog exts, fun _ _ _ _ => none, fun _ _ _ _ => none⟩
theorem sound00 : cx00.Sound where
  types := types_ok
  funs := fun k fn h => ⟨funcs_ok k fn h, fnOK_name (codes_ok k fn h)⟩
  exts := fun f args v h σ w xs hg hv => .inl (extX_ok exts_ok h σ w xs hv)
  mixed := mixed
  zs := fun k args H nx v H' nx' h => by cases h
  ys := fun k args H nx v H' nx' h => by cases h
  codes := fun k fn c h hb => fnOK_code (codes_ok k fn h) hb
theorem mz_ok : MzFact Tryz.prog 95 43 5 where
  under := by kernel_rfl
  ext := ⟨_, _, Tryz.func95, by kernel_rfl, by kernel_rfl, by kernel_rfl, (show Extern.find Tryz.f95 = some (Extern.BytealgMakeNoZero.makeNoZero Tryz.f95.params #[43]) by kernel_rfl)⟩
noncomputable def cons : Tr (List Value → Option Value) := ((Tr.nil).put 29 (some repC)).put 32 (some itoaC)
theorem cons_ok : ∀ f g, cons.get f = some g → ConFact Tryz.prog f g := fun f g h => by
  simp only [cons, Tr.get_put, Tr.get_nil] at h
  split at h
  · rename_i hf; subst hf; injection h with h; subst h; exact con32
  · split at h
    · rename_i hf; subst hf; injection h with h; subst h; exact con29
    · cases h
noncomputable def cy0 : Cx := ⟨Tryz.prog, types, funcs, extX4 Tryz.prog exts .nil idents cons, fun _ _ _ _ => none, mzA 95 5⟩
theorem soundy0 : cy0.Sound where
  types := types_ok
  funs := fun k fn h => ⟨funcs_ok k fn h, fnOK_name (codes_ok k fn h)⟩
  exts := fun f args v h σ w xs hg hv => extX4_ok sound00 exts_ok (fun f u h => by simp [Tr.get_nil] at h) idents_ok cons_ok h σ w xs hg hv
  mixed := mixed
  zs := fun k args H nx v H' nx' h σ w xs hx g => mzA_ok mz_ok h σ w xs hx g
  ys := fun k args H nx v H' nx' h => by cases h
  codes := fun k fn c h hb => fnOK_code (codes_ok k fn h) hb
noncomputable def yf1 (k : Nat) : Option Func := if k = 65 then some Tryz.f65 else if k = 118 then some Tryz.f118 else none
theorem yf1_ok : ∀ k fn, yf1 k = some fn → Tryz.prog.funcs[k]? = some fn ∧ (fn.name == "runtime.NumGoroutine") = false ∧ ∀ c, fn.body = some c → codeOK c = true := fun k fn h => by
  unfold yf1 at h
  split at h
  · rename_i hk; subst hk; injection h with h; subst h; exact ⟨Tryz.func65, by kernel_rfl, fun c hc => fnOK_code (fn := Tryz.f65) (by kernel_rfl) hc⟩
  · split at h
    · rename_i hk; subst hk; injection h with h; subst h; exact ⟨Tryz.func118, by kernel_rfl, fun c hc => fnOK_code (fn := Tryz.f118) (by kernel_rfl) hc⟩
    · cases h
noncomputable def cy1 : Cx := ⟨Tryz.prog, types, funcs, extX4 Tryz.prog exts .nil idents cons, fun k args H nx => match yf1 k with | some _ => callL cy0 (callN cy0 4000) 4000 yf1 k args H nx | none => cy0.Y k args H nx, mzA 95 5⟩
theorem soundy1 : cy1.Sound where
  types := types_ok
  funs := fun k fn h => ⟨funcs_ok k fn h, fnOK_name (codes_ok k fn h)⟩
  exts := fun f args v h σ w xs hg hv => extX4_ok sound00 exts_ok (fun f u h => by simp [Tr.get_nil] at h) idents_ok cons_ok h σ w xs hg hv
  mixed := mixed
  zs := fun k args H nx v H' nx' h σ w xs hx g => mzA_ok mz_ok h σ w xs hx g
  ys := fun k args H nx v H' nx' h => by
    simp only [cy1] at h
    split at h
    · exact callL_ok soundy0 (call_ok soundy0 4000) yf1_ok k args H nx v H' nx' h
    · exact soundy0.ys k args H nx v H' nx' h
  codes := fun k fn c h hb => fnOK_code (codes_ok k fn h) hb
noncomputable def yf2 (k : Nat) : Option Func := if k = 92 then some Tryz.f92 else none
theorem yf2_ok : ∀ k fn, yf2 k = some fn → Tryz.prog.funcs[k]? = some fn ∧ (fn.name == "runtime.NumGoroutine") = false ∧ ∀ c, fn.body = some c → codeOK c = true := fun k fn h => by
  unfold yf2 at h
  split at h
  · rename_i hk; subst hk; injection h with h; subst h; exact ⟨Tryz.func92, by kernel_rfl, fun c hc => fnOK_code (fn := Tryz.f92) (by kernel_rfl) hc⟩
  · cases h
noncomputable def cy2 : Cx := ⟨Tryz.prog, types, funcs, extX4 Tryz.prog exts .nil idents cons, fun k args H nx => match yf2 k with | some _ => callL cy1 (callN cy1 4000) 4000 yf2 k args H nx | none => cy1.Y k args H nx, mzA 95 5⟩
theorem soundy2 : cy2.Sound where
  types := types_ok
  funs := fun k fn h => ⟨funcs_ok k fn h, fnOK_name (codes_ok k fn h)⟩
  exts := fun f args v h σ w xs hg hv => extX4_ok sound00 exts_ok (fun f u h => by simp [Tr.get_nil] at h) idents_ok cons_ok h σ w xs hg hv
  mixed := mixed
  zs := fun k args H nx v H' nx' h σ w xs hx g => mzA_ok mz_ok h σ w xs hx g
  ys := fun k args H nx v H' nx' h => by
    simp only [cy2] at h
    split at h
    · exact callL_ok soundy1 (call_ok soundy1 4000) yf2_ok k args H nx v H' nx' h
    · exact soundy1.ys k args H nx v H' nx' h
  codes := fun k fn c h hb => fnOK_code (codes_ok k fn h) hb
noncomputable def cx0 : Cx := cy2
theorem sound0 : cx0.Sound := soundy2
theorem awake8 : (callN cx0 4000 8 [] .nil 0).map (·.1) = some (.lit (.bool true)) := by rw [← callF_eq]; kernel_rfl
noncomputable def sums : Tr Value := (Tr.nil).put 8 (some (.bool true))
theorem sums_ok : ∀ f u, sums.get f = some u → ∃ n H' nx', callN cx0 n f [] .nil 0 = some (.lit u, H', nx') := fun f u h => by
  simp only [sums, Tr.get_put, Tr.get_nil] at h
  split at h
  · rename_i hf; subst hf; injection h with h; subst h
    have := awake8
    simp only [Option.map_eq_some_iff] at this
    obtain ⟨⟨v, H', nx'⟩, h1, h2⟩ := this
    simp only at h2; subst h2
    exact ⟨4000, H', nx', h1⟩
  · cases h
/-- The context: the document's examples are answered at once. -/
noncomputable def cx : Cx := ⟨Tryz.prog, types, funcs, extX4 Tryz.prog exts sums idents cons, cy2.Y, mzA 95 5⟩
theorem sound : cx.Sound where
  types := types_ok
  funs := fun k fn h => ⟨funcs_ok k fn h, fnOK_name (codes_ok k fn h)⟩
  exts := fun f args v h σ w xs hg hv => extX4_ok sound0 exts_ok sums_ok idents_ok cons_ok h σ w xs hg hv
  mixed := mixed
  zs := fun k args H nx v H' nx' h σ w xs hx g => mzA_ok mz_ok h σ w xs hx g
  ys := sound0.ys
  codes := fun k fn c h hb => fnOK_code (codes_ok k fn h) hb
end Seat
end CI
