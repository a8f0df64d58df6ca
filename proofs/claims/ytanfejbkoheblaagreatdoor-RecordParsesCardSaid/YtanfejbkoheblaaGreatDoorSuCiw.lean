/- CI, part w: the interpreter over this seat is sound. Printed by wip/tools/gen_cw.py. -/
import Derived.Test.YtanfejbkoheblaaGreatDoorSuCiu
import Derived.Test.YtanfejbkoheblaaGreatDoorSuM8
import Derived.Test.YtanfejbkoheblaaGreatDoorSuM4
set_option linter.unusedVariables false
set_option maxRecDepth 100000
namespace CI
open Go Go.Proofs
namespace Seat
noncomputable def exts : Tr (Array Value → Sem Value) := ((((Tr.nil).put 262 (some add64Entry)).put 354 (some Extern.BytealgIndexByte.indexByte)).put 281 (some Extern.BytealgIndex.index)).put 346 (some Extern.BytealgCount.count)
theorem exts_ok : ∀ f e, exts.get f = some e → ExtFact Tryz.prog f e := fun f e h => by
  simp only [exts, Tr.get_put, Tr.get_nil] at h
  split at h
  · rename_i hf; subst hf; injection h with h; subst h
    exact ⟨_, Tryz.func346, by kernel_rfl, by kernel_rfl, by kernel_rfl, by kernel_rfl⟩
  · split at h
    · rename_i hf; subst hf; injection h with h; subst h
      exact ⟨_, Tryz.func281, by kernel_rfl, by kernel_rfl, by kernel_rfl, by kernel_rfl⟩
    · split at h
      · rename_i hf; subst hf; injection h with h; subst h
        exact ⟨_, Tryz.func354, by kernel_rfl, by kernel_rfl, by kernel_rfl, by kernel_rfl⟩
      · split at h
        · rename_i hf; subst hf; injection h with h; subst h
          exact ⟨_, Tryz.func262, by kernel_rfl, by kernel_rfl, by kernel_rfl, by kernel_rfl⟩
        · cases h
noncomputable def idents : Tr Unit := (Tr.nil).put 201 (some ())
theorem idents_ok : ∀ f u, idents.get f = some u → ExtFact Tryz.prog f Extern.AbiNoEscape.same := fun f e h => by
  simp only [idents, Tr.get_put, Tr.get_nil] at h
  split at h
  · rename_i hf; subst hf; exact ⟨_, Tryz.func201, by kernel_rfl, by kernel_rfl, by kernel_rfl, by kernel_rfl⟩
  · cases h
noncomputable def cx00 : Cx := ⟨Tryz.prog, types, funcs, extX Tryz.prog exts, fun _ _ _ _ => none, fun _ _ _ _ => none⟩
theorem sound00 : cx00.Sound where
  types := types_ok
  funs := fun k fn h => ⟨funcs_ok k fn h, fnOK_name (codes_ok k fn h)⟩
  exts := fun f args v h σ w xs hg hv => .inl (extX_ok exts_ok h σ w xs hv)
  mixed := mixed
  zs := fun k args H nx v H' nx' h => by cases h
  ys := fun k args H nx v H' nx' h => by cases h
  codes := fun k fn c h hb => fnOK_code (codes_ok k fn h) hb
theorem mz_ok : MzFact Tryz.prog 343 81 5 where
  under := by kernel_rfl
  ext := ⟨_, _, Tryz.func343, by kernel_rfl, by kernel_rfl, by kernel_rfl, (show Extern.find Tryz.f343 = some (Extern.BytealgMakeNoZero.makeNoZero Tryz.f343.params #[81]) by kernel_rfl)⟩
noncomputable def yb (k : Nat) (args : List AV) (H : Heap) (nx : Nat) : Option (AV × Heap × Nat) := if k = 361 then sortA args H nx else if k = 204 then atoiY args H nx else none
theorem yb_ok : ∀ k args H nx v H' nx', yb k args H nx = some (v, H', nx') → ∀ (σ : Sig) (w : World) (xs : List Value), VRs σ args xs → Good σ H nx w → (callFunc k xs.toArray).run Tryz.prog w = .ok (.enter k xs.toArray) w ∧ Calls Tryz.prog k xs.toArray w (RetPost σ H nx w v H' nx') := fun k args H nx v H' nx' h => by
  unfold yb at h
  split at h
  · rename_i hk; subst hk; exact fun σ w xs hx g => sortA_ok h σ w xs hx g
  · split at h
    · rename_i hk; subst hk; exact fun σ w xs hx g => atoiY_ok h σ w xs hx g
    · cases h
noncomputable def cons : Tr (List Value → Option Value) := ((Tr.nil).put 195 (some repC)).put 139 (some itoaC)
theorem cons_ok : ∀ f g, cons.get f = some g → ConFact Tryz.prog f g := fun f g h => by
  simp only [cons, Tr.get_put, Tr.get_nil] at h
  split at h
  · rename_i hf; subst hf; injection h with h; subst h; exact conItoa
  · split at h
    · rename_i hf; subst hf; injection h with h; subst h; exact conRep
    · cases h
noncomputable def cy0 : Cx := ⟨Tryz.prog, types, funcs, extX4 Tryz.prog exts .nil idents cons, yb, mzA 343 5⟩
theorem soundy0 : cy0.Sound where
  types := types_ok
  funs := fun k fn h => ⟨funcs_ok k fn h, fnOK_name (codes_ok k fn h)⟩
  exts := fun f args v h σ w xs hg hv => extX4_ok sound00 exts_ok (fun f u h => by simp [Tr.get_nil] at h) idents_ok cons_ok h σ w xs hg hv
  mixed := mixed
  zs := fun k args H nx v H' nx' h σ w xs hx g => mzA_ok mz_ok h σ w xs hx g
  ys := fun k args H nx v H' nx' h => yb_ok k args H nx v H' nx' h
  codes := fun k fn c h hb => fnOK_code (codes_ok k fn h) hb
noncomputable def yf1 (k : Nat) : Option Func := if k = 167 then some Tryz.f167 else if k = 316 then some Tryz.f316 else if k = 162 then some Tryz.f162 else none
theorem yf1_ok : ∀ k fn, yf1 k = some fn → Tryz.prog.funcs[k]? = some fn ∧ (fn.name == "runtime.NumGoroutine") = false ∧ ∀ c, fn.body = some c → codeOK c = true := fun k fn h => by
  unfold yf1 at h
  split at h
  · rename_i hk; subst hk; injection h with h; subst h; exact ⟨Tryz.func167, by kernel_rfl, fun c hc => fnOK_code (fn := Tryz.f167) (by kernel_rfl) hc⟩
  · split at h
    · rename_i hk; subst hk; injection h with h; subst h; exact ⟨Tryz.func316, by kernel_rfl, fun c hc => fnOK_code (fn := Tryz.f316) (by kernel_rfl) hc⟩
    · split at h
      · rename_i hk; subst hk; injection h with h; subst h; exact ⟨Tryz.func162, by kernel_rfl, fun c hc => fnOK_code (fn := Tryz.f162) (by kernel_rfl) hc⟩
      · cases h
noncomputable def cy1 : Cx := ⟨Tryz.prog, types, funcs, extX4 Tryz.prog exts .nil idents cons, fun k args H nx => match yf1 k with | some _ => callL cy0 (callF cy0 4000) noM 4000 yf1 k args H nx | none => cy0.Y k args H nx, mzA 343 5⟩
theorem soundy1 : cy1.Sound where
  types := types_ok
  funs := fun k fn h => ⟨funcs_ok k fn h, fnOK_name (codes_ok k fn h)⟩
  exts := fun f args v h σ w xs hg hv => extX4_ok sound00 exts_ok (fun f u h => by simp [Tr.get_nil] at h) idents_ok cons_ok h σ w xs hg hv
  mixed := mixed
  zs := fun k args H nx v H' nx' h σ w xs hx g => mzA_ok mz_ok h σ w xs hx g
  ys := fun k args H nx v H' nx' h => by
    simp only [cy1] at h
    split at h
    · exact callL_ok soundy0 (by rw [callF_eq]; exact call_ok soundy0 4000) (callM := noM) (noM_ok _) yf1_ok k args H nx v H' nx' h
    · exact soundy0.ys k args H nx v H' nx' h
  codes := fun k fn c h hb => fnOK_code (codes_ok k fn h) hb
noncomputable def mf1 (k : Nat) : Option Func := if k = 162 then some Tryz.f162 else none
theorem mf1_ok : ∀ k fn, mf1 k = some fn → Tryz.prog.funcs[k]? = some fn ∧ (fn.name == "runtime.NumGoroutine") = false ∧ ∀ c, fn.body = some c → codeOK c = true := fun k fn h => by
  unfold mf1 at h
  split at h
  · rename_i hk; subst hk; injection h with h; subst h; exact ⟨Tryz.func162, by kernel_rfl, fun c hc => fnOK_code (fn := Tryz.f162) (by kernel_rfl) hc⟩
  · cases h
noncomputable def ym1 : CallM := outsL cy1 (callF cy1 4000) noM 4000 mf1
theorem ym1_ok : CallMOK cy1 ym1 := outsL_ok soundy1 (by rw [callF_eq]; exact call_ok soundy1 4000) (noM_ok _) mf1_ok
noncomputable def yf2 (k : Nat) : Option Func := if k = 239 then some Tryz.f239 else if k = 105 then some Tryz.f105 else none
theorem yf2_ok : ∀ k fn, yf2 k = some fn → Tryz.prog.funcs[k]? = some fn ∧ (fn.name == "runtime.NumGoroutine") = false ∧ ∀ c, fn.body = some c → codeOK c = true := fun k fn h => by
  unfold yf2 at h
  split at h
  · rename_i hk; subst hk; injection h with h; subst h; exact ⟨Tryz.func239, by kernel_rfl, fun c hc => fnOK_code (fn := Tryz.f239) (by kernel_rfl) hc⟩
  · split at h
    · rename_i hk; subst hk; injection h with h; subst h; exact ⟨Tryz.func105, by kernel_rfl, fun c hc => fnOK_code (fn := Tryz.f105) (by kernel_rfl) hc⟩
    · cases h
noncomputable def cy2 : Cx := ⟨Tryz.prog, types, funcs, extX4 Tryz.prog exts .nil idents cons, fun k args H nx => match yf2 k with | some _ => callL cy1 (callF cy1 4000) ym1 4000 yf2 k args H nx | none => cy1.Y k args H nx, mzA 343 5⟩
theorem soundy2 : cy2.Sound where
  types := types_ok
  funs := fun k fn h => ⟨funcs_ok k fn h, fnOK_name (codes_ok k fn h)⟩
  exts := fun f args v h σ w xs hg hv => extX4_ok sound00 exts_ok (fun f u h => by simp [Tr.get_nil] at h) idents_ok cons_ok h σ w xs hg hv
  mixed := mixed
  zs := fun k args H nx v H' nx' h σ w xs hx g => mzA_ok mz_ok h σ w xs hx g
  ys := fun k args H nx v H' nx' h => by
    simp only [cy2] at h
    split at h
    · exact callL_ok soundy1 (by rw [callF_eq]; exact call_ok soundy1 4000) (callM := ym1) ym1_ok yf2_ok k args H nx v H' nx' h
    · exact soundy1.ys k args H nx v H' nx' h
  codes := fun k fn c h hb => fnOK_code (codes_ok k fn h) hb
noncomputable def cx0 : Cx := cy2
theorem sound0 : cx0.Sound := soundy2
end Seat
end CI
