/- CI, part w: the interpreter over this seat is sound. Printed by wip/tools/gen_cw.py. -/
import Derived.Test.YtdkicjlbfhmfkaaGreatDoorCiu
import Derived.Test.YtdkicjlbfhmfkaaGreatDoorCiv
import Derived.Test.YtdkicjlbfhmfkaaGreatDoorCmn
import Derived.Test.YtdkicjlbfhmfkaaGreatDoorCfa
import Derived.Test.YtdkicjlbfhmfkaaGreatDoorCmz
import Derived.Test.YtdkicjlbfhmfkaaGreatDoorRc
import Derived.Test.YtdkicjlbfhmfkaaGreatDoorCvt
import Derived.Test.YtdkicjlbfhmfkaaGreatDoorSfact
set_option linter.unusedVariables false
set_option maxRecDepth 100000
namespace CI
open Go Go.Proofs
namespace Seat
noncomputable def exts : Tr (Array Value → Sem Value) := (((Tr.nil).put 171 (some add64Entry)).put 294 (some Extern.BytealgIndexByte.indexByte)).put 288 (some Extern.BytealgIndex.index)
theorem exts_ok : ∀ f e, exts.get f = some e → ExtFact Tryz.prog f e := fun f e h => by
  simp only [exts, Tr.get_put, Tr.get_nil] at h
  split at h
  · rename_i hf; subst hf; injection h with h; subst h
    exact ⟨_, Tryz.func288, by kernel_rfl, by kernel_rfl, by kernel_rfl, by kernel_rfl⟩
  · split at h
    · rename_i hf; subst hf; injection h with h; subst h
      exact ⟨_, Tryz.func294, by kernel_rfl, by kernel_rfl, by kernel_rfl, by kernel_rfl⟩
    · split at h
      · rename_i hf; subst hf; injection h with h; subst h
        exact ⟨_, Tryz.func171, by kernel_rfl, by kernel_rfl, by kernel_rfl, by kernel_rfl⟩
      · cases h
noncomputable def idents : Tr Unit := (Tr.nil).put 235 (some ())
theorem idents_ok : ∀ f u, idents.get f = some u → ExtFact Tryz.prog f Extern.AbiNoEscape.same := fun f e h => by
  simp only [idents, Tr.get_put, Tr.get_nil] at h
  split at h
  · rename_i hf; subst hf; exact ⟨_, Tryz.func235, by kernel_rfl, by kernel_rfl, by kernel_rfl, by kernel_rfl⟩
  · cases h
/-- The context before any summary. -/
noncomputable def cx00 : Cx := ⟨Tryz.prog, types, funcs, extX Tryz.prog exts, fun _ _ _ _ => none, fun _ _ _ _ => none⟩
theorem sound00 : cx00.Sound where
  types := types_ok
  funs := fun k fn h => ⟨funcs_ok k fn h, fnOK_name (codes_ok k fn h)⟩
  exts := fun f args v h σ w xs hg hv => .inl (extX_ok exts_ok h σ w xs hv)
  mixed := mixed
  zs := fun k args H nx v H' nx' h => by cases h
  ys := fun k args H nx v H' nx' h => by cases h
  codes := fun k fn c h hb => fnOK_code (codes_ok k fn h) hb
theorem mz_ok : MzFact Tryz.prog 236 95 5 where
  under := by kernel_rfl
  ext := ⟨_, _, Tryz.func236, by kernel_rfl, by kernel_rfl, by kernel_rfl, (show Extern.find Tryz.f236 = some (Extern.BytealgMakeNoZero.makeNoZero Tryz.f236.params #[95]) by kernel_rfl)⟩
noncomputable def yb (k : Nat) (args : List AV) (H : Heap) (nx : Nat) : Option (AV × Heap × Nat) := if k = 286 then sortA args H nx else none
theorem yb_ok : ∀ k args H nx v H' nx', yb k args H nx = some (v, H', nx') → ∀ (σ : Sig) (w : World) (xs : List Value), VRs σ args xs → Good σ H nx w → (callFunc k xs.toArray).run Tryz.prog w = .ok (.enter k xs.toArray) w ∧ Calls Tryz.prog k xs.toArray w (RetPost σ H nx w v H' nx') := fun k args H nx v H' nx' h => by
  unfold yb at h
  split at h
  · rename_i hk; subst hk; exact fun σ w xs hx g => sortA_ok h σ w xs hx g
  · cases h
noncomputable def cons : Tr (List Value → Option Value) := (Tr.nil).put 75 (some repC)
theorem cons_ok : ∀ f g, cons.get f = some g → ConFact Tryz.prog f g := fun f g h => by
  simp only [cons, Tr.get_put, Tr.get_nil] at h
  split at h
  · rename_i hf; subst hf; injection h with h; subst h; exact con75
  · cases h
noncomputable def cy0 : Cx := ⟨Tryz.prog, types, funcs, extX4 Tryz.prog exts .nil idents cons, yb, mzA 236 5⟩
theorem soundy0 : cy0.Sound where
  types := types_ok
  funs := fun k fn h => ⟨funcs_ok k fn h, fnOK_name (codes_ok k fn h)⟩
  exts := fun f args v h σ w xs hg hv => extX4_ok sound00 exts_ok (fun f u h => by simp [Tr.get_nil] at h) idents_ok cons_ok h σ w xs hg hv
  mixed := mixed
  zs := fun k args H nx v H' nx' h σ w xs hx g => mzA_ok mz_ok h σ w xs hx g
  ys := fun k args H nx v H' nx' h => yb_ok k args H nx v H' nx' h
  codes := fun k fn c h hb => fnOK_code (codes_ok k fn h) hb
noncomputable def yf1 (k : Nat) : Option Func := if k = 140 then some Tryz.f140 else if k = 260 then some Tryz.f260 else if k = 119 then some Tryz.f119 else none
theorem yf1_ok : ∀ k fn, yf1 k = some fn → Tryz.prog.funcs[k]? = some fn ∧ (fn.name == "runtime.NumGoroutine") = false ∧ ∀ c, fn.body = some c → codeOK c = true := fun k fn h => by
  unfold yf1 at h
  split at h
  · rename_i hk; subst hk; injection h with h; subst h; exact ⟨Tryz.func140, by kernel_rfl, fun c hc => fnOK_code (fn := Tryz.f140) (by kernel_rfl) hc⟩
  · split at h
    · rename_i hk; subst hk; injection h with h; subst h; exact ⟨Tryz.func260, by kernel_rfl, fun c hc => fnOK_code (fn := Tryz.f260) (by kernel_rfl) hc⟩
    · split at h
      · rename_i hk; subst hk; injection h with h; subst h; exact ⟨Tryz.func119, by kernel_rfl, fun c hc => fnOK_code (fn := Tryz.f119) (by kernel_rfl) hc⟩
      · cases h
noncomputable def cy1 : Cx := ⟨Tryz.prog, types, funcs, extX4 Tryz.prog exts .nil idents cons, fun k args H nx => match yf1 k with | some _ => callL cy0 (callF cy0 4000) noM 4000 yf1 k args H nx | none => cy0.Y k args H nx, mzA 236 5⟩
theorem soundy1 : cy1.Sound where
  types := types_ok
  funs := fun k fn h => ⟨funcs_ok k fn h, fnOK_name (codes_ok k fn h)⟩
  exts := fun f args v h σ w xs hg hv => extX4_ok sound00 exts_ok (fun f u h => by simp [Tr.get_nil] at h) idents_ok cons_ok h σ w xs hg hv
  mixed := mixed
  zs := fun k args H nx v H' nx' h σ w xs hx g => mzA_ok mz_ok h σ w xs hx g
  ys := fun k args H nx v H' nx' h => by
    simp only [cy1] at h
    split at h
    · exact callL_ok soundy0 (by rw [callF_eq]; exact call_ok soundy0 4000) (callM := noM) (noM_ok _) yf1_ok k args H nx v H' nx' h
    · exact soundy0.ys k args H nx v H' nx' h
  codes := fun k fn c h hb => fnOK_code (codes_ok k fn h) hb
noncomputable def mf1 (k : Nat) : Option Func := if k = 119 then some Tryz.f119 else none
theorem mf1_ok : ∀ k fn, mf1 k = some fn → Tryz.prog.funcs[k]? = some fn ∧ (fn.name == "runtime.NumGoroutine") = false ∧ ∀ c, fn.body = some c → codeOK c = true := fun k fn h => by
  unfold mf1 at h
  split at h
  · rename_i hk; subst hk; injection h with h; subst h; exact ⟨Tryz.func119, by kernel_rfl, fun c hc => fnOK_code (fn := Tryz.f119) (by kernel_rfl) hc⟩
  · cases h
noncomputable def ym1 : CallM := outsL cy1 (callF cy1 4000) noM 4000 mf1
theorem ym1_ok : CallMOK cy1 ym1 := outsL_ok soundy1 (by rw [callF_eq]; exact call_ok soundy1 4000) (noM_ok _) mf1_ok
noncomputable def yf2 (k : Nat) : Option Func := if k = 219 then some Tryz.f219 else if k = 59 then some Tryz.f59 else none
theorem yf2_ok : ∀ k fn, yf2 k = some fn → Tryz.prog.funcs[k]? = some fn ∧ (fn.name == "runtime.NumGoroutine") = false ∧ ∀ c, fn.body = some c → codeOK c = true := fun k fn h => by
  unfold yf2 at h
  split at h
  · rename_i hk; subst hk; injection h with h; subst h; exact ⟨Tryz.func219, by kernel_rfl, fun c hc => fnOK_code (fn := Tryz.f219) (by kernel_rfl) hc⟩
  · split at h
    · rename_i hk; subst hk; injection h with h; subst h; exact ⟨Tryz.func59, by kernel_rfl, fun c hc => fnOK_code (fn := Tryz.f59) (by kernel_rfl) hc⟩
    · cases h
noncomputable def cy2 : Cx := ⟨Tryz.prog, types, funcs, extX4 Tryz.prog exts .nil idents cons, fun k args H nx => match yf2 k with | some _ => callL cy1 (callF cy1 4000) ym1 4000 yf2 k args H nx | none => cy1.Y k args H nx, mzA 236 5⟩
theorem soundy2 : cy2.Sound where
  types := types_ok
  funs := fun k fn h => ⟨funcs_ok k fn h, fnOK_name (codes_ok k fn h)⟩
  exts := fun f args v h σ w xs hg hv => extX4_ok sound00 exts_ok (fun f u h => by simp [Tr.get_nil] at h) idents_ok cons_ok h σ w xs hg hv
  mixed := mixed
  zs := fun k args H nx v H' nx' h σ w xs hx g => mzA_ok mz_ok h σ w xs hx g
  ys := fun k args H nx v H' nx' h => by
    simp only [cy2] at h
    split at h
    · exact callL_ok soundy1 (by rw [callF_eq]; exact call_ok soundy1 4000) (callM := ym1) ym1_ok yf2_ok k args H nx v H' nx' h
    · exact soundy1.ys k args H nx v H' nx' h
  codes := fun k fn c h hb => fnOK_code (codes_ok k fn h) hb
noncomputable def yf3 (k : Nat) : Option Func := if k = 60 then some Tryz.f60 else none
theorem yf3_ok : ∀ k fn, yf3 k = some fn → Tryz.prog.funcs[k]? = some fn ∧ (fn.name == "runtime.NumGoroutine") = false ∧ ∀ c, fn.body = some c → codeOK c = true := fun k fn h => by
  unfold yf3 at h
  split at h
  · rename_i hk; subst hk; injection h with h; subst h; exact ⟨Tryz.func60, by kernel_rfl, fun c hc => fnOK_code (fn := Tryz.f60) (by kernel_rfl) hc⟩
  · cases h
noncomputable def cy3 : Cx := ⟨Tryz.prog, types, funcs, extX4 Tryz.prog exts .nil idents cons, fun k args H nx => match yf3 k with | some _ => callL cy2 (callF cy2 4000) ym1 4000 yf3 k args H nx | none => cy2.Y k args H nx, mzA 236 5⟩
theorem soundy3 : cy3.Sound where
  types := types_ok
  funs := fun k fn h => ⟨funcs_ok k fn h, fnOK_name (codes_ok k fn h)⟩
  exts := fun f args v h σ w xs hg hv => extX4_ok sound00 exts_ok (fun f u h => by simp [Tr.get_nil] at h) idents_ok cons_ok h σ w xs hg hv
  mixed := mixed
  zs := fun k args H nx v H' nx' h σ w xs hx g => mzA_ok mz_ok h σ w xs hx g
  ys := fun k args H nx v H' nx' h => by
    simp only [cy3] at h
    split at h
    · exact callL_ok soundy2 (by rw [callF_eq]; exact call_ok soundy2 4000) (callM := ym1) ym1_ok yf3_ok k args H nx v H' nx' h
    · exact soundy2.ys k args H nx v H' nx' h
  codes := fun k fn c h hb => fnOK_code (codes_ok k fn h) hb
noncomputable def cx0 : Cx := cy3
theorem sound0 : cx0.Sound := soundy3
end Seat
end CI
