/- CI, part v: functions without a body whose answer needs no memory. -/
import Derived.Test.YtdkicjlbfhmfkaaGreatDoorCit
import Derived.Laws.Externs
import Derived.Lib.Builder
import Derived.Test.YtdkicjlbfhmfkaaGreatDoorCk
set_option linter.unusedVariables false
set_option linter.unusedSimpArgs false
noncomputable section
namespace CI
open Go

/-- What the functions without a body answer, by a table of the model's entries. -/
def extX (P : Program) (E : Tr (Array Value → Sem Value)) (f : FuncId) (args : List AV) : Option AV :=
  match E.get f, plains args with
  | some e, some xs => (pureRun P (e xs.toArray)).map abs
  | _, _ => none

def ExtFact (P : Program) (f : Nat) (e : Array Value → Sem Value) : Prop :=
  ∃ fn, P.funcs[f]? = some fn ∧ (fn.name == "runtime.NumGoroutine") = false ∧ fn.body.isNone = true ∧ Extern.findNext fn = none ∧ Extern.find fn = some e

theorem extX_ok {P : Program} {E : Tr (Array Value → Sem Value)} (h : ∀ f e, E.get f = some e → ExtFact P f e) {f : FuncId} {args : List AV} {v : AV} (hx : extX P E f args = some v)
    (σ : Sig) (w : World) (xs : List Value) (hv : VRs σ args xs) : ∃ x, (callFunc f xs.toArray).run P w = .ok (.value x) w ∧ VR σ v x := by
  unfold extX at hx
  split at hx
  · rename_i e ys he hp
    simp only [Option.map_eq_some_iff] at hx
    obtain ⟨y, hy, rfl⟩ := hx
    obtain ⟨fn, h1, h2, h3, h4, h5⟩ := h f e he
    have := plains_eq hp hv
    subst this
    refine ⟨y, ?_, abs_VR σ y⟩
    rw [run_callFunc_extern h1 h2 h3 h4 h5, pureRun_ok w hy]
    rfl
  · cases hx

/-- Besides: what functions without arguments answer, as the interpreter found. -/
def extX2 (P : Program) (E : Tr (Array Value → Sem Value)) (S : Tr Value) (f : FuncId) (args : List AV) : Option AV :=
  match extX P E f args with
  | some v => some v
  | none => if args.isEmpty then (S.get f).map .lit else none

theorem extX2_ok {C : Cx} (hC : C.Sound) {E : Tr (Array Value → Sem Value)} {S : Tr Value} (h : ∀ f e, E.get f = some e → ExtFact C.P f e) (hS : ∀ f u, S.get f = some u → ∃ n H' nx', callN C n f [] .nil 0 = some (.lit u, H', nx'))
    {f : FuncId} {args : List AV} {v : AV} (hx : extX2 C.P E S f args = some v)
    (σ : Sig) (w : World) (xs : List Value) (hg : Glb w) (hv : VRs σ args xs) : (∃ x, (callFunc f xs.toArray).run C.P w = .ok (.value x) w ∧ VR σ v x) ∨
    ((callFunc f xs.toArray).run C.P w = .ok (.enter f xs.toArray) w ∧ Calls C.P f xs.toArray w fun e w' => ∃ x, e = .returned x ∧ VR σ v x ∧ RowKit.Below w.heap.size w w') := by
  unfold extX2 at hx
  split at hx
  · rename_i u he
    injection hx with hx; subst hx
    exact .inl (extX_ok h he σ w xs hv)
  · split at hx
    · rename_i ha
      simp only [List.isEmpty_iff] at ha
      subst ha
      simp only [Option.map_eq_some_iff] at hx
      obtain ⟨u, hu, rfl⟩ := hx
      obtain ⟨n, H', nx', hn⟩ := hS f u hu
      simp only [VRs] at hv
      subst hv
      refine .inr ⟨(call_ok hC n f [] .nil 0 _ H' nx' hn (fun _ => none) w [] rfl (good_nil hg)).1, ?_⟩
      exact (walk_of hC (Cl_of hn) (xs := []) rfl (good_nil hg) ro_nil).mono fun e w' ⟨h1, h2⟩ => ⟨u, h1, rfl, h2⟩
    · cases hx

/-- Besides: functions that answer what they are given. -/
def extX3 (P : Program) (E : Tr (Array Value → Sem Value)) (S : Tr Value) (I : Tr Unit) (f : FuncId) (args : List AV) : Option AV :=
  match I.get f, args with
  | some _, [v] => some v
  | _, _ => extX2 P E S f args

theorem extX3_ok {C : Cx} (hC : C.Sound) {E : Tr (Array Value → Sem Value)} {S : Tr Value} {I : Tr Unit} (h : ∀ f e, E.get f = some e → ExtFact C.P f e) (hS : ∀ f u, S.get f = some u → ∃ n H' nx', callN C n f [] .nil 0 = some (.lit u, H', nx'))
    (hI : ∀ f u, I.get f = some u → ExtFact C.P f Extern.AbiNoEscape.same) {f : FuncId} {args : List AV} {v : AV} (hx : extX3 C.P E S I f args = some v)
    (σ : Sig) (w : World) (xs : List Value) (hg : Glb w) (hv : VRs σ args xs) : (∃ x, (callFunc f xs.toArray).run C.P w = .ok (.value x) w ∧ VR σ v x) ∨
    ((callFunc f xs.toArray).run C.P w = .ok (.enter f xs.toArray) w ∧ Calls C.P f xs.toArray w fun e w' => ∃ x, e = .returned x ∧ VR σ v x ∧ RowKit.Below w.heap.size w w') := by
  unfold extX3 at hx
  split at hx
  · rename_i u v' hu
    injection hx with hx; subst hx
    obtain ⟨fn, h1, h2, h3, h4, h5⟩ := hI f _ hu
    simp only [VRs] at hv
    obtain ⟨y, ys, rfl, hy, rfl⟩ := hv
    refine .inl ⟨y, ?_, hy⟩
    rw [run_callFunc_extern h1 h2 h3 h4 h5]
    rfl
  · exact extX2_ok hC h hS hx σ w xs hg hv
end CI
