/- CI: functions that are answered by contracts: plain arguments, a plain result. -/
import Derived.Test.YtdkicjlbfhmfkaaGreatDoorCiv
set_option linter.unusedVariables false
set_option linter.unusedSimpArgs false
noncomputable section
namespace CI
open Go

def ConFact (P : Program) (f : Nat) (g : List Value → Option Value) : Prop := ∀ xs v, g xs = some v → ∀ w, Glb w →
  (callFunc f xs.toArray).run P w = .ok (.enter f xs.toArray) w ∧ Calls P f xs.toArray w fun e w' => e = .returned v ∧ RowKit.Below w.heap.size w w'

def extX4 (P : Program) (E : Tr (Array Value → Sem Value)) (S : Tr Value) (I : Tr Unit) (A : Tr (List Value → Option Value)) (f : FuncId) (args : List AV) : Option AV :=
  match A.get f, plains args with
  | some g, some xs => (g xs).map abs
  | _, _ => extX3 P E S I f args

theorem extX4_ok {C : Cx} (hC : C.Sound) {E : Tr (Array Value → Sem Value)} {S : Tr Value} {I : Tr Unit} {A : Tr (List Value → Option Value)} (h : ∀ f e, E.get f = some e → ExtFact C.P f e)
    (hS : ∀ f u, S.get f = some u → ∃ n H' nx', callN C n f [] .nil 0 = some (.lit u, H', nx'))
    (hI : ∀ f u, I.get f = some u → ExtFact C.P f Extern.AbiNoEscape.same) (hA : ∀ f g, A.get f = some g → ConFact C.P f g) {f : FuncId} {args : List AV} {v : AV} (hx : extX4 C.P E S I A f args = some v)
    (σ : Sig) (w : World) (xs : List Value) (hg : Glb w) (hv : VRs σ args xs) : (∃ x, (callFunc f xs.toArray).run C.P w = .ok (.value x) w ∧ VR σ v x) ∨
    ((callFunc f xs.toArray).run C.P w = .ok (.enter f xs.toArray) w ∧ Calls C.P f xs.toArray w fun e w' => ∃ x, e = .returned x ∧ VR σ v x ∧ RowKit.Below w.heap.size w w') := by
  unfold extX4 at hx
  split at hx
  · rename_i g ys hgf hp
    simp only [Option.map_eq_some_iff] at hx
    obtain ⟨y, hy, rfl⟩ := hx
    have := plains_eq hp hv
    subst this
    obtain ⟨h1, h2⟩ := hA f g hgf _ y hy w hg
    exact .inr ⟨h1, h2.mono fun e w' ⟨h3, h4⟩ => ⟨y, h3, abs_VR σ y, h4⟩⟩
  · exact extX3_ok hC h hS hI hx σ w xs hg hv
theorem abs_VRs (σ : Sig) : ∀ xs : List Value, VRs σ (xs.map abs) xs
  | [] => rfl
  | x :: xs => ⟨x, xs, rfl, abs_VR σ x, abs_VRs σ xs⟩
/-- What a function answers at plain arguments, as the interpreter found. -/
theorem con_of_run {C : Cx} (hC : C.Sound) {n k : Nat} {xs : List Value} {u : Value} (h : (callN C n k (xs.map abs) .nil 0).map (·.1) = some (.lit u)) (w : World) (hg : Glb w) :
    (callFunc k xs.toArray).run C.P w = .ok (.enter k xs.toArray) w ∧ Calls C.P k xs.toArray w fun e w' => e = .returned u ∧ RowKit.Below w.heap.size w w' := by
  simp only [Option.map_eq_some_iff] at h
  obtain ⟨⟨v, H', nx'⟩, h1, h2⟩ := h
  simp only at h2; subst h2
  refine ⟨(call_ok hC n k _ .nil 0 _ H' nx' h1 (fun _ => none) w xs (abs_VRs _ xs) (good_nil hg)).1, ?_⟩
  exact walk_of hC (Cl_of h1) (xs := xs) (abs_VRs _ xs) (good_nil hg) ro_nil
end CI
