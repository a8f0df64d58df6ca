/- From the interpreter's answer to the walk that a law's frame asks for. -/
import Derived.Test.YtanfejbkoheblaaGreatDoorSuM2
set_option linter.unusedVariables false
noncomputable section
namespace CI
open Go Go.RowKit
theorem walk_of {C : Cx} (hC : C.Sound) {k : Nat} {args : List AV} {xs : List Value} {σ : Sig} {H H' : Heap} {nx nx' : Nat} {w : World} {u : Value} (h : Cl C k args H nx = some (.lit u, H', nx')) (hv : VRs σ args xs) (g : Good σ H nx w)
    (hro : ∀ b o, H.get b = some o → o.isRo = true) : Calls C.P k xs.toArray w fun e w' => e = .returned u ∧ Below w.heap.size w w' := by
  obtain ⟨_, hc⟩ := Cl_ok hC k args H nx (.lit u) H' nx' h σ w xs hv g
  refine hc.mono fun e w' he => ?_
  obtain ⟨x, σ', rfl, hx, hs, _⟩ := he
  simp only [VR] at hx
  subst hx
  exact ⟨rfl, hs.os, hs.tape, hs.output, hs.size, fun k hk => hs.frame k hk fun b l o hb _ _ => hro b o hb⟩
theorem good_nil {w : World} (hg : Glb w) : Good (fun _ => none) .nil 0 w where
  obj := fun b o l h _ => by simp [Tr.get_nil] at h
  inj := fun b b' o o' l l' h _ _ _ _ => by simp [Tr.get_nil] at h
  fresh := fun b _ => ⟨rfl, rfl⟩
  glb := hg
  apart := fun b l o h => by simp [Tr.get_nil] at h
theorem ro_nil : ∀ b o, (Tr.nil : Heap).get b = some o → o.isRo = true := fun b o h => by simp [Tr.get_nil] at h
end CI
