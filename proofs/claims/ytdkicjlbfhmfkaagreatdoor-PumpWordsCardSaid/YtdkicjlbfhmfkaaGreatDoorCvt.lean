/- CI: a call that leaves a new block behind, told by a contract. -/
import Derived.Test.YtdkicjlbfhmfkaaGreatDoorCvs
set_option linter.unusedVariables false
set_option linter.unusedSimpArgs false
noncomputable section
namespace CI
open Go
variable {σ : Sig} {H : Heap} {nx : Nat} {w w' : World}

theorem enter_of {P : Program} {k : FuncId} {fn : Func} {body : Code} (hf : P.funcs[k]? = some fn) (hname : (fn.name == "runtime.NumGoroutine") = false) (hbody : fn.body = some body) (xs : Array Value) (w : World) :
    (callFunc k xs).run P w = .ok (.enter k xs) w := by
  unfold callFunc
  rw [run_bind_ok (a := P) (w' := w) rfl]
  simp only [hf]
  rw [if_neg (by rw [hname]; simp), if_neg (by simp [hbody])]
  rfl

theorem fresh_step (g : Good σ H nx w) (hb : RowKit.Below w.heap.size w w') {N : Nat} {o : AObj} {room : Nat} (hN : w.heap.size ≤ N) (hO : OR σ ⟨N, room⟩ o w'.heap[N]?) :
    Step σ H nx w (σ.upd nx ⟨N, room⟩) (H.put nx (some o)) (nx + 1) w' ∧ Good (σ.upd nx ⟨N, room⟩) (H.put nx (some o)) (nx + 1) w' := by
  have hfr := g.fresh nx (Nat.le_refl _)
  have hext := Sig.upd_ext σ nx ⟨N, room⟩ hfr.1
  have hgetlt : ∀ k, k < w.heap.size → w'.heap[k]? = w.heap[k]? := fun k hk => hb.block k hk
  have hs : Step σ H nx w (σ.upd nx ⟨N, room⟩) (H.put nx (some o)) (nx + 1) w' := by
    refine ⟨hb.os, hb.tape, hb.output, hb.size, by omega, fun b hb => Sig.upd_ne _ _ _ (by omega), ?_, ?_, ?_, fun k hk _ => hgetlt k hk, ?_⟩
    · intro b o' hb hr
      rw [Tr.get_put_ne _ _ _ _ (by rintro rfl; rw [hfr.2] at hb; cases hb)]; exact hb
    · intro b hb h; rw [Tr.get_put_ne _ _ _ _ (by omega)]; exact h
    · intro b hb _; rw [Tr.get_put_ne _ _ _ _ (by omega)]
    · intro b l o' hb hl hlt
      by_cases e : b = nx
      · subst e; rw [Sig.upd_same] at hl; injection hl with hl; subst hl; simp at hlt; omega
      · rw [Tr.get_put_ne _ _ _ _ e] at hb; rw [Sig.upd_ne _ _ _ e] at hl
        exact ⟨b, l, o', hb, hl, rfl, .inr rfl⟩
  refine ⟨hs, g.up hs ⟨⟨?_, ?_⟩, ?_⟩⟩
  · intro b o' l hb hl
    by_cases e : b = nx
    · subst e
      rw [Tr.get_put_same] at hb; injection hb with hb; subst hb
      rw [Sig.upd_same] at hl; injection hl with hl; subst hl
      exact hO.ext hext
    · rw [Tr.get_put_ne _ _ _ _ e] at hb; rw [Sig.upd_ne _ _ _ e] at hl
      rw [hgetlt _ (g.lt hb hl)]
      exact (g.obj b o' l hb hl).ext hext
  · intro b b' o1 o2 l1 l2 hb hb' hl hl' he
    by_cases e : b = nx
    · subst e
      by_cases e' : b' = b
      · exact e'.symm
      · rw [Tr.get_put_ne _ _ _ _ e'] at hb'; rw [Sig.upd_ne _ _ _ e'] at hl'
        rw [Sig.upd_same] at hl; injection hl with hl; subst hl
        have := g.lt hb' hl'
        simp at he; omega
    · rw [Tr.get_put_ne _ _ _ _ e] at hb; rw [Sig.upd_ne _ _ _ e] at hl
      by_cases e' : b' = nx
      · subst e'
        rw [Sig.upd_same] at hl'; injection hl' with hl'; subst hl'
        have := g.lt hb hl
        simp at he; omega
      · rw [Tr.get_put_ne _ _ _ _ e'] at hb'; rw [Sig.upd_ne _ _ _ e'] at hl'
        exact g.inj b b' o1 o2 l1 l2 hb hb' hl hl' he
  · intro b hb
    have := g.fresh b (by omega)
    rw [Tr.get_put_ne _ _ _ _ (by omega), Sig.upd_ne _ _ _ (by omega)]
    exact this
end CI
