/- CI: bytealg.MakeNoZero: a new row of whatever bytes. -/
import Derived.Test.YtdkicjlbfhmfkaaGreatDoorCij
import Derived.Lib.MakeNoZero
import Derived.Laws.Externs
set_option linter.unusedVariables false
set_option linter.unusedSimpArgs false
noncomputable section
namespace CI
open Go

/-- The entry of one program's MakeNoZero: its slice's type, and the type of its elements. -/
structure MzFact (P : Program) (f : Nat) (t e : TypeId) : Prop where
  under : P.underlying t = some (.slice e)
  ext : ∃ fn ps, P.funcs[f]? = some fn ∧ (fn.name == "runtime.NumGoroutine") = false ∧ fn.body.isNone = true ∧ Extern.findNext fn = none ∧ Extern.find fn = some (Extern.BytealgMakeNoZero.makeNoZero ps #[t])

def mzA (f : Nat) (e : TypeId) (k : FuncId) (args : List AV) (H : Heap) (nx : Nat) : Option (AV × Heap × Nat) :=
  if (k : Nat) = f then
    match args with
    | [.lit (.int .i64 (.ofNat n))] => if n ≤ 281474976710656 then some (.slice nx 0 n none 1, H.put nx (some (.cells [] e false)), nx + 1) else none
    | _ => none
  else none

theorem mzA_ok {P : Program} {f : Nat} {t e : TypeId} (hf : MzFact P f t e) {k : FuncId} {args : List AV} {H H' : Heap} {nx nx' : Nat} {v : AV} (h : mzA f e k args H nx = some (v, H', nx'))
    (σ : Sig) (w : World) (xs : List Value) (hx : VRs σ args xs) (g : Good σ H nx w) :
    ∃ x w' σ', (callFunc k xs.toArray).run P w = .ok (.value x) w' ∧ VR σ' v x ∧ Step σ H nx w σ' H' nx' w' ∧ Good σ' H' nx' w' := by
  unfold mzA at h
  split at h
  · rename_i hk
    subst hk
    split at h
    · rename_i n
      split at h
      · rename_i hn
        simp only [Option.some.injEq, Prod.mk.injEq] at h
        obtain ⟨rfl, rfl, rfl⟩ := h
        simp only [VRs, VR] at hx
        obtain ⟨y, ys, rfl, rfl, rfl⟩ := hx
        obtain ⟨fn, ps, h1, h2, h3, h4, h5⟩ := hf.ext
        obtain ⟨cs, r1, r2, _⟩ := Lib.run_makeNoZero (P := P) w ps t e hf.under n hn
        have hal := alloc_step (w' := w.drew.drew.alloc (.cells cs e)) g (o := .cells [] e false) (O := .cells cs e) (room := cs.size) rfl rfl rfl rfl
          ⟨cs, (0, 0), rfl, rfl, by simp [Loc.base_eq], by simp, fun _ i _ => by simp⟩
        refine ⟨.slice (some ⟨w.heap.size, 0, none⟩) n cs.size, _, _, ?_, ?_, hal.1, hal.2⟩
        · rw [run_callFunc_extern h1 h2 h3 h4 h5]
          rw [show (Value.int .i64 (Int.ofNat n)) = Value.int .i64 (n : Nat) from rfl]
          rw [r1]
          rfl
        · simp only [VR]
          exact ⟨_, cs.size, Sig.upd_same _ _ _, rfl, r2, by simp [Loc.base_eq], by simp [Loc.base_eq]⟩
      · cases h
    · cases h
  · cases h
end CI
