/- CI, part o: the invariant of a region that is run in some order, kept by each operation. -/
import Derived.Test.YtdkicjlbfhmfkaaGreatDoorCin
set_option linter.unusedVariables false
set_option linter.unusedSimpArgs false
noncomputable section
namespace CI
open Go

structure SimF (c : Nat) (σ : Sig) (K : Nat → Option AObj) (w : World) : Prop where
  obj : ∀ b o l, K b = some o → σ b = some l → OR (σ.lt (max c (b + 1))) l o w.heap[l.blk]?
  inj : ∀ b b' o o' l l', K b = some o → K b' = some o' → σ b = some l → σ b' = some l' → l.blk = l'.blk → b = b'
theorem SimF.lt {c : Nat} {σ : Sig} {K : Nat → Option AObj} {w : World} (s : SimF c σ K w) {b : Nat} {o : AObj} {l : Loc} (hb : K b = some o) (hl : σ b = some l) : l.blk < w.heap.size := by
  have := (s.obj b o l hb hl).isSome
  rcases Nat.lt_or_ge l.blk w.heap.size with h | h
  · exact h
  · exact absurd (Array.getElem?_eq_none h) this

namespace DRun
variable {C : Cx} {call : CallF} {nt : Nat} {ops : Array Oper} {s0 sN : St} {l : List DS}

/-- The heap that the memory bears when the effects ahead of p have come: that of p, and what is made later. -/
def KK (l : List DS) (sN : St) (p b : Nat) : Option AObj := if b < (stAt l sN p).nx then (stAt l sN p).H.get b else newAt l p b

structure Inv (C : Cx) (call : CallF) (nt : Nat) (ops : Array Oper) (s0 : St) (l : List DS) (sN : St) (σ0 : Sig) (w0 : World) (S : Nat → Prop) (σ : Sig) (p : Nat) (a : Act) (w : World) : Prop where
  ple : p ≤ l.length
  front : p = 0 ∨ ∃ (e : Nat) (d : DS), l[e]? = some d ∧ d.k = .eff ∧ p = e + 1
  down : ∀ (i : Nat) (o : Oper), S i → ops[i]? = some o → ∀ e ∈ bnds o, S e.on
  effs : ∀ (e : Nat) (d : DS), l[e]? = some d → d.k = .eff → (S e ↔ e < p)
  slots : ∀ (i : Nat) (d : DS) (o : Oper) (t : Nat), S i → l[i]? = some d → ops[i]? = some o → o.dst = some t → VR (σ.lt (stAt l sN (i + 1)).nx) d.v (a.tmps.getD t undef)
  rest : ∀ t, (∀ (i : Nat) (o : Oper), S i → ops[i]? = some o → o.dst ≠ some t) → VR σ0 ((s0.env.get t).getD (.lit undef)) (a.tmps.getD t undef)
  size : a.tmps.size = nt
  defers : a.defers = []
  sim : SimF (stAt l sN p).nx σ (KK l sN p) w
  fresh : ∀ b, (stAt l sN p).nx ≤ b → (stAt l sN p).H.get b = none
  above : ∀ b, (stAt l sN p).nx ≤ b → σ b ≠ none → ∃ (j : Nat) (d : DS) (ob : AObj), S j ∧ l[j]? = some d ∧ d.k = .new ob ∧ d.s.nx = b
  undone : ∀ (j : Nat) (d : DS) (ob : AObj), ¬ S j → l[j]? = some d → d.k = .new ob → σ d.s.nx = none
  kept : ∀ (j : Nat) (d : DS) (ob : AObj), ¬ S j → l[j]? = some d → d.k = .new ob → KK l sN p d.s.nx = some ob
  old : ∀ b, b < s0.nx → σ b = σ0 b
  os : w.os = w0.os
  tape : w.tape = w0.tape
  output : w.output = w0.output
  wsize : w0.heap.size ≤ w.heap.size
  ro : ∀ b o, s0.H.get b = some o → o.isRo = true → KK l sN p b = some o
  dead : ∀ b, b < s0.nx → s0.H.get b = none → KK l sN p b = none
  unreal : ∀ b, b < s0.nx → σ0 b = none → KK l sN p b = s0.H.get b
  frame : ∀ k, k < w0.heap.size → (∀ b l o, s0.H.get b = some o → σ0 b = some l → l.blk = k → o.isRo = true) → w.heap[k]? = w0.heap[k]?
  own : ∀ b l' o, KK l sN p b = some o → σ b = some l' → l'.blk < w0.heap.size →
    ∃ b0 l0 o0, s0.H.get b0 = some o0 ∧ σ0 b0 = some l0 ∧ l0.blk = l'.blk ∧ (o0.isRo = false ∨ b0 = b)

/-- The text's environment ahead of an operation, at a slot that nothing ahead has written. -/
theorem env_old (D : DRun C call nt ops s0 l sN) (t : Nat) : ∀ (i : Nat), i ≤ l.length → (∀ (j : Nat) (o : Oper), j < i → ops[j]? = some o → o.dst ≠ some t) →
    (stAt l sN i).env.get t = s0.env.get t := by
  intro i
  induction i with
  | zero => intro _ _; rw [txRun_first D.run]
  | succ i ih =>
    intro hi hno
    obtain ⟨d, hd⟩ : ∃ d, l[i]? = some d := ⟨l[i], List.getElem?_eq_getElem (by omega)⟩
    obtain ⟨o, ho⟩ := D.oper hd
    have hp := (D.at_ ho hd).2
    have ih := ih (by omega) (fun j o h => hno j o (by omega))
    rw [st hd] at ih
    have hne := hno i o (by omega) ho
    unfold put? at hp
    split at hp
    · injection hp with hp; rw [← hp]; exact ih
    · rename_i t' ht'
      split at hp
      · injection hp with hp; rw [← hp, Tr.get_put_ne _ _ _ _ (by rintro rfl; exact hne ht')]; exact ih
      · cases hp
theorem env_new (D : DRun C call nt ops s0 l sN) {j : Nat} {o : Oper} {d : DS} {t : Nat} (ho : ops[j]? = some o) (hd : l[j]? = some d) (ht : o.dst = some t) :
    ∀ (i : Nat), j < i → i ≤ l.length → (stAt l sN i).env.get t = some d.v := by
  intro i
  induction i with
  | zero => intro h; omega
  | succ i ih =>
    intro hji hi
    rcases Nat.lt_or_ge j i with hlt | hge
    · obtain ⟨d', hd'⟩ : ∃ d, l[i]? = some d := ⟨l[i], List.getElem?_eq_getElem (by omega)⟩
      obtain ⟨o', ho'⟩ := D.oper hd'
      have hp := (D.at_ ho' hd').2
      have ih := ih hlt (by omega)
      rw [st hd'] at ih
      unfold put? at hp
      split at hp
      · injection hp with hp; rw [← hp]; exact ih
      · rename_i t' ht'
        split at hp
        · injection hp with hp
          rw [← hp, Tr.get_put_ne _ _ _ _ (D.stat.dst j i o o' t t' (by simpa using ho) (by simpa using ho') (by omega) ht ht')]
          exact ih
        · cases hp
    · have : j = i := by omega
      subst this
      have hp := (D.at_ ho hd).2
      rw [ht] at hp
      unfold put? at hp
      simp only at hp
      split at hp
      · injection hp with hp; rw [← hp, Tr.get_put_same]
      · cases hp

variable {σ0 : Sig} {w0 : World} {S : Nat → Prop} {σ : Sig} {p : Nat} {a : Act} {w : World}

theorem Inv.ext0 (V : Inv C call nt ops s0 l sN σ0 w0 S σ p a w) (g0 : Good σ0 s0.H s0.nx w0) {n : Nat} (hn : s0.nx ≤ n) : Ext σ0 (σ.lt n) := fun b k h => by
  have hb : b < s0.nx := by
    rcases Nat.lt_or_ge b s0.nx with h' | h'
    · exact h'
    · rw [(g0.fresh b h').1] at h; cases h
  rw [Sig.lt_of (by omega), V.old b hb]; exact h

theorem nx0_le (D : DRun C call nt ops s0 l sN) {i : Nat} (hi : i ≤ l.length) : s0.nx ≤ (stAt l sN i).nx := by
  have := D.nx_mono (i := 0) (Nat.zero_le i) hi
  rw [txRun_first D.run] at this
  exact this

/-- What a slot holds that an operation reads when its turn comes. -/
theorem Inv.slot (D : DRun C call nt ops s0 l sN) (V : Inv C call nt ops s0 l sN σ0 w0 S σ p a w) (g0 : Good σ0 s0.H s0.nx w0) {i : Nat} {o : Oper} {d : DS} (ho : ops[i]? = some o) (hd : l[i]? = some d)
    (hS : ¬ S i) (hdep : ∀ e ∈ bnds o, S e.on) {t : Nat} (ht : t ∈ slotsOf o ∨ ∃ j b p', o.guard = some (j, b) ∧ ops[j]? = some p' ∧ p'.dst = some t) :
    VR (σ.lt d.s.nx) ((d.s.env.get t).getD (.lit undef)) (a.tmps.getD t undef) := by
  have hil := (List.getElem?_eq_some_iff.1 hd).1
  have hnx0 := D.nx0_le (i := i) (by omega)
  rw [st hd] at hnx0
  have cl : ∀ j, ((ancs ops.toList []).getD i 0).testBit j = true → S j := anc_closed D.stat (S := S) (fun i o h1 h2 => V.down i o h1 (by simpa using h2)) (i + 1) i o (by omega) (by simpa using ho) hdep
  have oldcase : (∀ (j : Nat) (q : Oper), ops[j]? = some q → q.dst = some t → j ≠ i → ¬ S j ∧ i < j) → VR (σ.lt d.s.nx) ((d.s.env.get t).getD (.lit undef)) (a.tmps.getD t undef) := by
    intro hno
    have h1 := D.env_old t i (by omega) (fun j q hj hq hqt => by have := (hno j q hq hqt (by omega)).2; omega)
    rw [st hd] at h1
    rw [h1]
    refine (V.rest t fun j q hSj hq hqt => ?_).ext (V.ext0 g0 hnx0)
    by_cases e : j = i
    · subst e; exact hS hSj
    · exact (hno j q hq hqt e).1 hSj
  have newcase : ∀ (j : Nat) (q : Oper), ops[j]? = some q → q.dst = some t → S j → j < i → VR (σ.lt d.s.nx) ((d.s.env.get t).getD (.lit undef)) (a.tmps.getD t undef) := by
    intro j q hq hqt hSj hji
    obtain ⟨dj, hdj⟩ := D.ds hq
    have h1 := D.env_new hq hdj hqt i hji (by omega)
    rw [st hd] at h1
    rw [h1]
    refine (V.slots j dj q t hSj hdj hq hqt).ext (Sig.lt_mono (Ext.refl σ) ?_)
    have := D.nx_mono (i := j + 1) (j := i) (by omega) (by omega)
    rw [st hd] at this
    exact this
  have anclt : ∀ (i j : Nat) (o : Oper), ops[i]? = some o → ((ancs ops.toList []).getD i 0).testBit j = true → j < i := by
    intro i j o ho h
    exact anc_closed D.stat (S := fun k => k < i) (fun k q h1 h2 e he => by
      have := D.stat.edge k q h2 e he; omega) (i + 1) i o (by omega) (by simpa using ho) (fun e he => D.stat.edge i o (by simpa using ho) e he) j h
  rcases ht with ht | ⟨j, b, q, hg, hq, hqt⟩
  · by_cases hex : ∃ (j : Nat) (q : Oper), ops[j]? = some q ∧ q.dst = some t ∧ j ≠ i
    · obtain ⟨j, q, hq, hqt, hne⟩ := hex
      rcases D.stat.slot i j o q t (by simpa using ho) (by simpa using hq) (Ne.symm hne) ht hqt with h | h
      · exact newcase j q hq hqt (cl j h) (anclt i j o ho h)
      · refine oldcase fun j' q' hq' hqt' hne' => ?_
        have : j' = j := by
          by_cases e : j' = j
          · exact e
          · exact absurd rfl (D.stat.dst j' j q' q t t (by simpa using hq') (by simpa using hq) e hqt' hqt)
        subst this
        refine ⟨fun hSj => hS ?_, anclt j' i q hq h⟩
        exact anc_closed D.stat (S := S) (fun i o h1 h2 => V.down i o h1 (by simpa using h2)) (j' + 1) j' q (by omega) (by simpa using hq) (V.down j' q hSj hq) i h
    · exact oldcase fun j q hq hqt hne => absurd ⟨j, q, hq, hqt, hne⟩ hex
  · have h := D.stat.guard i o j b (by simpa using ho) hg
    exact newcase j q hq hqt (cl j h) (anclt i j o ho h)

/-- The operands, as an operation finds them when its turn comes. -/
theorem Inv.rho (D : DRun C call nt ops s0 l sN) (V : Inv C call nt ops s0 l sN σ0 w0 S σ p a w) (g0 : Good σ0 s0.H s0.nx w0) {i : Nat} {o : Oper} {d : DS} (ho : ops[i]? = some o) (hd : l[i]? = some d)
    (hS : ¬ S i) (hdep : ∀ e ∈ bnds o, S e.on) :
    ∃ ρ : Operand → AV, (∀ x, VR (σ.lt d.s.nx) (ρ x) (a.eval x)) ∧ ∀ x ∈ o.op.operands, ev d.s.env x = ρ x := by
  classical
  refine ⟨fun x => if x ∈ o.op.operands then ev d.s.env x else .lit (a.eval x), fun x => ?_, fun x hx => by simp only; rw [if_pos hx]⟩
  simp only
  split
  · rename_i hx
    cases x with
    | tmp t =>
      exact V.slot D g0 ho hd hS hdep (t := t) (.inl (by
        unfold slotsOf
        rw [List.mem_filterMap]
        exact ⟨.tmp t, by simpa using hx, rfl⟩))
    | const v => exact abs_VR _ v
    | global g => simp [ev, Act.eval, VR]
    | func f => simp only [ev, Act.eval, VR]; exact ⟨[], [], rfl, by simp [VRs], by simp [VRs]⟩
  · simp [VR]

theorem Inv.wants (D : DRun C call nt ops s0 l sN) (V : Inv C call nt ops s0 l sN σ0 w0 S σ p a w) (g0 : Good σ0 s0.H s0.nx w0) {i : Nat} {o : Oper} {d : DS} (ho : ops[i]? = some o) (hd : l[i]? = some d)
    (hS : ¬ S i) (hdep : ∀ e ∈ bnds o, S e.on) : Region.wanted o (yielded ops a.tmps) = wantedA ops o d.s.env := by
  refine wantedA_eq' (σ := σ.lt d.s.nx) fun j want t hg ht => ?_
  cases hq : ops[j]? with
  | none => rw [hq] at ht; cases ht
  | some q =>
    rw [hq] at ht
    exact V.slot D g0 ho hd hS hdep (.inr ⟨j, want, q, hg, hq, ht⟩)
end DRun
end CI
