/- Parts of the proof: Cin Cio Cip Ciq Cir Cis Cix Ciy Cj Cn. -/
import Derived.Test.YtanfejbkoheblaaGreatDoorSuM1
import Derived.Deep.LoopGhost
set_option linter.unusedVariables false
set_option linter.unusedSimpArgs false
noncomputable section
namespace CI
open Go
structure DRun (C : Cx) (call : CallF) (nt : Nat) (ops : Array Oper) (s0 : St) (l : List DS) (sN : St) : Prop where
  run : txRun C call nt ops ops.toList s0 = some (l, sN)
  stat : Static ops.toList
  reads : ∀ (i : Nat) (o : Oper) (d : DS), ops[i]? = some o → l[i]? = some d → d.k = .read → readOK C (ancs ops.toList []) l sN i o d = true
namespace DRun
variable {C : Cx} {call : CallF} {nt : Nat} {ops : Array Oper} {s0 sN : St} {l : List DS}
theorem len (D : DRun C call nt ops s0 l sN) : l.length = ops.size := by simpa using txRun_length D.run
theorem at_ (D : DRun C call nt ops s0 l sN) {i : Nat} {o : Oper} {d : DS} (ho : ops[i]? = some o) (hd : l[i]? = some d) :
    tx1 C call ops o d.s = some (d.k, d.v, (stAt l sN (i + 1)).H, (stAt l sN (i + 1)).nx) ∧ put? d.s.env nt o.dst d.v = some (stAt l sN (i + 1)).env :=
  txRun_at D.run i o d (by simpa using ho) hd
theorem oper (D : DRun C call nt ops s0 l sN) {i : Nat} {d : DS} (hd : l[i]? = some d) : ∃ o, ops[i]? = some o := by
  have := D.len
  have h := (List.getElem?_eq_some_iff.1 hd).1
  exact ⟨ops[i], Array.getElem?_eq_getElem (by omega)⟩
theorem ds (D : DRun C call nt ops s0 l sN) {i : Nat} {o : Oper} (ho : ops[i]? = some o) : ∃ d, l[i]? = some d := by
  have := D.len
  have h := (Array.getElem?_eq_some_iff.1 ho).1
  exact ⟨l[i], List.getElem?_eq_getElem (by omega)⟩
theorem st {i : Nat} {d : DS} (hd : l[i]? = some d) : stAt l sN i = d.s := by simp [stAt, hd]
theorem kind (D : DRun C call nt ops s0 l sN) {i : Nat} {o : Oper} {d : DS} (ho : ops[i]? = some o) (hd : l[i]? = some d) :
    match d.k with
    | .skip => wantedA ops o d.s.env = false ∧ d.v = .lit undef ∧ (stAt l sN (i + 1)).H = d.s.H ∧ (stAt l sN (i + 1)).nx = d.s.nx
    | .still => wantedA ops o d.s.env = true ∧ isEff o.op = false ∧ (∃ X, opA C (ev d.s.env) o.op .nil d.s.nx = some (d.v, X, d.s.nx)) ∧ (stAt l sN (i + 1)).H = d.s.H ∧ (stAt l sN (i + 1)).nx = d.s.nx
    | .read => wantedA ops o d.s.env = true ∧ isEff o.op = false ∧ AV.belowB d.s.nx d.v = true ∧ (stAt l sN (i + 1)).H = d.s.H ∧ (stAt l sN (i + 1)).nx = d.s.nx
    | .new ob => wantedA ops o d.s.env = true ∧ isEff o.op = false ∧ (∃ X, opA C (ev d.s.env) o.op .nil d.s.nx = some (d.v, X, d.s.nx + 1) ∧ X.get d.s.nx = some ob) ∧
        (stAt l sN (i + 1)).H = d.s.H.put d.s.nx (some ob) ∧ (stAt l sN (i + 1)).nx = d.s.nx + 1
    | .eff => wantedA ops o d.s.env = true ∧ isEff o.op = true ∧ stepA C call (ev d.s.env) o.op d.s.H d.s.nx = some (d.v, (stAt l sN (i + 1)).H, (stAt l sN (i + 1)).nx) ∧ d.s.nx ≤ (stAt l sN (i + 1)).nx := by
  have h := (D.at_ ho hd).1
  unfold tx1 at h
  split at h
  · rename_i hw
    split at h
    · rename_i he
      split at h
      · rename_i v H' nx' hst
        split at h
        · rename_i hle
          simp only [Option.some.injEq, Prod.mk.injEq] at h
          obtain ⟨h1, h2, h3, h4⟩ := h
          rw [← h1]
          simp only
          rw [← h2, ← h3, ← h4]
          exact ⟨hw, he, hst, hle⟩
        · cases h
      · cases h
    · rename_i he
      have he' : isEff o.op = false := by simpa using he
      split at h
      · rename_i v X nx' hop
        split at h
        · rename_i e
          simp only [Option.some.injEq, Prod.mk.injEq] at h
          obtain ⟨h1, h2, h3, h4⟩ := h
          subst e
          rw [← h1]
          simp only
          rw [← h2, ← h3, ← h4]
          exact ⟨hw, he', ⟨X, hop⟩, rfl, rfl⟩
        · split at h
          · rename_i e
            split at h
            · rename_i ob hob
              simp only [Option.some.injEq, Prod.mk.injEq] at h
              obtain ⟨h1, h2, h3, h4⟩ := h
              subst e
              rw [← h1]
              simp only
              rw [← h2, ← h3, ← h4]
              exact ⟨hw, he', ⟨X, hop, hob⟩, rfl, rfl⟩
            · cases h
          · cases h
      · split at h
        · rename_i v X nx' hop
          split at h
          · rename_i e
            simp only [Option.some.injEq, Prod.mk.injEq] at h
            obtain ⟨h1, h2, h3, h4⟩ := h
            rw [← h1]
            simp only
            rw [← h2, ← h3, ← h4]
            exact ⟨hw, he', e.2, rfl, rfl⟩
          · cases h
        · cases h
  · rename_i hw
    simp only [Option.some.injEq, Prod.mk.injEq] at h
    obtain ⟨h1, h2, h3, h4⟩ := h
    rw [← h1]
    simp only
    rw [← h2, ← h3, ← h4]
    exact ⟨by simpa using hw, rfl, rfl, rfl⟩
theorem nx_step (D : DRun C call nt ops s0 l sN) {i : Nat} (hi : i < l.length) : (stAt l sN i).nx ≤ (stAt l sN (i + 1)).nx := by
  obtain ⟨d, hd⟩ : ∃ d, l[i]? = some d := ⟨l[i], List.getElem?_eq_getElem hi⟩
  obtain ⟨o, ho⟩ := D.oper hd
  have hk := D.kind ho hd
  rw [st hd]
  cases hkd : d.k <;> rw [hkd] at hk <;> simp only at hk
  · rw [hk.2.2.2]; exact Nat.le_refl _
  · rw [hk.2.2.2.2]; exact Nat.le_refl _
  · rw [hk.2.2.2.2]; exact Nat.le_refl _
  · rw [hk.2.2.2.2]; omega
  · exact hk.2.2.2
theorem nx_mono (D : DRun C call nt ops s0 l sN) {i j : Nat} (hij : i ≤ j) (hj : j ≤ l.length) : (stAt l sN i).nx ≤ (stAt l sN j).nx := by
  induction j with
  | zero => have : i = 0 := by omega
            subst this; exact Nat.le_refl _
  | succ j ih =>
    rcases Nat.lt_or_ge i (j + 1) with h | h
    · exact Nat.le_trans (ih (by omega) (by omega)) (D.nx_step (by omega))
    · have : i = j + 1 := by omega
      subst this; exact Nat.le_refl _
theorem new_inj (D : DRun C call nt ops s0 l sN) {i j : Nat} {d d' : DS} {ob ob' : AObj} (hi : l[i]? = some d) (hj : l[j]? = some d') (hk : d.k = .new ob) (hk' : d'.k = .new ob')
    (h : d.s.nx = d'.s.nx) : i = j := by
  have key : ∀ {i j : Nat} {d d' : DS} {ob ob' : AObj}, l[i]? = some d → l[j]? = some d' → d.k = .new ob → d'.k = .new ob' → d.s.nx = d'.s.nx → ¬ i < j := by
    intro i j d d' ob ob' hi hj hk hk' h hlt
    obtain ⟨o, ho⟩ := D.oper hi
    have := D.kind ho hi
    rw [hk] at this
    have h1 := this.2.2.2.2
    have hjl := (List.getElem?_eq_some_iff.1 hj).1
    have := D.nx_mono (i := i + 1) (j := j) (by omega) (by omega)
    rw [h1, st hj] at this
    omega
  have h1 := key hi hj hk hk' h
  have h2 := key hj hi hk' hk h.symm
  omega
def newAt (l : List DS) (p b : Nat) : Option AObj := (l.drop p).findSome? fun d => match d.k with
  | .new ob => if d.s.nx = b then some ob else none
  | _ => none
theorem newAt_some {p b : Nat} {ob : AObj} (h : newAt l p b = some ob) : ∃ j d, p ≤ j ∧ l[j]? = some d ∧ d.k = .new ob ∧ d.s.nx = b := by
  unfold newAt at h
  obtain ⟨d, hm, hf⟩ := List.exists_of_findSome?_eq_some h
  obtain ⟨i, hi⟩ := List.mem_iff_getElem?.1 hm
  rw [List.getElem?_drop] at hi
  split at hf
  · rename_i ob' hk
    split at hf
    · injection hf with hf; subst hf
      exact ⟨p + i, d, by omega, hi, hk, ‹_›⟩
    · cases hf
  · cases hf
theorem newAt_of (D : DRun C call nt ops s0 l sN) {p j : Nat} {d : DS} {ob : AObj} (hp : p ≤ j) (hj : l[j]? = some d) (hk : d.k = .new ob) : newAt l p d.s.nx = some ob := by
  cases h : newAt l p d.s.nx with
  | none =>
    unfold newAt at h
    rw [List.findSome?_eq_none_iff] at h
    have hm : d ∈ l.drop p := List.mem_iff_getElem?.2 ⟨j - p, by rw [List.getElem?_drop, ← hj]; congr 1; omega⟩
    have := h d hm
    rw [hk] at this
    simp at this
  | some ob' =>
    obtain ⟨j', d', _, hj', hk', hn⟩ := newAt_some h
    have := D.new_inj hj' hj hk' hk hn
    subst this
    rw [hj] at hj'; injection hj' with hj'; subst hj'
    rw [hk] at hk'; injection hk' with hk'; subst hk'; rfl
theorem heap_since (D : DRun C call nt ops s0 l sN) {p : Nat} (hfr : ∀ b, (stAt l sN p).nx ≤ b → (stAt l sN p).H.get b = none) : ∀ (i : Nat), p ≤ i → i ≤ l.length →
    (∀ j d, p ≤ j → j < i → l[j]? = some d → d.k ≠ .eff) →
    ∀ b, (stAt l sN i).H.get b = if b < (stAt l sN p).nx then (stAt l sN p).H.get b else if b < (stAt l sN i).nx then newAt l p b else none := by
  intro i hpi hil hno
  induction i with
  | zero =>
    have : p = 0 := by omega
    subst this
    intro b
    by_cases h : b < (stAt l sN 0).nx
    · rw [if_pos h]
    · rw [if_neg h, if_neg h, hfr b (by omega)]
  | succ i ih =>
    rcases Nat.lt_or_ge p (i + 1) with hlt | hge
    · have ih := ih (by omega) (by omega) (fun j d h1 h2 => hno j d h1 (by omega))
      obtain ⟨d, hd⟩ : ∃ d, l[i]? = some d := ⟨l[i], List.getElem?_eq_getElem (by omega)⟩
      obtain ⟨o, ho⟩ := D.oper hd
      have hk := D.kind ho hd
      have hne := hno i d (by omega) (by omega) hd
      rw [st hd] at ih
      cases hkd : d.k <;> rw [hkd] at hk <;> simp only at hk
      · rw [hk.2.2.1, hk.2.2.2]; exact ih
      · rw [hk.2.2.2.1, hk.2.2.2.2]; exact ih
      · rw [hk.2.2.2.1, hk.2.2.2.2]; exact ih
      · rename_i ob
        rw [hk.2.2.2.1, hk.2.2.2.2]
        intro b
        have hmono := D.nx_mono (i := p) (j := i) (by omega) (by omega)
        rw [st hd] at hmono
        by_cases e : b = d.s.nx
        · subst e
          rw [Tr.get_put_same, if_neg (by omega), if_pos (by omega), D.newAt_of (by omega) hd hkd]
        · rw [Tr.get_put_ne _ _ _ _ e, ih b]
          by_cases h1 : b < (stAt l sN p).nx
          · rw [if_pos h1, if_pos h1]
          · rw [if_neg h1, if_neg h1]
            by_cases h2 : b < d.s.nx
            · rw [if_pos h2, if_pos (by omega)]
            · rw [if_neg h2, if_neg (by omega)]
      · exact absurd hkd hne
    · have : p = i + 1 := by omega
      subst this
      intro b
      by_cases h : b < (stAt l sN (i + 1)).nx
      · rw [if_pos h]
      · rw [if_neg h, if_neg h, hfr b (by omega)]
end DRun
end CI
noncomputable section
namespace CI
open Go
structure SimF (c : Nat) (σ : Sig) (K : Nat → Option AObj) (w : World) : Prop where
  obj : ∀ b o l, K b = some o → σ b = some l → OR (σ.lt (max c (b + 1))) l o w.heap[l.blk]?
  inj : ∀ b b' o o' l l', K b = some o → K b' = some o' → σ b = some l → σ b' = some l' → l.blk = l'.blk → b = b'
theorem SimF.lt {c : Nat} {σ : Sig} {K : Nat → Option AObj} {w : World} (s : SimF c σ K w) {b : Nat} {o : AObj} {l : Loc} (hb : K b = some o) (hl : σ b = some l) : l.blk < w.heap.size := by
  have := (s.obj b o l hb hl).isSome
  rcases Nat.lt_or_ge l.blk w.heap.size with h | h
  · exact h
  · exact absurd (Array.getElem?_eq_none h) this
namespace DRun
variable {C : Cx} {call : CallF} {nt : Nat} {ops : Array Oper} {s0 sN : St} {l : List DS}
def KK (l : List DS) (sN : St) (p b : Nat) : Option AObj := if b < (stAt l sN p).nx then (stAt l sN p).H.get b else newAt l p b
structure Inv (C : Cx) (call : CallF) (nt : Nat) (ops : Array Oper) (s0 : St) (l : List DS) (sN : St) (σ0 : Sig) (w0 : World) (S : Nat → Prop) (σ : Sig) (p : Nat) (a : Act) (w : World) : Prop where
  ple : p ≤ l.length
  front : p = 0 ∨ ∃ (e : Nat) (d : DS), l[e]? = some d ∧ d.k = .eff ∧ p = e + 1
  down : ∀ (i : Nat) (o : Oper), S i → ops[i]? = some o → ∀ e ∈ bnds o, S e.on
  effs : ∀ (e : Nat) (d : DS), l[e]? = some d → d.k = .eff → (S e ↔ e < p)
  slots : ∀ (i : Nat) (d : DS) (o : Oper) (t : Nat), S i → l[i]? = some d → ops[i]? = some o → o.dst = some t → VR (σ.lt (stAt l sN (i + 1)).nx) d.v (a.tmps.getD t undef)
  rest : ∀ t, (∀ (i : Nat) (o : Oper), S i → ops[i]? = some o → o.dst ≠ some t) → VR σ0 ((s0.env.get t).getD (.lit undef)) (a.tmps.getD t undef)
  size : a.tmps.size = nt
  defers : a.defers = []
  sim : SimF (stAt l sN p).nx σ (KK l sN p) w
  fresh : ∀ b, (stAt l sN p).nx ≤ b → (stAt l sN p).H.get b = none
  above : ∀ b, (stAt l sN p).nx ≤ b → σ b ≠ none → ∃ (j : Nat) (d : DS) (ob : AObj), S j ∧ l[j]? = some d ∧ d.k = .new ob ∧ d.s.nx = b
  undone : ∀ (j : Nat) (d : DS) (ob : AObj), ¬ S j → l[j]? = some d → d.k = .new ob → σ d.s.nx = none
  kept : ∀ (j : Nat) (d : DS) (ob : AObj), ¬ S j → l[j]? = some d → d.k = .new ob → KK l sN p d.s.nx = some ob
  old : ∀ b, b < s0.nx → σ b = σ0 b
  os : w.os = w0.os
  tape : w.tape = w0.tape
  output : w.output = w0.output
  wsize : w0.heap.size ≤ w.heap.size
  ro : ∀ b o, s0.H.get b = some o → o.isRo = true → KK l sN p b = some o
  dead : ∀ b, b < s0.nx → s0.H.get b = none → KK l sN p b = none
  unreal : ∀ b, b < s0.nx → σ0 b = none → KK l sN p b = s0.H.get b
  frame : ∀ k, k < w0.heap.size → (∀ b l o, s0.H.get b = some o → σ0 b = some l → l.blk = k → o.isRo = true) → w.heap[k]? = w0.heap[k]?
  own : ∀ b l' o, KK l sN p b = some o → σ b = some l' → l'.blk < w0.heap.size →
    ∃ b0 l0 o0, s0.H.get b0 = some o0 ∧ σ0 b0 = some l0 ∧ l0.blk = l'.blk ∧ (o0.isRo = false ∨ b0 = b)
theorem env_old (D : DRun C call nt ops s0 l sN) (t : Nat) : ∀ (i : Nat), i ≤ l.length → (∀ (j : Nat) (o : Oper), j < i → ops[j]? = some o → o.dst ≠ some t) →
    (stAt l sN i).env.get t = s0.env.get t := by
  intro i
  induction i with
  | zero => intro _ _; rw [txRun_first D.run]
  | succ i ih =>
    intro hi hno
    obtain ⟨d, hd⟩ : ∃ d, l[i]? = some d := ⟨l[i], List.getElem?_eq_getElem (by omega)⟩
    obtain ⟨o, ho⟩ := D.oper hd
    have hp := (D.at_ ho hd).2
    have ih := ih (by omega) (fun j o h => hno j o (by omega))
    rw [st hd] at ih
    have hne := hno i o (by omega) ho
    unfold put? at hp
    split at hp
    · injection hp with hp; rw [← hp]; exact ih
    · rename_i t' ht'
      split at hp
      · injection hp with hp; rw [← hp, Tr.get_put_ne _ _ _ _ (by rintro rfl; exact hne ht')]; exact ih
      · cases hp
theorem env_new (D : DRun C call nt ops s0 l sN) {j : Nat} {o : Oper} {d : DS} {t : Nat} (ho : ops[j]? = some o) (hd : l[j]? = some d) (ht : o.dst = some t) :
    ∀ (i : Nat), j < i → i ≤ l.length → (stAt l sN i).env.get t = some d.v := by
  intro i
  induction i with
  | zero => intro h; omega
  | succ i ih =>
    intro hji hi
    rcases Nat.lt_or_ge j i with hlt | hge
    · obtain ⟨d', hd'⟩ : ∃ d, l[i]? = some d := ⟨l[i], List.getElem?_eq_getElem (by omega)⟩
      obtain ⟨o', ho'⟩ := D.oper hd'
      have hp := (D.at_ ho' hd').2
      have ih := ih hlt (by omega)
      rw [st hd'] at ih
      unfold put? at hp
      split at hp
      · injection hp with hp; rw [← hp]; exact ih
      · rename_i t' ht'
        split at hp
        · injection hp with hp
          rw [← hp, Tr.get_put_ne _ _ _ _ (D.stat.dst j i o o' t t' (by simpa using ho) (by simpa using ho') (by omega) ht ht')]
          exact ih
        · cases hp
    · have : j = i := by omega
      subst this
      have hp := (D.at_ ho hd).2
      rw [ht] at hp
      unfold put? at hp
      simp only at hp
      split at hp
      · injection hp with hp; rw [← hp, Tr.get_put_same]
      · cases hp
variable {σ0 : Sig} {w0 : World} {S : Nat → Prop} {σ : Sig} {p : Nat} {a : Act} {w : World}
theorem Inv.ext0 (V : Inv C call nt ops s0 l sN σ0 w0 S σ p a w) (g0 : Good σ0 s0.H s0.nx w0) {n : Nat} (hn : s0.nx ≤ n) : Ext σ0 (σ.lt n) := fun b k h => by
  have hb : b < s0.nx := by
    rcases Nat.lt_or_ge b s0.nx with h' | h'
    · exact h'
    · rw [(g0.fresh b h').1] at h; cases h
  rw [Sig.lt_of (by omega), V.old b hb]; exact h
theorem nx0_le (D : DRun C call nt ops s0 l sN) {i : Nat} (hi : i ≤ l.length) : s0.nx ≤ (stAt l sN i).nx := by
  have := D.nx_mono (i := 0) (Nat.zero_le i) hi
  rw [txRun_first D.run] at this
  exact this
theorem Inv.slot (D : DRun C call nt ops s0 l sN) (V : Inv C call nt ops s0 l sN σ0 w0 S σ p a w) (g0 : Good σ0 s0.H s0.nx w0) {i : Nat} {o : Oper} {d : DS} (ho : ops[i]? = some o) (hd : l[i]? = some d)
    (hS : ¬ S i) (hdep : ∀ e ∈ bnds o, S e.on) {t : Nat} (ht : t ∈ slotsOf o ∨ ∃ j b p', o.guard = some (j, b) ∧ ops[j]? = some p' ∧ p'.dst = some t) :
    VR (σ.lt d.s.nx) ((d.s.env.get t).getD (.lit undef)) (a.tmps.getD t undef) := by
  have hil := (List.getElem?_eq_some_iff.1 hd).1
  have hnx0 := D.nx0_le (i := i) (by omega)
  rw [st hd] at hnx0
  have cl : ∀ j, ((ancs ops.toList []).getD i 0).testBit j = true → S j := anc_closed D.stat (S := S) (fun i o h1 h2 => V.down i o h1 (by simpa using h2)) (i + 1) i o (by omega) (by simpa using ho) hdep
  have oldcase : (∀ (j : Nat) (q : Oper), ops[j]? = some q → q.dst = some t → j ≠ i → ¬ S j ∧ i < j) → VR (σ.lt d.s.nx) ((d.s.env.get t).getD (.lit undef)) (a.tmps.getD t undef) := by
    intro hno
    have h1 := D.env_old t i (by omega) (fun j q hj hq hqt => by have := (hno j q hq hqt (by omega)).2; omega)
    rw [st hd] at h1
    rw [h1]
    refine (V.rest t fun j q hSj hq hqt => ?_).ext (V.ext0 g0 hnx0)
    by_cases e : j = i
    · subst e; exact hS hSj
    · exact (hno j q hq hqt e).1 hSj
  have newcase : ∀ (j : Nat) (q : Oper), ops[j]? = some q → q.dst = some t → S j → j < i → VR (σ.lt d.s.nx) ((d.s.env.get t).getD (.lit undef)) (a.tmps.getD t undef) := by
    intro j q hq hqt hSj hji
    obtain ⟨dj, hdj⟩ := D.ds hq
    have h1 := D.env_new hq hdj hqt i hji (by omega)
    rw [st hd] at h1
    rw [h1]
    refine (V.slots j dj q t hSj hdj hq hqt).ext (Sig.lt_mono (Ext.refl σ) ?_)
    have := D.nx_mono (i := j + 1) (j := i) (by omega) (by omega)
    rw [st hd] at this
    exact this
  have anclt : ∀ (i j : Nat) (o : Oper), ops[i]? = some o → ((ancs ops.toList []).getD i 0).testBit j = true → j < i := by
    intro i j o ho h
    exact anc_closed D.stat (S := fun k => k < i) (fun k q h1 h2 e he => by
      have := D.stat.edge k q h2 e he; omega) (i + 1) i o (by omega) (by simpa using ho) (fun e he => D.stat.edge i o (by simpa using ho) e he) j h
  rcases ht with ht | ⟨j, b, q, hg, hq, hqt⟩
  · by_cases hex : ∃ (j : Nat) (q : Oper), ops[j]? = some q ∧ q.dst = some t ∧ j ≠ i
    · obtain ⟨j, q, hq, hqt, hne⟩ := hex
      rcases D.stat.slot i j o q t (by simpa using ho) (by simpa using hq) (Ne.symm hne) ht hqt with h | h
      · exact newcase j q hq hqt (cl j h) (anclt i j o ho h)
      · refine oldcase fun j' q' hq' hqt' hne' => ?_
        have : j' = j := by
          by_cases e : j' = j
          · exact e
          · exact absurd rfl (D.stat.dst j' j q' q t t (by simpa using hq') (by simpa using hq) e hqt' hqt)
        subst this
        refine ⟨fun hSj => hS ?_, anclt j' i q hq h⟩
        exact anc_closed D.stat (S := S) (fun i o h1 h2 => V.down i o h1 (by simpa using h2)) (j' + 1) j' q (by omega) (by simpa using hq) (V.down j' q hSj hq) i h
    · exact oldcase fun j q hq hqt hne => absurd ⟨j, q, hq, hqt, hne⟩ hex
  · have h := D.stat.guard i o j b (by simpa using ho) hg
    exact newcase j q hq hqt (cl j h) (anclt i j o ho h)
theorem Inv.rho (D : DRun C call nt ops s0 l sN) (V : Inv C call nt ops s0 l sN σ0 w0 S σ p a w) (g0 : Good σ0 s0.H s0.nx w0) {i : Nat} {o : Oper} {d : DS} (ho : ops[i]? = some o) (hd : l[i]? = some d)
    (hS : ¬ S i) (hdep : ∀ e ∈ bnds o, S e.on) :
    ∃ ρ : Operand → AV, (∀ x, VR (σ.lt d.s.nx) (ρ x) (a.eval x)) ∧ ∀ x ∈ o.op.operands, ev d.s.env x = ρ x := by
  classical
  refine ⟨fun x => if x ∈ o.op.operands then ev d.s.env x else .lit (a.eval x), fun x => ?_, fun x hx => by simp only; rw [if_pos hx]⟩
  simp only
  split
  · rename_i hx
    cases x with
    | tmp t =>
      exact V.slot D g0 ho hd hS hdep (t := t) (.inl (by
        unfold slotsOf
        rw [List.mem_filterMap]
        exact ⟨.tmp t, by simpa using hx, rfl⟩))
    | const v => exact abs_VR _ v
    | global g => simp [ev, Act.eval, VR]
    | func f => simp only [ev, Act.eval, VR]; exact ⟨[], [], rfl, by simp [VRs], by simp [VRs]⟩
  · simp [VR]
theorem Inv.wants (D : DRun C call nt ops s0 l sN) (V : Inv C call nt ops s0 l sN σ0 w0 S σ p a w) (g0 : Good σ0 s0.H s0.nx w0) {i : Nat} {o : Oper} {d : DS} (ho : ops[i]? = some o) (hd : l[i]? = some d)
    (hS : ¬ S i) (hdep : ∀ e ∈ bnds o, S e.on) : Region.wanted o (yielded ops a.tmps) = wantedA ops o d.s.env := by
  refine wantedA_eq' (σ := σ.lt d.s.nx) fun j want t hg ht => ?_
  cases hq : ops[j]? with
  | none => rw [hq] at ht; cases ht
  | some q =>
    rw [hq] at ht
    exact V.slot D g0 ho hd hS hdep (.inr ⟨j, want, q, hg, hq, ht⟩)
end DRun
end CI
noncomputable section
namespace CI
open Go
namespace DRun
variable {C : Cx} {call : CallF} {nt : Nat} {ops : Array Oper} {s0 sN : St} {l : List DS}
variable {σ0 : Sig} {w0 : World} {S : Nat → Prop} {σ : Sig} {p : Nat} {a : Act} {w w' : World}
def plus (S : Nat → Prop) (i : Nat) : Nat → Prop := fun j => S j ∨ j = i
theorem getD_put {a : Act} {d t : Nat} {x : Value} (h : d < a.tmps.size) : (a.put (some d) x).tmps.getD t undef = if t = d then x else a.tmps.getD t undef := by
  by_cases e : t = d
  · subst e; simp [Act.put, h]
  · rw [if_neg e]
    simp [Act.put, Array.getD_eq_getD_getElem?, Array.getElem?_setIfInBounds_ne (Ne.symm e)]
theorem dst_lt (D : DRun C call nt ops s0 l sN) {i : Nat} {o : Oper} {d : DS} (ho : ops[i]? = some o) (hd : l[i]? = some d) {t : Nat} (ht : o.dst = some t) : t < nt := by
  have hp := (D.at_ ho hd).2
  rw [ht] at hp
  unfold put? at hp
  simp only at hp
  split at hp
  · assumption
  · cases hp
theorem Inv.slots' (D : DRun C call nt ops s0 l sN) (V : Inv C call nt ops s0 l sN σ0 w0 S σ p a w) {i : Nat} {o : Oper} {d : DS} (ho : ops[i]? = some o) (hd : l[i]? = some d) (hS : ¬ S i)
    {x : Value} {σ' : Sig} (hσ : ∀ n, Ext (σ.lt n) (σ'.lt n)) (hv : VR (σ'.lt (stAt l sN (i + 1)).nx) d.v x) :
    (∀ (j : Nat) (d' : DS) (o' : Oper) (t : Nat), plus S i j → l[j]? = some d' → ops[j]? = some o' → o'.dst = some t → VR (σ'.lt (stAt l sN (j + 1)).nx) d'.v ((a.put o.dst x).tmps.getD t undef)) ∧
    (∀ t, (∀ (j : Nat) (o' : Oper), plus S i j → ops[j]? = some o' → o'.dst ≠ some t) → VR σ0 ((s0.env.get t).getD (.lit undef)) ((a.put o.dst x).tmps.getD t undef)) ∧
    (a.put o.dst x).tmps.size = nt ∧ (a.put o.dst x).defers = [] := by
  refine ⟨?_, ?_, ?_, ?_⟩
  · intro j d' o' t hj hd' ho' ht
    rcases hj with hj | rfl
    · have hji : j ≠ i := by rintro rfl; exact hS hj
      have h1 := (V.slots j d' o' t hj hd' ho' ht).ext (hσ _)
      cases hdst : o.dst with
      | none => exact h1
      | some t0 =>
        have hne := D.stat.dst j i o' o t t0 (by simpa using ho') (by simpa using ho) hji ht hdst
        rw [getD_put (by rw [V.size]; exact D.dst_lt ho hd hdst), if_neg hne]
        exact h1
    · rw [hd] at hd'; injection hd' with hd'; subst hd'
      rw [ho] at ho'; injection ho' with ho'; subst ho'
      rw [ht, getD_put (by rw [V.size]; exact D.dst_lt ho hd ht), if_pos rfl]
      exact hv
  · intro t hno
    have h1 := V.rest t fun j o' hj => hno j o' (.inl hj)
    cases hdst : o.dst with
    | none => exact h1
    | some t0 =>
      have hne : t ≠ t0 := by rintro rfl; exact hno i o (.inr rfl) ho hdst
      rw [getD_put (by rw [V.size]; exact D.dst_lt ho hd hdst), if_neg hne]
      exact h1
  · cases hdst : o.dst <;> simp [Act.put, V.size]
  · cases hdst : o.dst <;> simp [Act.put, V.defers]
theorem Inv.quiet (D : DRun C call nt ops s0 l sN) (V : Inv C call nt ops s0 l sN σ0 w0 S σ p a w) (g0 : Good σ0 s0.H s0.nx w0) {i : Nat} {o : Oper} {d : DS} (ho : ops[i]? = some o) (hd : l[i]? = some d)
    (hS : ¬ S i) (hdep : ∀ e ∈ bnds o, S e.on) (hk : d.k ≠ .eff) {x : Value} {σ' : Sig} (hsz : w.heap.size ≤ w'.heap.size) (hkeep : ∀ k, k < w.heap.size → w'.heap[k]? = w.heap[k]?)
    (h1 : w'.os = w.os) (h2 : w'.tape = w.tape) (h3 : w'.output = w.output) (hv : VR (σ'.lt (stAt l sN (i + 1)).nx) d.v x)
    (hσ : (σ' = σ ∧ True) ∨ ∃ loc ob, d.k = .new ob ∧ σ' = σ.upd d.s.nx loc ∧ w.heap.size ≤ loc.blk ∧ OR (σ'.lt (d.s.nx + 1)) loc ob w'.heap[loc.blk]?) :
    Inv C call nt ops s0 l sN σ0 w0 (plus S i) σ' p (a.put o.dst x) w' := by
  have hil := (List.getElem?_eq_some_iff.1 hd).1
  have hnx0 := D.nx0_le (i := i) (by omega)
  rw [st hd] at hnx0
  have hext : Ext σ σ' := by
    rcases hσ with ⟨rfl, _⟩ | ⟨loc, ob, hn, rfl, _⟩
    · exact Ext.refl _
    · exact Sig.upd_ext _ _ _ (V.undone i d ob hS hd hn)
  obtain ⟨q1, q2, q3, q4⟩ := V.slots' D ho hd hS (fun n => Sig.lt_mono hext (Nat.le_refl n)) hv
  have hblk : ∀ b l', σ' b = some l' → l'.blk < w.heap.size → σ b = some l' := by
    intro b l' hb hlt
    rcases hσ with ⟨rfl, _⟩ | ⟨loc, ob, hn, rfl, hloc, _⟩
    · exact hb
    · by_cases e : b = d.s.nx
      · subst e; rw [Sig.upd_same] at hb; injection hb with hb; subst hb; omega
      · rw [Sig.upd_ne _ _ _ e] at hb; exact hb
  refine ⟨V.ple, V.front, ?_, ?_, q1, q2, q3, q4, ⟨?_, ?_⟩, V.fresh, ?_, ?_, fun j d' ob' hj => V.kept j d' ob' (fun h => hj (.inl h)), ?_, h1.trans V.os, h2.trans V.tape, h3.trans V.output, Nat.le_trans V.wsize hsz, V.ro, V.dead, V.unreal, ?_, ?_⟩
  · intro j o' hj ho' e he
    rcases hj with hj | rfl
    · exact .inl (V.down j o' hj ho' e he)
    · rw [ho] at ho'; injection ho' with ho'; subst ho'
      exact .inl (hdep e he)
  · intro e d' hd' he
    have hne : e ≠ i := by rintro rfl; rw [hd] at hd'; injection hd' with hd'; subst hd'; exact hk he
    rw [← V.effs e d' hd' he]
    exact ⟨fun h => h.resolve_right hne, .inl⟩
  · intro b o' l' hb hl'
    rcases hσ with ⟨rfl, _⟩ | ⟨loc, ob, hn, rfl, hloc, hor⟩
    · rw [hkeep _ (V.sim.lt hb hl')]; exact V.sim.obj b o' l' hb hl'
    · by_cases e : b = d.s.nx
      · subst e
        rw [Sig.upd_same] at hl'; injection hl' with hl'; subst hl'
        rw [V.kept i d ob hS hd hn] at hb
        injection hb with hb; subst hb
        exact hor.ext (Sig.lt_mono (Ext.refl _) (Nat.le_max_right _ _))
      · rw [Sig.upd_ne _ _ _ e] at hl'
        rw [hkeep _ (V.sim.lt hb hl')]; exact (V.sim.obj b o' l' hb hl').ext (Sig.lt_mono hext (Nat.le_refl _))
  · intro b b' o1 o2 l1 l2 hb hb' hl1 hl2 he
    rcases hσ with ⟨rfl, _⟩ | ⟨loc, ob, hn, rfl, hloc, hor⟩
    · exact V.sim.inj b b' o1 o2 l1 l2 hb hb' hl1 hl2 he
    · by_cases e : b = d.s.nx
      · subst e
        by_cases e' : b' = d.s.nx
        · exact e'.symm
        · rw [Sig.upd_same] at hl1; injection hl1 with hl1; subst hl1
          rw [Sig.upd_ne _ _ _ e'] at hl2
          have := V.sim.lt hb' hl2
          omega
      · rw [Sig.upd_ne _ _ _ e] at hl1
        by_cases e' : b' = d.s.nx
        · subst e'
          rw [Sig.upd_same] at hl2; injection hl2 with hl2; subst hl2
          have := V.sim.lt hb hl1
          omega
        · rw [Sig.upd_ne _ _ _ e'] at hl2
          exact V.sim.inj b b' o1 o2 l1 l2 hb hb' hl1 hl2 he
  · intro b hb hn
    rcases hσ with ⟨rfl, _⟩ | ⟨loc, ob, hnew, rfl, _⟩
    · obtain ⟨j, d', ob, hj, r⟩ := V.above b hb hn
      exact ⟨j, d', ob, .inl hj, r⟩
    · by_cases e : b = d.s.nx
      · exact ⟨i, d, ob, .inr rfl, hd, hnew, e.symm⟩
      · rw [Sig.upd_ne _ _ _ e] at hn
        obtain ⟨j, d', ob, hj, r⟩ := V.above b hb hn
        exact ⟨j, d', ob, .inl hj, r⟩
  · intro j d' ob' hj hd' hk'
    have h0 := V.undone j d' ob' (fun h => hj (.inl h)) hd' hk'
    rcases hσ with ⟨rfl, _⟩ | ⟨loc, ob, hnew, rfl, _⟩
    · exact h0
    · rw [Sig.upd_ne]
      · exact h0
      · intro e
        exact hj (.inr (D.new_inj hd' hd hk' hnew e))
  · intro b hb
    rcases hσ with ⟨rfl, _⟩ | ⟨loc, ob, hnew, rfl, _⟩
    · exact V.old b hb
    · rw [Sig.upd_ne _ _ _ (by omega)]; exact V.old b hb
  · intro k hk0 hro
    rw [hkeep k (Nat.lt_of_lt_of_le hk0 V.wsize)]
    exact V.frame k hk0 hro
  · intro b l' o' hb hl' hlt
    exact V.own b l' o' hb (hblk b l' hl' (Nat.lt_of_lt_of_le hlt V.wsize)) hlt
theorem Inv.effect (D : DRun C call nt ops s0 l sN) (V : Inv C call nt ops s0 l sN σ0 w0 S σ p a w) (g0 : Good σ0 s0.H s0.nx w0) {i : Nat} {o : Oper} {d : DS} (ho : ops[i]? = some o) (hd : l[i]? = some d)
    (hS : ¬ S i) (hdep : ∀ e ∈ bnds o, S e.on) (hk : d.k = .eff) :
    Good (σ.lt d.s.nx) d.s.H d.s.nx w ∧ ∀ {x : Value} {σ1 : Sig} {w' : World}, VR σ1 d.v x → Step (σ.lt d.s.nx) d.s.H d.s.nx w σ1 (stAt l sN (i + 1)).H (stAt l sN (i + 1)).nx w' →
      Good σ1 (stAt l sN (i + 1)).H (stAt l sN (i + 1)).nx w' →
      ∃ σ', Inv C call nt ops s0 l sN σ0 w0 (plus S i) σ' (i + 1) (a.put o.dst x) w' := by
  have hil := (List.getElem?_eq_some_iff.1 hd).1
  have hnx0 := D.nx0_le (i := i) (by omega)
  rw [st hd] at hnx0
  have hkind := D.kind ho hd
  rw [hk] at hkind
  simp only at hkind
  have cl : ∀ j, ((ancs ops.toList []).getD i 0).testBit j = true → S j := anc_closed D.stat (S := S) (fun i o h1 h2 => V.down i o h1 (by simpa using h2)) (i + 1) i o (by omega) (by simpa using ho) hdep
  have hpi : p ≤ i := by
    rcases V.front with rfl | ⟨e, d', he, hek, rfl⟩
    · exact Nat.zero_le _
    · have hSe : S e := (V.effs e d' he hek).2 (by omega)
      rcases Nat.lt_or_ge e i with h | h
      · omega
      · rcases Nat.lt_or_ge i e with h' | h'
        · obtain ⟨oe, hoe⟩ := D.oper he
          have hke := D.kind hoe he
          rw [hek] at hke
          have := D.stat.eff i e o oe (by simpa using ho) (by simpa using hoe) h' hkind.2.1 hke.2.1
          exact absurd (anc_closed D.stat (S := S) (fun i o h1 h2 => V.down i o h1 (by simpa using h2)) (e + 1) e oe (by omega) (by simpa using hoe) (V.down e oe hSe hoe) i this) hS
        · have : e = i := by omega
          subst this; exact absurd hSe hS
  have hbetween : ∀ (j : Nat) (d' : DS), p ≤ j → j < i → l[j]? = some d' → d'.k ≠ .eff := by
    intro j d' hpj hji hd' hek
    obtain ⟨oj, hoj⟩ := D.oper hd'
    have hke := D.kind hoj hd'
    rw [hek] at hke
    have := D.stat.eff j i oj o (by simpa using hoj) (by simpa using ho) hji hke.2.1 hkind.2.1
    have hSj := cl j this
    have := (V.effs j d' hd' hek).1 hSj
    omega
  have hH := D.heap_since V.fresh i hpi (by omega) hbetween
  rw [st hd] at hH
  have hmono := D.nx_mono (i := p) (j := i) hpi (by omega)
  rw [st hd] at hmono
  have hKH : ∀ b, b < d.s.nx → d.s.H.get b = KK l sN p b := by
    intro b hb
    rw [hH b]
    unfold KK
    by_cases h : b < (stAt l sN p).nx
    · rw [if_pos h, if_pos h]
    · rw [if_neg h, if_neg h, if_pos hb]
  have hHfr : ∀ b, d.s.nx ≤ b → d.s.H.get b = none := by
    intro b hb
    rw [hH b, if_neg (by omega), if_neg (by omega)]
  have live : ∀ {b o'}, d.s.H.get b = some o' → b < d.s.nx := by
    intro b o' h
    rcases Nat.lt_or_ge b d.s.nx with h' | h'
    · exact h'
    · rw [hHfr b h'] at h; cases h
  have good : Good (σ.lt d.s.nx) d.s.H d.s.nx w := by
    refine ⟨⟨⟨?_, ?_⟩, fun b hb => ⟨Sig.lt_ge hb, hHfr b hb⟩⟩, glb_of g0 V.frame, fun b l' o' hb hl' hr => ?_⟩
    rotate_left 2
    · obtain ⟨h1, h2⟩ := Sig.lt_some hl'
      have hb' := hb
      rw [hKH b h1] at hb'
      exact apart_of g0 V.ro V.own b l' o' hb' h2 hr
    · intro b o' l' hb hl'
      obtain ⟨h1, h2⟩ := Sig.lt_some hl'
      have hb' := hb
      rw [hKH b h1] at hb'
      exact (V.sim.obj b o' l' hb' h2).ext (Sig.lt_mono (Ext.refl _) (Nat.max_le.2 ⟨hmono, h1⟩))
    · intro b b' o1 o2 l1 l2 hb hb' hl1 hl2 he
      obtain ⟨h1, h2⟩ := Sig.lt_some hl1
      obtain ⟨h3, h4⟩ := Sig.lt_some hl2
      rw [hKH b h1] at hb; rw [hKH b' h3] at hb'
      exact V.sim.inj b b' o1 o2 l1 l2 hb hb' h2 h4 he
  refine ⟨good, ?_⟩
  intro x σ1 w' hv hs g1
  have hc' : (stAt l sN p).nx ≤ (stAt l sN (i + 1)).nx := Nat.le_trans hmono hs.grow
  have hσ1 : ∀ b, b < d.s.nx → σ1 b = σ b := fun b hb => by rw [hs.old b hb, Sig.lt_of hb]
  have hσ1f : ∀ b, (stAt l sN (i + 1)).nx ≤ b → σ1 b = none := fun b hb => (g1.fresh b hb).1
  have hgap : ∀ b, d.s.nx ≤ b → b < (stAt l sN (i + 1)).nx → σ b = none := by
    intro b h1 h2
    cases hb : σ b with
    | none => rfl
    | some l' =>
      obtain ⟨j, d', ob, hSj, hd', hk', hn⟩ := V.above b (by omega) (by rw [hb]; simp)
      subst hn
      obtain ⟨oj, hoj⟩ := D.oper hd'
      have hkj := D.kind hoj hd'
      rw [hk'] at hkj
      have hjl := (List.getElem?_eq_some_iff.1 hd').1
      rcases Nat.lt_trichotomy j i with h | h | h
      · have := D.nx_mono (i := j + 1) (j := i) (by omega) (by omega)
        rw [hkj.2.2.2.2, st hd] at this
        omega
      · subst h; exact absurd hSj hS
      · have := D.nx_mono (i := i + 1) (j := j) (by omega) (by omega)
        rw [st hd'] at this
        omega
  obtain ⟨σ', hσ'⟩ : ∃ σ' : Sig, σ' = fun b => if b < (stAt l sN (i + 1)).nx then σ1 b else σ b := ⟨_, rfl⟩
  have hlo : ∀ b, b < (stAt l sN (i + 1)).nx → σ' b = σ1 b := fun b hb => by rw [hσ']; simp [hb]
  have hhi : ∀ b, (stAt l sN (i + 1)).nx ≤ b → σ' b = σ b := fun b hb => by rw [hσ']; simp <;> omega
  have hext1 : Ext σ1 σ' := fun b l' hb => by
    rcases Nat.lt_or_ge b (stAt l sN (i + 1)).nx with h | h
    · rw [hlo b h]; exact hb
    · rw [hσ1f b h] at hb; cases hb
  have hext : Ext σ σ' := fun b l' hb => by
    rcases Nat.lt_or_ge b (stAt l sN (i + 1)).nx with h | h
    · rw [hlo b h]
      rcases Nat.lt_or_ge b d.s.nx with h' | h'
      · rw [hσ1 b h']; exact hb
      · rw [hgap b h' h] at hb; cases hb
    · rw [hhi b h]; exact hb
  have hlt1 : Ext σ1 (σ'.lt (stAt l sN (i + 1)).nx) := fun b l' hb => by
    rcases Nat.lt_or_ge b (stAt l sN (i + 1)).nx with h | h
    · rw [Sig.lt_of h]; exact hext1 b l' hb
    · rw [hσ1f b h] at hb; cases hb
  obtain ⟨q1, q2, q3, q4⟩ := V.slots' D ho hd hS (fun n => Sig.lt_mono hext (Nat.le_refl n)) (hv.ext hlt1)
  have hKlo : ∀ b, b < (stAt l sN (i + 1)).nx → KK l sN (i + 1) b = (stAt l sN (i + 1)).H.get b := fun b hb => by unfold KK; rw [if_pos hb]
  have hKhi : ∀ b, (stAt l sN (i + 1)).nx ≤ b → KK l sN (i + 1) b = KK l sN p b := by
    intro b hb
    unfold KK
    rw [if_neg (by omega), if_neg (by omega)]
    cases h : newAt l (i + 1) b with
    | some ob =>
      obtain ⟨j, d', hj, hd', hk', hn⟩ := newAt_some h
      subst hn
      exact (D.newAt_of (by omega) hd' hk').symm
    | none =>
      cases h' : newAt l p b with
      | none => rfl
      | some ob =>
        obtain ⟨j, d', hj, hd', hk', hn⟩ := newAt_some h'
        subst hn
        have hji : i + 1 ≤ j := by
          rcases Nat.lt_or_ge j (i + 1) with h2 | h2
          · obtain ⟨oj, hoj⟩ := D.oper hd'
            have hkj := D.kind hoj hd'
            rw [hk'] at hkj
            have := D.nx_mono (i := j + 1) (j := i + 1) (by omega) (by omega)
            rw [hkj.2.2.2.2] at this
            omega
          · exact h2
        rw [D.newAt_of hji hd' hk'] at h
        cases h
  have notlive : ∀ {b l' o'}, KK l sN p b = some o' → σ b = some l' → (stAt l sN (i + 1)).nx ≤ b →
      ∀ b0 l0 o0, d.s.H.get b0 = some o0 → σ.lt d.s.nx b0 = some l0 → l0.blk ≠ l'.blk := by
    intro b l' o' hb hl' hge b0 l0 o0 h0 hl0 he
    obtain ⟨h1, h2⟩ := Sig.lt_some hl0
    rw [hKH b0 h1] at h0
    have := V.sim.inj b0 b o0 o' l0 l' h0 hb h2 hl' he
    have := hs.grow
    omega
  refine ⟨σ', ⟨by omega, .inr ⟨i, d, hd, hk, rfl⟩, ?_, ?_, q1, q2, q3, q4, ⟨?_, ?_⟩, fun b hb => (g1.fresh b hb).2, ?_, ?_, ?_, ?_, hs.os.trans V.os, hs.tape.trans V.tape, hs.output.trans V.output, Nat.le_trans V.wsize hs.size, ?_, ?_, ?_, ?_, ?_⟩⟩
  · intro j o' hj ho' e he
    rcases hj with hj | rfl
    · exact .inl (V.down j o' hj ho' e he)
    · rw [ho] at ho'; injection ho' with ho'; subst ho'
      exact .inl (hdep e he)
  · intro e d' hd' he
    constructor
    · rintro (h | rfl)
      · have := (V.effs e d' hd' he).1 h; omega
      · omega
    · intro h
      rcases Nat.lt_or_ge e p with h' | h'
      · exact .inl ((V.effs e d' hd' he).2 h')
      · rcases Nat.lt_or_ge e i with h'' | h''
        · exact absurd he (hbetween e d' h' h'' hd')
        · exact .inr (by omega)
  · intro b o' l' hb hl'
    rcases Nat.lt_or_ge b (stAt l sN (i + 1)).nx with h | h
    · rw [hKlo b h] at hb; rw [hlo b h] at hl'
      exact (g1.obj b o' l' hb hl').ext (fun b l' hb => Sig.lt_mono (Ext.refl σ') (Nat.le_max_left _ _) b l' (hlt1 b l' hb))
    · rw [hKhi b h] at hb; rw [hhi b h] at hl'
      rw [hs.frame l'.blk (V.sim.lt hb hl') (fun b0 l0 o0 h0 hl0 he => absurd he (notlive hb hl' h b0 l0 o0 h0 hl0))]
      exact (V.sim.obj b o' l' hb hl').ext (Sig.lt_mono hext (Nat.max_le.2 ⟨Nat.le_trans hc' (Nat.le_max_left _ _), Nat.le_max_right _ _⟩))
  · have hcross : ∀ b b' o1 o2 l1 l2, KK l sN (i + 1) b = some o1 → KK l sN (i + 1) b' = some o2 → σ' b = some l1 → σ' b' = some l2 → l1.blk = l2.blk → b < (stAt l sN (i + 1)).nx → (stAt l sN (i + 1)).nx ≤ b' → False := by
      intro b b' o1 o2 l1 l2 hb hb' hl1 hl2 he h h'
      rw [hKlo b h] at hb; rw [hlo b h] at hl1
      rw [hKhi b' h'] at hb'; rw [hhi b' h'] at hl2
      have hlt := V.sim.lt hb' hl2
      obtain ⟨b0, l0, o0, h0, hl0, he0, _⟩ := hs.own b l1 o1 hb hl1 (by omega)
      exact notlive hb' hl2 h' b0 l0 o0 h0 hl0 (by omega)
    intro b b' o1 o2 l1 l2 hb hb' hl1 hl2 he
    rcases Nat.lt_or_ge b (stAt l sN (i + 1)).nx with h | h <;> rcases Nat.lt_or_ge b' (stAt l sN (i + 1)).nx with h' | h'
    · rw [hKlo b h] at hb; rw [hlo b h] at hl1
      rw [hKlo b' h'] at hb'; rw [hlo b' h'] at hl2
      exact g1.inj b b' o1 o2 l1 l2 hb hb' hl1 hl2 he
    · exact (hcross b b' o1 o2 l1 l2 hb hb' hl1 hl2 he h h').elim
    · exact (hcross b' b o2 o1 l2 l1 hb' hb hl2 hl1 he.symm h' h).elim
    · rw [hKhi b h] at hb; rw [hhi b h] at hl1
      rw [hKhi b' h'] at hb'; rw [hhi b' h'] at hl2
      exact V.sim.inj b b' o1 o2 l1 l2 hb hb' hl1 hl2 he
  · intro b hb hn
    rw [hhi b hb] at hn
    obtain ⟨j, d', ob, hj, r⟩ := V.above b (by omega) hn
    exact ⟨j, d', ob, .inl hj, r⟩
  · intro j d' ob hj hd' hk'
    have h0 := V.undone j d' ob (fun h => hj (.inl h)) hd' hk'
    rcases Nat.lt_or_ge d'.s.nx (stAt l sN (i + 1)).nx with h | h
    · rw [hlo _ h]
      rcases Nat.lt_or_ge d'.s.nx d.s.nx with h' | h'
      · rw [hσ1 _ h']; exact h0
      · -- a name between cannot be: it lies behind the effect
        exfalso
        obtain ⟨oj, hoj⟩ := D.oper hd'
        have hkj := D.kind hoj hd'
        rw [hk'] at hkj
        have hjl := (List.getElem?_eq_some_iff.1 hd').1
        rcases Nat.lt_trichotomy j i with h2 | h2 | h2
        · have := D.nx_mono (i := j + 1) (j := i) (by omega) (by omega)
          rw [hkj.2.2.2.2, st hd] at this
          omega
        · exact hj (.inr h2)
        · have := D.nx_mono (i := i + 1) (j := j) (by omega) (by omega)
          rw [st hd'] at this
          omega
    · rw [hhi _ h]; exact h0
  · intro j d' ob hj hd' hk'
    have hSj : ¬ S j := fun h => hj (.inl h)
    have h0 := V.kept j d' ob hSj hd' hk'
    rcases Nat.lt_or_ge d'.s.nx (stAt l sN (i + 1)).nx with h | h
    · rw [hKlo _ h]
      rcases Nat.lt_or_ge d'.s.nx d.s.nx with h' | h'
      · rw [hs.unreal _ h' (by rw [Sig.lt_of h']; exact V.undone j d' ob hSj hd' hk'), hKH _ h']; exact h0
      · exfalso
        obtain ⟨oj, hoj⟩ := D.oper hd'
        have hkj := D.kind hoj hd'
        rw [hk'] at hkj
        have hjl := (List.getElem?_eq_some_iff.1 hd').1
        rcases Nat.lt_trichotomy j i with h2 | h2 | h2
        · have := D.nx_mono (i := j + 1) (j := i) (by omega) (by omega)
          rw [hkj.2.2.2.2, st hd] at this
          omega
        · exact hj (.inr h2)
        · have := D.nx_mono (i := i + 1) (j := j) (by omega) (by omega)
          rw [st hd'] at this
          omega
    · rw [hKhi _ h]; exact h0
  · intro b hb
    have := hs.grow
    rw [hlo b (by omega), hσ1 b (by omega)]; exact V.old b hb
  · intro b o' hb hr
    have hb0 : b < s0.nx := by
      rcases Nat.lt_or_ge b s0.nx with h | h
      · exact h
      · rw [(g0.fresh b h).2] at hb; cases hb
    have h1 := V.ro b o' hb hr
    rw [← hKH b (by omega)] at h1
    have := hs.grow
    rw [hKlo b (by omega)]
    exact hs.ro b o' h1 hr
  · intro b hb hn
    have h1 := V.dead b hb hn
    rw [← hKH b (by omega)] at h1
    have := hs.grow
    rw [hKlo b (by omega)]
    exact hs.dead b (by omega) h1
  · intro b hb hn
    have h1 := V.unreal b hb hn
    rw [← hKH b (by omega)] at h1
    have := hs.grow
    rw [hKlo b (by omega), hs.unreal b (by omega) (by rw [Sig.lt_of (by omega), V.old b hb]; exact hn)]
    exact h1
  · intro k hk0 hro
    rw [hs.frame k (Nat.lt_of_lt_of_le hk0 V.wsize) ?_]
    · exact V.frame k hk0 hro
    · intro b l' o' hb hl' he
      obtain ⟨h1, h2⟩ := Sig.lt_some hl'
      rw [hKH b h1] at hb
      obtain ⟨b0, l0, o0, e0, e1, e2, e3⟩ := V.own b l' o' hb h2 (by omega)
      have hro0 := hro b0 l0 o0 e0 e1 (by omega)
      rcases e3 with e3 | e3
      · rw [hro0] at e3; cases e3
      · subst e3
        have := V.ro b0 o0 e0 hro0
        rw [hb] at this; injection this with this; subst this; exact hro0
  · intro b l' o' hb hl' hlt
    rcases Nat.lt_or_ge b (stAt l sN (i + 1)).nx with h | h
    · rw [hKlo b h] at hb; rw [hlo b h] at hl'
      obtain ⟨b1, l1, o1, f1, f2, f3, f4⟩ := hs.own b l' o' hb hl' (Nat.lt_of_lt_of_le hlt V.wsize)
      obtain ⟨h1, h2⟩ := Sig.lt_some f2
      have f1' := f1
      rw [hKH b1 h1] at f1'
      obtain ⟨b0, l0, o0, e0, e1, e2, e3⟩ := V.own b1 l1 o1 f1' h2 (by omega)
      refine ⟨b0, l0, o0, e0, e1, by omega, ?_⟩
      rcases f4 with f4 | f4
      · rcases e3 with e3 | e3
        · exact .inl e3
        · subst e3
          cases hr : o0.isRo with
          | false => exact .inl rfl
          | true =>
            have := V.ro b0 o0 e0 hr
            rw [f1'] at this; injection this with this; subst this
            rw [hr] at f4; cases f4
      · subst f4; exact e3
    · rw [hKhi b h] at hb; rw [hhi b h] at hl'
      exact V.own b l' o' hb hl' hlt
end DRun
end CI
noncomputable section
namespace CI
open Go
theorem OR.toRo {σ : Sig} {l : Loc} {o : AObj} {ob : Option Obj} (h : OR σ l o ob) : OR σ l o.toRo ob := by
  cases o with
  | cells cs t ro =>
    obtain ⟨C, fz, e, h1, h2, h3, h4⟩ := h
    exact ⟨C, fz, e, h1, h2, h3, fun h => by cases h⟩
  | map es ro => exact h
  | iter ro => exact h
  | nit ro => exact h
theorem toRo_isRo (o : AObj) : o.toRo.isRo = true := by cases o <;> rfl
theorem addNews_fold : ∀ (L : List DS) (H : Heap) {b : Nat} {o : AObj}, (L.foldl (fun H d => match d.k with | .new ob => H.put d.s.nx (some ob) | _ => H) H).get b = some o →
    (∃ d ∈ L, d.k = .new o ∧ d.s.nx = b) ∨ H.get b = some o
  | [], H, b, o, h => .inr h
  | d :: L, H, b, o, h => by
    rw [List.foldl_cons] at h
    rcases addNews_fold L _ h with ⟨d', h1, h2, h3⟩ | h
    · exact .inl ⟨d', List.mem_cons_of_mem _ h1, h2, h3⟩
    · split at h
      · rename_i ob hk
        by_cases e : b = d.s.nx
        · subst e; rw [Tr.get_put_same] at h; injection h with h; subst h; exact .inl ⟨d, by simp, hk, rfl⟩
        · rw [Tr.get_put_ne _ _ _ _ e] at h; exact .inr h
      · exact .inr h
theorem addNews_get {l : List DS} {p : Nat} {H : Heap} {b : Nat} {o : AObj} (h : (addNews l p H).get b = some o) : (∃ j d, p ≤ j ∧ l[j]? = some d ∧ d.k = .new o ∧ d.s.nx = b) ∨ H.get b = some o := by
  rcases addNews_fold _ _ h with ⟨d, h1, h2, h3⟩ | h
  · obtain ⟨j, hj, rfl⟩ := List.mem_iff_getElem.1 h1
    refine .inl ⟨p + j, _, by omega, ?_, h2, h3⟩
    rw [List.length_drop] at hj
    rw [List.getElem_drop, List.getElem?_eq_getElem]
  · exact .inr h
theorem callA_congr {C : Cx} {call : CallF} {ρ ρ' : Operand → AV} {c : Call} (h : ∀ x ∈ c.operands, ρ x = ρ' x) (H : Heap) (nx : Nat) : callA C call ρ c H nx = callA C call ρ' c H nx := by
  unfold callA
  cases hc : c.callee with
  | value f =>
    have h1 : ρ f = ρ' f := h f (by simp [Call.operands, hc])
    have h2 : c.args.toList.map ρ = c.args.toList.map ρ' := List.map_congr_left fun x hx => h x (by simp [Call.operands]; exact .inr (by simpa using hx))
    simp only [h1, h2]
  | invoke => rfl
  | builtin => rfl
theorem stepA_congr {C : Cx} {call : CallF} {ρ ρ' : Operand → AV} {o : Op} (h : ∀ x ∈ o.operands, ρ x = ρ' x) (H : Heap) (nx : Nat) : stepA C call ρ o H nx = stepA C call ρ' o H nx := by
  unfold stepA
  split
  · rename_i c
    rw [callA_congr (c := c) h, opA_congr h]
  · exact opA_congr h H nx
namespace DRun
variable {C : Cx} {call : CallF} {nt : Nat} {ops : Array Oper} {s0 sN : St} {l : List DS}
variable {σ0 : Sig} {w0 : World} {S : Nat → Prop} {σ : Sig} {p : Nat} {a : Act} {w w' : World}
theorem mem_effs {e : Nat} : e ∈ effIdx l ↔ ∃ d, l[e]? = some d ∧ d.k = .eff := by
  unfold effIdx
  rw [List.mem_filterMap]
  constructor
  · rintro ⟨⟨d, i⟩, hm, h⟩
    rw [List.mk_mem_zipIdx_iff_getElem?] at hm
    simp only at h
    split at h
    · injection h with h; subst h; exact ⟨d, hm, ‹_›⟩
    · cases h
  · rintro ⟨d, hd, hk⟩
    exact ⟨(d, e), by rw [List.mk_mem_zipIdx_iff_getElem?]; exact hd, by simp [hk]⟩
theorem last_nx (D : DRun C call nt ops s0 l sN) : (stAt l sN l.length).nx = sN.nx := by simp [stAt]
theorem Inv.turn (hC : C.OK) (hcall : CallOK C call) (D : DRun C call nt ops s0 l sN) (V : Inv C call nt ops s0 l sN σ0 w0 S σ p a w) (g0 : Good σ0 s0.H s0.nx w0) {i : Nat} {o : Oper}
    (ho : ops[i]? = some o) (hS : ¬ S i) (hdep : ∀ e ∈ bnds o, S e.on) {Q : Exit → Act → World → Prop} {N : Act → World → Prop}
    (hN : ∀ σ' p' a' w', Inv C call nt ops s0 l sN σ0 w0 (plus S i) σ' p' a' w' → N a' w') : wpOp C.P ops Q i N a w := by
  obtain ⟨d, hd⟩ := D.ds ho
  have hil := (List.getElem?_eq_some_iff.1 hd).1
  have hkind := D.kind ho hd
  obtain ⟨ρ, hρ, hcong⟩ := V.rho D g0 ho hd hS hdep
  have hw := V.wants D g0 ho hd hS hdep
  unfold wpOp
  rw [ho]
  simp only
  rw [hw]
  have calm : ∀ {X X' : Heap} {n n' : Nat} {τ : Sig}, Good τ X n w → (∀ x, VR τ (ρ x) (a.eval x)) → (∀ b o', X.get b = some o' → o'.isRo = true) → opA C (ev d.s.env) o.op X n = some (d.v, X', n') →
      (∀ x w' τ', VR τ' d.v x → Step τ X n w τ' X' n' w' → Good τ' X' n' w' → w.heap.size ≤ w'.heap.size → (∀ k, k < w.heap.size → w'.heap[k]? = w.heap[k]?) → N (a.put o.dst x) w') → o.wp C.P a w N Q := by
    intro X X' n n' τ g hr hro hop hn
    rw [opA_congr hcong] at hop
    refine (opA_out hC g hr hop).wp fun x w' τ' h1 h2 h3 => hn x w' τ' h1 h2 h3 h2.size fun k hk => h2.frame k hk fun b l' o' hb _ _ => hro b o' hb
  have gnil : Good (σ.lt d.s.nx) .nil d.s.nx w := ⟨⟨⟨fun b o' l' hb => (by cases hb), fun b b' o1 o2 l1 l2 hb => (by cases hb)⟩, fun b hb => ⟨Sig.lt_ge hb, rfl⟩⟩, glb_of g0 V.frame, fun b l o hb => (by cases hb)⟩
  cases hk : d.k <;> rw [hk] at hkind <;> simp only at hkind
  · -- not wanted
    obtain ⟨k1, k2, k3, k4⟩ := hkind
    rw [k1, if_neg (by simp)]
    refine hN σ p _ _ (V.quiet D g0 ho hd hS hdep (by rw [hk]; simp) (Nat.le_refl _) (fun _ _ => rfl) rfl rfl rfl (by rw [k2]; simp [VR]) (.inl ⟨rfl, trivial⟩))
  · -- still
    obtain ⟨k1, k2, ⟨X, k3⟩, k4, k5⟩ := hkind
    rw [k1, if_pos rfl]
    refine .inl (calm gnil hρ (fun b o' hb => by cases hb) k3 fun x w' τ' h1 h2 h3 h4 h5 => ?_)
    refine hN σ p _ _ (V.quiet D g0 ho hd hS hdep (by rw [hk]; simp) h4 h5 h2.os h2.tape h2.output (h1.ext fun b l' hb => ?_) (.inl ⟨rfl, trivial⟩))
    rw [k5]
    rcases Nat.lt_or_ge b d.s.nx with h | h
    · rw [← h2.old b h]; exact hb
    · rw [(h3.fresh b h).1] at hb; cases hb
  · -- it reads
    obtain ⟨k1, k2, k3, k4, k5⟩ := hkind
    rw [k1, if_pos rfl]
    have hread := D.reads i o d ho hd hk
    unfold readOK at hread
    rw [List.all_eq_true] at hread
    have hpm : p ∈ 0 :: (effIdx l).map (· + 1) := by
      rcases V.front with h | ⟨e, d', he, hek, h⟩
      · rw [h]; simp
      · rw [h]; simp only [List.mem_cons, List.mem_map]; exact .inr ⟨e, mem_effs.2 ⟨d', he, hek⟩, rfl⟩
    have := hread p hpm
    have hall : allowed (ancs ops.toList []) (effIdx l) i p = true := by
      unfold allowed
      rw [List.all_eq_true]
      intro e he
      obtain ⟨d', he', hek⟩ := mem_effs.1 he
      obtain ⟨oe, hoe⟩ := D.oper he'
      have cl := anc_closed D.stat (S := S) (fun i o h1 h2 => V.down i o h1 (by simpa using h2))
      split
      · rename_i hlt
        cases hb : ((ancs ops.toList []).getD e 0).testBit i with
        | false => rfl
        | true => exact absurd (cl (e + 1) e oe (by omega) (by simpa using hoe) (V.down e oe ((V.effs e d' he' hek).2 hlt) hoe) i hb) hS
      · rename_i hlt
        cases hb : ((ancs ops.toList []).getD i 0).testBit e with
        | false => rfl
        | true => exact absurd ((V.effs e d' he' hek).1 (cl (i + 1) i o (by omega) (by simpa using ho) hdep e hb)) hlt
    rw [hall] at this
    simp only [Bool.not_true, Bool.false_or] at this
    split at this
    · rename_i v' X nx' hop
      simp only [Bool.and_eq_true, decide_eq_true_eq] at this
      obtain ⟨e1, e2⟩ := this
      have e2 := AV.eqB_ok e2
      subst e1; subst e2
      have hplen := D.nx_mono V.ple (Nat.le_refl _)
      rw [D.last_nx] at hplen
      have hsub : ∀ b o', (roAll (addNews l p (stAt l sN p).H)).get b = some o' → ∃ o2, KK l sN p b = some o2 ∧ o' = o2.toRo ∧ b < sN.nx := by
        intro b o' hb
        rw [roAll_get, Option.map_eq_some_iff] at hb
        obtain ⟨o2, hb, rfl⟩ := hb
        refine ⟨o2, ?_, rfl, ?_⟩
        · rcases addNews_get hb with ⟨j, dj, hpj, hj, hkj, rfl⟩ | hb
          · have hm := D.nx_mono hpj (Nat.le_of_lt (List.getElem?_eq_some_iff.1 hj).1)
            rw [show (stAt l sN j).nx = dj.s.nx by unfold stAt; rw [hj]] at hm
            unfold KK
            rw [if_neg (by omega)]
            exact D.newAt_of hpj hj hkj
          · have hlt : b < (stAt l sN p).nx := by
              rcases Nat.lt_or_ge b (stAt l sN p).nx with h | h
              · exact h
              · rw [V.fresh b h] at hb; cases hb
            unfold KK
            rw [if_pos hlt]; exact hb
        · rcases addNews_get hb with ⟨j, dj, hpj, hj, hkj, rfl⟩ | hb
          · obtain ⟨oj, hoj⟩ := D.oper hj
            have hkj' := D.kind hoj hj
            rw [hkj] at hkj'
            have hjl := (List.getElem?_eq_some_iff.1 hj).1
            have := D.nx_mono (i := j + 1) (j := l.length) (by omega) (Nat.le_refl _)
            rw [D.last_nx, hkj'.2.2.2.2] at this
            omega
          · rcases Nat.lt_or_ge b (stAt l sN p).nx with h | h
            · omega
            · rw [V.fresh b h] at hb; cases hb
      have g : Good σ (roAll (addNews l p (stAt l sN p).H)) sN.nx w := by
        refine ⟨⟨⟨?_, ?_⟩, fun b hb => ⟨?_, ?_⟩⟩, glb_of g0 V.frame, fun b l' o' hb _ hr => ?_⟩
        rotate_left 4
        · obtain ⟨o2, _, rfl, _⟩ := hsub b o' hb
          rw [toRo_isRo] at hr; cases hr
        · intro b o' l' hb hl'
          obtain ⟨o2, h1, rfl, h2⟩ := hsub b o' hb
          exact ((V.sim.obj b o2 l' h1 hl').ext (Sig.lt_ext _ _)).toRo
        · intro b b' o1 o2 l1 l2 hb hb' hl1 hl2 he
          obtain ⟨o3, h1, _, h2⟩ := hsub b o1 hb
          obtain ⟨o4, h3, _, h4⟩ := hsub b' o2 hb'
          exact V.sim.inj b b' o3 o4 l1 l2 h1 h3 hl1 hl2 he
        · cases hs : σ b with
          | none => rfl
          | some l' =>
            obtain ⟨j, dj, ob, _, hj, hkj, hn⟩ := V.above b (by omega) (by rw [hs]; simp)
            obtain ⟨oj, hoj⟩ := D.oper hj
            have hkj' := D.kind hoj hj
            rw [hkj] at hkj'
            have hjl := (List.getElem?_eq_some_iff.1 hj).1
            have := D.nx_mono (i := j + 1) (j := l.length) (by omega) (Nat.le_refl _)
            rw [D.last_nx, hkj'.2.2.2.2] at this
            omega
        · cases hb' : (roAll (addNews l p (stAt l sN p).H)).get b with
          | none => rfl
          | some o' =>
            obtain ⟨_, _, _, h2⟩ := hsub b o' hb'
            omega
      refine .inl (calm g (fun x => (hρ x).ext (Sig.lt_ext _ _)) (fun b o' hb => ?_) hop fun x w' τ' h1 h2 h3 h4 h5 => ?_)
      · obtain ⟨o2, _, rfl, _⟩ := hsub b o' hb
        exact toRo_isRo o2
      · refine hN σ p _ _ (V.quiet D g0 ho hd hS hdep (by rw [hk]; simp) h4 h5 h2.os h2.tape h2.output ?_ (.inl ⟨rfl, trivial⟩))
        rw [k5]
        refine VR.lt k3 (h1.ext fun b l' hb => ?_)
        rcases Nat.lt_or_ge b sN.nx with h | h
        · rw [← h2.old b h]; exact hb
        · rw [(h3.fresh b h).1] at hb; cases hb
    · cases this
  · -- it makes a block
    rename_i ob
    obtain ⟨k1, k2, ⟨X, k3, k3'⟩, k4, k5⟩ := hkind
    rw [k1, if_pos rfl]
    refine .inl (calm gnil hρ (fun b o' hb => by cases hb) k3 fun x w' τ' h1 h2 h3 h4 h5 => ?_)
    cases hs : τ' d.s.nx with
    | none =>
      refine hN σ p _ _ (V.quiet D g0 ho hd hS hdep (by rw [hk]; simp) h4 h5 h2.os h2.tape h2.output (h1.ext fun b l' hb => ?_) (.inl ⟨rfl, trivial⟩))
      rw [k5]
      rcases Nat.lt_or_ge b d.s.nx with h | h
      · rw [h2.old b h] at hb
        exact Sig.lt_mono (Ext.refl σ) (Nat.le_succ _) b l' hb
      · rcases Nat.lt_or_ge b (d.s.nx + 1) with h' | h'
        · have : b = d.s.nx := by omega
          subst this; rw [hs] at hb; cases hb
        · rw [(h3.fresh b h').1] at hb; cases hb
    | some loc =>
      have hτ : Ext τ' ((σ.upd d.s.nx loc).lt (d.s.nx + 1)) := fun b l' hb => by
        rcases Nat.lt_or_ge b (d.s.nx + 1) with h | h
        · rw [Sig.lt_of h]
          by_cases e : b = d.s.nx
          · subst e; rw [Sig.upd_same, ← hs]; exact hb
          · rw [Sig.upd_ne _ _ _ e]
            rw [h2.old b (by omega), Sig.lt_of (by omega)] at hb
            exact hb
        · rw [(h3.fresh b h).1] at hb; cases hb
      refine hN (σ.upd d.s.nx loc) p _ _ (V.quiet D g0 ho hd hS hdep (by rw [hk]; simp) h4 h5 h2.os h2.tape h2.output (by rw [k5]; exact h1.ext hτ) (.inr ⟨loc, ob, hk, rfl, ?_, ?_⟩))
      · rcases Nat.lt_or_ge loc.blk w.heap.size with h | h
        · obtain ⟨b0, l0, o0, hb0, _⟩ := h2.own d.s.nx loc ob k3' hs h
          cases hb0
        · exact h
      · exact (h3.obj d.s.nx ob loc k3' hs).ext hτ
  · -- an effect
    obtain ⟨k1, k2, k3, k4⟩ := hkind
    rw [k1, if_pos rfl]
    obtain ⟨g, hfin⟩ := V.effect D g0 ho hd hS hdep hk
    rw [stepA_congr hcong] at k3
    refine .inl (stepA_wp hC hcall g hρ k3 fun x w' σ1 h1 h2 h3 => ?_)
    obtain ⟨σ', V'⟩ := hfin h1 h2 h3
    exact hN σ' (i + 1) _ _ V'
end DRun
end CI
noncomputable section
namespace CI
open Go
namespace DRun
variable {C : Cx} {call : CallF} {nt : Nat} {ops : Array Oper} {s0 sN : St} {l : List DS}
variable {σ0 : Sig} {w0 : World} {S : Nat → Prop} {σ : Sig} {p : Nat} {a : Act} {w w' : World}
theorem Inv.last (D : DRun C call nt ops s0 l sN) (V : Inv C call nt ops s0 l sN σ0 w0 S σ p a w) (g0 : Good σ0 s0.H s0.nx w0) (hall : ∀ i, i < ops.size → S i) :
    ActR σ sN.env nt a ∧ Step σ0 s0.H s0.nx w0 σ sN.H sN.nx w ∧ Good σ sN.H sN.nx w := by
  have hlen := D.len
  have hno : ∀ (j : Nat) (d : DS), p ≤ j → j < l.length → l[j]? = some d → d.k ≠ .eff := by
    intro j d hpj hj hd hk
    have := (V.effs j d hd hk).1 (hall j (by omega))
    omega
  have hH := D.heap_since V.fresh l.length V.ple (Nat.le_refl _) hno
  have hst : stAt l sN l.length = sN := by simp [stAt]
  rw [hst] at hH
  have hnewlt : ∀ {b ob}, newAt l p b = some ob → b < sN.nx := by
    intro b ob h
    obtain ⟨j, d, _, hd, hk, hn⟩ := newAt_some h
    obtain ⟨o, ho⟩ := D.oper hd
    have hkj := D.kind ho hd
    rw [hk] at hkj
    have hjl := (List.getElem?_eq_some_iff.1 hd).1
    have := D.nx_mono (i := j + 1) (j := l.length) (by omega) (Nat.le_refl _)
    rw [hst, hkj.2.2.2.2] at this
    omega
  have hK : ∀ b, KK l sN p b = sN.H.get b := by
    intro b
    rw [hH b]
    unfold KK
    by_cases h : b < (stAt l sN p).nx
    · rw [if_pos h, if_pos h]
    · rw [if_neg h, if_neg h]
      by_cases h2 : b < sN.nx
      · rw [if_pos h2]
      · rw [if_neg h2]
        cases hn : newAt l p b with
        | none => rfl
        | some ob => exact absurd (hnewlt hn) h2
  have hnx : s0.nx ≤ sN.nx := by have := D.nx0_le (i := l.length) (Nat.le_refl _); rwa [hst] at this
  have hple := D.nx_mono V.ple (Nat.le_refl _)
  rw [hst] at hple
  have hsfr : ∀ b, sN.nx ≤ b → σ b = none := by
    intro b hb
    cases hs : σ b with
    | none => rfl
    | some l' =>
      obtain ⟨j, dj, ob, _, hj, hkj, hn⟩ := V.above b (by omega) (by rw [hs]; simp)
      have := hnewlt (D.newAt_of (p := 0) (Nat.zero_le j) hj hkj |> fun h => by
        have h2 := D.newAt_of (p := p) (j := j) (by
          rcases Nat.lt_or_ge j p with h3 | h3
          · obtain ⟨oj, hoj⟩ := D.oper hj
            have hkj' := D.kind hoj hj
            rw [hkj] at hkj'
            have := D.nx_mono (i := j + 1) (j := p) (by omega) V.ple
            rw [hkj'.2.2.2.2] at this
            omega
          · exact h3) hj hkj
        exact h2)
      omega
  refine ⟨⟨fun t => ?_, V.size, V.defers⟩, ⟨V.os, V.tape, V.output, V.wsize, hnx, V.old, fun b o h1 h2 => by rw [← hK]; exact V.ro b o h1 h2, fun b h1 h2 => by rw [← hK]; exact V.dead b h1 h2,
    fun b h1 h2 => by rw [← hK]; exact V.unreal b h1 h2, V.frame, fun b l' o h1 h2 h3 => V.own b l' o (by rw [hK]; exact h1) h2 h3⟩, ⟨⟨⟨fun b o l' h1 h2 => ?_, fun b b' o o' l1 l2 h1 h2 => ?_⟩, fun b hb => ⟨hsfr b hb, ?_⟩⟩, glb_of g0 V.frame, fun b l' o h1 h2 hr => apart_of g0 V.ro V.own b l' o (by rw [hK]; exact h1) h2 hr⟩⟩
  · by_cases hex : ∃ (j : Nat) (o : Oper), ops[j]? = some o ∧ o.dst = some t
    · obtain ⟨j, o, ho, ht⟩ := hex
      obtain ⟨d, hd⟩ := D.ds ho
      have hjl := (List.getElem?_eq_some_iff.1 hd).1
      have h1 := D.env_new ho hd ht l.length hjl (Nat.le_refl _)
      rw [hst] at h1
      rw [h1]
      exact (V.slots j d o t (hall j (by omega)) hd ho ht).ext (Sig.lt_ext _ _)
    · have h1 := D.env_old t l.length (Nat.le_refl _) fun j o _ ho ht => hex ⟨j, o, ho, ht⟩
      rw [hst] at h1
      rw [h1]
      exact (V.rest t fun j o _ ho ht => hex ⟨j, o, ho, ht⟩).ext fun b k h => Sig.lt_ext σ s0.nx b k (V.ext0 g0 (Nat.le_refl _) b k h)
  · exact (V.sim.obj b o l' (by rw [hK]; exact h1) h2).ext (Sig.lt_ext _ _)
  · exact V.sim.inj b b' o o' l1 l2 (by rw [hK]; exact h1) (by rw [hK]; exact h2)
  · rw [hH b, if_neg (by omega), if_neg (by omega)]
theorem first (D : DRun C call nt ops s0 l sN) (g0 : Good σ0 s0.H s0.nx w0) (he : ActR σ0 s0.env nt a) (hw : w.heap = w0.heap) (h1 : w.os = w0.os) (h2 : w.tape = w0.tape) (h3 : w.output = w0.output) :
    Inv C call nt ops s0 l sN σ0 w0 (fun _ => False) σ0 0 a w := by
  have h0 : stAt l sN 0 = s0 := txRun_first D.run
  have hKb : ∀ b, b < s0.nx → KK l sN 0 b = s0.H.get b := fun b hb => by unfold KK; rw [h0, if_pos hb]
  have live : ∀ {b l'}, σ0 b = some l' → b < s0.nx := by
    intro b l' h
    rcases Nat.lt_or_ge b s0.nx with h' | h'
    · exact h'
    · rw [(g0.fresh b h').1] at h; cases h
  have hlt : Ext σ0 (σ0.lt s0.nx) := fun b l' h => by rw [Sig.lt_of (live h)]; exact h
  have nxge : ∀ {j : Nat} {d : DS}, l[j]? = some d → s0.nx ≤ d.s.nx := by
    intro j d hd
    have hjl := (List.getElem?_eq_some_iff.1 hd).1
    have := D.nx0_le (i := j) (by omega)
    rwa [st hd] at this
  refine ⟨Nat.zero_le _, .inl rfl, fun _ _ h => h.elim, fun e d _ _ => ⟨fun h => h.elim, fun h => by omega⟩, fun _ _ _ _ h => h.elim, fun t _ => he.env t, he.size, he.defers, ⟨?_, ?_⟩, ?_, ?_, ?_, ?_, fun _ _ => rfl, h1, h2, h3, by rw [hw]; exact Nat.le_refl _, ?_, ?_, ?_, fun k _ _ => by rw [hw], ?_⟩
  · intro b o l' hb hl'
    rw [hKb b (live hl')] at hb
    rw [hw, h0]
    exact (g0.obj b o l' hb hl').ext fun b l' h => Sig.lt_mono (Ext.refl σ0) (Nat.le_max_left _ _) b l' (hlt b l' h)
  · intro b b' o o' l1 l2 hb hb' hl1 hl2
    rw [hKb b (live hl1)] at hb; rw [hKb b' (live hl2)] at hb'
    exact g0.inj b b' o o' l1 l2 hb hb' hl1 hl2
  · intro b hb; rw [h0] at hb ⊢; exact (g0.fresh b hb).2
  · intro b hb hn; rw [h0] at hb; exact absurd (g0.fresh b hb).1 hn
  · intro j d ob _ hd _; exact (g0.fresh _ (nxge hd)).1
  · intro j d ob _ hd hk
    unfold KK
    rw [h0, if_neg (by have := nxge hd; omega)]
    exact D.newAt_of (Nat.zero_le j) hd hk
  · intro b o hb hr
    rw [hKb b]; exact hb
    rcases Nat.lt_or_ge b s0.nx with h' | h'
    · exact h'
    · rw [(g0.fresh b h').2] at hb; cases hb
  · intro b hb hn; rw [hKb b hb]; exact hn
  · intro b hb _; rw [hKb b hb]
  · intro b l' o hb hl' _
    rw [hKb b (live hl')] at hb
    exact ⟨b, l', o, hb, hl', rfl, .inr rfl⟩
theorem any_order (hC : C.OK) (hcall : CallOK C call) (D : DRun C call nt ops s0 l sN) (g0 : Good σ0 s0.H s0.nx w0) {Q : Exit → Act → World → Prop}
    (hq : ∀ σ' w' a', ActR σ' sN.env nt a' → Step σ0 s0.H s0.nx w0 σ' sN.H sN.nx w' → Good σ' sN.H sN.nx w' → Q .normal a' w') :
    ∀ (fuel : Nat) (listed : Array Bool) (σ : Sig) (p : Nat) (a : Act) (w : World), listed.size = ops.size → ((List.range ops.size).filter fun i => !listed.getD i true).length ≤ fuel →
      Inv C call nt ops s0 l sN σ0 w0 (fun i => listed.getD i false = true) σ p a w → wpAny C.P .any ops Q fuel listed a w := by
  intro fuel
  have done : ∀ (listed : Array Bool) (σ : Sig) (p : Nat) (a : Act) (w : World), listed.size = ops.size → Region.ready .any ops listed = [] →
      Inv C call nt ops s0 l sN σ0 w0 (fun i => listed.getD i false = true) σ p a w → Q .normal a w := by
    intro listed σ p a w hsz hr V
    have hall : ∀ n, ∀ i, i < n → i < ops.size → listed.getD i false = true := by
      intro n
      induction n with
      | zero => intro i h; omega
      | succ n ih =>
        intro i hi hs
        by_cases h : listed.getD i false = true
        · exact h
        · exfalso
          have hm : i ∈ Region.ready .any ops listed := by
            rw [mem_ready]
            have ho : ops[i]? = some ops[i] := Array.getElem?_eq_getElem hs
            refine ⟨?_, ops[i], ho, fun e he hb => ?_⟩
            · have hlt : i < listed.size := by omega
              simp only [Array.getD_eq_getD_getElem?, Array.getElem?_eq_getElem hlt, Option.getD_some] at h ⊢
              simpa using h
            · have := D.stat.edge i ops[i] (by simp) e (mem_bnds he hb)
              exact ih e.on (by omega) (by omega)
          rw [hr] at hm; cases hm
    obtain ⟨h1, h2, h3⟩ := V.last D g0 fun i hi => hall (i + 1) i (by omega) hi
    exact hq σ w a h1 h2 h3
  induction fuel with
  | zero =>
    intro listed σ p a w hsz hc V
    have hr : Region.ready .any ops listed = [] := by
      cases hr : Region.ready .any ops listed with
      | nil => rfl
      | cons i t =>
        have hm : i ∈ Region.ready .any ops listed := by rw [hr]; simp
        obtain ⟨h1, o, ho, _⟩ := mem_ready.1 hm
        have : i ∈ (List.range ops.size).filter fun i => !listed.getD i true := by
          rw [List.mem_filter, List.mem_range]
          exact ⟨(Array.getElem?_eq_some_iff.1 ho).1, by rw [h1]; rfl⟩
        have := List.length_pos_of_mem this
        omega
    exact ⟨hr, done listed σ p a w hsz hr V⟩
  | succ fuel ih =>
    intro listed σ p a w hsz hc V
    refine ⟨fun hr => done listed σ p a w hsz hr V, fun i hi => ?_⟩
    obtain ⟨h1, o, ho, hdep⟩ := mem_ready.1 hi
    have his := (Array.getElem?_eq_some_iff.1 ho).1
    have hS : ¬ listed.getD i false = true := by
      have hlt : i < listed.size := by omega
      simp only [Array.getD_eq_getD_getElem?, Array.getElem?_eq_getElem hlt, Option.getD_some] at h1 ⊢
      simpa using h1
    refine V.turn hC hcall D g0 ho hS (fun e he => hdep e (of_bnds he).1 (of_bnds he).2) fun σ' p' a' w' V' => ?_
    refine ih (listed.setIfInBounds i true) σ' p' a' w' (by simpa using hsz) ?_ ?_
    · have : ((List.range ops.size).filter fun j => !(listed.setIfInBounds i true).getD j true).length < ((List.range ops.size).filter fun j => !listed.getD j true).length := by
        rw [← List.countP_eq_length_filter, ← List.countP_eq_length_filter]
        have hmem : i ∈ List.range ops.size := List.mem_range.2 his
        obtain ⟨s, t, hst⟩ := List.append_of_mem hmem
        have hnd : (List.range ops.size).Nodup := List.nodup_range
        rw [hst] at hnd ⊢
        rw [List.nodup_append] at hnd
        have hns : ∀ x ∈ s, x ≠ i := fun x hx => hnd.2.2 x hx i (by simp)
        have hnt : ∀ x ∈ t, x ≠ i := fun x hx e => by
          subst e
          have := hnd.2.1
          rw [List.nodup_cons] at this
          exact this.1 hx
        have e1 : s.countP (fun j => !(listed.setIfInBounds i true).getD j true) = s.countP (fun j => !listed.getD j true) :=
          List.countP_congr fun x hx => by rw [getD_set_ne true (Ne.symm (hns x hx))]
        have e2 : t.countP (fun j => !(listed.setIfInBounds i true).getD j true) = t.countP (fun j => !listed.getD j true) :=
          List.countP_congr fun x hx => by rw [getD_set_ne true (Ne.symm (hnt x hx))]
        have e3 : (!(listed.setIfInBounds i true).getD i true) = false := by
          have hlt : i < listed.size := by omega
          simp [hlt]
        rw [List.countP_append, List.countP_append, List.countP_cons, List.countP_cons, e1, e2, e3, h1]
        simp
      omega
    · have heq : (fun j => (listed.setIfInBounds i true).getD j false = true) = plus (fun j => listed.getD j false = true) i := by
        funext j
        apply propext
        unfold plus
        by_cases e : j = i
        · subst e
          have hlt : j < listed.size := by omega
          simp [hlt]
        · rw [getD_set_ne false (Ne.symm e)]
          simp [e]
      rw [heq]
      exact V'
end DRun
theorem runDraw_wp {C : Cx} (hC : C.OK) (hm : C.P.follows .mixedOrders = true) {call : CallF} (hcall : CallOK C call) {nt id : Nat} {ops : Array Oper} (hst : drawStatic ops.toList = true) {s s' : St} {σ : Sig} {w : World} {a : Act}
    (h : runDraw C call nt ops s = some s') (he : ActR σ s.env nt a) (g : Good σ s.H s.nx w) {Q : Exit → Act → World → Prop}
    (hq : ∀ σ' w' a', ActR σ' s'.env nt a' → Step σ s.H s.nx w σ' s'.H s'.nx w' → Good σ' s'.H s'.nx w' → Q .normal a' w') : (Code.region id ops true).wp C.P Q a w := by
  unfold runDraw at h
  split at h
  · cases h
  · rename_i l sN hrun
    simp only at h
    split at h
    · rename_i hall
      injection h with h; subst h
      have D : DRun C call nt ops s l sN := by
        refine ⟨hrun, static_of hst, fun i o d ho hd hk => ?_⟩
        rw [List.all_eq_true] at hall
        have hm : ((o, d), i) ∈ (ops.toList.zip l).zipIdx := by
          rw [List.mk_mem_zipIdx_iff_getElem?, List.getElem?_zip_eq_some]
          exact ⟨by simpa using ho, hd⟩
        have := hall _ hm
        simp only [hk] at this
        exact this
      have V := D.first (w := { w with drawn := w.drawn + 1 }) g he rfl rfl rfl rfl
      refine wp_region_any hm ?_
      refine D.any_order hC hcall g hq ops.size _ σ 0 a _ (by simp) ?_ ?_
      · exact Nat.le_trans (List.length_filter_le _ _) (by simp)
      · have heq : (fun i => (Array.replicate ops.size false).getD i false = true) = fun _ => False := by
          funext i
          apply propext
          simp only [Array.getD_eq_getD_getElem?]
          cases hi : (Array.replicate ops.size false)[i]? with
          | none => simp
          | some b =>
            have := (Array.getElem?_eq_some_iff.1 hi).2
            simp at this
            simp [← this]
        rw [heq]
        exact V
    · cases h
end CI
noncomputable section
namespace CI
open Go
inductive Ex where
  | normal
  | exit (id : Nat)
  | ret
def codeOK : Code → Bool
  | .region _ ops true => drawStatic ops.toList
  | .seq a b => codeOK a && codeOK b
  | .cond _ a b => codeOK a && codeOK b
  | .block _ a => codeOK a
  | .loop a => codeOK a
  | _ => true
def resOf (C : Cx) (s : St) : List ResultVar → Option (List AV)
  | [] => some []
  | .tmp t :: rs => (resOf C s rs).map fun l => (s.env.get t).getD (.lit undef) :: l
  | .cell a t :: rs => (loadOp C.T s.H t ((s.env.get a).getD (.lit undef))).bind fun v => (resOf C s rs).map fun l => v :: l
def resA (C : Cx) (s : St) (rs : List ResultVar) : Option AV := (resOf C s rs).map fun l => match l with
  | [v] => v
  | l => .tuple l
def argEnv (args : List AV) : Tr AV := args.zipIdx.foldl (fun E p => E.put p.2 (some p.1)) .nil
def callS (C : Cx) (run : Nat → Code → St → Option (Ex × St)) : CallF := fun k args H nx =>
  match C.F.get k with
  | none => C.Y k args H nx
  | some fn =>
    match fn.body with
    | none => none
    | some body =>
      if args.length ≤ fn.ntmps then
        match run fn.ntmps body ⟨argEnv args, H, nx⟩ with
        | some (.normal, s') => (resA C s' fn.results.toList).map fun v => (v, s'.H, s'.nx)
        | some (.ret, s') => (resA C s' fn.results.toList).map fun v => (v, s'.H, s'.nx)
        | _ => none
      else none
def execS (C : Cx) (run : Nat → Code → St → Option (Ex × St)) (nt : Nat) (c : Code) (s : St) : Option (Ex × St) :=
  match c with
  | .skip => some (.normal, s)
  | .label _ => some (.normal, s)
  | .region _ ops false => (runOps C (callS C run) nt ops ops.toList s).map fun s' => (.normal, s')
  | .region _ ops true => (runDraw C (callS C run) nt ops s).map fun s' => (.normal, s')
  | .seq a b =>
    match run nt a s with
    | some (.normal, s') => run nt b s'
    | r => r
  | .cond x a b =>
    match ev s.env x with
    | .lit (.bool true) => run nt a s
    | .lit (.bool false) => run nt b s
    | _ => none
  | .block id b =>
    match run nt b s with
    | some (.exit i, s') => if i = id then some (.normal, s') else some (.exit i, s')
    | r => r
  | .loop b =>
    match run nt b s with
    | some (.normal, s') => run nt (.loop b) s'
    | r => r
  | .exit id => some (.exit id, s)
  | .ret => some (.ret, s)
  | _ => none
def exec (C : Cx) : Nat → Nat → Code → St → Option (Ex × St)
  | 0 => fun _ _ _ => none
  | n + 1 => execS C (exec C n)
abbrev callN (C : Cx) (n : Nat) : CallF := callS C (exec C n)
structure Cx.Sound (C : Cx) : Prop extends C.OK where
  mixed : C.P.follows .mixedOrders = true
  ys : CallOK C C.Y
  codes : ∀ k fn c, C.F.get k = some fn → fn.body = some c → codeOK c = true
def toExit : Ex → Exit
  | .normal => .normal
  | .exit id => .exit id
  | .ret => .ret
def Post (nt : Nat) (σ : Sig) (s : St) (w : World) (ex : Ex) (s' : St) : Exit → Act → World → Prop := fun e a' w' =>
  e = toExit ex ∧ ∃ σ', ActR σ' s'.env nt a' ∧ Step σ s.H s.nx w σ' s'.H s'.nx w' ∧ Good σ' s'.H s'.nx w'
theorem argEnv_get : ∀ (args : List AV) (k : Nat) (E : Tr AV) (t : Nat), ((args.zipIdx k).foldl (fun E p => E.put p.2 (some p.1)) E).get t = if t < k then E.get t else match args[t - k]? with
    | some v => some v
    | none => E.get t
  | [], k, E, t => by simp
  | v :: args, k, E, t => by
    rw [List.zipIdx_cons, List.foldl_cons, argEnv_get args (k + 1) _ t]
    by_cases h1 : t < k
    · rw [if_pos h1, if_pos (by omega), Tr.get_put_ne _ _ _ _ (by omega)]
    · rw [if_neg h1]
      by_cases h2 : t = k
      · subst h2
        rw [if_pos (by omega), Tr.get_put_same]; simp
      · rw [if_neg (by omega), Tr.get_put_ne _ _ _ _ h2]
        rw [show t - k = (t - (k + 1)) + 1 from by omega]; simp
theorem argEnv_R {σ : Sig} {args : List AV} {xs : List Value} (h : VRs σ args xs) {nt : Nat} (hn : args.length ≤ nt) :
    ActR σ (argEnv args) nt { tmps := xs.toArray ++ Array.replicate (nt - xs.toArray.size) undef, defers := [] } := by
  have hl := h.length
  refine ⟨fun t => ?_, by simp <;> omega, rfl⟩
  unfold argEnv
  rw [argEnv_get args 0 .nil t, if_neg (by omega)]
  simp only [Nat.sub_zero, Tr.get_nil]
  cases ha : args[t]? with
  | some v =>
    obtain ⟨x, hx, hv⟩ := h.get? ha
    have hlt : t < xs.length := by
      rcases Nat.lt_or_ge t xs.length with h' | h'
      · exact h'
      · rw [List.getElem?_eq_none h'] at hx; cases hx
    simp only [Option.getD_some]
    rw [Array.getD_eq_getD_getElem?, Array.getElem?_append_left (by simpa using hlt)]
    simp only [List.getElem?_toArray, hx, Option.getD_some]
    exact hv
  | none =>
    have hge : xs.length ≤ t := by
      have := List.getElem?_eq_none_iff.1 ha; omega
    simp only [Option.getD_none, VR]
    rw [Array.getD_eq_getD_getElem?, Array.getElem?_append_right (by simpa using hge)]
    simp only [Array.getElem?_replicate]
    split <;> rfl
theorem resOf_run {C : Cx} (hC : C.OK) {σ : Sig} {s : St} {w : World} {nt : Nat} {a : Act} (g : Good σ s.H s.nx w) (he : ActR σ s.env nt a) : ∀ (rs : List ResultVar) (l : List AV), resOf C s rs = some l →
    ∃ xs : List Value, (rs.mapM (m := Sem) fun
      | .tmp t => pure (a.tmps.getD t undef)
      | .cell ad t => do loadVar t (← asAddr (a.tmps.getD ad undef))).run C.P w = .ok xs w ∧ VRs σ l xs
  | [], l, h => by
    simp only [resOf, Option.some.injEq] at h; subst h
    exact ⟨[], by simp, by simp [VRs]⟩
  | .tmp t :: rs, l, h => by
    simp only [resOf, Option.map_eq_some_iff] at h
    obtain ⟨l', hl', rfl⟩ := h
    obtain ⟨xs, h1, h2⟩ := resOf_run hC g he rs l' hl'
    refine ⟨a.tmps.getD t undef :: xs, ?_, ?_⟩
    · rw [List.mapM_cons, run_bind_ok (a := a.tmps.getD t undef) (w' := w) rfl, run_bind_ok h1]; rfl
    · simp only [VRs]; exact ⟨_, _, rfl, he.env t, h2⟩
  | .cell ad t :: rs, l, h => by
    simp only [resOf, Option.bind_eq_some_iff, Option.map_eq_some_iff] at h
    obtain ⟨v, hv, l', hl', rfl⟩ := h
    obtain ⟨xs, h1, h2⟩ := resOf_run hC g he rs l' hl'
    have hvr := he.env ad
    obtain ⟨q, hq, y, r1, r2⟩ := loadOp_run (P := C.P) hC.types g hvr hv
    refine ⟨y :: xs, ?_, ?_⟩
    · rw [List.mapM_cons, run_bind_ok (a := y) (w' := w) (by
        simp only [hq]
        rw [run_bind_ok (a := q) (w' := w) rfl]
        exact r1), run_bind_ok h1]
      rfl
    · simp only [VRs]; exact ⟨_, _, rfl, r2, h2⟩
theorem resA_run {C : Cx} (hC : C.OK) {σ : Sig} {s : St} {w : World} {nt : Nat} {a : Act} (g : Good σ s.H s.nx w) (he : ActR σ s.env nt a) {fn : Func} {v : AV} (h : resA C s fn.results.toList = some v) :
    ∃ x, (results fn a.tmps).run C.P w = .ok x w ∧ VR σ v x := by
  simp only [resA, Option.map_eq_some_iff] at h
  obtain ⟨l, hl, rfl⟩ := h
  obtain ⟨xs, h1, h2⟩ := resOf_run hC g he _ l hl
  have hlen := h2.length
  refine ⟨if h : xs.toArray.size = 1 then xs.toArray[0] else .tuple xs.toArray, ?_, ?_⟩
  · unfold results
    rw [Array.mapM_eq_mapM_toList]
    rw [run_bind_ok (a := xs.toArray) (w' := w)]
    · rfl
    · refine Eq.trans (run_bind_ok (a := xs) (w' := w) ?_) rfl
      exact h1
  · cases l with
    | nil =>
      simp only [VRs] at h2; subst h2
      simp only [VR]; exact ⟨[], rfl, by simp [VRs]⟩
    | cons v l =>
      cases l with
      | nil =>
        simp only [VRs] at h2
        obtain ⟨y, ys, rfl, h3, rfl⟩ := h2
        exact h3
      | cons v' l =>
        have h2' := h2
        simp only [VRs] at h2
        obtain ⟨y, ys, rfl, h3, y', ys', rfl, h4, h5⟩ := h2
        simp only [VR]
        exact ⟨_, by simp, h2'⟩
theorem Post.trans {nt : Nat} {σ σ' : Sig} {s s' s'' : St} {w w' : World} {ex : Ex} {e : Exit} {a'' : Act} {w'' : World} (g : Good σ s.H s.nx w) (h1 : Step σ s.H s.nx w σ' s'.H s'.nx w')
    (h : Post nt σ' s' w' ex s'' e a'' w'') : Post nt σ s w ex s'' e a'' w'' := by
  obtain ⟨he, σ'', h2, h3, h4⟩ := h
  exact ⟨he, σ'', h2, Step.trans g h1 h3, h4⟩
def ExecOK (C : Cx) (n : Nat) : Prop := ∀ nt c s ex s', exec C n nt c s = some (ex, s') → codeOK c = true → ∀ (σ : Sig) (w : World) (a : Act), ActR σ s.env nt a → Good σ s.H s.nx w →
  c.wp C.P (Post nt σ s w ex s') a w
theorem callN_ok {C : Cx} (hC : C.Sound) {n : Nat} (ih : ExecOK C n) : CallOK C (callN C n) := by
  intro k args H nx v H' nx' h σ w xs hxs g
  unfold callN callS at h
  split at h
  · exact hC.ys k args H nx v H' nx' h σ w xs hxs g
  · rename_i fn hfn
    split at h
    · cases h
    · rename_i body hbody
      obtain ⟨hf, hname⟩ := hC.funs k fn hfn
      have hok := hC.codes k fn body hfn hbody
      split at h
      · rename_i hle
        have hact := argEnv_R hxs hle
        constructor
        · unfold callFunc
          rw [run_bind_ok (a := C.P) (w' := w) rfl]
          simp only [hf]
          rw [if_neg (by rw [hname]; simp), if_neg (by simp [hbody])]
          rfl
        · refine calls_of_wp hf hbody ?_
          have fin : ∀ {ex : Ex} {s' : St}, exec C n fn.ntmps body ⟨argEnv args, H, nx⟩ = some (ex, s') → (ex = .normal ∨ ex = .ret) → (resA C s' fn.results.toList).map (fun v => (v, s'.H, s'.nx)) = some (v, H', nx') →
              body.wp C.P (bodyPost C.P fn (RetPost σ H nx w v H' nx')) { tmps := xs.toArray ++ Array.replicate (fn.ntmps - xs.toArray.size) undef, defers := [] } w := by
            intro ex s' hex hor hres
            simp only [Option.map_eq_some_iff, Prod.mk.injEq] at hres
            obtain ⟨u, hu, rfl, rfl, rfl⟩ := hres
            refine wp_mono (ih _ _ _ _ _ hex hok σ w _ hact g) ?_
            rintro e a' w' ⟨he, σ', h1, h2, h3⟩
            obtain ⟨x, hx1, hx2⟩ := resA_run hC.toOK h3 h1 hu
            rcases hor with rfl | rfl <;> subst he <;> exact ⟨h1.defers, x, hx1, x, σ', rfl, hx2, h2, h3⟩
          split at h
          · exact fin ‹_› (.inl rfl) h
          · exact fin ‹_› (.inr rfl) h
          · cases h
      · cases h
theorem exec_ok {C : Cx} (hC : C.Sound) : ∀ n, ExecOK C n := by
  intro n
  induction n using Nat.strongRecOn with
  | _ n IH =>
    cases n with
    | zero => intro nt c s ex s' h; simp [exec] at h
    | succ n =>
      have ih := IH n (by omega)
      have hcall := callN_ok hC ih
      intro nt c s ex s' h hok σ w a he g
      have h0 := h
      rw [exec] at h
      unfold execS at h
      have done : ∀ {e : Exit}, e = toExit ex → s = s' → Post nt σ s w ex s' e a w := fun h1 h2 => by
        subst h2; exact ⟨h1, σ, he, Step.refl, g⟩
      split at h
      · simp only [Option.some.injEq, Prod.mk.injEq] at h; obtain ⟨rfl, rfl⟩ := h
        exact wp_skip (done rfl rfl)
      · simp only [Option.some.injEq, Prod.mk.injEq] at h; obtain ⟨rfl, rfl⟩ := h
        exact wp_label (done rfl rfl)
      · simp only [Option.map_eq_some_iff, Prod.mk.injEq] at h
        obtain ⟨s1, h1, rfl, rfl⟩ := h
        exact wp_region_list (runOps_wp hC.toOK hcall _ s s1 σ w a h1 he g fun σ' w' a' r1 r2 r3 => ⟨rfl, σ', r1, r2, r3⟩)
      · simp only [Option.map_eq_some_iff, Prod.mk.injEq] at h
        obtain ⟨s1, h1, rfl, rfl⟩ := h
        exact runDraw_wp hC.toOK hC.mixed hcall hok h1 he g fun σ' w' a' r1 r2 r3 => ⟨rfl, σ', r1, r2, r3⟩
      · rename_i b1 b2
        simp only [codeOK, Bool.and_eq_true] at hok
        refine wp_seq ?_
        split at h
        · rename_i s1 h1
          refine wp_mono (ih _ _ _ _ _ h1 hok.1 σ w a he g) ?_
          rintro e a' w' ⟨rfl, σ', r1, r2, r3⟩
          show b2.wp C.P _ a' w'
          refine wp_mono (ih _ _ _ _ _ h hok.2 σ' w' a' r1 r3) ?_
          exact fun e a'' w'' hp => hp.trans g r2
        · rename_i hne
          refine wp_mono (ih _ _ _ _ _ h hok.1 σ w a he g) ?_
          rintro e a' w' ⟨rfl, rest⟩
          cases ex with
          | normal => exact absurd h (hne s')
          | exit id => exact ⟨rfl, rest⟩
          | ret => exact ⟨rfl, rest⟩
      · rename_i x b1 b2
        simp only [codeOK, Bool.and_eq_true] at hok
        have hx := ev_VR he.env x
        split at h
        · rename_i hv
          rw [hv] at hx; simp only [VR] at hx
          exact wp_cond_true hx (ih _ _ _ _ _ h hok.1 σ w a he g)
        · rename_i hv
          rw [hv] at hx; simp only [VR] at hx
          exact wp_cond_false hx (ih _ _ _ _ _ h hok.2 σ w a he g)
        · cases h
      · rename_i id b
        simp only [codeOK] at hok
        refine wp_block ?_
        split at h
        · rename_i i s1 h1
          refine wp_mono (ih _ _ _ _ _ h1 hok σ w a he g) ?_
          rintro e a' w' ⟨rfl, σ', r1, r2, r3⟩
          split at h
          · rename_i hi
            simp only [Option.some.injEq, Prod.mk.injEq] at h; obtain ⟨rfl, rfl⟩ := h
            simp only [toExit, Exit.inBlock, hi, if_true]
            exact ⟨rfl, σ', r1, r2, r3⟩
          · rename_i hi
            simp only [Option.some.injEq, Prod.mk.injEq] at h; obtain ⟨rfl, rfl⟩ := h
            simp only [toExit, Exit.inBlock, hi, if_false]
            exact ⟨rfl, σ', r1, r2, r3⟩
        · rename_i hne
          refine wp_mono (ih _ _ _ _ _ h hok σ w a he g) ?_
          rintro e a' w' ⟨rfl, rest⟩
          cases ex with
          | normal => exact ⟨rfl, rest⟩
          | exit i => exact absurd h (hne i s')
          | ret => exact ⟨rfl, rest⟩
      · rename_i b
        have hokb : codeOK b = true := by simpa [codeOK] using hok
        refine wp_loop_ghost (fun m a1 w1 => m ≤ n + 1 ∧ ∃ s1 σ1, exec C m nt (.loop b) s1 = some (ex, s') ∧ ActR σ1 s1.env nt a1 ∧ Step σ s.H s.nx w σ1 s1.H s1.nx w1 ∧ Good σ1 s1.H s1.nx w1) (n + 1)
          ⟨Nat.le_refl _, s, σ, h0, he, Step.refl, g⟩ ?_
        rintro m a1 w1 ⟨hm, s1, σ1, hx, r1, r2, r3⟩
        cases m with
        | zero => simp [exec] at hx
        | succ m =>
          rw [exec] at hx
          unfold execS at hx
          simp only at hx
          have ihm := IH m (by omega)
          split at hx
          · rename_i s2 h2
            refine wp_mono (ihm _ _ _ _ _ h2 hokb σ1 w1 a1 r1 r3) ?_
            rintro e a' w' ⟨rfl, σ2, q1, q2, q3⟩
            exact ⟨m, by omega, by omega, s2, σ2, hx, q1, Step.trans g r2 q2, q3⟩
          · rename_i hne
            refine wp_mono (ihm _ _ _ _ _ hx hokb σ1 w1 a1 r1 r3) ?_
            rintro e a' w' hp
            have hp' := hp.trans g r2
            obtain ⟨rfl, rest⟩ := hp'
            cases ex with
            | normal => exact absurd hx (hne s')
            | exit id => exact ⟨rfl, rest⟩
            | ret => exact ⟨rfl, rest⟩
      · simp only [Option.some.injEq, Prod.mk.injEq] at h; obtain ⟨rfl, rfl⟩ := h
        exact wp_exit (done rfl rfl)
      · simp only [Option.some.injEq, Prod.mk.injEq] at h; obtain ⟨rfl, rfl⟩ := h
        exact wp_ret (done rfl rfl)
      · cases h
theorem call_ok {C : Cx} (hC : C.Sound) (n : Nat) : CallOK C (callN C n) := callN_ok hC (exec_ok hC n)
end CI
noncomputable section
namespace CI
open Go
abbrev RunF := Nat → Code → St → Option (Ex × St)
def Evt (p : Nat → Prop) : Prop := ∃ n, ∀ m, n ≤ m → p m
theorem Evt.of {p : Nat → Prop} (h : ∀ m, p m) : Evt p := ⟨0, fun m _ => h m⟩
theorem Evt.and {p q : Nat → Prop} : Evt p → Evt q → Evt fun m => p m ∧ q m
  | ⟨a, ha⟩, ⟨b, hb⟩ => ⟨max a b, fun m hm => ⟨ha m (by omega), hb m (by omega)⟩⟩
theorem Evt.mono {p q : Nat → Prop} (h : ∀ m, p m → q m) : Evt p → Evt q
  | ⟨a, ha⟩ => ⟨a, fun m hm => h m (ha m hm)⟩
def LimR (fam : Nat → RunF) (g : RunF) : Prop := ∀ nt c s r, g nt c s = some r → Evt fun m => fam m nt c s = some r
def LimC (fam : Nat → CallF) (g : CallF) : Prop := ∀ k args H nx r, g k args H nx = some r → Evt fun m => fam m k args H nx = some r
variable {C : Cx}
theorem lim_callS {fam : Nat → RunF} {g : RunF} (h : LimR fam g) : LimC (fun m => callS C (fam m)) (callS C g) := by
  intro k args H nx r hr
  simp only [callS] at hr ⊢
  split at hr
  · exact .of fun _ => hr
  · rename_i fn hf
    split at hr
    · cases hr
    · rename_i body hb
      split at hr
      · rename_i hl
        simp only [if_pos hl]
        split at hr
        · rename_i s' hs
          exact (h _ _ _ _ hs).mono fun m e => by rw [e]; exact hr
        · rename_i s' hs
          exact (h _ _ _ _ hs).mono fun m e => by rw [e]; exact hr
        · cases hr
      · cases hr
theorem lim_callA {fam : Nat → CallF} {g : CallF} (h : LimC fam g) {ρ : Operand → AV} {c : Call} {H : Heap} {nx : Nat} {r : AV × Heap × Nat}
    (hr : callA C g ρ c H nx = some r) : Evt fun m => callA C (fam m) ρ c H nx = some r := by
  simp only [callA] at hr ⊢
  split at hr
  · split at hr
    · split at hr
      · exact .of fun m => hr
      · split at hr
        · exact .of fun m => hr
        · exact (h _ _ _ _ _ hr).mono fun m e => e
    · cases hr
  · cases hr
theorem lim_stepA {fam : Nat → CallF} {g : CallF} (h : LimC fam g) {ρ : Operand → AV} {o : Op} {H : Heap} {nx : Nat} {r : AV × Heap × Nat}
    (hr : stepA C g ρ o H nx = some r) : Evt fun m => stepA C (fam m) ρ o H nx = some r := by
  cases o with
  | call c =>
    simp only [stepA] at hr ⊢
    split at hr
    · rename_i hc
      exact (lim_callA h hr).mono fun m e => by rw [if_pos hc]; exact e
    · rename_i hc
      exact .of fun _ => by rw [if_neg hc]; exact hr
  | _ => exact .of fun _ => hr
theorem lim_runOps {fam : Nat → CallF} {g : CallF} (h : LimC fam g) {nt : Nat} {ops : Array Oper} : ∀ {l : List Oper} {s s' : St},
    runOps C g nt ops l s = some s' → Evt fun m => runOps C (fam m) nt ops l s = some s'
  | [], s, s', hr => .of fun _ => hr
  | o :: rest, s, s', hr => by
    simp only [runOps] at hr ⊢
    split at hr
    · rename_i hw
      simp only [if_pos hw]
      split at hr
      · rename_i v H' nx' hs
        split at hr
        · rename_i env' he
          exact ((lim_stepA h hs).and (lim_runOps h hr)).mono fun m ⟨e1, e2⟩ => by simp only [e1, he]; exact e2
        · cases hr
      · cases hr
    · rename_i hw
      simp only [if_neg hw]
      split at hr
      · rename_i env' he
        exact (lim_runOps h hr)
      · cases hr
theorem lim_tx1 {fam : Nat → CallF} {g : CallF} (h : LimC fam g) {ops : Array Oper} {o : Oper} {s : St} {r : K × AV × Heap × Nat}
    (hr : tx1 C g ops o s = some r) : Evt fun m => tx1 C (fam m) ops o s = some r := by
  unfold tx1 at hr ⊢
  by_cases hw : wantedA ops o s.env = true
  · simp only [if_pos hw] at hr ⊢
    by_cases hi : isEff o.op = true
    · simp only [if_pos hi] at hr ⊢
      split at hr
      · rename_i v H' nx' hs
        exact (lim_stepA h hs).mono fun m e => by rw [e]; exact hr
      · cases hr
    · simp only [if_neg hi] at hr ⊢
      exact .of fun _ => hr
  · simp only [if_neg hw] at hr ⊢
    exact .of fun _ => hr
theorem lim_txRun {fam : Nat → CallF} {g : CallF} (h : LimC fam g) {nt : Nat} {ops : Array Oper} : ∀ {l : List Oper} {s : St} {r : List DS × St},
    txRun C g nt ops l s = some r → Evt fun m => txRun C (fam m) nt ops l s = some r
  | [], s, s', hr => .of fun _ => hr
  | o :: rest, s, r, hr => by
    simp only [txRun] at hr ⊢
    split at hr
    · cases hr
    · rename_i k v H' nx' hs
      split at hr
      · cases hr
      · rename_i env' he
        split at hr
        · cases hr
        · rename_i l sN hl
          exact ((lim_tx1 h hs).and (lim_txRun h hl)).mono fun m ⟨e1, e2⟩ => by simp only [e1, he, e2]; exact hr
theorem lim_runDraw {fam : Nat → CallF} {g : CallF} (h : LimC fam g) {nt : Nat} {ops : Array Oper} {s s' : St}
    (hr : runDraw C g nt ops s = some s') : Evt fun m => runDraw C (fam m) nt ops s = some s' := by
  unfold runDraw at hr ⊢
  split at hr
  · cases hr
  · rename_i l sN hl
    exact (lim_txRun h hl).mono fun m e => by rw [e]; exact hr
theorem lim_execS {fam : Nat → RunF} {g : RunF} (h : LimR fam g) : LimR (fun m => execS C (fam m)) (execS C g) := by
  intro nt c s r hr
  unfold execS at hr ⊢
  split at hr
  · exact .of fun _ => hr
  · exact .of fun _ => hr
  · simp only [Option.map_eq_some_iff] at hr
    obtain ⟨s', hs, rfl⟩ := hr
    exact (lim_runOps (lim_callS h) hs).mono fun m e => by simp only [e, Option.map_some]
  · simp only [Option.map_eq_some_iff] at hr
    obtain ⟨s', hs, rfl⟩ := hr
    exact (lim_runDraw (lim_callS h) hs).mono fun m e => by simp only [e, Option.map_some]
  · rename_i a b
    split at hr
    · rename_i s' hs
      exact ((h _ _ _ _ hs).and (h _ _ _ _ hr)).mono fun m ⟨e1, e2⟩ => by simp only [e1, e2]
    · rename_i hn
      exact (h _ _ _ _ hr).mono fun m e => by
        simp only [e]
        split
        · rename_i s' hs; exact absurd (hr.trans hs) (by intro e; exact hn s' e)
        · rfl
  · split at hr
    · rename_i hx
      exact (h _ _ _ _ hr).mono fun m e => by simp only [hx, e]
    · rename_i hx
      exact (h _ _ _ _ hr).mono fun m e => by simp only [hx, e]
    · cases hr
  · rename_i id b
    split at hr
    · rename_i i s' hs
      exact (h _ _ _ _ hs).mono fun m e => by simp only [e]; exact hr
    · rename_i hn
      exact (h _ _ _ _ hr).mono fun m e => by
        simp only [e]
        split
        · rename_i i s' hs; exact absurd (hr.trans hs) (by intro e; exact hn i s' e)
        · rfl
  · rename_i b
    split at hr
    · rename_i s' hs
      exact ((h _ _ _ _ hs).and (h _ _ _ _ hr)).mono fun m ⟨e1, e2⟩ => by simp only [e1, e2]
    · rename_i hn
      exact (h _ _ _ _ hr).mono fun m e => by
        simp only [e]
        split
        · rename_i s' hs; exact absurd (hr.trans hs) (by intro e; exact hn s' e)
        · rfl
  · exact .of fun _ => hr
  · exact .of fun _ => hr
  · cases hr
theorem exec_mono1 : ∀ (n : Nat) (nt : Nat) (c : Code) (s : St) (r : Ex × St), exec C n nt c s = some r → exec C (n + 1) nt c s = some r
  | 0, nt, c, s, r, h => by simp [exec] at h
  | n + 1, nt, c, s, r, h => by
    have hl : LimR (fun _ => exec C (n + 1)) (exec C n) := fun nt c s r h => .of fun _ => exec_mono1 n nt c s r h
    obtain ⟨k, hk⟩ := lim_execS (C := C) hl nt c s r h
    exact hk k (Nat.le_refl _)
theorem exec_mono {n m : Nat} (hnm : n ≤ m) {nt : Nat} {c : Code} {s : St} {r : Ex × St} (h : exec C n nt c s = some r) : exec C m nt c s = some r := by
  induction hnm with
  | refl => exact h
  | step _ ih => exact exec_mono1 _ _ _ _ _ ih
open Classical in
noncomputable def Ev (C : Cx) : RunF := fun nt c s => if h : ∃ r n, exec C n nt c s = some r then some h.choose else none
theorem Ev_some {nt : Nat} {c : Code} {s : St} {r : Ex × St} : Ev C nt c s = some r ↔ ∃ n, exec C n nt c s = some r := by
  unfold Ev
  constructor
  · intro h
    split at h
    · rename_i hx
      injection h with h; subst h
      exact hx.choose_spec
    · cases h
  · rintro ⟨n, h⟩
    have hx : ∃ r n, exec C n nt c s = some r := ⟨r, n, h⟩
    rw [dif_pos hx]
    obtain ⟨n', h'⟩ := hx.choose_spec
    have e1 := exec_mono (Nat.le_max_left n n') h
    have e2 := exec_mono (Nat.le_max_right n n') h'
    rw [e1] at e2
    exact e2.symm
theorem lim_Ev : LimR (exec C) (Ev C) := fun nt c s r h => by
  obtain ⟨n, hn⟩ := Ev_some.1 h
  exact ⟨n, fun m hm => exec_mono hm hn⟩
theorem Ev_eq (nt : Nat) (c : Code) (s : St) : Ev C nt c s = execS C (Ev C) nt c s := by
  have h1 : ∀ r, execS C (Ev C) nt c s = some r → Ev C nt c s = some r := by
    intro r h
    obtain ⟨n, hn⟩ := lim_execS lim_Ev nt c s r h
    exact Ev_some.2 ⟨n + 1, hn n (Nat.le_refl _)⟩
  have h2 : ∀ r, Ev C nt c s = some r → execS C (Ev C) nt c s = some r := by
    intro r h
    obtain ⟨n, hn⟩ := Ev_some.1 h
    cases n with
    | zero => simp [exec] at hn
    | succ n =>
      have hl : LimR (fun _ => Ev C) (exec C n) := fun nt c s r h => .of fun _ => Ev_some.2 ⟨n, h⟩
      obtain ⟨k, hk⟩ := lim_execS hl nt c s r hn
      exact hk k (Nat.le_refl _)
  cases h : execS C (Ev C) nt c s with
  | some r => exact h1 r h
  | none =>
    cases h' : Ev C nt c s with
    | none => rfl
    | some r => rw [h2 r h'] at h; cases h
noncomputable def Cl (C : Cx) : CallF := callS C (Ev C)
theorem Cl_of {n k : Nat} {args : List AV} {H : Heap} {nx : Nat} {r : AV × Heap × Nat} (h : callN C n k args H nx = some r) : Cl C k args H nx = some r := by
  have hl : LimR (fun _ => Ev C) (exec C n) := fun nt c s r h => .of fun _ => Ev_some.2 ⟨n, h⟩
  obtain ⟨m, hm⟩ := lim_callS hl k args H nx r h
  exact hm m (Nat.le_refl _)
theorem Cl_to {k : Nat} {args : List AV} {H : Heap} {nx : Nat} {r : AV × Heap × Nat} (h : Cl C k args H nx = some r) : ∃ n, callN C n k args H nx = some r := by
  obtain ⟨m, hm⟩ := lim_callS lim_Ev k args H nx r h
  exact ⟨m, hm m (Nat.le_refl _)⟩
theorem Cl_ok (hC : C.Sound) : CallOK C (Cl C) := fun k args H nx v H' nx' h => by
  obtain ⟨n, hn⟩ := Cl_to h
  exact call_ok hC n k args H nx v H' nx' hn
end CI
noncomputable section
namespace CI
open Go
structure SOp where
  op : Op
  dst : Option Nat
  guard : Option (Option Nat × Bool)
inductive SC where
  | skip
  | ops (l : List SOp)
  | draw (ops : Array Oper)
  | seq (a b : SC)
  | cond (x : Operand) (a b : SC)
  | block (id : Nat) (a : SC)
  | loop (a : SC)
  | exit (id : Nat)
  | ret
  | bad
def stripO (ops : Array Oper) (o : Oper) : SOp := ⟨o.op, o.dst, o.guard.map fun p => ((ops[p.1]?).bind (·.dst), p.2)⟩
def strip : Code → SC
  | .skip => .skip
  | .label _ => .skip
  | .region _ ops false => .ops (ops.toList.map (stripO ops))
  | .region _ ops true => .draw ops
  | .seq a b => .seq (strip a) (strip b)
  | .cond x a b => .cond x (strip a) (strip b)
  | .block id a => .block id (strip a)
  | .loop a => .loop (strip a)
  | .exit id => .exit id
  | .ret => .ret
  | _ => .bad
def wantedS (g : Option (Option Nat × Bool)) (env : Tr AV) : Bool :=
  match g with
  | none => true
  | some (some d, want) =>
    match (env.get d).getD (.lit undef) with
    | .lit (.bool b) => b == want
    | _ => false
  | some (none, _) => false
def runS (C : Cx) (call : CallF) (nt : Nat) : List SOp → St → Option St
  | [], s => some s
  | o :: rest, s =>
    if wantedS o.guard s.env then
      match stepA C call (ev s.env) o.op s.H s.nx with
      | some (v, H', nx') =>
        match put? s.env nt o.dst v with
        | some env' => runS C call nt rest ⟨env', H', nx'⟩
        | none => none
      | none => none
    else
      match put? s.env nt o.dst (.lit undef) with
      | some env' => runS C call nt rest ⟨env', s.H, s.nx⟩
      | none => none
theorem wantedS_strip (ops : Array Oper) (o : Oper) (env : Tr AV) : wantedS (stripO ops o).guard env = wantedA ops o env := by
  unfold wantedS wantedA stripO
  cases hg : o.guard with
  | none => rfl
  | some p =>
    obtain ⟨j, want⟩ := p
    simp only [Option.map_some]
    cases hd : (ops[j]?).bind (·.dst) with
    | none => rfl
    | some d => rfl
theorem runS_strip (C : Cx) (call : CallF) (nt : Nat) (ops : Array Oper) : ∀ (l : List Oper) (s : St), runOps C call nt ops l s = runS C call nt (l.map (stripO ops)) s
  | [], s => rfl
  | o :: rest, s => by
    simp only [runOps, List.map_cons, runS, wantedS_strip, runS_strip C call nt ops rest]
    rfl
variable {C : Cx} {nt : Nat}
def Wp (C : Cx) (nt : Nat) (c : SC) (s : St) (Q : Ex → St → Prop) : Prop := ∃ ex s', (∀ c', strip c' = c → Ev C nt c' s = some (ex, s')) ∧ Q ex s'
def WOps (C : Cx) (nt : Nat) (l : List SOp) (s : St) (K : St → Prop) : Prop := match runS C (Cl C) nt l s with
  | some s' => K s'
  | none => False
theorem Wp_mono {c : SC} {s : St} {Q Q' : Ex → St → Prop} (h : ∀ e s', Q e s' → Q' e s') : Wp C nt c s Q → Wp C nt c s Q'
  | ⟨e, s', h1, h2⟩ => ⟨e, s', h1, h e s' h2⟩
theorem Wp_skip {s : St} {Q : Ex → St → Prop} (h : Q .normal s) : Wp C nt .skip s Q := by
  refine ⟨.normal, s, fun c' hc => ?_, h⟩
  cases c' <;> try simp only [strip, reduceCtorEq] at hc
  · rw [Ev_eq]; rfl
  · rename_i b; cases b <;> simp [strip] at hc
  · rw [Ev_eq]; rfl
theorem Wp_ret {s : St} {Q : Ex → St → Prop} (h : Q .ret s) : Wp C nt .ret s Q := by
  refine ⟨.ret, s, fun c' hc => ?_, h⟩
  cases c' <;> try simp only [strip, reduceCtorEq] at hc
  · rename_i b; cases b <;> simp [strip] at hc
  · rw [Ev_eq]; rfl
theorem Wp_exit {s : St} {id : Nat} {Q : Ex → St → Prop} (h : Q (.exit id) s) : Wp C nt (.exit id) s Q := by
  refine ⟨.exit id, s, fun c' hc => ?_, h⟩
  cases c' <;> try simp only [strip, reduceCtorEq] at hc
  · rename_i b; cases b <;> simp [strip] at hc
  · rw [Ev_eq]; injection hc with hc; subst hc; rfl
theorem Wp_ops {l : List SOp} {s : St} {Q : Ex → St → Prop} (h : WOps C nt l s (Q .normal)) : Wp C nt (.ops l) s Q := by
  unfold WOps at h
  split at h
  · rename_i s' hs
    refine ⟨.normal, s', fun c' hc => ?_, h⟩
    cases c' <;> try simp only [strip, reduceCtorEq] at hc
    rename_i b
    cases b <;> simp only [strip, SC.ops.injEq, reduceCtorEq] at hc
    rw [Ev_eq]
    simp only [execS]
    have : callS C (Ev C) = Cl C := rfl
    rw [this, runS_strip, hc, hs]
    rfl
  · cases h
theorem Wp_draw {ops : Array Oper} {s s' : St} {Q : Ex → St → Prop} (hr : runDraw C (Cl C) nt ops s = some s') (h : Q .normal s') : Wp C nt (.draw ops) s Q := by
  refine ⟨.normal, s', fun c' hc => ?_, h⟩
  cases c' <;> try simp only [strip, reduceCtorEq] at hc
  rename_i b
  cases b <;> simp only [strip, SC.draw.injEq, reduceCtorEq] at hc
  subst hc
  rw [Ev_eq]
  simp only [execS]
  have : callS C (Ev C) = Cl C := rfl
  rw [this, hr]
  rfl
theorem Wp_seq {a b : SC} {s : St} {Q : Ex → St → Prop} (h : Wp C nt a s fun e s' => match e with
    | .normal => Wp C nt b s' Q
    | e => Q e s') : Wp C nt (.seq a b) s Q := by
  obtain ⟨e, s', h1, h2⟩ := h
  have key : ∀ c', strip c' = .seq a b → ∃ a' b', c' = .seq a' b' ∧ strip a' = a ∧ strip b' = b := by
    intro c' hc
    cases c' <;> try simp only [strip, reduceCtorEq] at hc
    · rename_i b; cases b <;> simp [strip] at hc
    · rename_i a' b'; injection hc with e1 e2; exact ⟨a', b', rfl, e1, e2⟩
  cases e with
  | normal =>
    obtain ⟨e2, s2, h3, h4⟩ := h2
    refine ⟨e2, s2, fun c' hc => ?_, h4⟩
    obtain ⟨a', b', rfl, ea, eb⟩ := key c' hc
    rw [Ev_eq]; simp only [execS, h1 a' ea, h3 b' eb]
  | exit i =>
    refine ⟨_, s', fun c' hc => ?_, h2⟩
    obtain ⟨a', b', rfl, ea, eb⟩ := key c' hc
    rw [Ev_eq]; simp only [execS, h1 a' ea]
  | ret =>
    refine ⟨_, s', fun c' hc => ?_, h2⟩
    obtain ⟨a', b', rfl, ea, eb⟩ := key c' hc
    rw [Ev_eq]; simp only [execS, h1 a' ea]
theorem Wp_cond {x : Operand} {a b : SC} {s : St} {t : Bool} {Q : Ex → St → Prop} (hx : ev s.env x = .lit (.bool t)) (h : if t = true then Wp C nt a s Q else Wp C nt b s Q) : Wp C nt (.cond x a b) s Q := by
  have key : ∀ c', strip c' = .cond x a b → ∃ a' b', c' = .cond x a' b' ∧ strip a' = a ∧ strip b' = b := by
    intro c' hc
    cases c' <;> try simp only [strip, reduceCtorEq] at hc
    · rename_i b; cases b <;> simp [strip] at hc
    · rename_i y a' b'; injection hc with e0 e1 e2; subst e0; exact ⟨a', b', rfl, e1, e2⟩
  cases t with
  | true =>
    obtain ⟨e, s', h1, h2⟩ := (by simpa using h : Wp C nt a s Q)
    refine ⟨e, s', fun c' hc => ?_, h2⟩
    obtain ⟨a', b', rfl, ea, eb⟩ := key c' hc
    rw [Ev_eq]; simp only [execS, hx, h1 a' ea]
  | false =>
    obtain ⟨e, s', h1, h2⟩ := (by simpa using h : Wp C nt b s Q)
    refine ⟨e, s', fun c' hc => ?_, h2⟩
    obtain ⟨a', b', rfl, ea, eb⟩ := key c' hc
    rw [Ev_eq]; simp only [execS, hx, h1 b' eb]
theorem Wp_block {id : Nat} {a : SC} {s : St} {Q : Ex → St → Prop} (h : Wp C nt a s fun e s' => match e with
    | .exit i => if i = id then Q .normal s' else Q (.exit i) s'
    | e => Q e s') : Wp C nt (.block id a) s Q := by
  obtain ⟨e, s', h1, h2⟩ := h
  have key : ∀ c', strip c' = .block id a → ∃ a', c' = .block id a' ∧ strip a' = a := by
    intro c' hc
    cases c' <;> try simp only [strip, reduceCtorEq] at hc
    · rename_i b; cases b <;> simp [strip] at hc
    · rename_i y a'; injection hc with e0 e1; subst e0; exact ⟨a', rfl, e1⟩
  cases e with
  | normal =>
    refine ⟨_, s', fun c' hc => ?_, h2⟩
    obtain ⟨a', rfl, ea⟩ := key c' hc
    rw [Ev_eq]; simp only [execS, h1 a' ea]
  | exit i =>
    by_cases hi : i = id
    · simp only [if_pos hi] at h2
      refine ⟨_, s', fun c' hc => ?_, h2⟩
      obtain ⟨a', rfl, ea⟩ := key c' hc
      rw [Ev_eq]; simp only [execS, h1 a' ea, if_pos hi]
    · simp only [if_neg hi] at h2
      refine ⟨_, s', fun c' hc => ?_, h2⟩
      obtain ⟨a', rfl, ea⟩ := key c' hc
      rw [Ev_eq]; simp only [execS, h1 a' ea, if_neg hi]
  | ret =>
    refine ⟨_, s', fun c' hc => ?_, h2⟩
    obtain ⟨a', rfl, ea⟩ := key c' hc
    rw [Ev_eq]; simp only [execS, h1 a' ea]
theorem Wp_loop1 {a : SC} {s : St} {Q : Ex → St → Prop} (h : Wp C nt a s fun e s' => match e with
    | .normal => Wp C nt (.loop a) s' Q
    | e => Q e s') : Wp C nt (.loop a) s Q := by
  obtain ⟨e, s', h1, h2⟩ := h
  have key : ∀ c', strip c' = .loop a → ∃ a', c' = .loop a' ∧ strip a' = a := by
    intro c' hc
    cases c' <;> try simp only [strip, reduceCtorEq] at hc
    · rename_i b; cases b <;> simp [strip] at hc
    · rename_i a'; injection hc with e1; exact ⟨a', rfl, e1⟩
  cases e with
  | normal =>
    obtain ⟨e2, s2, h3, h4⟩ := h2
    refine ⟨e2, s2, fun c' hc => ?_, h4⟩
    obtain ⟨a', rfl, ea⟩ := key c' hc
    rw [Ev_eq]; simp only [execS, h1 a' ea, h3 _ hc]
  | exit i =>
    refine ⟨_, s', fun c' hc => ?_, h2⟩
    obtain ⟨a', rfl, ea⟩ := key c' hc
    rw [Ev_eq]; simp only [execS, h1 a' ea]
  | ret =>
    refine ⟨_, s', fun c' hc => ?_, h2⟩
    obtain ⟨a', rfl, ea⟩ := key c' hc
    rw [Ev_eq]; simp only [execS, h1 a' ea]
theorem Wp_loop {a : SC} {Q : Ex → St → Prop} (I : Nat → St → Prop) (h : ∀ n s, I n s → Wp C nt a s fun e s' => match e with
    | .normal => ∃ m, m < n ∧ I m s'
    | e => Q e s') : ∀ (n : Nat) (s : St), I n s → Wp C nt (.loop a) s Q := by
  intro n
  induction n using Nat.strongRecOn with
  | ind n ih =>
    intro s hs
    refine Wp_loop1 (Wp_mono ?_ (h n s hs))
    intro e s' he
    cases e with
    | normal =>
      obtain ⟨m, hm, hI⟩ := he
      exact ih m hm s' hI
    | _ => exact he
theorem WOps_nil {s : St} {K : St → Prop} : WOps C nt [] s K = K s := rfl
theorem WOps_go {op : Op} {d : Option Nat} {rest : List SOp} {E : Tr AV} {H : Heap} {nx : Nat} {K : St → Prop} :
    WOps C nt (⟨op, d, none⟩ :: rest) ⟨E, H, nx⟩ K = match stepA C (Cl C) (ev E) op H nx with
      | some (v, H', nx') => match put? E nt d v with
        | some E' => WOps C nt rest ⟨E', H', nx'⟩ K
        | none => False
      | none => False := by
  unfold WOps
  simp only [runS, wantedS]
  cases stepA C (Cl C) (ev E) op H nx with
  | none => rfl
  | some r =>
    obtain ⟨v, H', nx'⟩ := r
    simp only
    cases put? E nt d v with
    | none => rfl
    | some E' => rfl
theorem WOps_skip {op : Op} {j : Nat} {want : Bool} {d : Option Nat} {rest : List SOp} {E : Tr AV} {H : Heap} {nx : Nat} {K : St → Prop} :
    WOps C nt (⟨op, d, some (some j, want)⟩ :: rest) ⟨E, H, nx⟩ K = if wantedS (some (some j, want)) E then WOps C nt (⟨op, d, none⟩ :: rest) ⟨E, H, nx⟩ K
      else match put? E nt d (.lit undef) with
        | some E' => WOps C nt rest ⟨E', H, nx⟩ K
        | none => False := by
  by_cases hw : wantedS (some (some j, want)) E = true
  · rw [if_pos hw]
    unfold WOps
    simp only [runS, if_pos hw, if_pos (show wantedS none E = true from rfl)]
  · rw [if_neg hw]
    unfold WOps
    simp only [runS, if_neg hw]
    cases put? E nt d (.lit undef) with
    | none => rfl
    | some E' => rfl
def condW (v : AV) (p q : Prop) : Prop := match v with
  | .lit (.bool t) => if t = true then p else q
  | _ => False
theorem condW_bool (t : Bool) (p q : Prop) : condW (.lit (.bool t)) p q = if t = true then p else q := rfl
def wpS (C : Cx) (nt : Nat) : SC → St → (Ex → St → Prop) → Prop
  | .skip, s, Q => Q .normal s
  | .ops l, s, Q => WOps C nt l s (Q .normal)
  | .draw ops, s, Q => match runDraw C (Cl C) nt ops s with
    | some s' => Q .normal s'
    | none => False
  | .seq a b, s, Q => wpS C nt a s fun e s' => match e with
    | .normal => wpS C nt b s' Q
    | e => Q e s'
  | .cond x a b, s, Q => condW (ev s.env x) (wpS C nt a s Q) (wpS C nt b s Q)
  | .block id a, s, Q => wpS C nt a s fun e s' => match e with
    | .exit i => if i = id then Q .normal s' else Q (.exit i) s'
    | e => Q e s'
  | .loop a, s, Q => Wp C nt (.loop a) s Q
  | .exit id, s, Q => Q (.exit id) s
  | .ret, s, Q => Q .ret s
  | .bad, _, _ => False
theorem Wp_of : ∀ {c : SC} {s : St} {Q : Ex → St → Prop}, wpS C nt c s Q → Wp C nt c s Q
  | .skip, s, Q, h => Wp_skip h
  | .ops l, s, Q, h => Wp_ops h
  | .draw ops, s, Q, h => by
    simp only [wpS] at h
    split at h
    · rename_i s' hs; exact Wp_draw hs h
    · cases h
  | .seq a b, s, Q, h => Wp_seq (Wp_mono (fun e s' he => by
      cases e with
      | normal => exact Wp_of he
      | _ => exact he) (Wp_of h))
  | .cond x a b, s, Q, h => by
    simp only [wpS, condW] at h
    split at h
    · rename_i t hx
      refine Wp_cond hx ?_
      split at h
      · rename_i ht; rw [if_pos ht]; exact Wp_of h
      · rename_i ht; rw [if_neg ht]; exact Wp_of h
    · cases h
  | .block id a, s, Q, h => Wp_block (Wp_mono (fun e s' he => he) (Wp_of h))
  | .loop a, s, Q, h => h
  | .exit id, s, Q, h => Wp_exit h
  | .ret, s, Q, h => Wp_ret h
  | .bad, _, _, h => h.elim
theorem wpS_skip {s : St} {Q : Ex → St → Prop} : wpS C nt .skip s Q = Q .normal s := rfl
theorem wpS_ops {l : List SOp} {s : St} {Q : Ex → St → Prop} : wpS C nt (.ops l) s Q = WOps C nt l s (Q .normal) := rfl
theorem wpS_seq {a b : SC} {s : St} {Q : Ex → St → Prop} : wpS C nt (.seq a b) s Q = wpS C nt a s fun e s' => match e with
    | .normal => wpS C nt b s' Q
    | e => Q e s' := rfl
theorem wpS_cond {x : Operand} {a b : SC} {s : St} {Q : Ex → St → Prop} : wpS C nt (.cond x a b) s Q = condW (ev s.env x) (wpS C nt a s Q) (wpS C nt b s Q) := rfl
theorem wpS_block {id : Nat} {a : SC} {s : St} {Q : Ex → St → Prop} : wpS C nt (.block id a) s Q = wpS C nt a s fun e s' => match e with
    | .exit i => if i = id then Q .normal s' else Q (.exit i) s'
    | e => Q e s' := rfl
theorem wpS_loop {a : SC} {s : St} {Q : Ex → St → Prop} : wpS C nt (.loop a) s Q = Wp C nt (.loop a) s Q := rfl
theorem wpS_exit {id : Nat} {s : St} {Q : Ex → St → Prop} : wpS C nt (.exit id) s Q = Q (.exit id) s := rfl
theorem wpS_ret {s : St} {Q : Ex → St → Prop} : wpS C nt .ret s Q = Q .ret s := rfl
@[congr] theorem wpS_congr {c : SC} {s s' : St} {Q : Ex → St → Prop} (h : s = s') : wpS C nt c s Q = wpS C nt c s' Q := by rw [h]
@[congr] theorem Wp_congr {c : SC} {s s' : St} {Q : Ex → St → Prop} (h : s = s') : Wp C nt c s Q = Wp C nt c s' Q := by rw [h]
@[congr] theorem WOps_congr {l : List SOp} {s s' : St} {K : St → Prop} (h : s = s') : WOps C nt l s K = WOps C nt l s' K := by rw [h]
@[congr] theorem condW_congr {v v' : AV} {p q : Prop} (h : v = v') : condW v p q = condW v' p q := by rw [h]
theorem Cl_of_wp {k : Nat} {fn : Func} {body : Code} {sc : SC} {args : List AV} {H : Heap} {nx : Nat} {r : AV × Heap × Nat} (hf : C.F.get k = some fn) (hb : fn.body = some body) (hs : strip body = sc)
    (hl : args.length ≤ fn.ntmps) (h : wpS C fn.ntmps sc ⟨argEnv args, H, nx⟩ fun e s' => match e with
      | .exit _ => False
      | _ => ∃ v, resA C s' fn.results.toList = some v ∧ r = (v, s'.H, s'.nx)) : Cl C k args H nx = some r := by
  obtain ⟨e, s', h1, h2⟩ := Wp_of h
  unfold Cl callS
  rw [hf]; simp only [hb, if_pos hl, h1 body hs]
  cases e with
  | normal => obtain ⟨v, h3, rfl⟩ := h2; simp only [h3, Option.map_some]
  | ret => obtain ⟨v, h3, rfl⟩ := h2; simp only [h3, Option.map_some]
  | exit i => cases h2
theorem Cl_of_wpP {k : Nat} {fn : Func} {body : Code} {sc : SC} {args : List AV} {H : Heap} {nx : Nat} {P : AV → Heap → Nat → Prop} (hf : C.F.get k = some fn) (hb : fn.body = some body) (hs : strip body = sc)
    (hl : args.length ≤ fn.ntmps) (h : wpS C fn.ntmps sc ⟨argEnv args, H, nx⟩ fun e s' => match e with
      | .exit _ => False
      | _ => ∃ v, resA C s' fn.results.toList = some v ∧ P v s'.H s'.nx) : ∃ v H' nx', Cl C k args H nx = some (v, H', nx') ∧ P v H' nx' := by
  obtain ⟨e, s', h1, h2⟩ := Wp_of h
  unfold Cl callS
  rw [hf]; simp only [hb, if_pos hl, h1 body hs]
  cases e with
  | normal => obtain ⟨v, h3, h4⟩ := h2; exact ⟨v, s'.H, s'.nx, by simp only [h3, Option.map_some], h4⟩
  | ret => obtain ⟨v, h3, h4⟩ := h2; exact ⟨v, s'.H, s'.nx, by simp only [h3, Option.map_some], h4⟩
  | exit i => cases h2
end CI
noncomputable section
namespace CI
open Go
theorem abs_int (k : IntKind) (n : Int) : abs (.int k n) = .lit (.int k n) := rfl
theorem abs_bool (b : Bool) : abs (.bool b) = .lit (.bool b) := rfl
theorem abs_string (s : ByteArray) : abs (.string s) = .lit (.string s) := rfl
theorem abs_nilp : abs (.pointer none) = .lit (.pointer none) := rfl
theorem abs_nili : abs .nilIface = .lit .nilIface := rfl
theorem abs_nilf : abs .nilFunc = .lit .nilFunc := rfl
theorem abs_nilm : abs (.map none) = .lit (.map none) := rfl
theorem abs_nils (n c : Nat) : abs (.slice none n c) = .lit (.slice none n c) := rfl
theorem un_not (P : Program) (b : Bool) : plain1 P (Op.unary .not) (.lit (.bool b)) = some (.lit (.bool (!b))) := by cases b <;> rfl
theorem maxA (P : Program) (k k' : IntKind) (a b : Int) : foldOp P Builtin.max2 [.lit (.int k a), .lit (.int k' b)] = some (.lit (.int k (max a b))) := by
  have : max a b = if b > a then b else a := by rw [Int.max_def]; split <;> split <;> omega
  rw [this]; rfl
theorem minA (P : Program) (k k' : IntKind) (a b : Int) : foldOp P Builtin.min2 [.lit (.int k a), .lit (.int k' b)] = some (.lit (.int k (min a b))) := by
  have : min a b = if b < a then b else a := by rw [Int.min_def]; split <;> split <;> omega
  rw [this]; rfl
section
variable (P : Program) (T : Tr TInfo) (t : TypeId) (x y : Operand) (k : IntKind) (a b : Int)
theorem bin_add : binOpA P T .add t x y (.lit (.int k a)) (.lit (.int k b)) = some (.lit (.int k (k.wrap (a + b)))) := by cases k <;> rfl
theorem bin_sub : binOpA P T .sub t x y (.lit (.int k a)) (.lit (.int k b)) = some (.lit (.int k (k.wrap (a - b)))) := by cases k <;> rfl
theorem bin_mul : binOpA P T .mul t x y (.lit (.int k a)) (.lit (.int k b)) = some (.lit (.int k (k.wrap (a * b)))) := by cases k <;> rfl
theorem bin_eql : binOpA P T .eql t x y (.lit (.int k a)) (.lit (.int k b)) = some (.lit (.bool (decide (a = b)))) := by cases k <;> rfl
theorem bin_neq : binOpA P T .neq t x y (.lit (.int k a)) (.lit (.int k b)) = some (.lit (.bool (decide (a ≠ b)))) := by
  have : (decide (a ≠ b)) = (a != b) := by by_cases h : a = b <;> simp [h]
  rw [this]; cases k <;> rfl
theorem bin_lss : binOpA P T .lss t x y (.lit (.int k a)) (.lit (.int k b)) = some (.lit (.bool (decide (a < b)))) := by cases k <;> rfl
theorem bin_leq : binOpA P T .leq t x y (.lit (.int k a)) (.lit (.int k b)) = some (.lit (.bool (decide (a ≤ b)))) := by cases k <;> rfl
theorem bin_gtr : binOpA P T .gtr t x y (.lit (.int k a)) (.lit (.int k b)) = some (.lit (.bool (decide (a > b)))) := by cases k <;> rfl
theorem bin_geq : binOpA P T .geq t x y (.lit (.int k a)) (.lit (.int k b)) = some (.lit (.bool (decide (a ≥ b)))) := by cases k <;> rfl
theorem bin_quo (h : b ≠ 0) : binOpA P T .quo t x y (.lit (.int k a)) (.lit (.int k b)) = some (.lit (.int k (k.wrap (a.tdiv b)))) := by
  cases k <;> simp [binOpA, plain2, plain, eqGuard, binOp, Op.intDiv, h] <;> rfl
theorem bin_rem (h : b ≠ 0) : binOpA P T .rem t x y (.lit (.int k a)) (.lit (.int k b)) = some (.lit (.int k (a.tmod b))) := by
  cases k <;> simp [binOpA, plain2, plain, eqGuard, binOp, Op.intDiv, h] <;> rfl
end
def I64 (a : Int) : Prop := -9223372036854775808 ≤ a ∧ a < 9223372036854775808
theorem wrapI {a : Int} (h : I64 a) : IntKind.i64.wrap a = a := by
  obtain ⟨h1, h2⟩ := h
  simp only [IntKind.wrap, IntKind.signed, IntKind.bits, Bool.true_and, decide_eq_true_eq, Nat.reduceSub, Int.reducePow, ge_iff_le]
  split <;> omega
theorem bin_shr (P : Program) (T : Tr TInfo) (t : TypeId) (x y : Operand) (k k' : IntKind) (a b : Int) (h : ¬ b < 0) : binOpA P T .shr t x y (.lit (.int k a)) (.lit (.int k' b)) = some (.lit (.int k (a / 2 ^ (min b.toNat k.bits)))) := by
  have : a / 2 ^ (min b.toNat k.bits) = a.fdiv (2 ^ (min b.toNat k.bits)) := by
    rw [Int.fdiv_eq_ediv_of_nonneg]
    exact Int.le_of_lt (Int.pow_pos (by decide))
  rw [this]
  cases k <;> simp [binOpA, plain2, plain, eqGuard, binOp, Op.shift, h] <;> rfl
end CI
noncomputable section
namespace CI
open Go
def txS (C : Cx) (call : CallF) (o : SOp) (E : Tr AV) (H : Heap) (nx : Nat) : Option (K × AV × Heap × Nat) :=
  if wantedS o.guard E then
    if isEff o.op then
      match stepA C call (ev E) o.op H nx with
      | some (v, H', nx') => if nx ≤ nx' then some (.eff, v, H', nx') else none
      | none => none
    else
      match opA C (ev E) o.op .nil nx with
      | some (v, X, nx') =>
        if nx' = nx then some (.still, v, H, nx) else
        if nx' = nx + 1 then
          match X.get nx with
          | some ob => some (.new ob, v, H.put nx (some ob), nx + 1)
          | none => none
        else none
      | none =>
        match opA C (ev E) o.op (roAll H) nx with
        | some (v, _, nx') => if nx' = nx ∧ AV.belowB nx v = true then some (.read, v, H, nx) else none
        | none => none
  else some (.skip, .lit undef, H, nx)
theorem txS_eq (C : Cx) (call : CallF) (ops : Array Oper) (o : Oper) (s : St) : tx1 C call ops o s = txS C call (stripO ops o) s.env s.H s.nx := by
  unfold tx1 txS
  rw [wantedS_strip]
  rfl
def dk : K → AV → Bool
  | .new _, _ => false
  | .read, v => AV.eqB v v
  | _, _ => true
def dkLast : K → Bool
  | .new _ => false
  | .read => false
  | _ => true
def WD (C : Cx) (nt : Nat) (H : Heap) (nx : Nat) : List SOp → Tr AV → (St → Prop) → Prop
  | [], E, K => False
  | [o], E, K =>
    match txS C (Cl C) o E H nx with
    | some (k, v, H', nx') => nx' = nx ∧ dkLast k = true ∧ match put? E nt o.dst v with
      | some E' => K ⟨E', H', nx'⟩
      | none => False
    | none => False
  | o :: o' :: rest, E, K =>
    match txS C (Cl C) o E H nx with
    | some (k, v, H', nx') => H' = H ∧ nx' = nx ∧ dk k v = true ∧ match put? E nt o.dst v with
      | some E' => WD C nt H nx (o' :: rest) E' K
      | none => False
    | none => False
theorem effIdx_lt {l : List DS} {p : Nat} (h : p ∈ (effIdx l).map (· + 1)) : 1 ≤ p ∧ p ≤ l.length ∧ (p - 1) ∈ effIdx l := by
  simp only [List.mem_map] at h
  obtain ⟨e, he, rfl⟩ := h
  refine ⟨by omega, ?_, by simpa using he⟩
  unfold effIdx at he
  simp only [List.mem_filterMap] at he
  obtain ⟨⟨d, i⟩, hd, hi⟩ := he
  have := List.mem_zipIdx hd
  simp only at hi
  split at hi
  · injection hi with hi; subst hi; omega
  · cases hi
theorem tx1_read {C : Cx} {call : CallF} {ops : Array Oper} {o : Oper} {s : St} {v : AV} {H' : Heap} {nx' : Nat} (h : tx1 C call ops o s = some (.read, v, H', nx')) :
    isEff o.op = false ∧ ∃ X, opA C (ev s.env) o.op (roAll s.H) s.nx = some (v, X, s.nx) := by
  unfold tx1 at h
  split at h
  · split at h
    · split at h
      · split at h <;> simp at h
      · cases h
    · rename_i hi
      split at h
      · split at h
        · simp at h
        · split at h
          · split at h <;> simp at h
          · cases h
      · split at h
        · rename_i v2 X nx2 ho
          split at h
          · rename_i hc
            simp only [Option.some.injEq, Prod.mk.injEq, true_and] at h
            obtain ⟨rfl, _, _⟩ := h
            refine ⟨by simpa using hi, X, ?_⟩
            rw [ho, hc.1]
          · cases h
        · cases h
  · simp at h
@[congr] theorem WD_congr {C : Cx} {nt : Nat} {H : Heap} {nx : Nat} {l : List SOp} {E E' : Tr AV} {K : St → Prop} (h : E = E') : WD C nt H nx l E K = WD C nt H nx l E' K := by rw [h]
theorem loadOp_ro (T : Tr TInfo) (H : Heap) (t : TypeId) (a : AV) : loadOp T (roAll H) t a = loadOp T H t a := by
  unfold loadOp
  split
  · rfl
  · split
    · rename_i b o
      rw [roAll_get]
      cases H.get b with
      | none => rfl
      | some ob => cases ob <;> rfl
    · rfl
    · rfl
theorem loadOp_nil (T : Tr TInfo) (t : TypeId) (b o : Nat) : loadOp T .nil t (.ptr b o) = none := by
  unfold loadOp
  split
  · rfl
  · rfl
theorem eqB_int (k : IntKind) (n : Int) : AV.eqB (.lit (.int k n)) (.lit (.int k n)) = true := by simp [AV.eqB, valEqB]
theorem nx_succ (n : Nat) : (n + 1 = n) = False := by simp
end CI
