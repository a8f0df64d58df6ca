/- CI, part n: the invariant of a region that is run in some order. -/
import Derived.Test.YtdkicjlbfhmfkaaGreatDoorCim
set_option linter.unusedVariables false
set_option linter.unusedSimpArgs false
noncomputable section
namespace CI
open Go

/-- A region's run in the text's order, with all that was checked of it. -/
structure DRun (C : Cx) (call : CallF) (nt : Nat) (ops : Array Oper) (s0 : St) (l : List DS) (sN : St) : Prop where
  run : txRun C call nt ops ops.toList s0 = some (l, sN)
  stat : Static ops.toList
  reads : ∀ (i : Nat) (o : Oper) (d : DS), ops[i]? = some o → l[i]? = some d → d.k = .read → readOK C (ancs ops.toList []) l sN i o d = true

namespace DRun
variable {C : Cx} {call : CallF} {nt : Nat} {ops : Array Oper} {s0 sN : St} {l : List DS}

theorem len (D : DRun C call nt ops s0 l sN) : l.length = ops.size := by simpa using txRun_length D.run
theorem at_ (D : DRun C call nt ops s0 l sN) {i : Nat} {o : Oper} {d : DS} (ho : ops[i]? = some o) (hd : l[i]? = some d) :
    tx1 C call ops o d.s = some (d.k, d.v, (stAt l sN (i + 1)).H, (stAt l sN (i + 1)).nx) ∧ put? d.s.env nt o.dst d.v = some (stAt l sN (i + 1)).env :=
  txRun_at D.run i o d (by simpa using ho) hd
theorem oper (D : DRun C call nt ops s0 l sN) {i : Nat} {d : DS} (hd : l[i]? = some d) : ∃ o, ops[i]? = some o := by
  have := D.len
  have h := (List.getElem?_eq_some_iff.1 hd).1
  exact ⟨ops[i], Array.getElem?_eq_getElem (by omega)⟩
theorem ds (D : DRun C call nt ops s0 l sN) {i : Nat} {o : Oper} (ho : ops[i]? = some o) : ∃ d, l[i]? = some d := by
  have := D.len
  have h := (Array.getElem?_eq_some_iff.1 ho).1
  exact ⟨l[i], List.getElem?_eq_getElem (by omega)⟩
theorem st {i : Nat} {d : DS} (hd : l[i]? = some d) : stAt l sN i = d.s := by simp [stAt, hd]

/-- What one operation does to the heap and the names, by its kind. -/
theorem kind (D : DRun C call nt ops s0 l sN) {i : Nat} {o : Oper} {d : DS} (ho : ops[i]? = some o) (hd : l[i]? = some d) :
    match d.k with
    | .skip => wantedA ops o d.s.env = false ∧ d.v = .lit undef ∧ (stAt l sN (i + 1)).H = d.s.H ∧ (stAt l sN (i + 1)).nx = d.s.nx
    | .still => wantedA ops o d.s.env = true ∧ isEff o.op = false ∧ (∃ X, opA C (ev d.s.env) o.op .nil d.s.nx = some (d.v, X, d.s.nx)) ∧ (stAt l sN (i + 1)).H = d.s.H ∧ (stAt l sN (i + 1)).nx = d.s.nx
    | .read => wantedA ops o d.s.env = true ∧ isEff o.op = false ∧ AV.belowB d.s.nx d.v = true ∧ (stAt l sN (i + 1)).H = d.s.H ∧ (stAt l sN (i + 1)).nx = d.s.nx
    | .new ob => wantedA ops o d.s.env = true ∧ isEff o.op = false ∧ (∃ X, opA C (ev d.s.env) o.op .nil d.s.nx = some (d.v, X, d.s.nx + 1) ∧ X.get d.s.nx = some ob) ∧
        (stAt l sN (i + 1)).H = d.s.H.put d.s.nx (some ob) ∧ (stAt l sN (i + 1)).nx = d.s.nx + 1
    | .eff => wantedA ops o d.s.env = true ∧ isEff o.op = true ∧ stepA C call (ev d.s.env) o.op d.s.H d.s.nx = some (d.v, (stAt l sN (i + 1)).H, (stAt l sN (i + 1)).nx) ∧ d.s.nx ≤ (stAt l sN (i + 1)).nx := by
  have h := (D.at_ ho hd).1
  unfold tx1 at h
  split at h
  · rename_i hw
    split at h
    · rename_i he
      split at h
      · rename_i v H' nx' hst
        split at h
        · rename_i hle
          simp only [Option.some.injEq, Prod.mk.injEq] at h
          obtain ⟨h1, h2, h3, h4⟩ := h
          rw [← h1]
          simp only
          rw [← h2, ← h3, ← h4]
          exact ⟨hw, he, hst, hle⟩
        · cases h
      · cases h
    · rename_i he
      have he' : isEff o.op = false := by simpa using he
      split at h
      · rename_i v X nx' hop
        split at h
        · rename_i e
          simp only [Option.some.injEq, Prod.mk.injEq] at h
          obtain ⟨h1, h2, h3, h4⟩ := h
          subst e
          rw [← h1]
          simp only
          rw [← h2, ← h3, ← h4]
          exact ⟨hw, he', ⟨X, hop⟩, rfl, rfl⟩
        · split at h
          · rename_i e
            split at h
            · rename_i ob hob
              simp only [Option.some.injEq, Prod.mk.injEq] at h
              obtain ⟨h1, h2, h3, h4⟩ := h
              subst e
              rw [← h1]
              simp only
              rw [← h2, ← h3, ← h4]
              exact ⟨hw, he', ⟨X, hop, hob⟩, rfl, rfl⟩
            · cases h
          · cases h
      · split at h
        · rename_i v X nx' hop
          split at h
          · rename_i e
            simp only [Option.some.injEq, Prod.mk.injEq] at h
            obtain ⟨h1, h2, h3, h4⟩ := h
            rw [← h1]
            simp only
            rw [← h2, ← h3, ← h4]
            exact ⟨hw, he', e.2, rfl, rfl⟩
          · cases h
        · cases h
  · rename_i hw
    simp only [Option.some.injEq, Prod.mk.injEq] at h
    obtain ⟨h1, h2, h3, h4⟩ := h
    rw [← h1]
    simp only
    rw [← h2, ← h3, ← h4]
    exact ⟨by simpa using hw, rfl, rfl, rfl⟩

theorem nx_step (D : DRun C call nt ops s0 l sN) {i : Nat} (hi : i < l.length) : (stAt l sN i).nx ≤ (stAt l sN (i + 1)).nx := by
  obtain ⟨d, hd⟩ : ∃ d, l[i]? = some d := ⟨l[i], List.getElem?_eq_getElem hi⟩
  obtain ⟨o, ho⟩ := D.oper hd
  have hk := D.kind ho hd
  rw [st hd]
  cases hkd : d.k <;> rw [hkd] at hk <;> simp only at hk
  · rw [hk.2.2.2]; exact Nat.le_refl _
  · rw [hk.2.2.2.2]; exact Nat.le_refl _
  · rw [hk.2.2.2.2]; exact Nat.le_refl _
  · rw [hk.2.2.2.2]; omega
  · exact hk.2.2.2
theorem nx_mono (D : DRun C call nt ops s0 l sN) {i j : Nat} (hij : i ≤ j) (hj : j ≤ l.length) : (stAt l sN i).nx ≤ (stAt l sN j).nx := by
  induction j with
  | zero => have : i = 0 := by omega
            subst this; exact Nat.le_refl _
  | succ j ih =>
    rcases Nat.lt_or_ge i (j + 1) with h | h
    · exact Nat.le_trans (ih (by omega) (by omega)) (D.nx_step (by omega))
    · have : i = j + 1 := by omega
      subst this; exact Nat.le_refl _

/-- Two new blocks have two names. -/
theorem new_inj (D : DRun C call nt ops s0 l sN) {i j : Nat} {d d' : DS} {ob ob' : AObj} (hi : l[i]? = some d) (hj : l[j]? = some d') (hk : d.k = .new ob) (hk' : d'.k = .new ob')
    (h : d.s.nx = d'.s.nx) : i = j := by
  have key : ∀ {i j : Nat} {d d' : DS} {ob ob' : AObj}, l[i]? = some d → l[j]? = some d' → d.k = .new ob → d'.k = .new ob' → d.s.nx = d'.s.nx → ¬ i < j := by
    intro i j d d' ob ob' hi hj hk hk' h hlt
    obtain ⟨o, ho⟩ := D.oper hi
    have := D.kind ho hi
    rw [hk] at this
    have h1 := this.2.2.2.2
    have hjl := (List.getElem?_eq_some_iff.1 hj).1
    have := D.nx_mono (i := i + 1) (j := j) (by omega) (by omega)
    rw [h1, st hj] at this
    omega
  have h1 := key hi hj hk hk' h
  have h2 := key hj hi hk' hk h.symm
  omega

/-- The first content of the block of a name that an operation from p on makes. -/
def newAt (l : List DS) (p b : Nat) : Option AObj := (l.drop p).findSome? fun d => match d.k with
  | .new ob => if d.s.nx = b then some ob else none
  | _ => none

theorem newAt_some {p b : Nat} {ob : AObj} (h : newAt l p b = some ob) : ∃ j d, p ≤ j ∧ l[j]? = some d ∧ d.k = .new ob ∧ d.s.nx = b := by
  unfold newAt at h
  obtain ⟨d, hm, hf⟩ := List.exists_of_findSome?_eq_some h
  obtain ⟨i, hi⟩ := List.mem_iff_getElem?.1 hm
  rw [List.getElem?_drop] at hi
  split at hf
  · rename_i ob' hk
    split at hf
    · injection hf with hf; subst hf
      exact ⟨p + i, d, by omega, hi, hk, ‹_›⟩
    · cases hf
  · cases hf
theorem newAt_of (D : DRun C call nt ops s0 l sN) {p j : Nat} {d : DS} {ob : AObj} (hp : p ≤ j) (hj : l[j]? = some d) (hk : d.k = .new ob) : newAt l p d.s.nx = some ob := by
  cases h : newAt l p d.s.nx with
  | none =>
    unfold newAt at h
    rw [List.findSome?_eq_none_iff] at h
    have hm : d ∈ l.drop p := List.mem_iff_getElem?.2 ⟨j - p, by rw [List.getElem?_drop, ← hj]; congr 1; omega⟩
    have := h d hm
    rw [hk] at this
    simp at this
  | some ob' =>
    obtain ⟨j', d', _, hj', hk', hn⟩ := newAt_some h
    have := D.new_inj hj' hj hk' hk hn
    subst this
    rw [hj] at hj'; injection hj' with hj'; subst hj'
    rw [hk] at hk'; injection hk' with hk'; subst hk'; rfl

/-- Ahead of operation i, no effect having come since p: the heap is that of p, and what was made since. -/
theorem heap_since (D : DRun C call nt ops s0 l sN) {p : Nat} (hfr : ∀ b, (stAt l sN p).nx ≤ b → (stAt l sN p).H.get b = none) : ∀ (i : Nat), p ≤ i → i ≤ l.length →
    (∀ j d, p ≤ j → j < i → l[j]? = some d → d.k ≠ .eff) →
    ∀ b, (stAt l sN i).H.get b = if b < (stAt l sN p).nx then (stAt l sN p).H.get b else if b < (stAt l sN i).nx then newAt l p b else none := by
  intro i hpi hil hno
  induction i with
  | zero =>
    have : p = 0 := by omega
    subst this
    intro b
    by_cases h : b < (stAt l sN 0).nx
    · rw [if_pos h]
    · rw [if_neg h, if_neg h, hfr b (by omega)]
  | succ i ih =>
    rcases Nat.lt_or_ge p (i + 1) with hlt | hge
    · have ih := ih (by omega) (by omega) (fun j d h1 h2 => hno j d h1 (by omega))
      obtain ⟨d, hd⟩ : ∃ d, l[i]? = some d := ⟨l[i], List.getElem?_eq_getElem (by omega)⟩
      obtain ⟨o, ho⟩ := D.oper hd
      have hk := D.kind ho hd
      have hne := hno i d (by omega) (by omega) hd
      rw [st hd] at ih
      cases hkd : d.k <;> rw [hkd] at hk <;> simp only at hk
      · rw [hk.2.2.1, hk.2.2.2]; exact ih
      · rw [hk.2.2.2.1, hk.2.2.2.2]; exact ih
      · rw [hk.2.2.2.1, hk.2.2.2.2]; exact ih
      · rename_i ob
        rw [hk.2.2.2.1, hk.2.2.2.2]
        intro b
        have hmono := D.nx_mono (i := p) (j := i) (by omega) (by omega)
        rw [st hd] at hmono
        by_cases e : b = d.s.nx
        · subst e
          rw [Tr.get_put_same, if_neg (by omega), if_pos (by omega), D.newAt_of (by omega) hd hkd]
        · rw [Tr.get_put_ne _ _ _ _ e, ih b]
          by_cases h1 : b < (stAt l sN p).nx
          · rw [if_pos h1, if_pos h1]
          · rw [if_neg h1, if_neg h1]
            by_cases h2 : b < d.s.nx
            · rw [if_pos h2, if_pos (by omega)]
            · rw [if_neg h2, if_neg (by omega)]
      · exact absurd hkd hne
    · have : p = i + 1 := by omega
      subst this
      intro b
      by_cases h : b < (stAt l sN (i + 1)).nx
      · rw [if_pos h]
      · rw [if_neg h, if_neg h, hfr b (by omega)]
end DRun
end CI
