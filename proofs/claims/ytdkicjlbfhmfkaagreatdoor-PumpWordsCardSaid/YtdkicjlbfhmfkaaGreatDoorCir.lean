/- CI, part r: a region that draws its order, whole; the interpreter of code and of calls. -/
import Derived.Test.YtdkicjlbfhmfkaaGreatDoorCiq
set_option linter.unusedVariables false
set_option linter.unusedSimpArgs false
noncomputable section
namespace CI
open Go

namespace DRun
variable {C : Cx} {call : CallF} {nt : Nat} {ops : Array Oper} {s0 sN : St} {l : List DS}
variable {σ0 : Sig} {w0 : World} {S : Nat → Prop} {σ : Sig} {p : Nat} {a : Act} {w w' : World}

/-- All have come. -/
theorem Inv.last (D : DRun C call nt ops s0 l sN) (V : Inv C call nt ops s0 l sN σ0 w0 S σ p a w) (g0 : Good σ0 s0.H s0.nx w0) (hall : ∀ i, i < ops.size → S i) :
    ActR σ sN.env nt a ∧ Step σ0 s0.H s0.nx w0 σ sN.H sN.nx w ∧ Good σ sN.H sN.nx w := by
  have hlen := D.len
  have hno : ∀ (j : Nat) (d : DS), p ≤ j → j < l.length → l[j]? = some d → d.k ≠ .eff := by
    intro j d hpj hj hd hk
    have := (V.effs j d hd hk).1 (hall j (by omega))
    omega
  have hH := D.heap_since V.fresh l.length V.ple (Nat.le_refl _) hno
  have hst : stAt l sN l.length = sN := by simp [stAt]
  rw [hst] at hH
  have hnewlt : ∀ {b ob}, newAt l p b = some ob → b < sN.nx := by
    intro b ob h
    obtain ⟨j, d, _, hd, hk, hn⟩ := newAt_some h
    obtain ⟨o, ho⟩ := D.oper hd
    have hkj := D.kind ho hd
    rw [hk] at hkj
    have hjl := (List.getElem?_eq_some_iff.1 hd).1
    have := D.nx_mono (i := j + 1) (j := l.length) (by omega) (Nat.le_refl _)
    rw [hst, hkj.2.2.2.2] at this
    omega
  have hK : ∀ b, KK l sN p b = sN.H.get b := by
    intro b
    rw [hH b]
    unfold KK
    by_cases h : b < (stAt l sN p).nx
    · rw [if_pos h, if_pos h]
    · rw [if_neg h, if_neg h]
      by_cases h2 : b < sN.nx
      · rw [if_pos h2]
      · rw [if_neg h2]
        cases hn : newAt l p b with
        | none => rfl
        | some ob => exact absurd (hnewlt hn) h2
  have hnx : s0.nx ≤ sN.nx := by have := D.nx0_le (i := l.length) (Nat.le_refl _); rwa [hst] at this
  have hple := D.nx_mono V.ple (Nat.le_refl _)
  rw [hst] at hple
  have hsfr : ∀ b, sN.nx ≤ b → σ b = none := by
    intro b hb
    cases hs : σ b with
    | none => rfl
    | some l' =>
      obtain ⟨j, dj, ob, _, hj, hkj, hn⟩ := V.above b (by omega) (by rw [hs]; simp)
      have := hnewlt (D.newAt_of (p := 0) (Nat.zero_le j) hj hkj |> fun h => by
        have h2 := D.newAt_of (p := p) (j := j) (by
          rcases Nat.lt_or_ge j p with h3 | h3
          · obtain ⟨oj, hoj⟩ := D.oper hj
            have hkj' := D.kind hoj hj
            rw [hkj] at hkj'
            have := D.nx_mono (i := j + 1) (j := p) (by omega) V.ple
            rw [hkj'.2.2.2.2] at this
            omega
          · exact h3) hj hkj
        exact h2)
      omega
  refine ⟨⟨fun t => ?_, V.size, V.defers⟩, ⟨V.os, V.tape, V.output, V.wsize, hnx, V.old, fun b o h1 h2 => by rw [← hK]; exact V.ro b o h1 h2, fun b h1 h2 => by rw [← hK]; exact V.dead b h1 h2,
    fun b h1 h2 => by rw [← hK]; exact V.unreal b h1 h2, V.frame, fun b l' o h1 h2 h3 => V.own b l' o (by rw [hK]; exact h1) h2 h3⟩, ⟨⟨⟨fun b o l' h1 h2 => ?_, fun b b' o o' l1 l2 h1 h2 => ?_⟩, fun b hb => ⟨hsfr b hb, ?_⟩⟩, glb_of g0 V.frame, fun b l' o h1 h2 hr => apart_of g0 V.ro V.own b l' o (by rw [hK]; exact h1) h2 hr⟩⟩
  · by_cases hex : ∃ (j : Nat) (o : Oper), ops[j]? = some o ∧ o.dst = some t
    · obtain ⟨j, o, ho, ht⟩ := hex
      obtain ⟨d, hd⟩ := D.ds ho
      have hjl := (List.getElem?_eq_some_iff.1 hd).1
      have h1 := D.env_new ho hd ht l.length hjl (Nat.le_refl _)
      rw [hst] at h1
      rw [h1]
      exact (V.slots j d o t (hall j (by omega)) hd ho ht).ext (Sig.lt_ext _ _)
    · have h1 := D.env_old t l.length (Nat.le_refl _) fun j o _ ho ht => hex ⟨j, o, ho, ht⟩
      rw [hst] at h1
      rw [h1]
      exact (V.rest t fun j o _ ho ht => hex ⟨j, o, ho, ht⟩).ext fun b k h => Sig.lt_ext σ s0.nx b k (V.ext0 g0 (Nat.le_refl _) b k h)
  · exact (V.sim.obj b o l' (by rw [hK]; exact h1) h2).ext (Sig.lt_ext _ _)
  · exact V.sim.inj b b' o o' l1 l2 (by rw [hK]; exact h1) (by rw [hK]; exact h2)
  · rw [hH b, if_neg (by omega), if_neg (by omega)]

theorem first (D : DRun C call nt ops s0 l sN) (g0 : Good σ0 s0.H s0.nx w0) (he : ActR σ0 s0.env nt a) (hw : w.heap = w0.heap) (h1 : w.os = w0.os) (h2 : w.tape = w0.tape) (h3 : w.output = w0.output) :
    Inv C call nt ops s0 l sN σ0 w0 (fun _ => False) σ0 0 a w := by
  have h0 : stAt l sN 0 = s0 := txRun_first D.run
  have hKb : ∀ b, b < s0.nx → KK l sN 0 b = s0.H.get b := fun b hb => by unfold KK; rw [h0, if_pos hb]
  have live : ∀ {b l'}, σ0 b = some l' → b < s0.nx := by
    intro b l' h
    rcases Nat.lt_or_ge b s0.nx with h' | h'
    · exact h'
    · rw [(g0.fresh b h').1] at h; cases h
  have hlt : Ext σ0 (σ0.lt s0.nx) := fun b l' h => by rw [Sig.lt_of (live h)]; exact h
  have nxge : ∀ {j : Nat} {d : DS}, l[j]? = some d → s0.nx ≤ d.s.nx := by
    intro j d hd
    have hjl := (List.getElem?_eq_some_iff.1 hd).1
    have := D.nx0_le (i := j) (by omega)
    rwa [st hd] at this
  refine ⟨Nat.zero_le _, .inl rfl, fun _ _ h => h.elim, fun e d _ _ => ⟨fun h => h.elim, fun h => by omega⟩, fun _ _ _ _ h => h.elim, fun t _ => he.env t, he.size, he.defers, ⟨?_, ?_⟩, ?_, ?_, ?_, ?_, fun _ _ => rfl, h1, h2, h3, by rw [hw]; exact Nat.le_refl _, ?_, ?_, ?_, fun k _ _ => by rw [hw], ?_⟩
  · intro b o l' hb hl'
    rw [hKb b (live hl')] at hb
    rw [hw, h0]
    exact (g0.obj b o l' hb hl').ext fun b l' h => Sig.lt_mono (Ext.refl σ0) (Nat.le_max_left _ _) b l' (hlt b l' h)
  · intro b b' o o' l1 l2 hb hb' hl1 hl2
    rw [hKb b (live hl1)] at hb; rw [hKb b' (live hl2)] at hb'
    exact g0.inj b b' o o' l1 l2 hb hb' hl1 hl2
  · intro b hb; rw [h0] at hb ⊢; exact (g0.fresh b hb).2
  · intro b hb hn; rw [h0] at hb; exact absurd (g0.fresh b hb).1 hn
  · intro j d ob _ hd _; exact (g0.fresh _ (nxge hd)).1
  · intro j d ob _ hd hk
    unfold KK
    rw [h0, if_neg (by have := nxge hd; omega)]
    exact D.newAt_of (Nat.zero_le j) hd hk
  · intro b o hb hr
    rw [hKb b]; exact hb
    rcases Nat.lt_or_ge b s0.nx with h' | h'
    · exact h'
    · rw [(g0.fresh b h').2] at hb; cases hb
  · intro b hb hn; rw [hKb b hb]; exact hn
  · intro b hb _; rw [hKb b hb]
  · intro b l' o hb hl' _
    rw [hKb b (live hl')] at hb
    exact ⟨b, l', o, hb, hl', rfl, .inr rfl⟩

/-- Any order. -/
theorem any_order (hC : C.OK) (hcall : CallOK C call) (D : DRun C call nt ops s0 l sN) (g0 : Good σ0 s0.H s0.nx w0) {Q : Exit → Act → World → Prop}
    (hq : ∀ σ' w' a', ActR σ' sN.env nt a' → Step σ0 s0.H s0.nx w0 σ' sN.H sN.nx w' → Good σ' sN.H sN.nx w' → Q .normal a' w') :
    ∀ (fuel : Nat) (listed : Array Bool) (σ : Sig) (p : Nat) (a : Act) (w : World), listed.size = ops.size → ((List.range ops.size).filter fun i => !listed.getD i true).length ≤ fuel →
      Inv C call nt ops s0 l sN σ0 w0 (fun i => listed.getD i false = true) σ p a w → wpAny C.P .any ops Q fuel listed a w := by
  intro fuel
  have done : ∀ (listed : Array Bool) (σ : Sig) (p : Nat) (a : Act) (w : World), listed.size = ops.size → Region.ready .any ops listed = [] →
      Inv C call nt ops s0 l sN σ0 w0 (fun i => listed.getD i false = true) σ p a w → Q .normal a w := by
    intro listed σ p a w hsz hr V
    have hall : ∀ n, ∀ i, i < n → i < ops.size → listed.getD i false = true := by
      intro n
      induction n with
      | zero => intro i h; omega
      | succ n ih =>
        intro i hi hs
        by_cases h : listed.getD i false = true
        · exact h
        · exfalso
          have hm : i ∈ Region.ready .any ops listed := by
            rw [mem_ready]
            have ho : ops[i]? = some ops[i] := Array.getElem?_eq_getElem hs
            refine ⟨?_, ops[i], ho, fun e he hb => ?_⟩
            · have hlt : i < listed.size := by omega
              simp only [Array.getD_eq_getD_getElem?, Array.getElem?_eq_getElem hlt, Option.getD_some] at h ⊢
              simpa using h
            · have := D.stat.edge i ops[i] (by simp) e (mem_bnds he hb)
              exact ih e.on (by omega) (by omega)
          rw [hr] at hm; cases hm
    obtain ⟨h1, h2, h3⟩ := V.last D g0 fun i hi => hall (i + 1) i (by omega) hi
    exact hq σ w a h1 h2 h3
  induction fuel with
  | zero =>
    intro listed σ p a w hsz hc V
    have hr : Region.ready .any ops listed = [] := by
      cases hr : Region.ready .any ops listed with
      | nil => rfl
      | cons i t =>
        have hm : i ∈ Region.ready .any ops listed := by rw [hr]; simp
        obtain ⟨h1, o, ho, _⟩ := mem_ready.1 hm
        have : i ∈ (List.range ops.size).filter fun i => !listed.getD i true := by
          rw [List.mem_filter, List.mem_range]
          exact ⟨(Array.getElem?_eq_some_iff.1 ho).1, by rw [h1]; rfl⟩
        have := List.length_pos_of_mem this
        omega
    exact ⟨hr, done listed σ p a w hsz hr V⟩
  | succ fuel ih =>
    intro listed σ p a w hsz hc V
    refine ⟨fun hr => done listed σ p a w hsz hr V, fun i hi => ?_⟩
    obtain ⟨h1, o, ho, hdep⟩ := mem_ready.1 hi
    have his := (Array.getElem?_eq_some_iff.1 ho).1
    have hS : ¬ listed.getD i false = true := by
      have hlt : i < listed.size := by omega
      simp only [Array.getD_eq_getD_getElem?, Array.getElem?_eq_getElem hlt, Option.getD_some] at h1 ⊢
      simpa using h1
    refine V.turn hC hcall D g0 ho hS (fun e he => hdep e (of_bnds he).1 (of_bnds he).2) fun σ' p' a' w' V' => ?_
    refine ih (listed.setIfInBounds i true) σ' p' a' w' (by simpa using hsz) ?_ ?_
    · have : ((List.range ops.size).filter fun j => !(listed.setIfInBounds i true).getD j true).length < ((List.range ops.size).filter fun j => !listed.getD j true).length := by
        rw [← List.countP_eq_length_filter, ← List.countP_eq_length_filter]
        have hmem : i ∈ List.range ops.size := List.mem_range.2 his
        obtain ⟨s, t, hst⟩ := List.append_of_mem hmem
        have hnd : (List.range ops.size).Nodup := List.nodup_range
        rw [hst] at hnd ⊢
        rw [List.nodup_append] at hnd
        have hns : ∀ x ∈ s, x ≠ i := fun x hx => hnd.2.2 x hx i (by simp)
        have hnt : ∀ x ∈ t, x ≠ i := fun x hx e => by
          subst e
          have := hnd.2.1
          rw [List.nodup_cons] at this
          exact this.1 hx
        have e1 : s.countP (fun j => !(listed.setIfInBounds i true).getD j true) = s.countP (fun j => !listed.getD j true) :=
          List.countP_congr fun x hx => by rw [getD_set_ne true (Ne.symm (hns x hx))]
        have e2 : t.countP (fun j => !(listed.setIfInBounds i true).getD j true) = t.countP (fun j => !listed.getD j true) :=
          List.countP_congr fun x hx => by rw [getD_set_ne true (Ne.symm (hnt x hx))]
        have e3 : (!(listed.setIfInBounds i true).getD i true) = false := by
          have hlt : i < listed.size := by omega
          simp [hlt]
        rw [List.countP_append, List.countP_append, List.countP_cons, List.countP_cons, e1, e2, e3, h1]
        simp
      omega
    · have heq : (fun j => (listed.setIfInBounds i true).getD j false = true) = plus (fun j => listed.getD j false = true) i := by
        funext j
        apply propext
        unfold plus
        by_cases e : j = i
        · subst e
          have hlt : j < listed.size := by omega
          simp [hlt]
        · rw [getD_set_ne false (Ne.symm e)]
          simp [e]
      rw [heq]
      exact V'
end DRun

theorem runDraw_wp {C : Cx} (hC : C.OK) (hm : C.P.follows .mixedOrders = true) {call : CallF} (hcall : CallOK C call) {nt id : Nat} {ops : Array Oper} (hst : drawStatic ops.toList = true) {s s' : St} {σ : Sig} {w : World} {a : Act}
    (h : runDraw C call nt ops s = some s') (he : ActR σ s.env nt a) (g : Good σ s.H s.nx w) {Q : Exit → Act → World → Prop}
    (hq : ∀ σ' w' a', ActR σ' s'.env nt a' → Step σ s.H s.nx w σ' s'.H s'.nx w' → Good σ' s'.H s'.nx w' → Q .normal a' w') : (Code.region id ops true).wp C.P Q a w := by
  unfold runDraw at h
  split at h
  · cases h
  · rename_i l sN hrun
    simp only at h
    split at h
    · rename_i hall
      injection h with h; subst h
      have D : DRun C call nt ops s l sN := by
        refine ⟨hrun, static_of hst, fun i o d ho hd hk => ?_⟩
        rw [List.all_eq_true] at hall
        have hm : ((o, d), i) ∈ (ops.toList.zip l).zipIdx := by
          rw [List.mk_mem_zipIdx_iff_getElem?, List.getElem?_zip_eq_some]
          exact ⟨by simpa using ho, hd⟩
        have := hall _ hm
        simp only [hk] at this
        exact this
      have V := D.first (w := { w with drawn := w.drawn + 1 }) g he rfl rfl rfl rfl
      refine wp_region_any hm ?_
      refine D.any_order hC hcall g hq ops.size _ σ 0 a _ (by simp) ?_ ?_
      · exact Nat.le_trans (List.length_filter_le _ _) (by simp)
      · have heq : (fun i => (Array.replicate ops.size false).getD i false = true) = fun _ => False := by
          funext i
          apply propext
          simp only [Array.getD_eq_getD_getElem?]
          cases hi : (Array.replicate ops.size false)[i]? with
          | none => simp
          | some b =>
            have := (Array.getElem?_eq_some_iff.1 hi).2
            simp at this
            simp [← this]
        rw [heq]
        exact V
    · cases h
end CI
