/- CI, part p: each operation keeps the invariant. -/
import Derived.Test.YtdkicjlbfhmfkaaGreatDoorCio
set_option linter.unusedVariables false
set_option linter.unusedSimpArgs false
noncomputable section
namespace CI
open Go
namespace DRun
variable {C : Cx} {call : CallF} {nt : Nat} {ops : Array Oper} {s0 sN : St} {l : List DS}
variable {σ0 : Sig} {w0 : World} {S : Nat → Prop} {σ : Sig} {p : Nat} {a : Act} {w w' : World}

def plus (S : Nat → Prop) (i : Nat) : Nat → Prop := fun j => S j ∨ j = i

theorem getD_put {a : Act} {d t : Nat} {x : Value} (h : d < a.tmps.size) : (a.put (some d) x).tmps.getD t undef = if t = d then x else a.tmps.getD t undef := by
  by_cases e : t = d
  · subst e; simp [Act.put, h]
  · rw [if_neg e]
    simp [Act.put, Array.getD_eq_getD_getElem?, Array.getElem?_setIfInBounds_ne (Ne.symm e)]

theorem dst_lt (D : DRun C call nt ops s0 l sN) {i : Nat} {o : Oper} {d : DS} (ho : ops[i]? = some o) (hd : l[i]? = some d) {t : Nat} (ht : o.dst = some t) : t < nt := by
  have hp := (D.at_ ho hd).2
  rw [ht] at hp
  unfold put? at hp
  simp only at hp
  split at hp
  · assumption
  · cases hp

/-- The slots behind an operation. -/
theorem Inv.slots' (D : DRun C call nt ops s0 l sN) (V : Inv C call nt ops s0 l sN σ0 w0 S σ p a w) {i : Nat} {o : Oper} {d : DS} (ho : ops[i]? = some o) (hd : l[i]? = some d) (hS : ¬ S i)
    {x : Value} {σ' : Sig} (hσ : ∀ n, Ext (σ.lt n) (σ'.lt n)) (hv : VR (σ'.lt (stAt l sN (i + 1)).nx) d.v x) :
    (∀ (j : Nat) (d' : DS) (o' : Oper) (t : Nat), plus S i j → l[j]? = some d' → ops[j]? = some o' → o'.dst = some t → VR (σ'.lt (stAt l sN (j + 1)).nx) d'.v ((a.put o.dst x).tmps.getD t undef)) ∧
    (∀ t, (∀ (j : Nat) (o' : Oper), plus S i j → ops[j]? = some o' → o'.dst ≠ some t) → VR σ0 ((s0.env.get t).getD (.lit undef)) ((a.put o.dst x).tmps.getD t undef)) ∧
    (a.put o.dst x).tmps.size = nt ∧ (a.put o.dst x).defers = [] := by
  refine ⟨?_, ?_, ?_, ?_⟩
  · intro j d' o' t hj hd' ho' ht
    rcases hj with hj | rfl
    · have hji : j ≠ i := by rintro rfl; exact hS hj
      have h1 := (V.slots j d' o' t hj hd' ho' ht).ext (hσ _)
      cases hdst : o.dst with
      | none => exact h1
      | some t0 =>
        have hne := D.stat.dst j i o' o t t0 (by simpa using ho') (by simpa using ho) hji ht hdst
        rw [getD_put (by rw [V.size]; exact D.dst_lt ho hd hdst), if_neg hne]
        exact h1
    · rw [hd] at hd'; injection hd' with hd'; subst hd'
      rw [ho] at ho'; injection ho' with ho'; subst ho'
      rw [ht, getD_put (by rw [V.size]; exact D.dst_lt ho hd ht), if_pos rfl]
      exact hv
  · intro t hno
    have h1 := V.rest t fun j o' hj => hno j o' (.inl hj)
    cases hdst : o.dst with
    | none => exact h1
    | some t0 =>
      have hne : t ≠ t0 := by rintro rfl; exact hno i o (.inr rfl) ho hdst
      rw [getD_put (by rw [V.size]; exact D.dst_lt ho hd hdst), if_neg hne]
      exact h1
  · cases hdst : o.dst <;> simp [Act.put, V.size]
  · cases hdst : o.dst <;> simp [Act.put, V.defers]

/-- An operation that leaves what was there, and may make a block. -/
theorem Inv.quiet (D : DRun C call nt ops s0 l sN) (V : Inv C call nt ops s0 l sN σ0 w0 S σ p a w) (g0 : Good σ0 s0.H s0.nx w0) {i : Nat} {o : Oper} {d : DS} (ho : ops[i]? = some o) (hd : l[i]? = some d)
    (hS : ¬ S i) (hdep : ∀ e ∈ bnds o, S e.on) (hk : d.k ≠ .eff) {x : Value} {σ' : Sig} (hsz : w.heap.size ≤ w'.heap.size) (hkeep : ∀ k, k < w.heap.size → w'.heap[k]? = w.heap[k]?)
    (h1 : w'.os = w.os) (h2 : w'.tape = w.tape) (h3 : w'.output = w.output) (hv : VR (σ'.lt (stAt l sN (i + 1)).nx) d.v x)
    (hσ : (σ' = σ ∧ True) ∨ ∃ loc ob, d.k = .new ob ∧ σ' = σ.upd d.s.nx loc ∧ w.heap.size ≤ loc.blk ∧ OR (σ'.lt (d.s.nx + 1)) loc ob w'.heap[loc.blk]?) :
    Inv C call nt ops s0 l sN σ0 w0 (plus S i) σ' p (a.put o.dst x) w' := by
  have hil := (List.getElem?_eq_some_iff.1 hd).1
  have hnx0 := D.nx0_le (i := i) (by omega)
  rw [st hd] at hnx0
  have hext : Ext σ σ' := by
    rcases hσ with ⟨rfl, _⟩ | ⟨loc, ob, hn, rfl, _⟩
    · exact Ext.refl _
    · exact Sig.upd_ext _ _ _ (V.undone i d ob hS hd hn)
  obtain ⟨q1, q2, q3, q4⟩ := V.slots' D ho hd hS (fun n => Sig.lt_mono hext (Nat.le_refl n)) hv
  have hblk : ∀ b l', σ' b = some l' → l'.blk < w.heap.size → σ b = some l' := by
    intro b l' hb hlt
    rcases hσ with ⟨rfl, _⟩ | ⟨loc, ob, hn, rfl, hloc, _⟩
    · exact hb
    · by_cases e : b = d.s.nx
      · subst e; rw [Sig.upd_same] at hb; injection hb with hb; subst hb; omega
      · rw [Sig.upd_ne _ _ _ e] at hb; exact hb
  refine ⟨V.ple, V.front, ?_, ?_, q1, q2, q3, q4, ⟨?_, ?_⟩, V.fresh, ?_, ?_, fun j d' ob' hj => V.kept j d' ob' (fun h => hj (.inl h)), ?_, h1.trans V.os, h2.trans V.tape, h3.trans V.output, Nat.le_trans V.wsize hsz, V.ro, V.dead, V.unreal, ?_, ?_⟩
  · intro j o' hj ho' e he
    rcases hj with hj | rfl
    · exact .inl (V.down j o' hj ho' e he)
    · rw [ho] at ho'; injection ho' with ho'; subst ho'
      exact .inl (hdep e he)
  · intro e d' hd' he
    have hne : e ≠ i := by rintro rfl; rw [hd] at hd'; injection hd' with hd'; subst hd'; exact hk he
    rw [← V.effs e d' hd' he]
    exact ⟨fun h => h.resolve_right hne, .inl⟩
  · intro b o' l' hb hl'
    rcases hσ with ⟨rfl, _⟩ | ⟨loc, ob, hn, rfl, hloc, hor⟩
    · rw [hkeep _ (V.sim.lt hb hl')]; exact V.sim.obj b o' l' hb hl'
    · by_cases e : b = d.s.nx
      · subst e
        rw [Sig.upd_same] at hl'; injection hl' with hl'; subst hl'
        rw [V.kept i d ob hS hd hn] at hb
        injection hb with hb; subst hb
        exact hor.ext (Sig.lt_mono (Ext.refl _) (Nat.le_max_right _ _))
      · rw [Sig.upd_ne _ _ _ e] at hl'
        rw [hkeep _ (V.sim.lt hb hl')]; exact (V.sim.obj b o' l' hb hl').ext (Sig.lt_mono hext (Nat.le_refl _))
  · intro b b' o1 o2 l1 l2 hb hb' hl1 hl2 he
    rcases hσ with ⟨rfl, _⟩ | ⟨loc, ob, hn, rfl, hloc, hor⟩
    · exact V.sim.inj b b' o1 o2 l1 l2 hb hb' hl1 hl2 he
    · by_cases e : b = d.s.nx
      · subst e
        by_cases e' : b' = d.s.nx
        · exact e'.symm
        · rw [Sig.upd_same] at hl1; injection hl1 with hl1; subst hl1
          rw [Sig.upd_ne _ _ _ e'] at hl2
          have := V.sim.lt hb' hl2
          omega
      · rw [Sig.upd_ne _ _ _ e] at hl1
        by_cases e' : b' = d.s.nx
        · subst e'
          rw [Sig.upd_same] at hl2; injection hl2 with hl2; subst hl2
          have := V.sim.lt hb hl1
          omega
        · rw [Sig.upd_ne _ _ _ e'] at hl2
          exact V.sim.inj b b' o1 o2 l1 l2 hb hb' hl1 hl2 he
  · intro b hb hn
    rcases hσ with ⟨rfl, _⟩ | ⟨loc, ob, hnew, rfl, _⟩
    · obtain ⟨j, d', ob, hj, r⟩ := V.above b hb hn
      exact ⟨j, d', ob, .inl hj, r⟩
    · by_cases e : b = d.s.nx
      · exact ⟨i, d, ob, .inr rfl, hd, hnew, e.symm⟩
      · rw [Sig.upd_ne _ _ _ e] at hn
        obtain ⟨j, d', ob, hj, r⟩ := V.above b hb hn
        exact ⟨j, d', ob, .inl hj, r⟩
  · intro j d' ob' hj hd' hk'
    have h0 := V.undone j d' ob' (fun h => hj (.inl h)) hd' hk'
    rcases hσ with ⟨rfl, _⟩ | ⟨loc, ob, hnew, rfl, _⟩
    · exact h0
    · rw [Sig.upd_ne]
      · exact h0
      · intro e
        exact hj (.inr (D.new_inj hd' hd hk' hnew e))
  · intro b hb
    rcases hσ with ⟨rfl, _⟩ | ⟨loc, ob, hnew, rfl, _⟩
    · exact V.old b hb
    · rw [Sig.upd_ne _ _ _ (by omega)]; exact V.old b hb
  · intro k hk0 hro
    rw [hkeep k (Nat.lt_of_lt_of_le hk0 V.wsize)]
    exact V.frame k hk0 hro
  · intro b l' o' hb hl' hlt
    exact V.own b l' o' hb (hblk b l' hl' (Nat.lt_of_lt_of_le hlt V.wsize)) hlt

/-- An effect: the next one in the text's order. -/
theorem Inv.effect (D : DRun C call nt ops s0 l sN) (V : Inv C call nt ops s0 l sN σ0 w0 S σ p a w) (g0 : Good σ0 s0.H s0.nx w0) {i : Nat} {o : Oper} {d : DS} (ho : ops[i]? = some o) (hd : l[i]? = some d)
    (hS : ¬ S i) (hdep : ∀ e ∈ bnds o, S e.on) (hk : d.k = .eff) :
    Good (σ.lt d.s.nx) d.s.H d.s.nx w ∧ ∀ {x : Value} {σ1 : Sig} {w' : World}, VR σ1 d.v x → Step (σ.lt d.s.nx) d.s.H d.s.nx w σ1 (stAt l sN (i + 1)).H (stAt l sN (i + 1)).nx w' →
      Good σ1 (stAt l sN (i + 1)).H (stAt l sN (i + 1)).nx w' →
      ∃ σ', Inv C call nt ops s0 l sN σ0 w0 (plus S i) σ' (i + 1) (a.put o.dst x) w' := by
  have hil := (List.getElem?_eq_some_iff.1 hd).1
  have hnx0 := D.nx0_le (i := i) (by omega)
  rw [st hd] at hnx0
  have hkind := D.kind ho hd
  rw [hk] at hkind
  simp only at hkind
  have cl : ∀ j, ((ancs ops.toList []).getD i 0).testBit j = true → S j := anc_closed D.stat (S := S) (fun i o h1 h2 => V.down i o h1 (by simpa using h2)) (i + 1) i o (by omega) (by simpa using ho) hdep
  -- all effects ahead have come, none behind
  have hpi : p ≤ i := by
    rcases V.front with rfl | ⟨e, d', he, hek, rfl⟩
    · exact Nat.zero_le _
    · have hSe : S e := (V.effs e d' he hek).2 (by omega)
      rcases Nat.lt_or_ge e i with h | h
      · omega
      · rcases Nat.lt_or_ge i e with h' | h'
        · obtain ⟨oe, hoe⟩ := D.oper he
          have hke := D.kind hoe he
          rw [hek] at hke
          have := D.stat.eff i e o oe (by simpa using ho) (by simpa using hoe) h' hkind.2.1 hke.2.1
          exact absurd (anc_closed D.stat (S := S) (fun i o h1 h2 => V.down i o h1 (by simpa using h2)) (e + 1) e oe (by omega) (by simpa using hoe) (V.down e oe hSe hoe) i this) hS
        · have : e = i := by omega
          subst this; exact absurd hSe hS
  have hbetween : ∀ (j : Nat) (d' : DS), p ≤ j → j < i → l[j]? = some d' → d'.k ≠ .eff := by
    intro j d' hpj hji hd' hek
    obtain ⟨oj, hoj⟩ := D.oper hd'
    have hke := D.kind hoj hd'
    rw [hek] at hke
    have := D.stat.eff j i oj o (by simpa using hoj) (by simpa using ho) hji hke.2.1 hkind.2.1
    have hSj := cl j this
    have := (V.effs j d' hd' hek).1 hSj
    omega
  have hH := D.heap_since V.fresh i hpi (by omega) hbetween
  rw [st hd] at hH
  have hmono := D.nx_mono (i := p) (j := i) hpi (by omega)
  rw [st hd] at hmono
  have hKH : ∀ b, b < d.s.nx → d.s.H.get b = KK l sN p b := by
    intro b hb
    rw [hH b]
    unfold KK
    by_cases h : b < (stAt l sN p).nx
    · rw [if_pos h, if_pos h]
    · rw [if_neg h, if_neg h, if_pos hb]
  have hHfr : ∀ b, d.s.nx ≤ b → d.s.H.get b = none := by
    intro b hb
    rw [hH b, if_neg (by omega), if_neg (by omega)]
  have live : ∀ {b o'}, d.s.H.get b = some o' → b < d.s.nx := by
    intro b o' h
    rcases Nat.lt_or_ge b d.s.nx with h' | h'
    · exact h'
    · rw [hHfr b h'] at h; cases h
  have good : Good (σ.lt d.s.nx) d.s.H d.s.nx w := by
    refine ⟨⟨⟨?_, ?_⟩, fun b hb => ⟨Sig.lt_ge hb, hHfr b hb⟩⟩, glb_of g0 V.frame, fun b l' o' hb hl' hr => ?_⟩
    rotate_left 2
    · obtain ⟨h1, h2⟩ := Sig.lt_some hl'
      have hb' := hb
      rw [hKH b h1] at hb'
      exact apart_of g0 V.ro V.own b l' o' hb' h2 hr
    · intro b o' l' hb hl'
      obtain ⟨h1, h2⟩ := Sig.lt_some hl'
      have hb' := hb
      rw [hKH b h1] at hb'
      exact (V.sim.obj b o' l' hb' h2).ext (Sig.lt_mono (Ext.refl _) (Nat.max_le.2 ⟨hmono, h1⟩))
    · intro b b' o1 o2 l1 l2 hb hb' hl1 hl2 he
      obtain ⟨h1, h2⟩ := Sig.lt_some hl1
      obtain ⟨h3, h4⟩ := Sig.lt_some hl2
      rw [hKH b h1] at hb; rw [hKH b' h3] at hb'
      exact V.sim.inj b b' o1 o2 l1 l2 hb hb' h2 h4 he
  refine ⟨good, ?_⟩
  intro x σ1 w' hv hs g1
  have hc' : (stAt l sN p).nx ≤ (stAt l sN (i + 1)).nx := Nat.le_trans hmono hs.grow
  -- the names behind the effect
  have hσ1 : ∀ b, b < d.s.nx → σ1 b = σ b := fun b hb => by rw [hs.old b hb, Sig.lt_of hb]
  have hσ1f : ∀ b, (stAt l sN (i + 1)).nx ≤ b → σ1 b = none := fun b hb => (g1.fresh b hb).1
  have hgap : ∀ b, d.s.nx ≤ b → b < (stAt l sN (i + 1)).nx → σ b = none := by
    intro b h1 h2
    cases hb : σ b with
    | none => rfl
    | some l' =>
      obtain ⟨j, d', ob, hSj, hd', hk', hn⟩ := V.above b (by omega) (by rw [hb]; simp)
      subst hn
      obtain ⟨oj, hoj⟩ := D.oper hd'
      have hkj := D.kind hoj hd'
      rw [hk'] at hkj
      have hjl := (List.getElem?_eq_some_iff.1 hd').1
      rcases Nat.lt_trichotomy j i with h | h | h
      · have := D.nx_mono (i := j + 1) (j := i) (by omega) (by omega)
        rw [hkj.2.2.2.2, st hd] at this
        omega
      · subst h; exact absurd hSj hS
      · have := D.nx_mono (i := i + 1) (j := j) (by omega) (by omega)
        rw [st hd'] at this
        omega
  obtain ⟨σ', hσ'⟩ : ∃ σ' : Sig, σ' = fun b => if b < (stAt l sN (i + 1)).nx then σ1 b else σ b := ⟨_, rfl⟩
  have hlo : ∀ b, b < (stAt l sN (i + 1)).nx → σ' b = σ1 b := fun b hb => by rw [hσ']; simp [hb]
  have hhi : ∀ b, (stAt l sN (i + 1)).nx ≤ b → σ' b = σ b := fun b hb => by rw [hσ']; simp <;> omega
  have hext1 : Ext σ1 σ' := fun b l' hb => by
    rcases Nat.lt_or_ge b (stAt l sN (i + 1)).nx with h | h
    · rw [hlo b h]; exact hb
    · rw [hσ1f b h] at hb; cases hb
  have hext : Ext σ σ' := fun b l' hb => by
    rcases Nat.lt_or_ge b (stAt l sN (i + 1)).nx with h | h
    · rw [hlo b h]
      rcases Nat.lt_or_ge b d.s.nx with h' | h'
      · rw [hσ1 b h']; exact hb
      · rw [hgap b h' h] at hb; cases hb
    · rw [hhi b h]; exact hb
  have hlt1 : Ext σ1 (σ'.lt (stAt l sN (i + 1)).nx) := fun b l' hb => by
    rcases Nat.lt_or_ge b (stAt l sN (i + 1)).nx with h | h
    · rw [Sig.lt_of h]; exact hext1 b l' hb
    · rw [hσ1f b h] at hb; cases hb
  obtain ⟨q1, q2, q3, q4⟩ := V.slots' D ho hd hS (fun n => Sig.lt_mono hext (Nat.le_refl n)) (hv.ext hlt1)
  have hKlo : ∀ b, b < (stAt l sN (i + 1)).nx → KK l sN (i + 1) b = (stAt l sN (i + 1)).H.get b := fun b hb => by unfold KK; rw [if_pos hb]
  -- what lies above is as it was
  have hKhi : ∀ b, (stAt l sN (i + 1)).nx ≤ b → KK l sN (i + 1) b = KK l sN p b := by
    intro b hb
    unfold KK
    rw [if_neg (by omega), if_neg (by omega)]
    cases h : newAt l (i + 1) b with
    | some ob =>
      obtain ⟨j, d', hj, hd', hk', hn⟩ := newAt_some h
      subst hn
      exact (D.newAt_of (by omega) hd' hk').symm
    | none =>
      cases h' : newAt l p b with
      | none => rfl
      | some ob =>
        obtain ⟨j, d', hj, hd', hk', hn⟩ := newAt_some h'
        subst hn
        have hji : i + 1 ≤ j := by
          rcases Nat.lt_or_ge j (i + 1) with h2 | h2
          · obtain ⟨oj, hoj⟩ := D.oper hd'
            have hkj := D.kind hoj hd'
            rw [hk'] at hkj
            have := D.nx_mono (i := j + 1) (j := i + 1) (by omega) (by omega)
            rw [hkj.2.2.2.2] at this
            omega
          · exact h2
        rw [D.newAt_of hji hd' hk'] at h
        cases h
  have notlive : ∀ {b l' o'}, KK l sN p b = some o' → σ b = some l' → (stAt l sN (i + 1)).nx ≤ b →
      ∀ b0 l0 o0, d.s.H.get b0 = some o0 → σ.lt d.s.nx b0 = some l0 → l0.blk ≠ l'.blk := by
    intro b l' o' hb hl' hge b0 l0 o0 h0 hl0 he
    obtain ⟨h1, h2⟩ := Sig.lt_some hl0
    rw [hKH b0 h1] at h0
    have := V.sim.inj b0 b o0 o' l0 l' h0 hb h2 hl' he
    have := hs.grow
    omega
  refine ⟨σ', ⟨by omega, .inr ⟨i, d, hd, hk, rfl⟩, ?_, ?_, q1, q2, q3, q4, ⟨?_, ?_⟩, fun b hb => (g1.fresh b hb).2, ?_, ?_, ?_, ?_, hs.os.trans V.os, hs.tape.trans V.tape, hs.output.trans V.output, Nat.le_trans V.wsize hs.size, ?_, ?_, ?_, ?_, ?_⟩⟩
  · intro j o' hj ho' e he
    rcases hj with hj | rfl
    · exact .inl (V.down j o' hj ho' e he)
    · rw [ho] at ho'; injection ho' with ho'; subst ho'
      exact .inl (hdep e he)
  · intro e d' hd' he
    constructor
    · rintro (h | rfl)
      · have := (V.effs e d' hd' he).1 h; omega
      · omega
    · intro h
      rcases Nat.lt_or_ge e p with h' | h'
      · exact .inl ((V.effs e d' hd' he).2 h')
      · rcases Nat.lt_or_ge e i with h'' | h''
        · exact absurd he (hbetween e d' h' h'' hd')
        · exact .inr (by omega)
  · intro b o' l' hb hl'
    rcases Nat.lt_or_ge b (stAt l sN (i + 1)).nx with h | h
    · rw [hKlo b h] at hb; rw [hlo b h] at hl'
      exact (g1.obj b o' l' hb hl').ext (fun b l' hb => Sig.lt_mono (Ext.refl σ') (Nat.le_max_left _ _) b l' (hlt1 b l' hb))
    · rw [hKhi b h] at hb; rw [hhi b h] at hl'
      rw [hs.frame l'.blk (V.sim.lt hb hl') (fun b0 l0 o0 h0 hl0 he => absurd he (notlive hb hl' h b0 l0 o0 h0 hl0))]
      exact (V.sim.obj b o' l' hb hl').ext (Sig.lt_mono hext (Nat.max_le.2 ⟨Nat.le_trans hc' (Nat.le_max_left _ _), Nat.le_max_right _ _⟩))
  · have hcross : ∀ b b' o1 o2 l1 l2, KK l sN (i + 1) b = some o1 → KK l sN (i + 1) b' = some o2 → σ' b = some l1 → σ' b' = some l2 → l1.blk = l2.blk → b < (stAt l sN (i + 1)).nx → (stAt l sN (i + 1)).nx ≤ b' → False := by
      intro b b' o1 o2 l1 l2 hb hb' hl1 hl2 he h h'
      rw [hKlo b h] at hb; rw [hlo b h] at hl1
      rw [hKhi b' h'] at hb'; rw [hhi b' h'] at hl2
      have hlt := V.sim.lt hb' hl2
      obtain ⟨b0, l0, o0, h0, hl0, he0, _⟩ := hs.own b l1 o1 hb hl1 (by omega)
      exact notlive hb' hl2 h' b0 l0 o0 h0 hl0 (by omega)
    intro b b' o1 o2 l1 l2 hb hb' hl1 hl2 he
    rcases Nat.lt_or_ge b (stAt l sN (i + 1)).nx with h | h <;> rcases Nat.lt_or_ge b' (stAt l sN (i + 1)).nx with h' | h'
    · rw [hKlo b h] at hb; rw [hlo b h] at hl1
      rw [hKlo b' h'] at hb'; rw [hlo b' h'] at hl2
      exact g1.inj b b' o1 o2 l1 l2 hb hb' hl1 hl2 he
    · exact (hcross b b' o1 o2 l1 l2 hb hb' hl1 hl2 he h h').elim
    · exact (hcross b' b o2 o1 l2 l1 hb' hb hl2 hl1 he.symm h' h).elim
    · rw [hKhi b h] at hb; rw [hhi b h] at hl1
      rw [hKhi b' h'] at hb'; rw [hhi b' h'] at hl2
      exact V.sim.inj b b' o1 o2 l1 l2 hb hb' hl1 hl2 he
  · intro b hb hn
    rw [hhi b hb] at hn
    obtain ⟨j, d', ob, hj, r⟩ := V.above b (by omega) hn
    exact ⟨j, d', ob, .inl hj, r⟩
  · intro j d' ob hj hd' hk'
    have h0 := V.undone j d' ob (fun h => hj (.inl h)) hd' hk'
    rcases Nat.lt_or_ge d'.s.nx (stAt l sN (i + 1)).nx with h | h
    · rw [hlo _ h]
      rcases Nat.lt_or_ge d'.s.nx d.s.nx with h' | h'
      · rw [hσ1 _ h']; exact h0
      · -- a name between cannot be: it lies behind the effect
        exfalso
        obtain ⟨oj, hoj⟩ := D.oper hd'
        have hkj := D.kind hoj hd'
        rw [hk'] at hkj
        have hjl := (List.getElem?_eq_some_iff.1 hd').1
        rcases Nat.lt_trichotomy j i with h2 | h2 | h2
        · have := D.nx_mono (i := j + 1) (j := i) (by omega) (by omega)
          rw [hkj.2.2.2.2, st hd] at this
          omega
        · exact hj (.inr h2)
        · have := D.nx_mono (i := i + 1) (j := j) (by omega) (by omega)
          rw [st hd'] at this
          omega
    · rw [hhi _ h]; exact h0
  · intro j d' ob hj hd' hk'
    have hSj : ¬ S j := fun h => hj (.inl h)
    have h0 := V.kept j d' ob hSj hd' hk'
    rcases Nat.lt_or_ge d'.s.nx (stAt l sN (i + 1)).nx with h | h
    · rw [hKlo _ h]
      rcases Nat.lt_or_ge d'.s.nx d.s.nx with h' | h'
      · rw [hs.unreal _ h' (by rw [Sig.lt_of h']; exact V.undone j d' ob hSj hd' hk'), hKH _ h']; exact h0
      · exfalso
        obtain ⟨oj, hoj⟩ := D.oper hd'
        have hkj := D.kind hoj hd'
        rw [hk'] at hkj
        have hjl := (List.getElem?_eq_some_iff.1 hd').1
        rcases Nat.lt_trichotomy j i with h2 | h2 | h2
        · have := D.nx_mono (i := j + 1) (j := i) (by omega) (by omega)
          rw [hkj.2.2.2.2, st hd] at this
          omega
        · exact hj (.inr h2)
        · have := D.nx_mono (i := i + 1) (j := j) (by omega) (by omega)
          rw [st hd'] at this
          omega
    · rw [hKhi _ h]; exact h0
  · intro b hb
    have := hs.grow
    rw [hlo b (by omega), hσ1 b (by omega)]; exact V.old b hb
  · intro b o' hb hr
    have hb0 : b < s0.nx := by
      rcases Nat.lt_or_ge b s0.nx with h | h
      · exact h
      · rw [(g0.fresh b h).2] at hb; cases hb
    have h1 := V.ro b o' hb hr
    rw [← hKH b (by omega)] at h1
    have := hs.grow
    rw [hKlo b (by omega)]
    exact hs.ro b o' h1 hr
  · intro b hb hn
    have h1 := V.dead b hb hn
    rw [← hKH b (by omega)] at h1
    have := hs.grow
    rw [hKlo b (by omega)]
    exact hs.dead b (by omega) h1
  · intro b hb hn
    have h1 := V.unreal b hb hn
    rw [← hKH b (by omega)] at h1
    have := hs.grow
    rw [hKlo b (by omega), hs.unreal b (by omega) (by rw [Sig.lt_of (by omega), V.old b hb]; exact hn)]
    exact h1
  · intro k hk0 hro
    rw [hs.frame k (Nat.lt_of_lt_of_le hk0 V.wsize) ?_]
    · exact V.frame k hk0 hro
    · intro b l' o' hb hl' he
      obtain ⟨h1, h2⟩ := Sig.lt_some hl'
      rw [hKH b h1] at hb
      obtain ⟨b0, l0, o0, e0, e1, e2, e3⟩ := V.own b l' o' hb h2 (by omega)
      have hro0 := hro b0 l0 o0 e0 e1 (by omega)
      rcases e3 with e3 | e3
      · rw [hro0] at e3; cases e3
      · subst e3
        have := V.ro b0 o0 e0 hro0
        rw [hb] at this; injection this with this; subst this; exact hro0
  · intro b l' o' hb hl' hlt
    rcases Nat.lt_or_ge b (stAt l sN (i + 1)).nx with h | h
    · rw [hKlo b h] at hb; rw [hlo b h] at hl'
      obtain ⟨b1, l1, o1, f1, f2, f3, f4⟩ := hs.own b l' o' hb hl' (Nat.lt_of_lt_of_le hlt V.wsize)
      obtain ⟨h1, h2⟩ := Sig.lt_some f2
      have f1' := f1
      rw [hKH b1 h1] at f1'
      obtain ⟨b0, l0, o0, e0, e1, e2, e3⟩ := V.own b1 l1 o1 f1' h2 (by omega)
      refine ⟨b0, l0, o0, e0, e1, by omega, ?_⟩
      rcases f4 with f4 | f4
      · rcases e3 with e3 | e3
        · exact .inl e3
        · subst e3
          cases hr : o0.isRo with
          | false => exact .inl rfl
          | true =>
            have := V.ro b0 o0 e0 hr
            rw [f1'] at this; injection this with this; subst this
            rw [hr] at f4; cases f4
      · subst f4; exact e3
    · rw [hKhi b h] at hb; rw [hhi b h] at hl'
      exact V.own b l' o' hb hl' hlt
end DRun
end CI
