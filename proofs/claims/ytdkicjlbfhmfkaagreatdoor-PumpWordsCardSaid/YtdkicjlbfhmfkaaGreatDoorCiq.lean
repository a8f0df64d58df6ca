/- CI, part q: a region that draws its order. -/
import Derived.Test.YtdkicjlbfhmfkaaGreatDoorCip
set_option linter.unusedVariables false
set_option linter.unusedSimpArgs false
noncomputable section
namespace CI
open Go

theorem OR.toRo {σ : Sig} {l : Loc} {o : AObj} {ob : Option Obj} (h : OR σ l o ob) : OR σ l o.toRo ob := by
  cases o with
  | cells cs t ro =>
    obtain ⟨C, fz, e, h1, h2, h3, h4⟩ := h
    exact ⟨C, fz, e, h1, h2, h3, fun h => by cases h⟩
  | map es ro => exact h
  | iter ro => exact h
  | nit ro => exact h
theorem toRo_isRo (o : AObj) : o.toRo.isRo = true := by cases o <;> rfl

theorem addNews_fold : ∀ (L : List DS) (H : Heap) {b : Nat} {o : AObj}, (L.foldl (fun H d => match d.k with | .new ob => H.put d.s.nx (some ob) | _ => H) H).get b = some o →
    (∃ d ∈ L, d.k = .new o ∧ d.s.nx = b) ∨ H.get b = some o
  | [], H, b, o, h => .inr h
  | d :: L, H, b, o, h => by
    rw [List.foldl_cons] at h
    rcases addNews_fold L _ h with ⟨d', h1, h2, h3⟩ | h
    · exact .inl ⟨d', List.mem_cons_of_mem _ h1, h2, h3⟩
    · split at h
      · rename_i ob hk
        by_cases e : b = d.s.nx
        · subst e; rw [Tr.get_put_same] at h; injection h with h; subst h; exact .inl ⟨d, by simp, hk, rfl⟩
        · rw [Tr.get_put_ne _ _ _ _ e] at h; exact .inr h
      · exact .inr h
theorem addNews_get {l : List DS} {p : Nat} {H : Heap} {b : Nat} {o : AObj} (h : (addNews l p H).get b = some o) : (∃ j d, p ≤ j ∧ l[j]? = some d ∧ d.k = .new o ∧ d.s.nx = b) ∨ H.get b = some o := by
  rcases addNews_fold _ _ h with ⟨d, h1, h2, h3⟩ | h
  · obtain ⟨j, hj, rfl⟩ := List.mem_iff_getElem.1 h1
    refine .inl ⟨p + j, _, by omega, ?_, h2, h3⟩
    rw [List.length_drop] at hj
    rw [List.getElem_drop, List.getElem?_eq_getElem]
  · exact .inr h

theorem callA_congr {C : Cx} {call : CallF} {ρ ρ' : Operand → AV} {c : Call} (h : ∀ x ∈ c.operands, ρ x = ρ' x) (H : Heap) (nx : Nat) : callA C call ρ c H nx = callA C call ρ' c H nx := by
  unfold callA
  cases hc : c.callee with
  | value f =>
    have h1 : ρ f = ρ' f := h f (by simp [Call.operands, hc])
    have h2 : c.args.toList.map ρ = c.args.toList.map ρ' := List.map_congr_left fun x hx => h x (by simp [Call.operands]; exact .inr (by simpa using hx))
    simp only [h1, h2]
  | invoke => rfl
  | builtin => rfl
theorem stepA_congr {C : Cx} {call : CallF} {ρ ρ' : Operand → AV} {o : Op} (h : ∀ x ∈ o.operands, ρ x = ρ' x) (H : Heap) (nx : Nat) : stepA C call ρ o H nx = stepA C call ρ' o H nx := by
  unfold stepA
  split
  · rename_i c
    rw [callA_congr (c := c) h, opA_congr h]
  · exact opA_congr h H nx

namespace DRun
variable {C : Cx} {call : CallF} {nt : Nat} {ops : Array Oper} {s0 sN : St} {l : List DS}
variable {σ0 : Sig} {w0 : World} {S : Nat → Prop} {σ : Sig} {p : Nat} {a : Act} {w w' : World}

theorem mem_effs {e : Nat} : e ∈ effIdx l ↔ ∃ d, l[e]? = some d ∧ d.k = .eff := by
  unfold effIdx
  rw [List.mem_filterMap]
  constructor
  · rintro ⟨⟨d, i⟩, hm, h⟩
    rw [List.mk_mem_zipIdx_iff_getElem?] at hm
    simp only at h
    split at h
    · injection h with h; subst h; exact ⟨d, hm, ‹_›⟩
    · cases h
  · rintro ⟨d, hd, hk⟩
    exact ⟨(d, e), by rw [List.mk_mem_zipIdx_iff_getElem?]; exact hd, by simp [hk]⟩

theorem last_nx (D : DRun C call nt ops s0 l sN) : (stAt l sN l.length).nx = sN.nx := by simp [stAt]

/-- An operation whose turn has come. -/
theorem Inv.turn (hC : C.OK) (hcall : CallOK C call) (D : DRun C call nt ops s0 l sN) (V : Inv C call nt ops s0 l sN σ0 w0 S σ p a w) (g0 : Good σ0 s0.H s0.nx w0) {i : Nat} {o : Oper}
    (ho : ops[i]? = some o) (hS : ¬ S i) (hdep : ∀ e ∈ bnds o, S e.on) {Q : Exit → Act → World → Prop} {N : Act → World → Prop}
    (hN : ∀ σ' p' a' w', Inv C call nt ops s0 l sN σ0 w0 (plus S i) σ' p' a' w' → N a' w') : wpOp C.P ops Q i N a w := by
  obtain ⟨d, hd⟩ := D.ds ho
  have hil := (List.getElem?_eq_some_iff.1 hd).1
  have hkind := D.kind ho hd
  obtain ⟨ρ, hρ, hcong⟩ := V.rho D g0 ho hd hS hdep
  have hw := V.wants D g0 ho hd hS hdep
  unfold wpOp
  rw [ho]
  simp only
  rw [hw]
  -- an operation on a heap of which nothing is written
  have calm : ∀ {X X' : Heap} {n n' : Nat} {τ : Sig}, Good τ X n w → (∀ x, VR τ (ρ x) (a.eval x)) → (∀ b o', X.get b = some o' → o'.isRo = true) → opA C (ev d.s.env) o.op X n = some (d.v, X', n') →
      (∀ x w' τ', VR τ' d.v x → Step τ X n w τ' X' n' w' → Good τ' X' n' w' → w.heap.size ≤ w'.heap.size → (∀ k, k < w.heap.size → w'.heap[k]? = w.heap[k]?) → N (a.put o.dst x) w') → o.wp C.P a w N Q := by
    intro X X' n n' τ g hr hro hop hn
    rw [opA_congr hcong] at hop
    refine (opA_out hC g hr hop).wp fun x w' τ' h1 h2 h3 => hn x w' τ' h1 h2 h3 h2.size fun k hk => h2.frame k hk fun b l' o' hb _ _ => hro b o' hb
  have gnil : Good (σ.lt d.s.nx) .nil d.s.nx w := ⟨⟨⟨fun b o' l' hb => (by cases hb), fun b b' o1 o2 l1 l2 hb => (by cases hb)⟩, fun b hb => ⟨Sig.lt_ge hb, rfl⟩⟩, glb_of g0 V.frame, fun b l o hb => (by cases hb)⟩
  cases hk : d.k <;> rw [hk] at hkind <;> simp only at hkind
  · -- not wanted
    obtain ⟨k1, k2, k3, k4⟩ := hkind
    rw [k1, if_neg (by simp)]
    refine hN σ p _ _ (V.quiet D g0 ho hd hS hdep (by rw [hk]; simp) (Nat.le_refl _) (fun _ _ => rfl) rfl rfl rfl (by rw [k2]; simp [VR]) (.inl ⟨rfl, trivial⟩))
  · -- still
    obtain ⟨k1, k2, ⟨X, k3⟩, k4, k5⟩ := hkind
    rw [k1, if_pos rfl]
    refine .inl (calm gnil hρ (fun b o' hb => by cases hb) k3 fun x w' τ' h1 h2 h3 h4 h5 => ?_)
    refine hN σ p _ _ (V.quiet D g0 ho hd hS hdep (by rw [hk]; simp) h4 h5 h2.os h2.tape h2.output (h1.ext fun b l' hb => ?_) (.inl ⟨rfl, trivial⟩))
    rw [k5]
    rcases Nat.lt_or_ge b d.s.nx with h | h
    · rw [← h2.old b h]; exact hb
    · rw [(h3.fresh b h).1] at hb; cases hb
  · -- it reads
    obtain ⟨k1, k2, k3, k4, k5⟩ := hkind
    rw [k1, if_pos rfl]
    have hread := D.reads i o d ho hd hk
    unfold readOK at hread
    rw [List.all_eq_true] at hread
    have hpm : p ∈ 0 :: (effIdx l).map (· + 1) := by
      rcases V.front with h | ⟨e, d', he, hek, h⟩
      · rw [h]; simp
      · rw [h]; simp only [List.mem_cons, List.mem_map]; exact .inr ⟨e, mem_effs.2 ⟨d', he, hek⟩, rfl⟩
    have := hread p hpm
    have hall : allowed (ancs ops.toList []) (effIdx l) i p = true := by
      unfold allowed
      rw [List.all_eq_true]
      intro e he
      obtain ⟨d', he', hek⟩ := mem_effs.1 he
      obtain ⟨oe, hoe⟩ := D.oper he'
      have cl := anc_closed D.stat (S := S) (fun i o h1 h2 => V.down i o h1 (by simpa using h2))
      split
      · rename_i hlt
        cases hb : ((ancs ops.toList []).getD e 0).testBit i with
        | false => rfl
        | true => exact absurd (cl (e + 1) e oe (by omega) (by simpa using hoe) (V.down e oe ((V.effs e d' he' hek).2 hlt) hoe) i hb) hS
      · rename_i hlt
        cases hb : ((ancs ops.toList []).getD i 0).testBit e with
        | false => rfl
        | true => exact absurd ((V.effs e d' he' hek).1 (cl (i + 1) i o (by omega) (by simpa using ho) hdep e hb)) hlt
    rw [hall] at this
    simp only [Bool.not_true, Bool.false_or] at this
    split at this
    · rename_i v' X nx' hop
      simp only [Bool.and_eq_true, decide_eq_true_eq] at this
      obtain ⟨e1, e2⟩ := this
      have e2 := AV.eqB_ok e2
      subst e1; subst e2
      have hplen := D.nx_mono V.ple (Nat.le_refl _)
      rw [D.last_nx] at hplen
      have hsub : ∀ b o', (roAll (addNews l p (stAt l sN p).H)).get b = some o' → ∃ o2, KK l sN p b = some o2 ∧ o' = o2.toRo ∧ b < sN.nx := by
        intro b o' hb
        rw [roAll_get, Option.map_eq_some_iff] at hb
        obtain ⟨o2, hb, rfl⟩ := hb
        refine ⟨o2, ?_, rfl, ?_⟩
        · rcases addNews_get hb with ⟨j, dj, hpj, hj, hkj, rfl⟩ | hb
          · have hm := D.nx_mono hpj (Nat.le_of_lt (List.getElem?_eq_some_iff.1 hj).1)
            rw [show (stAt l sN j).nx = dj.s.nx by unfold stAt; rw [hj]] at hm
            unfold KK
            rw [if_neg (by omega)]
            exact D.newAt_of hpj hj hkj
          · have hlt : b < (stAt l sN p).nx := by
              rcases Nat.lt_or_ge b (stAt l sN p).nx with h | h
              · exact h
              · rw [V.fresh b h] at hb; cases hb
            unfold KK
            rw [if_pos hlt]; exact hb
        · rcases addNews_get hb with ⟨j, dj, hpj, hj, hkj, rfl⟩ | hb
          · obtain ⟨oj, hoj⟩ := D.oper hj
            have hkj' := D.kind hoj hj
            rw [hkj] at hkj'
            have hjl := (List.getElem?_eq_some_iff.1 hj).1
            have := D.nx_mono (i := j + 1) (j := l.length) (by omega) (Nat.le_refl _)
            rw [D.last_nx, hkj'.2.2.2.2] at this
            omega
          · rcases Nat.lt_or_ge b (stAt l sN p).nx with h | h
            · omega
            · rw [V.fresh b h] at hb; cases hb
      have g : Good σ (roAll (addNews l p (stAt l sN p).H)) sN.nx w := by
        refine ⟨⟨⟨?_, ?_⟩, fun b hb => ⟨?_, ?_⟩⟩, glb_of g0 V.frame, fun b l' o' hb _ hr => ?_⟩
        rotate_left 4
        · obtain ⟨o2, _, rfl, _⟩ := hsub b o' hb
          rw [toRo_isRo] at hr; cases hr
        · intro b o' l' hb hl'
          obtain ⟨o2, h1, rfl, h2⟩ := hsub b o' hb
          exact ((V.sim.obj b o2 l' h1 hl').ext (Sig.lt_ext _ _)).toRo
        · intro b b' o1 o2 l1 l2 hb hb' hl1 hl2 he
          obtain ⟨o3, h1, _, h2⟩ := hsub b o1 hb
          obtain ⟨o4, h3, _, h4⟩ := hsub b' o2 hb'
          exact V.sim.inj b b' o3 o4 l1 l2 h1 h3 hl1 hl2 he
        · cases hs : σ b with
          | none => rfl
          | some l' =>
            obtain ⟨j, dj, ob, _, hj, hkj, hn⟩ := V.above b (by omega) (by rw [hs]; simp)
            obtain ⟨oj, hoj⟩ := D.oper hj
            have hkj' := D.kind hoj hj
            rw [hkj] at hkj'
            have hjl := (List.getElem?_eq_some_iff.1 hj).1
            have := D.nx_mono (i := j + 1) (j := l.length) (by omega) (Nat.le_refl _)
            rw [D.last_nx, hkj'.2.2.2.2] at this
            omega
        · cases hb' : (roAll (addNews l p (stAt l sN p).H)).get b with
          | none => rfl
          | some o' =>
            obtain ⟨_, _, _, h2⟩ := hsub b o' hb'
            omega
      refine .inl (calm g (fun x => (hρ x).ext (Sig.lt_ext _ _)) (fun b o' hb => ?_) hop fun x w' τ' h1 h2 h3 h4 h5 => ?_)
      · obtain ⟨o2, _, rfl, _⟩ := hsub b o' hb
        exact toRo_isRo o2
      · refine hN σ p _ _ (V.quiet D g0 ho hd hS hdep (by rw [hk]; simp) h4 h5 h2.os h2.tape h2.output ?_ (.inl ⟨rfl, trivial⟩))
        rw [k5]
        refine VR.lt k3 (h1.ext fun b l' hb => ?_)
        rcases Nat.lt_or_ge b sN.nx with h | h
        · rw [← h2.old b h]; exact hb
        · rw [(h3.fresh b h).1] at hb; cases hb
    · cases this
  · -- it makes a block
    rename_i ob
    obtain ⟨k1, k2, ⟨X, k3, k3'⟩, k4, k5⟩ := hkind
    rw [k1, if_pos rfl]
    refine .inl (calm gnil hρ (fun b o' hb => by cases hb) k3 fun x w' τ' h1 h2 h3 h4 h5 => ?_)
    cases hs : τ' d.s.nx with
    | none =>
      refine hN σ p _ _ (V.quiet D g0 ho hd hS hdep (by rw [hk]; simp) h4 h5 h2.os h2.tape h2.output (h1.ext fun b l' hb => ?_) (.inl ⟨rfl, trivial⟩))
      rw [k5]
      rcases Nat.lt_or_ge b d.s.nx with h | h
      · rw [h2.old b h] at hb
        exact Sig.lt_mono (Ext.refl σ) (Nat.le_succ _) b l' hb
      · rcases Nat.lt_or_ge b (d.s.nx + 1) with h' | h'
        · have : b = d.s.nx := by omega
          subst this; rw [hs] at hb; cases hb
        · rw [(h3.fresh b h').1] at hb; cases hb
    | some loc =>
      have hτ : Ext τ' ((σ.upd d.s.nx loc).lt (d.s.nx + 1)) := fun b l' hb => by
        rcases Nat.lt_or_ge b (d.s.nx + 1) with h | h
        · rw [Sig.lt_of h]
          by_cases e : b = d.s.nx
          · subst e; rw [Sig.upd_same, ← hs]; exact hb
          · rw [Sig.upd_ne _ _ _ e]
            rw [h2.old b (by omega), Sig.lt_of (by omega)] at hb
            exact hb
        · rw [(h3.fresh b h).1] at hb; cases hb
      refine hN (σ.upd d.s.nx loc) p _ _ (V.quiet D g0 ho hd hS hdep (by rw [hk]; simp) h4 h5 h2.os h2.tape h2.output (by rw [k5]; exact h1.ext hτ) (.inr ⟨loc, ob, hk, rfl, ?_, ?_⟩))
      · rcases Nat.lt_or_ge loc.blk w.heap.size with h | h
        · obtain ⟨b0, l0, o0, hb0, _⟩ := h2.own d.s.nx loc ob k3' hs h
          cases hb0
        · exact h
      · exact (h3.obj d.s.nx ob loc k3' hs).ext hτ
  · -- an effect
    obtain ⟨k1, k2, k3, k4⟩ := hkind
    rw [k1, if_pos rfl]
    obtain ⟨g, hfin⟩ := V.effect D g0 ho hd hS hdep hk
    rw [stepA_congr hcong] at k3
    refine .inl (stepA_wp hC hcall g hρ k3 fun x w' σ1 h1 h2 h3 => ?_)
    obtain ⟨σ', V'⟩ := hfin h1 h2 h3
    exact hN σ' (i + 1) _ _ V'
end DRun
end CI
