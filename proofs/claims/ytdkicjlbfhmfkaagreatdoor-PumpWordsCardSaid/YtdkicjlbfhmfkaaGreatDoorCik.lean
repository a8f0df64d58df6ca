/- CI, part k: regions in the text's order; calls. -/
import Derived.Test.YtdkicjlbfhmfkaaGreatDoorCij
set_option linter.unusedVariables false
set_option linter.unusedSimpArgs false
noncomputable section
namespace CI
open Go

variable {σ σ' : Sig} {H H' : Heap} {nx nx' : Nat} {w w' : World}

abbrev CallF := FuncId → List AV → Heap → Nat → Res

def callA (C : Cx) (call : CallF) (ρ : Operand → AV) (c : Call) (H : Heap) (nx : Nat) : Res :=
  match c.callee with
  | .value f =>
    match ρ f with
    | .func (.func k) fs cs =>
      match C.X k (fs ++ c.args.toList.map ρ ++ cs) with
      | some v => some (v, H, nx)
      | none => match C.Z k (fs ++ c.args.toList.map ρ ++ cs) H nx with
        | some r => some r
        | none => call k (fs ++ c.args.toList.map ρ ++ cs) H nx
    | _ => none
  | _ => none

def isCall : Op → Bool
  | .call { callee := .builtin _, .. } => false
  | .call _ => true
  | _ => false

def stepA (C : Cx) (call : CallF) (ρ : Operand → AV) (o : Op) (H : Heap) (nx : Nat) : Res :=
  match o with
  | .call c => if isCall (.call c) then callA C call ρ c H nx else opA C ρ (.call c) H nx
  | o => opA C ρ o H nx

/-- What a call leaves. -/
def RetPost (σ : Sig) (H : Heap) (nx : Nat) (w : World) (v : AV) (H' : Heap) (nx' : Nat) : Ending → World → Prop := fun e w' =>
  ∃ x σ', e = .returned x ∧ VR σ' v x ∧ Step σ H nx w σ' H' nx' w' ∧ Good σ' H' nx' w'

def CallOK (C : Cx) (call : CallF) : Prop := ∀ k args H nx v H' nx', call k args H nx = some (v, H', nx') → ∀ (σ : Sig) (w : World) (xs : List Value), VRs σ args xs → Good σ H nx w →
  (callFunc k xs.toArray).run C.P w = .ok (.enter k xs.toArray) w ∧ Calls C.P k xs.toArray w (RetPost σ H nx w v H' nx')

theorem OutN.wp {P : Program} {o : Oper} {a : Act} {v : AV} {next : Act → World → Prop} {Q : Exit → Act → World → Prop} (h : OutN P σ H nx w v H' nx' (execOp a.eval o))
    (hn : ∀ x w' σ', VR σ' v x → Step σ H nx w σ' H' nx' w' → Good σ' H' nx' w' → next (a.put o.dst x) w') : o.wp P a w next Q := by
  obtain ⟨x, w', σ', h1, h2, h3, h4⟩ := h
  unfold Oper.wp
  rcases h1 with h1 | ⟨h1, rfl⟩
  · rw [h1]; exact hn x w' σ' h2 h3 h4
  · rw [h1]; exact hn _ w' σ' h2 h3 h4

theorem stepA_wp {C : Cx} (hC : C.OK) {call : CallF} (hcall : CallOK C call) (g : Good σ H nx w) {ρ : Operand → AV} {a : Act} (he : ∀ x, VR σ (ρ x) (a.eval x)) {o : Oper} {v : AV}
    (h : stepA C call ρ o.op H nx = some (v, H', nx')) {next : Act → World → Prop} {Q : Exit → Act → World → Prop}
    (hn : ∀ x w' σ', VR σ' v x → Step σ H nx w σ' H' nx' w' → Good σ' H' nx' w' → next (a.put o.dst x) w') : o.wp C.P a w next Q := by
  unfold stepA at h
  split at h
  · rename_i c hop
    split at h
    · rename_i hic
      unfold callA at h
      split at h
      · rename_i f hcal
        split at h
        · rename_i k fs cs hf
          have hfv := he f
          rw [hf] at hfv
          simp only [VR] at hfv
          obtain ⟨fs', cs', hfe, hfs, hcs⟩ := hfv
          have hargs := (hfs.append (evs_VRs he c.args.toList)).append hcs
          have hexec : (execOp a.eval o).run C.P w = (callFunc k (fs' ++ c.args.toList.map a.eval ++ cs').toArray).run C.P w := by
            unfold execOp
            simp only [hop]
            unfold resolve
            simp only [hcal, hfe, Deferred.ofValue]
            rw [run_bind_ok (run_pure' _ w)]
            unfold invoke
            simp only
            congr 2
            apply Array.toList_inj.1
            simp
          split at h
          · rename_i u hX
            simp only [Option.some.injEq, Prod.mk.injEq] at h
            obtain ⟨rfl, rfl, rfl⟩ := h
            rcases hC.exts _ _ _ hX σ w _ g.glb hargs with ⟨x, hx1, hx2⟩ | ⟨h1, h2⟩
            · unfold Oper.wp
              rw [hexec, hx1]
              exact hn x w σ hx2 Step.refl g
            · unfold Oper.wp
              rw [hexec, h1]
              refine Calls.mono h2 ?_
              rintro e w' ⟨x, rfl, r1, r2⟩
              exact hn x w' σ r1 (Step.below r2) (g.below r2)
          · split at h
            · rename_i r hZ
              injection h with h; subst h
              obtain ⟨x, w', σ', h1, h2, h3, h4⟩ := hC.zs _ _ _ _ _ _ _ hZ σ w _ hargs g
              unfold Oper.wp
              rw [hexec, h1]
              exact hn x w' σ' h2 h3 h4
            · obtain ⟨h1, h2⟩ := hcall _ _ _ _ _ _ _ h σ w _ hargs g
              unfold Oper.wp
              rw [hexec, h1]
              refine Calls.mono h2 ?_
              rintro e w' ⟨x, σ', rfl, r1, r2, r3⟩
              exact hn x w' σ' r1 r2 r3
        · cases h
      · cases h
    · rw [← hop] at h
      exact (opA_out hC g he h).wp hn
  · exact (opA_out hC g he h).wp hn

/-! ### a region in the text's order -/
structure St where
  env : Tr AV
  H : Heap
  nx : Nat

def put? (env : Tr AV) (nt : Nat) (d : Option Nat) (v : AV) : Option (Tr AV) :=
  match d with
  | none => some env
  | some d => if d < nt then some (env.put d (some v)) else none

def wantedA (ops : Array Oper) (o : Oper) (env : Tr AV) : Bool :=
  match o.guard with
  | none => true
  | some (j, want) =>
    match (ops[j]?).bind (·.dst) with
    | some d =>
      match (env.get d).getD (.lit undef) with
      | .lit (.bool b) => b == want
      | _ => false
    | none => false

theorem wantedA_eq' {ops : Array Oper} {o : Oper} {env : Tr AV} {a : Act} (he : ∀ j want d, o.guard = some (j, want) → (ops[j]?).bind (·.dst) = some d → VR σ ((env.get d).getD (.lit undef)) (a.tmps.getD d undef)) :
    Region.wanted o (yielded ops a.tmps) = wantedA ops o env := by
  unfold Region.wanted wantedA yielded
  cases hg : o.guard with
  | none => rfl
  | some p =>
    obtain ⟨j, want⟩ := p
    simp only
    cases hd : (ops[j]?).bind (·.dst) with
    | none => rfl
    | some d =>
      simp only [Option.bind_some]
      have := he j want d hg hd
      cases ht : a.tmps[d]? with
      | none =>
        have h2 : a.tmps.getD d undef = undef := by simp [Array.getD_eq_getD_getElem?, ht]
        rw [h2] at this
        simp only
        split
        · rename_i b hb
          rw [hb] at this
          simp only [VR, undef] at this
          cases this
        · rfl
      | some x =>
        have h2 : a.tmps.getD d undef = x := by simp [Array.getD_eq_getD_getElem?, ht]
        rw [h2] at this
        generalize (env.get d).getD (.lit undef) = v at this
        cases x with
        | bool b =>
          simp only
          cases v with
          | lit u => simp only [VR] at this; subst this; rfl
          | ptr => simp only [VR] at this; obtain ⟨_, _, h⟩ := this; cases h
          | slice => simp only [VR] at this; obtain ⟨_, _, _, h, _⟩ := this; cases h
          | eslice => simp only [VR] at this; obtain ⟨_, _, h⟩ := this; cases h
          | map => simp only [VR] at this; obtain ⟨_, _, h⟩ := this; cases h
          | func => simp only [VR] at this; obtain ⟨_, _, h, _⟩ := this; cases h
          | iface => simp only [VR] at this; obtain ⟨_, h, _⟩ := this; cases h
          | agg => simp only [VR] at this; obtain ⟨_, h, _⟩ := this; cases h
          | tuple => simp only [VR] at this; obtain ⟨_, h, _⟩ := this; cases h
        | _ =>
          simp only
          split
          · rename_i b hb; simp only [VR] at this; cases this
          · rfl

theorem wantedA_eq {ops : Array Oper} {o : Oper} {env : Tr AV} {a : Act} (he : EnvR σ env a) : Region.wanted o (yielded ops a.tmps) = wantedA ops o env :=
  wantedA_eq' fun _ _ d _ _ => he d

def runOps (C : Cx) (call : CallF) (nt : Nat) (ops : Array Oper) : List Oper → St → Option St
  | [], s => some s
  | o :: rest, s =>
    if wantedA ops o s.env then
      match stepA C call (ev s.env) o.op s.H s.nx with
      | some (v, H', nx') =>
        match put? s.env nt o.dst v with
        | some env' => runOps C call nt ops rest ⟨env', H', nx'⟩
        | none => none
      | none => none
    else
      match put? s.env nt o.dst (.lit undef) with
      | some env' => runOps C call nt ops rest ⟨env', s.H, s.nx⟩
      | none => none

/-- What holds of an activation. -/
structure ActR (σ : Sig) (env : Tr AV) (nt : Nat) (a : Act) : Prop where
  env : EnvR σ env a
  size : a.tmps.size = nt
  defers : a.defers = []

theorem put?_ok {env env' : Tr AV} {nt : Nat} {d : Option Nat} {v : AV} {a : Act} {x : Value} (he : ActR σ env nt a) (hv : VR σ v x) (h : put? env nt d v = some env') :
    ActR σ env' nt (a.put d x) := by
  unfold put? at h
  split at h
  · injection h with h; subst h; exact he
  · split at h
    · injection h with h; subst h
      exact ⟨he.env.put (by rw [he.size]; assumption) hv, by simp [Act.put, he.size], by simp [Act.put, he.defers]⟩
    · cases h
theorem ActR.ext {env : Tr AV} {nt : Nat} {a : Act} (h : ActR σ env nt a) (he : Ext σ σ') : ActR σ' env nt a := ⟨h.env.ext he, h.size, h.defers⟩

theorem runOps_wp {C : Cx} (hC : C.OK) {call : CallF} (hcall : CallOK C call) {nt : Nat} {ops : Array Oper} {Q : Exit → Act → World → Prop} :
    ∀ (l : List Oper) (s s' : St) (σ : Sig) (w : World) (a : Act), runOps C call nt ops l s = some s' → ActR σ s.env nt a → Good σ s.H s.nx w →
      (∀ σ' w' a', ActR σ' s'.env nt a' → Step σ s.H s.nx w σ' s'.H s'.nx w' → Good σ' s'.H s'.nx w' → Q .normal a' w') → wpList C.P ops Q l a w
  | [], s, s', σ, w, a, h, he, g, hq => by
    simp only [runOps, Option.some.injEq] at h
    subst h
    exact hq σ w a he Step.refl g
  | o :: rest, s, s', σ, w, a, h, he, g, hq => by
    simp only [runOps] at h
    unfold wpList
    rw [wantedA_eq he.env]
    split at h
    · rename_i hw
      rw [if_pos hw]
      split at h
      · rename_i v H' nx' hst
        split at h
        · rename_i env' hput
          refine .inl (stepA_wp hC hcall g (ev_VR he.env) hst fun x w' σ' hv hs hg => ?_)
          refine runOps_wp hC hcall rest _ s' σ' w' _ h (put?_ok (he.ext (Step.ext g hs)) hv hput) hg ?_
          intro σ'' w'' a'' h1 h2 h3
          exact hq σ'' w'' a'' h1 (Step.trans g hs h2) h3
        · cases h
      · cases h
    · rename_i hw
      rw [if_neg hw]
      split at h
      · rename_i env' hput
        exact runOps_wp hC hcall rest _ s' σ w _ h (put?_ok he (by simp [VR]) hput) g hq
      · cases h
end CI
