/- CI, part y: code without its marks, and what must hold for an end to be reached. -/
import Derived.Test.YtdkicjlbfhmfkaaGreatDoorCix
set_option linter.unusedVariables false
set_option linter.unusedSimpArgs false
noncomputable section
namespace CI
open Go

structure SOp where
  op : Op
  dst : Option Nat
  guard : Option (Option Nat × Bool)

inductive SC where
  | skip
  | ops (l : List SOp)
  | draw (ops : Array Oper)
  | seq (a b : SC)
  | cond (x : Operand) (a b : SC)
  | block (id : Nat) (a : SC)
  | loop (a : SC)
  | exit (id : Nat)
  | ret
  | bad

def stripO (ops : Array Oper) (o : Oper) : SOp := ⟨o.op, o.dst, o.guard.map fun p => ((ops[p.1]?).bind (·.dst), p.2)⟩
def strip : Code → SC
  | .skip => .skip
  | .label _ => .skip
  | .region _ ops false => .ops (ops.toList.map (stripO ops))
  | .region _ ops true => .draw ops
  | .seq a b => .seq (strip a) (strip b)
  | .cond x a b => .cond x (strip a) (strip b)
  | .block id a => .block id (strip a)
  | .loop a => .loop (strip a)
  | .exit id => .exit id
  | .ret => .ret
  | _ => .bad

def wantedS (g : Option (Option Nat × Bool)) (env : Tr AV) : Bool :=
  match g with
  | none => true
  | some (some d, want) =>
    match (env.get d).getD (.lit undef) with
    | .lit (.bool b) => b == want
    | _ => false
  | some (none, _) => false

def runS (C : Cx) (call : CallF) (nt : Nat) : List SOp → St → Option St
  | [], s => some s
  | o :: rest, s =>
    if wantedS o.guard s.env then
      match stepA C call (ev s.env) o.op s.H s.nx with
      | some (v, H', nx') =>
        match put? s.env nt o.dst v with
        | some env' => runS C call nt rest ⟨env', H', nx'⟩
        | none => none
      | none => none
    else
      match put? s.env nt o.dst (.lit undef) with
      | some env' => runS C call nt rest ⟨env', s.H, s.nx⟩
      | none => none

theorem wantedS_strip (ops : Array Oper) (o : Oper) (env : Tr AV) : wantedS (stripO ops o).guard env = wantedA ops o env := by
  unfold wantedS wantedA stripO
  cases hg : o.guard with
  | none => rfl
  | some p =>
    obtain ⟨j, want⟩ := p
    simp only [Option.map_some]
    cases hd : (ops[j]?).bind (·.dst) with
    | none => rfl
    | some d => rfl

theorem runS_strip (C : Cx) (call : CallF) (nt : Nat) (ops : Array Oper) : ∀ (l : List Oper) (s : St), runOps C call nt ops l s = runS C call nt (l.map (stripO ops)) s
  | [], s => rfl
  | o :: rest, s => by
    simp only [runOps, List.map_cons, runS, wantedS_strip, runS_strip C call nt ops rest]
    rfl

variable {C : Cx} {nt : Nat}

/-- The code ends, and then Q holds. -/
def Wp (C : Cx) (nt : Nat) (c : SC) (s : St) (Q : Ex → St → Prop) : Prop := ∃ ex s', (∀ c', strip c' = c → Ev C nt c' s = some (ex, s')) ∧ Q ex s'

def WOps (C : Cx) (nt : Nat) (l : List SOp) (s : St) (K : St → Prop) : Prop := match runS C (Cl C) nt l s with
  | some s' => K s'
  | none => False

theorem Wp_mono {c : SC} {s : St} {Q Q' : Ex → St → Prop} (h : ∀ e s', Q e s' → Q' e s') : Wp C nt c s Q → Wp C nt c s Q'
  | ⟨e, s', h1, h2⟩ => ⟨e, s', h1, h e s' h2⟩
theorem Wp_skip {s : St} {Q : Ex → St → Prop} (h : Q .normal s) : Wp C nt .skip s Q := by
  refine ⟨.normal, s, fun c' hc => ?_, h⟩
  cases c' <;> try simp only [strip, reduceCtorEq] at hc
  · rw [Ev_eq]; rfl
  · rename_i b; cases b <;> simp [strip] at hc
  · rw [Ev_eq]; rfl
theorem Wp_ret {s : St} {Q : Ex → St → Prop} (h : Q .ret s) : Wp C nt .ret s Q := by
  refine ⟨.ret, s, fun c' hc => ?_, h⟩
  cases c' <;> try simp only [strip, reduceCtorEq] at hc
  · rename_i b; cases b <;> simp [strip] at hc
  · rw [Ev_eq]; rfl
theorem Wp_exit {s : St} {id : Nat} {Q : Ex → St → Prop} (h : Q (.exit id) s) : Wp C nt (.exit id) s Q := by
  refine ⟨.exit id, s, fun c' hc => ?_, h⟩
  cases c' <;> try simp only [strip, reduceCtorEq] at hc
  · rename_i b; cases b <;> simp [strip] at hc
  · rw [Ev_eq]; injection hc with hc; subst hc; rfl
theorem Wp_ops {l : List SOp} {s : St} {Q : Ex → St → Prop} (h : WOps C nt l s (Q .normal)) : Wp C nt (.ops l) s Q := by
  unfold WOps at h
  split at h
  · rename_i s' hs
    refine ⟨.normal, s', fun c' hc => ?_, h⟩
    cases c' <;> try simp only [strip, reduceCtorEq] at hc
    rename_i b
    cases b <;> simp only [strip, SC.ops.injEq, reduceCtorEq] at hc
    rw [Ev_eq]
    simp only [execS]
    have : callS C (Ev C) = Cl C := rfl
    rw [this, runS_strip, hc, hs]
    rfl
  · cases h
theorem Wp_draw {ops : Array Oper} {s s' : St} {Q : Ex → St → Prop} (hr : runDraw C (Cl C) nt ops s = some s') (h : Q .normal s') : Wp C nt (.draw ops) s Q := by
  refine ⟨.normal, s', fun c' hc => ?_, h⟩
  cases c' <;> try simp only [strip, reduceCtorEq] at hc
  rename_i b
  cases b <;> simp only [strip, SC.draw.injEq, reduceCtorEq] at hc
  subst hc
  rw [Ev_eq]
  simp only [execS]
  have : callS C (Ev C) = Cl C := rfl
  rw [this, hr]
  rfl
theorem Wp_seq {a b : SC} {s : St} {Q : Ex → St → Prop} (h : Wp C nt a s fun e s' => match e with
    | .normal => Wp C nt b s' Q
    | e => Q e s') : Wp C nt (.seq a b) s Q := by
  obtain ⟨e, s', h1, h2⟩ := h
  have key : ∀ c', strip c' = .seq a b → ∃ a' b', c' = .seq a' b' ∧ strip a' = a ∧ strip b' = b := by
    intro c' hc
    cases c' <;> try simp only [strip, reduceCtorEq] at hc
    · rename_i b; cases b <;> simp [strip] at hc
    · rename_i a' b'; injection hc with e1 e2; exact ⟨a', b', rfl, e1, e2⟩
  cases e with
  | normal =>
    obtain ⟨e2, s2, h3, h4⟩ := h2
    refine ⟨e2, s2, fun c' hc => ?_, h4⟩
    obtain ⟨a', b', rfl, ea, eb⟩ := key c' hc
    rw [Ev_eq]; simp only [execS, h1 a' ea, h3 b' eb]
  | exit i =>
    refine ⟨_, s', fun c' hc => ?_, h2⟩
    obtain ⟨a', b', rfl, ea, eb⟩ := key c' hc
    rw [Ev_eq]; simp only [execS, h1 a' ea]
  | ret =>
    refine ⟨_, s', fun c' hc => ?_, h2⟩
    obtain ⟨a', b', rfl, ea, eb⟩ := key c' hc
    rw [Ev_eq]; simp only [execS, h1 a' ea]
theorem Wp_cond {x : Operand} {a b : SC} {s : St} {t : Bool} {Q : Ex → St → Prop} (hx : ev s.env x = .lit (.bool t)) (h : if t = true then Wp C nt a s Q else Wp C nt b s Q) : Wp C nt (.cond x a b) s Q := by
  have key : ∀ c', strip c' = .cond x a b → ∃ a' b', c' = .cond x a' b' ∧ strip a' = a ∧ strip b' = b := by
    intro c' hc
    cases c' <;> try simp only [strip, reduceCtorEq] at hc
    · rename_i b; cases b <;> simp [strip] at hc
    · rename_i y a' b'; injection hc with e0 e1 e2; subst e0; exact ⟨a', b', rfl, e1, e2⟩
  cases t with
  | true =>
    obtain ⟨e, s', h1, h2⟩ := (by simpa using h : Wp C nt a s Q)
    refine ⟨e, s', fun c' hc => ?_, h2⟩
    obtain ⟨a', b', rfl, ea, eb⟩ := key c' hc
    rw [Ev_eq]; simp only [execS, hx, h1 a' ea]
  | false =>
    obtain ⟨e, s', h1, h2⟩ := (by simpa using h : Wp C nt b s Q)
    refine ⟨e, s', fun c' hc => ?_, h2⟩
    obtain ⟨a', b', rfl, ea, eb⟩ := key c' hc
    rw [Ev_eq]; simp only [execS, hx, h1 b' eb]
theorem Wp_block {id : Nat} {a : SC} {s : St} {Q : Ex → St → Prop} (h : Wp C nt a s fun e s' => match e with
    | .exit i => if i = id then Q .normal s' else Q (.exit i) s'
    | e => Q e s') : Wp C nt (.block id a) s Q := by
  obtain ⟨e, s', h1, h2⟩ := h
  have key : ∀ c', strip c' = .block id a → ∃ a', c' = .block id a' ∧ strip a' = a := by
    intro c' hc
    cases c' <;> try simp only [strip, reduceCtorEq] at hc
    · rename_i b; cases b <;> simp [strip] at hc
    · rename_i y a'; injection hc with e0 e1; subst e0; exact ⟨a', rfl, e1⟩
  cases e with
  | normal =>
    refine ⟨_, s', fun c' hc => ?_, h2⟩
    obtain ⟨a', rfl, ea⟩ := key c' hc
    rw [Ev_eq]; simp only [execS, h1 a' ea]
  | exit i =>
    by_cases hi : i = id
    · simp only [if_pos hi] at h2
      refine ⟨_, s', fun c' hc => ?_, h2⟩
      obtain ⟨a', rfl, ea⟩ := key c' hc
      rw [Ev_eq]; simp only [execS, h1 a' ea, if_pos hi]
    · simp only [if_neg hi] at h2
      refine ⟨_, s', fun c' hc => ?_, h2⟩
      obtain ⟨a', rfl, ea⟩ := key c' hc
      rw [Ev_eq]; simp only [execS, h1 a' ea, if_neg hi]
  | ret =>
    refine ⟨_, s', fun c' hc => ?_, h2⟩
    obtain ⟨a', rfl, ea⟩ := key c' hc
    rw [Ev_eq]; simp only [execS, h1 a' ea]
theorem Wp_loop1 {a : SC} {s : St} {Q : Ex → St → Prop} (h : Wp C nt a s fun e s' => match e with
    | .normal => Wp C nt (.loop a) s' Q
    | e => Q e s') : Wp C nt (.loop a) s Q := by
  obtain ⟨e, s', h1, h2⟩ := h
  have key : ∀ c', strip c' = .loop a → ∃ a', c' = .loop a' ∧ strip a' = a := by
    intro c' hc
    cases c' <;> try simp only [strip, reduceCtorEq] at hc
    · rename_i b; cases b <;> simp [strip] at hc
    · rename_i a'; injection hc with e1; exact ⟨a', rfl, e1⟩
  cases e with
  | normal =>
    obtain ⟨e2, s2, h3, h4⟩ := h2
    refine ⟨e2, s2, fun c' hc => ?_, h4⟩
    obtain ⟨a', rfl, ea⟩ := key c' hc
    rw [Ev_eq]; simp only [execS, h1 a' ea, h3 _ hc]
  | exit i =>
    refine ⟨_, s', fun c' hc => ?_, h2⟩
    obtain ⟨a', rfl, ea⟩ := key c' hc
    rw [Ev_eq]; simp only [execS, h1 a' ea]
  | ret =>
    refine ⟨_, s', fun c' hc => ?_, h2⟩
    obtain ⟨a', rfl, ea⟩ := key c' hc
    rw [Ev_eq]; simp only [execS, h1 a' ea]
theorem Wp_loop {a : SC} {Q : Ex → St → Prop} (I : Nat → St → Prop) (h : ∀ n s, I n s → Wp C nt a s fun e s' => match e with
    | .normal => ∃ m, m < n ∧ I m s'
    | e => Q e s') : ∀ (n : Nat) (s : St), I n s → Wp C nt (.loop a) s Q := by
  intro n
  induction n using Nat.strongRecOn with
  | ind n ih =>
    intro s hs
    refine Wp_loop1 (Wp_mono ?_ (h n s hs))
    intro e s' he
    cases e with
    | normal =>
      obtain ⟨m, hm, hI⟩ := he
      exact ih m hm s' hI
    | _ => exact he

/-! ### the operations of a region, one after the other -/
theorem WOps_nil {s : St} {K : St → Prop} : WOps C nt [] s K = K s := rfl
theorem WOps_go {op : Op} {d : Option Nat} {rest : List SOp} {E : Tr AV} {H : Heap} {nx : Nat} {K : St → Prop} :
    WOps C nt (⟨op, d, none⟩ :: rest) ⟨E, H, nx⟩ K = match stepA C (Cl C) (ev E) op H nx with
      | some (v, H', nx') => match put? E nt d v with
        | some E' => WOps C nt rest ⟨E', H', nx'⟩ K
        | none => False
      | none => False := by
  unfold WOps
  simp only [runS, wantedS]
  cases stepA C (Cl C) (ev E) op H nx with
  | none => rfl
  | some r =>
    obtain ⟨v, H', nx'⟩ := r
    simp only
    cases put? E nt d v with
    | none => rfl
    | some E' => rfl
theorem WOps_skip {op : Op} {j : Nat} {want : Bool} {d : Option Nat} {rest : List SOp} {E : Tr AV} {H : Heap} {nx : Nat} {K : St → Prop} :
    WOps C nt (⟨op, d, some (some j, want)⟩ :: rest) ⟨E, H, nx⟩ K = if wantedS (some (some j, want)) E then WOps C nt (⟨op, d, none⟩ :: rest) ⟨E, H, nx⟩ K
      else match put? E nt d (.lit undef) with
        | some E' => WOps C nt rest ⟨E', H, nx⟩ K
        | none => False := by
  by_cases hw : wantedS (some (some j, want)) E = true
  · rw [if_pos hw]
    unfold WOps
    simp only [runS, if_pos hw, if_pos (show wantedS none E = true from rfl)]
  · rw [if_neg hw]
    unfold WOps
    simp only [runS, if_neg hw]
    cases put? E nt d (.lit undef) with
    | none => rfl
    | some E' => rfl

/-! ### for simp: what must hold, computed from the code -/
def condW (v : AV) (p q : Prop) : Prop := match v with
  | .lit (.bool t) => if t = true then p else q
  | _ => False
theorem condW_bool (t : Bool) (p q : Prop) : condW (.lit (.bool t)) p q = if t = true then p else q := rfl
def wpS (C : Cx) (nt : Nat) : SC → St → (Ex → St → Prop) → Prop
  | .skip, s, Q => Q .normal s
  | .ops l, s, Q => WOps C nt l s (Q .normal)
  | .draw ops, s, Q => match runDraw C (Cl C) nt ops s with
    | some s' => Q .normal s'
    | none => False
  | .seq a b, s, Q => wpS C nt a s fun e s' => match e with
    | .normal => wpS C nt b s' Q
    | e => Q e s'
  | .cond x a b, s, Q => condW (ev s.env x) (wpS C nt a s Q) (wpS C nt b s Q)
  | .block id a, s, Q => wpS C nt a s fun e s' => match e with
    | .exit i => if i = id then Q .normal s' else Q (.exit i) s'
    | e => Q e s'
  | .loop a, s, Q => Wp C nt (.loop a) s Q
  | .exit id, s, Q => Q (.exit id) s
  | .ret, s, Q => Q .ret s
  | .bad, _, _ => False
theorem Wp_of : ∀ {c : SC} {s : St} {Q : Ex → St → Prop}, wpS C nt c s Q → Wp C nt c s Q
  | .skip, s, Q, h => Wp_skip h
  | .ops l, s, Q, h => Wp_ops h
  | .draw ops, s, Q, h => by
    simp only [wpS] at h
    split at h
    · rename_i s' hs; exact Wp_draw hs h
    · cases h
  | .seq a b, s, Q, h => Wp_seq (Wp_mono (fun e s' he => by
      cases e with
      | normal => exact Wp_of he
      | _ => exact he) (Wp_of h))
  | .cond x a b, s, Q, h => by
    simp only [wpS, condW] at h
    split at h
    · rename_i t hx
      refine Wp_cond hx ?_
      split at h
      · rename_i ht; rw [if_pos ht]; exact Wp_of h
      · rename_i ht; rw [if_neg ht]; exact Wp_of h
    · cases h
  | .block id a, s, Q, h => Wp_block (Wp_mono (fun e s' he => he) (Wp_of h))
  | .loop a, s, Q, h => h
  | .exit id, s, Q, h => Wp_exit h
  | .ret, s, Q, h => Wp_ret h
  | .bad, _, _, h => h.elim
theorem wpS_skip {s : St} {Q : Ex → St → Prop} : wpS C nt .skip s Q = Q .normal s := rfl
theorem wpS_ops {l : List SOp} {s : St} {Q : Ex → St → Prop} : wpS C nt (.ops l) s Q = WOps C nt l s (Q .normal) := rfl
theorem wpS_seq {a b : SC} {s : St} {Q : Ex → St → Prop} : wpS C nt (.seq a b) s Q = wpS C nt a s fun e s' => match e with
    | .normal => wpS C nt b s' Q
    | e => Q e s' := rfl
theorem wpS_cond {x : Operand} {a b : SC} {s : St} {Q : Ex → St → Prop} : wpS C nt (.cond x a b) s Q = condW (ev s.env x) (wpS C nt a s Q) (wpS C nt b s Q) := rfl
theorem wpS_block {id : Nat} {a : SC} {s : St} {Q : Ex → St → Prop} : wpS C nt (.block id a) s Q = wpS C nt a s fun e s' => match e with
    | .exit i => if i = id then Q .normal s' else Q (.exit i) s'
    | e => Q e s' := rfl
theorem wpS_loop {a : SC} {s : St} {Q : Ex → St → Prop} : wpS C nt (.loop a) s Q = Wp C nt (.loop a) s Q := rfl
theorem wpS_exit {id : Nat} {s : St} {Q : Ex → St → Prop} : wpS C nt (.exit id) s Q = Q (.exit id) s := rfl
theorem wpS_ret {s : St} {Q : Ex → St → Prop} : wpS C nt .ret s Q = Q .ret s := rfl
@[congr] theorem wpS_congr {c : SC} {s s' : St} {Q : Ex → St → Prop} (h : s = s') : wpS C nt c s Q = wpS C nt c s' Q := by rw [h]
@[congr] theorem Wp_congr {c : SC} {s s' : St} {Q : Ex → St → Prop} (h : s = s') : Wp C nt c s Q = Wp C nt c s' Q := by rw [h]
@[congr] theorem WOps_congr {l : List SOp} {s s' : St} {K : St → Prop} (h : s = s') : WOps C nt l s K = WOps C nt l s' K := by rw [h]
@[congr] theorem condW_congr {v v' : AV} {p q : Prop} (h : v = v') : condW v p q = condW v' p q := by rw [h]

/-- A function's answer, out of its code. -/
theorem Cl_of_wp {k : Nat} {fn : Func} {body : Code} {sc : SC} {args : List AV} {H : Heap} {nx : Nat} {r : AV × Heap × Nat} (hf : C.F.get k = some fn) (hb : fn.body = some body) (hs : strip body = sc)
    (hl : args.length ≤ fn.ntmps) (h : wpS C fn.ntmps sc ⟨argEnv args, H, nx⟩ fun e s' => match e with
      | .exit _ => False
      | _ => ∃ v, resA C s' fn.results.toList = some v ∧ r = (v, s'.H, s'.nx)) : Cl C k args H nx = some r := by
  obtain ⟨e, s', h1, h2⟩ := Wp_of h
  unfold Cl callS
  rw [hf]; simp only [hb, if_pos hl, h1 body hs]
  cases e with
  | normal => obtain ⟨v, h3, rfl⟩ := h2; simp only [h3, Option.map_some]
  | ret => obtain ⟨v, h3, rfl⟩ := h2; simp only [h3, Option.map_some]
  | exit i => cases h2
/-- The same, where only something of the answer is asked. -/
theorem Cl_of_wpP {k : Nat} {fn : Func} {body : Code} {sc : SC} {args : List AV} {H : Heap} {nx : Nat} {P : AV → Heap → Nat → Prop} (hf : C.F.get k = some fn) (hb : fn.body = some body) (hs : strip body = sc)
    (hl : args.length ≤ fn.ntmps) (h : wpS C fn.ntmps sc ⟨argEnv args, H, nx⟩ fun e s' => match e with
      | .exit _ => False
      | _ => ∃ v, resA C s' fn.results.toList = some v ∧ P v s'.H s'.nx) : ∃ v H' nx', Cl C k args H nx = some (v, H', nx') ∧ P v H' nx' := by
  obtain ⟨e, s', h1, h2⟩ := Wp_of h
  unfold Cl callS
  rw [hf]; simp only [hb, if_pos hl, h1 body hs]
  cases e with
  | normal => obtain ⟨v, h3, h4⟩ := h2; exact ⟨v, s'.H, s'.nx, by simp only [h3, Option.map_some], h4⟩
  | ret => obtain ⟨v, h3, h4⟩ := h2; exact ⟨v, s'.H, s'.nx, by simp only [h3, Option.map_some], h4⟩
  | exit i => cases h2
end CI
