/- CI, part s: the interpreter of code and of calls, and that the model does what it says. -/
import Derived.Test.YtdkicjlbfhmfkaaGreatDoorCir
import Derived.Deep.LoopGhost
set_option linter.unusedVariables false
set_option linter.unusedSimpArgs false
noncomputable section
namespace CI
open Go

inductive Ex where
  | normal
  | exit (id : Nat)
  | ret

def codeOK : Code → Bool
  | .region _ ops true => drawStatic ops.toList
  | .seq a b => codeOK a && codeOK b
  | .cond _ a b => codeOK a && codeOK b
  | .block _ a => codeOK a
  | .loop a => codeOK a
  | _ => true

/-- The results of a call. -/
def resOf (C : Cx) (s : St) : List ResultVar → Option (List AV)
  | [] => some []
  | .tmp t :: rs => (resOf C s rs).map fun l => (s.env.get t).getD (.lit undef) :: l
  | .cell a t :: rs => (loadOp C.T s.H t ((s.env.get a).getD (.lit undef))).bind fun v => (resOf C s rs).map fun l => v :: l
def resA (C : Cx) (s : St) (rs : List ResultVar) : Option AV := (resOf C s rs).map fun l => match l with
  | [v] => v
  | l => .tuple l

def argEnv (args : List AV) : Tr AV := args.zipIdx.foldl (fun E p => E.put p.2 (some p.1)) .nil

/-- A call, given how code is run. -/
def callS (C : Cx) (run : Nat → Code → St → Option (Ex × St)) : CallF := fun k args H nx =>
  match C.F.get k with
  | none => C.Y k args H nx
  | some fn =>
    match fn.body with
    | none => none
    | some body =>
      if args.length ≤ fn.ntmps then
        match run fn.ntmps body ⟨argEnv args, H, nx⟩ with
        | some (.normal, s') => (resA C s' fn.results.toList).map fun v => (v, s'.H, s'.nx)
        | some (.ret, s') => (resA C s' fn.results.toList).map fun v => (v, s'.H, s'.nx)
        | _ => none
      else none

/-- One step into a piece of code, given how code is run. -/
def execS (C : Cx) (run : Nat → Code → St → Option (Ex × St)) (nt : Nat) (c : Code) (s : St) : Option (Ex × St) :=
  match c with
  | .skip => some (.normal, s)
  | .label _ => some (.normal, s)
  | .region _ ops false => (runOps C (callS C run) nt ops ops.toList s).map fun s' => (.normal, s')
  | .region _ ops true => (runDraw C (callS C run) nt ops s).map fun s' => (.normal, s')
  | .seq a b =>
    match run nt a s with
    | some (.normal, s') => run nt b s'
    | r => r
  | .cond x a b =>
    match ev s.env x with
    | .lit (.bool true) => run nt a s
    | .lit (.bool false) => run nt b s
    | _ => none
  | .block id b =>
    match run nt b s with
    | some (.exit i, s') => if i = id then some (.normal, s') else some (.exit i, s')
    | r => r
  | .loop b =>
    match run nt b s with
    | some (.normal, s') => run nt (.loop b) s'
    | r => r
  | .exit id => some (.exit id, s)
  | .ret => some (.ret, s)
  | _ => none

def exec (C : Cx) : Nat → Nat → Code → St → Option (Ex × St)
  | 0 => fun _ _ _ => none
  | n + 1 => execS C (exec C n)
abbrev callN (C : Cx) (n : Nat) : CallF := callS C (exec C n)

structure Cx.Sound (C : Cx) : Prop extends C.OK where
  mixed : C.P.follows .mixedOrders = true
  ys : CallOK C C.Y
  codes : ∀ k fn c, C.F.get k = some fn → fn.body = some c → codeOK c = true

def toExit : Ex → Exit
  | .normal => .normal
  | .exit id => .exit id
  | .ret => .ret

/-- What holds behind a piece of code. -/
def Post (nt : Nat) (σ : Sig) (s : St) (w : World) (ex : Ex) (s' : St) : Exit → Act → World → Prop := fun e a' w' =>
  e = toExit ex ∧ ∃ σ', ActR σ' s'.env nt a' ∧ Step σ s.H s.nx w σ' s'.H s'.nx w' ∧ Good σ' s'.H s'.nx w'

theorem argEnv_get : ∀ (args : List AV) (k : Nat) (E : Tr AV) (t : Nat), ((args.zipIdx k).foldl (fun E p => E.put p.2 (some p.1)) E).get t = if t < k then E.get t else match args[t - k]? with
    | some v => some v
    | none => E.get t
  | [], k, E, t => by simp
  | v :: args, k, E, t => by
    rw [List.zipIdx_cons, List.foldl_cons, argEnv_get args (k + 1) _ t]
    by_cases h1 : t < k
    · rw [if_pos h1, if_pos (by omega), Tr.get_put_ne _ _ _ _ (by omega)]
    · rw [if_neg h1]
      by_cases h2 : t = k
      · subst h2
        rw [if_pos (by omega), Tr.get_put_same]; simp
      · rw [if_neg (by omega), Tr.get_put_ne _ _ _ _ h2]
        rw [show t - k = (t - (k + 1)) + 1 from by omega]; simp

theorem argEnv_R {σ : Sig} {args : List AV} {xs : List Value} (h : VRs σ args xs) {nt : Nat} (hn : args.length ≤ nt) :
    ActR σ (argEnv args) nt { tmps := xs.toArray ++ Array.replicate (nt - xs.toArray.size) undef, defers := [] } := by
  have hl := h.length
  refine ⟨fun t => ?_, by simp <;> omega, rfl⟩
  unfold argEnv
  rw [argEnv_get args 0 .nil t, if_neg (by omega)]
  simp only [Nat.sub_zero, Tr.get_nil]
  cases ha : args[t]? with
  | some v =>
    obtain ⟨x, hx, hv⟩ := h.get? ha
    have hlt : t < xs.length := by
      rcases Nat.lt_or_ge t xs.length with h' | h'
      · exact h'
      · rw [List.getElem?_eq_none h'] at hx; cases hx
    simp only [Option.getD_some]
    rw [Array.getD_eq_getD_getElem?, Array.getElem?_append_left (by simpa using hlt)]
    simp only [List.getElem?_toArray, hx, Option.getD_some]
    exact hv
  | none =>
    have hge : xs.length ≤ t := by
      have := List.getElem?_eq_none_iff.1 ha; omega
    simp only [Option.getD_none, VR]
    rw [Array.getD_eq_getD_getElem?, Array.getElem?_append_right (by simpa using hge)]
    simp only [Array.getElem?_replicate]
    split <;> rfl

theorem resOf_run {C : Cx} (hC : C.OK) {σ : Sig} {s : St} {w : World} {nt : Nat} {a : Act} (g : Good σ s.H s.nx w) (he : ActR σ s.env nt a) : ∀ (rs : List ResultVar) (l : List AV), resOf C s rs = some l →
    ∃ xs : List Value, (rs.mapM (m := Sem) fun
      | .tmp t => pure (a.tmps.getD t undef)
      | .cell ad t => do loadVar t (← asAddr (a.tmps.getD ad undef))).run C.P w = .ok xs w ∧ VRs σ l xs
  | [], l, h => by
    simp only [resOf, Option.some.injEq] at h; subst h
    exact ⟨[], by simp, by simp [VRs]⟩
  | .tmp t :: rs, l, h => by
    simp only [resOf, Option.map_eq_some_iff] at h
    obtain ⟨l', hl', rfl⟩ := h
    obtain ⟨xs, h1, h2⟩ := resOf_run hC g he rs l' hl'
    refine ⟨a.tmps.getD t undef :: xs, ?_, ?_⟩
    · rw [List.mapM_cons, run_bind_ok (a := a.tmps.getD t undef) (w' := w) rfl, run_bind_ok h1]; rfl
    · simp only [VRs]; exact ⟨_, _, rfl, he.env t, h2⟩
  | .cell ad t :: rs, l, h => by
    simp only [resOf, Option.bind_eq_some_iff, Option.map_eq_some_iff] at h
    obtain ⟨v, hv, l', hl', rfl⟩ := h
    obtain ⟨xs, h1, h2⟩ := resOf_run hC g he rs l' hl'
    have hvr := he.env ad
    obtain ⟨q, hq, y, r1, r2⟩ := loadOp_run (P := C.P) hC.types g hvr hv
    refine ⟨y :: xs, ?_, ?_⟩
    · rw [List.mapM_cons, run_bind_ok (a := y) (w' := w) (by
        simp only [hq]
        rw [run_bind_ok (a := q) (w' := w) rfl]
        exact r1), run_bind_ok h1]
      rfl
    · simp only [VRs]; exact ⟨_, _, rfl, r2, h2⟩

theorem resA_run {C : Cx} (hC : C.OK) {σ : Sig} {s : St} {w : World} {nt : Nat} {a : Act} (g : Good σ s.H s.nx w) (he : ActR σ s.env nt a) {fn : Func} {v : AV} (h : resA C s fn.results.toList = some v) :
    ∃ x, (results fn a.tmps).run C.P w = .ok x w ∧ VR σ v x := by
  simp only [resA, Option.map_eq_some_iff] at h
  obtain ⟨l, hl, rfl⟩ := h
  obtain ⟨xs, h1, h2⟩ := resOf_run hC g he _ l hl
  have hlen := h2.length
  refine ⟨if h : xs.toArray.size = 1 then xs.toArray[0] else .tuple xs.toArray, ?_, ?_⟩
  · unfold results
    rw [Array.mapM_eq_mapM_toList]
    rw [run_bind_ok (a := xs.toArray) (w' := w)]
    · rfl
    · refine Eq.trans (run_bind_ok (a := xs) (w' := w) ?_) rfl
      exact h1
  · cases l with
    | nil =>
      simp only [VRs] at h2; subst h2
      simp only [VR]; exact ⟨[], rfl, by simp [VRs]⟩
    | cons v l =>
      cases l with
      | nil =>
        simp only [VRs] at h2
        obtain ⟨y, ys, rfl, h3, rfl⟩ := h2
        exact h3
      | cons v' l =>
        have h2' := h2
        simp only [VRs] at h2
        obtain ⟨y, ys, rfl, h3, y', ys', rfl, h4, h5⟩ := h2
        simp only [VR]
        exact ⟨_, by simp, h2'⟩

theorem Post.trans {nt : Nat} {σ σ' : Sig} {s s' s'' : St} {w w' : World} {ex : Ex} {e : Exit} {a'' : Act} {w'' : World} (g : Good σ s.H s.nx w) (h1 : Step σ s.H s.nx w σ' s'.H s'.nx w')
    (h : Post nt σ' s' w' ex s'' e a'' w'') : Post nt σ s w ex s'' e a'' w'' := by
  obtain ⟨he, σ'', h2, h3, h4⟩ := h
  exact ⟨he, σ'', h2, Step.trans g h1 h3, h4⟩

def ExecOK (C : Cx) (n : Nat) : Prop := ∀ nt c s ex s', exec C n nt c s = some (ex, s') → codeOK c = true → ∀ (σ : Sig) (w : World) (a : Act), ActR σ s.env nt a → Good σ s.H s.nx w →
  c.wp C.P (Post nt σ s w ex s') a w

theorem callN_ok {C : Cx} (hC : C.Sound) {n : Nat} (ih : ExecOK C n) : CallOK C (callN C n) := by
  intro k args H nx v H' nx' h σ w xs hxs g
  unfold callN callS at h
  split at h
  · exact hC.ys k args H nx v H' nx' h σ w xs hxs g
  · rename_i fn hfn
    split at h
    · cases h
    · rename_i body hbody
      obtain ⟨hf, hname⟩ := hC.funs k fn hfn
      have hok := hC.codes k fn body hfn hbody
      split at h
      · rename_i hle
        have hact := argEnv_R hxs hle
        constructor
        · unfold callFunc
          rw [run_bind_ok (a := C.P) (w' := w) rfl]
          simp only [hf]
          rw [if_neg (by rw [hname]; simp), if_neg (by simp [hbody])]
          rfl
        · refine calls_of_wp hf hbody ?_
          have fin : ∀ {ex : Ex} {s' : St}, exec C n fn.ntmps body ⟨argEnv args, H, nx⟩ = some (ex, s') → (ex = .normal ∨ ex = .ret) → (resA C s' fn.results.toList).map (fun v => (v, s'.H, s'.nx)) = some (v, H', nx') →
              body.wp C.P (bodyPost C.P fn (RetPost σ H nx w v H' nx')) { tmps := xs.toArray ++ Array.replicate (fn.ntmps - xs.toArray.size) undef, defers := [] } w := by
            intro ex s' hex hor hres
            simp only [Option.map_eq_some_iff, Prod.mk.injEq] at hres
            obtain ⟨u, hu, rfl, rfl, rfl⟩ := hres
            refine wp_mono (ih _ _ _ _ _ hex hok σ w _ hact g) ?_
            rintro e a' w' ⟨he, σ', h1, h2, h3⟩
            obtain ⟨x, hx1, hx2⟩ := resA_run hC.toOK h3 h1 hu
            rcases hor with rfl | rfl <;> subst he <;> exact ⟨h1.defers, x, hx1, x, σ', rfl, hx2, h2, h3⟩
          split at h
          · exact fin ‹_› (.inl rfl) h
          · exact fin ‹_› (.inr rfl) h
          · cases h
      · cases h

theorem exec_ok {C : Cx} (hC : C.Sound) : ∀ n, ExecOK C n := by
  intro n
  induction n using Nat.strongRecOn with
  | _ n IH =>
    cases n with
    | zero => intro nt c s ex s' h; simp [exec] at h
    | succ n =>
      have ih := IH n (by omega)
      have hcall := callN_ok hC ih
      intro nt c s ex s' h hok σ w a he g
      have h0 := h
      rw [exec] at h
      unfold execS at h
      have done : ∀ {e : Exit}, e = toExit ex → s = s' → Post nt σ s w ex s' e a w := fun h1 h2 => by
        subst h2; exact ⟨h1, σ, he, Step.refl, g⟩
      split at h
      · simp only [Option.some.injEq, Prod.mk.injEq] at h; obtain ⟨rfl, rfl⟩ := h
        exact wp_skip (done rfl rfl)
      · simp only [Option.some.injEq, Prod.mk.injEq] at h; obtain ⟨rfl, rfl⟩ := h
        exact wp_label (done rfl rfl)
      · simp only [Option.map_eq_some_iff, Prod.mk.injEq] at h
        obtain ⟨s1, h1, rfl, rfl⟩ := h
        exact wp_region_list (runOps_wp hC.toOK hcall _ s s1 σ w a h1 he g fun σ' w' a' r1 r2 r3 => ⟨rfl, σ', r1, r2, r3⟩)
      · simp only [Option.map_eq_some_iff, Prod.mk.injEq] at h
        obtain ⟨s1, h1, rfl, rfl⟩ := h
        exact runDraw_wp hC.toOK hC.mixed hcall hok h1 he g fun σ' w' a' r1 r2 r3 => ⟨rfl, σ', r1, r2, r3⟩
      · rename_i b1 b2
        simp only [codeOK, Bool.and_eq_true] at hok
        refine wp_seq ?_
        split at h
        · rename_i s1 h1
          refine wp_mono (ih _ _ _ _ _ h1 hok.1 σ w a he g) ?_
          rintro e a' w' ⟨rfl, σ', r1, r2, r3⟩
          show b2.wp C.P _ a' w'
          refine wp_mono (ih _ _ _ _ _ h hok.2 σ' w' a' r1 r3) ?_
          exact fun e a'' w'' hp => hp.trans g r2
        · rename_i hne
          refine wp_mono (ih _ _ _ _ _ h hok.1 σ w a he g) ?_
          rintro e a' w' ⟨rfl, rest⟩
          cases ex with
          | normal => exact absurd h (hne s')
          | exit id => exact ⟨rfl, rest⟩
          | ret => exact ⟨rfl, rest⟩
      · rename_i x b1 b2
        simp only [codeOK, Bool.and_eq_true] at hok
        have hx := ev_VR he.env x
        split at h
        · rename_i hv
          rw [hv] at hx; simp only [VR] at hx
          exact wp_cond_true hx (ih _ _ _ _ _ h hok.1 σ w a he g)
        · rename_i hv
          rw [hv] at hx; simp only [VR] at hx
          exact wp_cond_false hx (ih _ _ _ _ _ h hok.2 σ w a he g)
        · cases h
      · rename_i id b
        simp only [codeOK] at hok
        refine wp_block ?_
        split at h
        · rename_i i s1 h1
          refine wp_mono (ih _ _ _ _ _ h1 hok σ w a he g) ?_
          rintro e a' w' ⟨rfl, σ', r1, r2, r3⟩
          split at h
          · rename_i hi
            simp only [Option.some.injEq, Prod.mk.injEq] at h; obtain ⟨rfl, rfl⟩ := h
            simp only [toExit, Exit.inBlock, hi, if_true]
            exact ⟨rfl, σ', r1, r2, r3⟩
          · rename_i hi
            simp only [Option.some.injEq, Prod.mk.injEq] at h; obtain ⟨rfl, rfl⟩ := h
            simp only [toExit, Exit.inBlock, hi, if_false]
            exact ⟨rfl, σ', r1, r2, r3⟩
        · rename_i hne
          refine wp_mono (ih _ _ _ _ _ h hok σ w a he g) ?_
          rintro e a' w' ⟨rfl, rest⟩
          cases ex with
          | normal => exact ⟨rfl, rest⟩
          | exit i => exact absurd h (hne i s')
          | ret => exact ⟨rfl, rest⟩
      · rename_i b
        have hokb : codeOK b = true := by simpa [codeOK] using hok
        refine wp_loop_ghost (fun m a1 w1 => m ≤ n + 1 ∧ ∃ s1 σ1, exec C m nt (.loop b) s1 = some (ex, s') ∧ ActR σ1 s1.env nt a1 ∧ Step σ s.H s.nx w σ1 s1.H s1.nx w1 ∧ Good σ1 s1.H s1.nx w1) (n + 1)
          ⟨Nat.le_refl _, s, σ, h0, he, Step.refl, g⟩ ?_
        rintro m a1 w1 ⟨hm, s1, σ1, hx, r1, r2, r3⟩
        cases m with
        | zero => simp [exec] at hx
        | succ m =>
          rw [exec] at hx
          unfold execS at hx
          simp only at hx
          have ihm := IH m (by omega)
          split at hx
          · rename_i s2 h2
            refine wp_mono (ihm _ _ _ _ _ h2 hokb σ1 w1 a1 r1 r3) ?_
            rintro e a' w' ⟨rfl, σ2, q1, q2, q3⟩
            exact ⟨m, by omega, by omega, s2, σ2, hx, q1, Step.trans g r2 q2, q3⟩
          · rename_i hne
            refine wp_mono (ihm _ _ _ _ _ hx hokb σ1 w1 a1 r1 r3) ?_
            rintro e a' w' hp
            have hp' := hp.trans g r2
            obtain ⟨rfl, rest⟩ := hp'
            cases ex with
            | normal => exact absurd hx (hne s')
            | exit id => exact ⟨rfl, rest⟩
            | ret => exact ⟨rfl, rest⟩
      · simp only [Option.some.injEq, Prod.mk.injEq] at h; obtain ⟨rfl, rfl⟩ := h
        exact wp_exit (done rfl rfl)
      · simp only [Option.some.injEq, Prod.mk.injEq] at h; obtain ⟨rfl, rfl⟩ := h
        exact wp_ret (done rfl rfl)
      · cases h

/-- A call's run, whole. -/
theorem call_ok {C : Cx} (hC : C.Sound) (n : Nat) : CallOK C (callN C n) := callN_ok hC (exec_ok hC n)
end CI
