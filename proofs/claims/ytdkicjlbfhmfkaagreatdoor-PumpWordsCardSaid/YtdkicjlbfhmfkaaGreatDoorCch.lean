/- CI: a long run, told piece by piece. -/
import Derived.Test.YtdkicjlbfhmfkaaGreatDoorCrl
import Derived.Deep.LoopGhost
set_option linter.unusedVariables false
set_option linter.unusedSimpArgs false
noncomputable section
namespace CI
open Go

/-! ### states, told -/
structure LS where
  env : List AV
  U : List (Nat × Option AObj)
  nx : Nat
def LS.st (l : LS) : St := ⟨argEnv l.env, puts .nil l.U, l.nx⟩

theorem puts_some {b : Nat} {o : AObj} : ∀ (U : List (Nat × Option AObj)) (H : Heap), (puts H U).get b = some o → (∃ p ∈ U, p.1 = b ∧ p.2 = some o) ∨ H.get b = some o
  | [], H, h => .inr h
  | p :: U, H, h => by
    rcases puts_some U (H.put p.1 p.2) h with ⟨q, hq, h1, h2⟩ | h1
    · exact .inl ⟨q, List.mem_cons_of_mem _ hq, h1, h2⟩
    · rw [Tr.get_put] at h1
      split at h1
      · rename_i e; exact .inl ⟨p, by simp, e.symm, h1⟩
      · exact .inr h1
theorem argEnv_at (l : List AV) (t : Nat) : (argEnv l).get t = l[t]? := by
  unfold argEnv
  rw [argEnv_get l 0 .nil t, if_neg (by omega)]
  simp only [Nat.sub_zero, Tr.get_nil]
  cases l[t]? <;> rfl

/-- What is told of a state is so. -/
def lessB (nt nx0 : Nat) (s : St) (l : LS) : Bool :=
  (List.range nt).all (fun t => AV.eqB ((s.env.get t).getD (.lit undef)) ((l.env[t]?).getD (.lit undef))) && decide (l.env.length ≤ nt) && decide (s.nx ≤ l.nx) && decide (nx0 ≤ s.nx) &&
  l.U.all (fun p => eqOO (s.H.get p.1) p.2) && (List.range nx0).all (fun b => eqOO (s.H.get b) (l.st.H.get b))

section
variable (σ0 : Sig) (H0 : Heap) (nx0 : Nat) (w0 : World) (nt : Nat)
/-- Where a run stands, as seen from its beginning. -/
def At (s : St) (a : Act) (w : World) : Prop := ∃ σ, ActR σ s.env nt a ∧ Step σ0 H0 nx0 w0 σ s.H s.nx w ∧ Good σ s.H s.nx w
end
variable {σ0 : Sig} {H0 : Heap} {nx0 : Nat} {w0 : World} {nt : Nat}

theorem At.less {s : St} {l : LS} {a : Act} {w : World} (g0 : Good σ0 H0 nx0 w0) (h : lessB nt nx0 s l = true) (hat : At σ0 H0 nx0 w0 nt s a w) : At σ0 H0 nx0 w0 nt l.st a w := by
  obtain ⟨σ, h1, h2, h3⟩ := hat
  simp only [lessB, Bool.and_eq_true, List.all_eq_true, List.mem_range, decide_eq_true_eq] at h
  obtain ⟨⟨⟨⟨⟨k1, k2⟩, k3⟩, k4⟩, k5⟩, k6⟩ := h
  have hsub : ∀ b o, l.st.H.get b = some o → s.H.get b = some o := by
    intro b o hb
    rcases puts_some l.U .nil hb with ⟨p, hp, e1, e2⟩ | h
    · have := eqOO_ok (k5 p hp)
      rw [← e1, this, e2]
    · cases h
  obtain ⟨q1, q2⟩ := step_less g0 h2 h3 hsub (fun b hb => (eqOO_ok (k6 b hb)).symm) k3
  refine ⟨σ, ⟨fun t => ?_, h1.size, h1.defers⟩, q1, q2⟩
  show VR σ (((argEnv l.env).get t).getD (.lit undef)) _
  rw [argEnv_at]
  rcases Nat.lt_or_ge t nt with ht | ht
  · rw [← AV.eqB_ok (k1 t ht)]
    exact h1.env t
  · rw [List.getElem?_eq_none (by omega)]
    have : a.tmps.getD t undef = undef := by
      rw [Array.getD_eq_getD_getElem?, Array.getElem?_eq_none (by rw [h1.size]; exact ht)]; rfl
    rw [this]
    simp [VR]

/-! ### runs in pieces -/
inductive LoopN (C : Cx) (nx0 nt : Nat) (b : Code) (ex : Ex) (se : St) : Nat → St → Prop
  | last {n : Nat} {s : St} (h : exec C n nt b s = some (ex, se)) : LoopN C nx0 nt b ex se 0 s
  | step {n m : Nat} {s s1 : St} (h : exec C n nt b s = some (.normal, s1)) (r : LoopN C nx0 nt b ex se m s1) : LoopN C nx0 nt b ex se (m + 1) s
  | less {m : Nat} {s : St} {l : LS} (h : lessB nt nx0 s l = true) (r : LoopN C nx0 nt b ex se m l.st) : LoopN C nx0 nt b ex se m s

theorem At.run {C : Cx} (hC : C.Sound) (g0 : Good σ0 H0 nx0 w0) {n : Nat} {c : Code} {s s1 : St} {ex : Ex} (h : exec C n nt c s = some (ex, s1)) (hok : codeOK c = true) {a : Act} {w : World} (hat : At σ0 H0 nx0 w0 nt s a w) :
    c.wp C.P (fun e a' w' => e = toExit ex ∧ At σ0 H0 nx0 w0 nt s1 a' w') a w := by
  obtain ⟨σ, h1, h2, h3⟩ := hat
  refine wp_mono (exec_ok hC n _ _ _ _ _ h hok σ w a h1 h3) ?_
  rintro e a' w' ⟨he, σ', q1, q2, q3⟩
  exact ⟨he, σ', q1, Step.trans g0 h2 q2, q3⟩

def loopStep (C : Cx) (σ0 : Sig) (H0 : Heap) (nx0 : Nat) (w0 : World) (nt : Nat) (b : Code) (ex : Ex) (se : St) (m : Nat) : Exit → Act → World → Prop
  | .normal, a', w' => ∃ m' s2, m' < m ∧ LoopN C nx0 nt b ex se m' s2 ∧ At σ0 H0 nx0 w0 nt s2 a' w'
  | e, a', w' => e = toExit ex ∧ At σ0 H0 nx0 w0 nt se a' w'
theorem LoopN.turn {C : Cx} (hC : C.Sound) (g0 : Good σ0 H0 nx0 w0) {b : Code} {ex : Ex} {se : St} (hex : ex ≠ .normal) (hok : codeOK b = true) {m : Nat} {s : St} (h : LoopN C nx0 nt b ex se m s) :
    ∀ {a : Act} {w : World}, At σ0 H0 nx0 w0 nt s a w → b.wp C.P (loopStep C σ0 H0 nx0 w0 nt b ex se m) a w := by
  induction h with
  | last h =>
    intro a w hat
    refine wp_mono (At.run hC g0 h hok hat) ?_
    rintro e a' w' ⟨rfl, h1⟩
    cases ex with
    | normal => exact absurd rfl hex
    | exit i => exact ⟨rfl, h1⟩
    | ret => exact ⟨rfl, h1⟩
  | step h r ih =>
    intro a w hat
    refine wp_mono (At.run hC g0 h hok hat) ?_
    rintro e a' w' ⟨rfl, h1⟩
    exact ⟨_, _, Nat.lt_succ_self _, r, h1⟩
  | less h r ih =>
    intro a w hat
    exact ih (hat.less g0 h)

inductive Rn (C : Cx) (nx0 nt : Nat) : Code → St → Ex → St → Prop
  | ex {n : Nat} {c : Code} {s s' : St} {ex : Ex} (h : exec C n nt c s = some (ex, s')) (hok : codeOK c = true) : Rn C nx0 nt c s ex s'
  | seq {a b : Code} {s s1 s2 : St} {ex : Ex} (h1 : Rn C nx0 nt a s .normal s1) (h2 : Rn C nx0 nt b s1 ex s2) : Rn C nx0 nt (.seq a b) s ex s2
  | block {id : Nat} {b : Code} {s s' : St} (h : Rn C nx0 nt b s (.exit id) s') : Rn C nx0 nt (.block id b) s .normal s'
  | loop {b : Code} {s se : St} {ex : Ex} {m : Nat} (hex : ex ≠ .normal) (hok : codeOK b = true) (h : LoopN C nx0 nt b ex se m s) : Rn C nx0 nt (.loop b) s ex se
  | post {c : Code} {s s' : St} {ex : Ex} {l : LS} (h : Rn C nx0 nt c s ex s') (hl : lessB nt nx0 s' l = true) : Rn C nx0 nt c s ex l.st

theorem Rn.wp {C : Cx} (hC : C.Sound) (g0 : Good σ0 H0 nx0 w0) {c : Code} {s s' : St} {ex : Ex} (h : Rn C nx0 nt c s ex s') : ∀ {a : Act} {w : World}, At σ0 H0 nx0 w0 nt s a w →
    c.wp C.P (fun e a' w' => e = toExit ex ∧ At σ0 H0 nx0 w0 nt s' a' w') a w := by
  induction h with
  | ex h hok => intro a w hat; exact At.run hC g0 h hok hat
  | seq h1 h2 ih1 ih2 =>
    intro a w hat
    refine wp_seq (wp_mono (ih1 hat) ?_)
    rintro e a' w' ⟨rfl, h1⟩
    exact ih2 h1
  | block h ih =>
    intro a w hat
    refine wp_block (wp_mono (ih hat) ?_)
    rintro e a' w' ⟨rfl, h1⟩
    simp only [toExit, Exit.inBlock, if_true]
    exact ⟨trivial, h1⟩
  | @loop b s se ex m hex hok h =>
    intro a w hat
    refine wp_loop_ghost (fun m a1 w1 => ∃ s1, LoopN C nx0 nt b ex se m s1 ∧ At σ0 H0 nx0 w0 nt s1 a1 w1) m ⟨s, h, hat⟩ ?_
    rintro m a1 w1 ⟨s1, h1, h2⟩
    refine wp_mono (h1.turn hC g0 hex hok h2) ?_
    intro e a' w' he
    cases e with
    | normal =>
      obtain ⟨m', s2, q1, q2, q3⟩ := he
      exact ⟨m', q1, s2, q2, q3⟩
    | _ => exact he
  | post h hl ih =>
    intro a w hat
    refine wp_mono (ih hat) ?_
    rintro e a' w' ⟨he, h1⟩
    exact ⟨he, h1.less g0 hl⟩

/-! ### what the kernel looks at -/
def sqL : Code → Code | .seq a _ => a | c => c
def sqR : Code → Code | .seq _ b => b | c => c
def isSeq : Code → Bool | .seq _ _ => true | _ => false
def blB : Code → Code | .block _ b => b | c => c
def isBl (id : Nat) : Code → Bool | .block i _ => decide (i = id) | _ => false
def lpB : Code → Code | .loop b => b | c => c
def isLp : Code → Bool | .loop _ => true | _ => false
theorem Rn.seq' {C : Cx} {c : Code} {s s1 s2 : St} {ex : Ex} (hc : isSeq c = true) (h1 : Rn C nx0 nt (sqL c) s .normal s1) (h2 : Rn C nx0 nt (sqR c) s1 ex s2) : Rn C nx0 nt c s ex s2 := by
  cases c <;> first | exact Rn.seq h1 h2 | cases hc
theorem Rn.blockLoop {C : Cx} {c : Code} {id : Nat} {s se : St} {m : Nat} (hc : (isBl id c && isLp (blB c) && codeOK (lpB (blB c))) = true) (h : LoopN C nx0 nt (lpB (blB c)) (.exit id) se m s) : Rn C nx0 nt c s .normal se := by
  simp only [Bool.and_eq_true] at hc
  obtain ⟨⟨h1, h2⟩, h3⟩ := hc
  cases c with
  | block i b =>
    simp only [isBl, decide_eq_true_eq] at h1
    subst h1
    simp only [blB] at h2 h3 h
    cases b with
    | loop b => exact Rn.block (Rn.loop (by simp) h3 h)
    | _ => cases h2
  | _ => cases h1

def exNo : Ex → Nat
  | .normal => 0
  | .ret => 1
  | .exit i => i + 2
theorem exNo_inj {a b : Ex} (h : exNo a = exNo b) : a = b := by
  cases a <;> cases b <;> simp only [exNo] at h <;> first | rfl | omega | (congr 1; omega)
/-- A piece, run. -/
def exlB (C : Cx) (n nx0 nt : Nat) (c : Code) (s : St) (ex : Ex) (l : LS) : Bool := match execF C n nt c s with
  | some (e, s') => decide (exNo e = exNo ex) && lessB nt nx0 s' l
  | none => false
theorem exlB_run {C : Cx} {n : Nat} {c : Code} {s : St} {ex : Ex} {l : LS} (h : exlB C n nx0 nt c s ex l = true) : ∃ s', exec C n nt c s = some (ex, s') ∧ lessB nt nx0 s' l = true := by
  unfold exlB at h
  rw [execF_eq] at h
  split at h
  · rename_i e s' he
    simp only [Bool.and_eq_true, decide_eq_true_eq] at h
    rw [exNo_inj h.1] at he
    exact ⟨s', he, h.2⟩
  · cases h
theorem Rn.leaf {C : Cx} {n : Nat} {c : Code} {s : St} {ex : Ex} {l : LS} (hok : codeOK c = true) (h : exlB C n nx0 nt c s ex l = true) : Rn C nx0 nt c s ex l.st := by
  obtain ⟨s', h1, h2⟩ := exlB_run h
  exact .post (.ex h1 hok) h2
/-- Some rounds of a loop. -/
def iters (run : RunFn) (nt : Nat) (b : Code) (m : Nat) : St → Option St :=
  @Nat.rec (fun _ => St → Option St) (fun s => some s) (fun _ ih s => match run nt b s with
    | some (.normal, s') => ih s'
    | _ => none) m
def itB (C : Cx) (n nx0 nt : Nat) (b : Code) (m : Nat) (s : St) (l : LS) : Bool := match iters (execF C n) nt b m s with
  | some s' => lessB nt nx0 s' l
  | none => false
theorem iters_loop {C : Cx} {n : Nat} {b : Code} {ex : Ex} {se : St} {k : Nat} : ∀ {m : Nat} {s s' : St}, iters (execF C n) nt b m s = some s' → LoopN C nx0 nt b ex se k s' → LoopN C nx0 nt b ex se (k + m) s
  | 0, s, s', h, r => by
    have : some s = some s' := h
    injection this with this
    subst this; exact r
  | m + 1, s, s', h, r => by
    have h' : (match execF C n nt b s with | some (.normal, s1) => iters (execF C n) nt b m s1 | _ => none) = some s' := h
    split at h'
    · rename_i s1 h1
      rw [execF_eq] at h1
      exact .step h1 (iters_loop h' r)
    · cases h'
theorem LoopN.more {C : Cx} {n : Nat} {b : Code} {ex : Ex} {se : St} {k m : Nat} {s : St} {l : LS} (h : itB C n nx0 nt b m s l = true) (r : LoopN C nx0 nt b ex se k l.st) : LoopN C nx0 nt b ex se (k + m) s := by
  unfold itB at h
  split at h
  · rename_i s' hs
    exact iters_loop hs (.less h r)
  · cases h
theorem LoopN.end' {C : Cx} {n : Nat} {b : Code} {ex : Ex} {s : St} {se : St} (h : exec C n nt b s = some (ex, se)) : LoopN C nx0 nt b ex se 0 s := .last h

/-- A loop in a block: the last round leaves it. -/
theorem Rn.loopEnd {C : Cx} {n : Nat} {c : Code} {id : Nat} {s sl : St} {l : LS} {m : Nat} (hc : (isBl id c && isLp (blB c) && codeOK (lpB (blB c))) = true) (hl : exlB C n nx0 nt (lpB (blB c)) sl (.exit id) l = true)
    (h : ∀ se, LoopN C nx0 nt (lpB (blB c)) (.exit id) se 0 sl → LoopN C nx0 nt (lpB (blB c)) (.exit id) se m s) : Rn C nx0 nt c s .normal l.st := by
  obtain ⟨s', h1, h2⟩ := exlB_run hl
  exact .post (Rn.blockLoop hc (h s' (.last h1))) h2

/-! ### a told run, by such pieces -/
def endB (C : Cx) (S : Sm) (φ : List Nat) (rs : List ResultVar) (l : LS) : Bool := match resA C l.st rs with
  | some v => smCheck S φ (some (v, l.st.H, l.nx))
  | none => false
theorem smR_ok {C D : Cx} (hC : C.Sound) {S : Sm} {φ : List Nat} {fn : Func} {body : Code} {ex : Ex} {l : LS} (hf : C.P.funcs[S.k]? = some fn) (hname : (fn.name == "runtime.NumGoroutine") = false) (hbody : fn.body = some body)
    (hlen : S.args.length ≤ fn.ntmps) (hR : Rn C S.n0 fn.ntmps body ⟨argEnv S.args, S.heap, S.n0⟩ ex l.st) (hex : ex = .normal ∨ ex = .ret) (hc : endB C S φ fn.results.toList l = true) (hP : D.P = C.P) : CallOK D (smCall S) := by
  intro k args H nx v H' nx' hk σ w xs hxs g
  unfold smCall at hk
  split at hk
  case isFalse => cases hk
  rename_i e
  subst e
  unfold applySm at hk
  unfold endB at hc
  split at hc
  case h_2 => cases hc
  rename_i v1 hv1
  generalize hfd : findL S.p H 3000 (pairsOfs S.args args []) (.nil, .nil) = ti at hk
  obtain ⟨t, inv⟩ := ti
  simp only at hk
  have hfz : ∀ i, S.n0 ≤ i → σ (psiF t S.n0 nx i) = none := fun i hi => by
    unfold psiF
    rw [if_neg (by omega)]
    exact (g.fresh nx (Nat.le_refl _)).1
  obtain ⟨ha, hg, hgo⟩ := apply_ok hc hfz hk g
  subst ha
  have hx := VRs_ren.1 hxs
  rw [hP]
  have hact := argEnv_R hx hlen
  refine ⟨?_, ?_⟩
  · unfold callFunc
    rw [run_bind_ok (a := C.P) (w' := w) rfl]
    simp only [hf]
    rw [if_neg (by rw [hname]; simp), if_neg (by simp [hbody])]
    rfl
  · refine calls_of_wp hf hbody ?_
    refine wp_mono (hR.wp hC hg ⟨_, hact, Step.refl, hg⟩) ?_
    rintro e a' w' ⟨he, σ1, h1, h2, h3⟩
    obtain ⟨x, hx1, hx2⟩ := resA_run hC.toOK h3 h1 hv1
    obtain ⟨σ', q1, q2, q3⟩ := hgo hx2 h2 h3
    rcases hex with rfl | rfl <;> subst he <;> exact ⟨h1.defers, x, hx1, x, σ', rfl, q1, q2, q3⟩
end CI
