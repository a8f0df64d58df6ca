/- Parts of the proof: Cch Bd Bj Bu Ra Rl Ceq. -/
import Derived.Test.YtanfejbkoheblaaGreatDoorSuM4
import Derived.Deep.LoopGhost
import Derived.Lib.Bytealg
import Derived.Calls
import Derived.Lib.AtoiAllCases
import Derived.Lib.ItoaNum
import Derived.Test.YtanfejbkoheblaaGreatDoorSuM0
import Derived.Laws.StructEq
set_option linter.unusedVariables false
set_option linter.unusedSimpArgs false
noncomputable section
namespace CI
open Go
structure LS where
  env : List AV
  U : List (Nat × Option AObj)
  nx : Nat
def LS.st (l : LS) : St := ⟨argEnv l.env, puts .nil l.U, l.nx⟩
theorem puts_some {b : Nat} {o : AObj} : ∀ (U : List (Nat × Option AObj)) (H : Heap), (puts H U).get b = some o → (∃ p ∈ U, p.1 = b ∧ p.2 = some o) ∨ H.get b = some o
  | [], H, h => .inr h
  | p :: U, H, h => by
    rcases puts_some U (H.put p.1 p.2) h with ⟨q, hq, h1, h2⟩ | h1
    · exact .inl ⟨q, List.mem_cons_of_mem _ hq, h1, h2⟩
    · rw [Tr.get_put] at h1
      split at h1
      · rename_i e; exact .inl ⟨p, by simp, e.symm, h1⟩
      · exact .inr h1
theorem argEnv_at (l : List AV) (t : Nat) : (argEnv l).get t = l[t]? := by
  unfold argEnv
  rw [argEnv_get l 0 .nil t, if_neg (by omega)]
  simp only [Nat.sub_zero, Tr.get_nil]
  cases l[t]? <;> rfl
def lessB (nt nx0 : Nat) (s : St) (l : LS) : Bool :=
  (List.range nt).all (fun t => AV.eqB ((s.env.get t).getD (.lit undef)) ((l.env[t]?).getD (.lit undef))) && decide (l.env.length ≤ nt) && decide (s.nx ≤ l.nx) && decide (nx0 ≤ s.nx) &&
  l.U.all (fun p => eqOO (s.H.get p.1) p.2) && (List.range nx0).all (fun b => eqOO (s.H.get b) (l.st.H.get b))
section
variable (σ0 : Sig) (H0 : Heap) (nx0 : Nat) (w0 : World) (nt : Nat)
def At (s : St) (a : Act) (w : World) : Prop := ∃ σ, ActR σ s.env nt a ∧ Step σ0 H0 nx0 w0 σ s.H s.nx w ∧ Good σ s.H s.nx w
end
variable {σ0 : Sig} {H0 : Heap} {nx0 : Nat} {w0 : World} {nt : Nat}
theorem At.less {s : St} {l : LS} {a : Act} {w : World} (g0 : Good σ0 H0 nx0 w0) (h : lessB nt nx0 s l = true) (hat : At σ0 H0 nx0 w0 nt s a w) : At σ0 H0 nx0 w0 nt l.st a w := by
  obtain ⟨σ, h1, h2, h3⟩ := hat
  simp only [lessB, Bool.and_eq_true, List.all_eq_true, List.mem_range, decide_eq_true_eq] at h
  obtain ⟨⟨⟨⟨⟨k1, k2⟩, k3⟩, k4⟩, k5⟩, k6⟩ := h
  have hsub : ∀ b o, l.st.H.get b = some o → s.H.get b = some o := by
    intro b o hb
    rcases puts_some l.U .nil hb with ⟨p, hp, e1, e2⟩ | h
    · have := eqOO_ok (k5 p hp)
      rw [← e1, this, e2]
    · cases h
  obtain ⟨q1, q2⟩ := step_less g0 h2 h3 hsub (fun b hb => (eqOO_ok (k6 b hb)).symm) k3
  refine ⟨σ, ⟨fun t => ?_, h1.size, h1.defers⟩, q1, q2⟩
  show VR σ (((argEnv l.env).get t).getD (.lit undef)) _
  rw [argEnv_at]
  rcases Nat.lt_or_ge t nt with ht | ht
  · rw [← AV.eqB_ok (k1 t ht)]
    exact h1.env t
  · rw [List.getElem?_eq_none (by omega)]
    have : a.tmps.getD t undef = undef := by
      rw [Array.getD_eq_getD_getElem?, Array.getElem?_eq_none (by rw [h1.size]; exact ht)]; rfl
    rw [this]
    simp [VR]
inductive LoopN (C : Cx) (nx0 nt : Nat) (b : Code) (ex : Ex) (se : St) : Nat → St → Prop
  | last {n : Nat} {s : St} (h : exec C n nt b s = some (ex, se)) : LoopN C nx0 nt b ex se 0 s
  | step {n m : Nat} {s s1 : St} (h : exec C n nt b s = some (.normal, s1)) (r : LoopN C nx0 nt b ex se m s1) : LoopN C nx0 nt b ex se (m + 1) s
  | less {m : Nat} {s : St} {l : LS} (h : lessB nt nx0 s l = true) (r : LoopN C nx0 nt b ex se m l.st) : LoopN C nx0 nt b ex se m s
theorem At.run {C : Cx} (hC : C.Sound) (g0 : Good σ0 H0 nx0 w0) {n : Nat} {c : Code} {s s1 : St} {ex : Ex} (h : exec C n nt c s = some (ex, s1)) (hok : codeOK c = true) {a : Act} {w : World} (hat : At σ0 H0 nx0 w0 nt s a w) :
    c.wp C.P (fun e a' w' => e = toExit ex ∧ At σ0 H0 nx0 w0 nt s1 a' w') a w := by
  obtain ⟨σ, h1, h2, h3⟩ := hat
  refine wp_mono (exec_ok hC n _ _ _ _ _ h hok σ w a h1 h3) ?_
  rintro e a' w' ⟨he, σ', q1, q2, q3⟩
  exact ⟨he, σ', q1, Step.trans g0 h2 q2, q3⟩
def loopStep (C : Cx) (σ0 : Sig) (H0 : Heap) (nx0 : Nat) (w0 : World) (nt : Nat) (b : Code) (ex : Ex) (se : St) (m : Nat) : Exit → Act → World → Prop
  | .normal, a', w' => ∃ m' s2, m' < m ∧ LoopN C nx0 nt b ex se m' s2 ∧ At σ0 H0 nx0 w0 nt s2 a' w'
  | e, a', w' => e = toExit ex ∧ At σ0 H0 nx0 w0 nt se a' w'
theorem LoopN.turn {C : Cx} (hC : C.Sound) (g0 : Good σ0 H0 nx0 w0) {b : Code} {ex : Ex} {se : St} (hex : ex ≠ .normal) (hok : codeOK b = true) {m : Nat} {s : St} (h : LoopN C nx0 nt b ex se m s) :
    ∀ {a : Act} {w : World}, At σ0 H0 nx0 w0 nt s a w → b.wp C.P (loopStep C σ0 H0 nx0 w0 nt b ex se m) a w := by
  induction h with
  | last h =>
    intro a w hat
    refine wp_mono (At.run hC g0 h hok hat) ?_
    rintro e a' w' ⟨rfl, h1⟩
    cases ex with
    | normal => exact absurd rfl hex
    | exit i => exact ⟨rfl, h1⟩
    | ret => exact ⟨rfl, h1⟩
  | step h r ih =>
    intro a w hat
    refine wp_mono (At.run hC g0 h hok hat) ?_
    rintro e a' w' ⟨rfl, h1⟩
    exact ⟨_, _, Nat.lt_succ_self _, r, h1⟩
  | less h r ih =>
    intro a w hat
    exact ih (hat.less g0 h)
inductive Rn (C : Cx) (nx0 nt : Nat) : Code → St → Ex → St → Prop
  | ex {n : Nat} {c : Code} {s s' : St} {ex : Ex} (h : exec C n nt c s = some (ex, s')) (hok : codeOK c = true) : Rn C nx0 nt c s ex s'
  | seq {a b : Code} {s s1 s2 : St} {ex : Ex} (h1 : Rn C nx0 nt a s .normal s1) (h2 : Rn C nx0 nt b s1 ex s2) : Rn C nx0 nt (.seq a b) s ex s2
  | block {id : Nat} {b : Code} {s s' : St} (h : Rn C nx0 nt b s (.exit id) s') : Rn C nx0 nt (.block id b) s .normal s'
  | loop {b : Code} {s se : St} {ex : Ex} {m : Nat} (hex : ex ≠ .normal) (hok : codeOK b = true) (h : LoopN C nx0 nt b ex se m s) : Rn C nx0 nt (.loop b) s ex se
  | post {c : Code} {s s' : St} {ex : Ex} {l : LS} (h : Rn C nx0 nt c s ex s') (hl : lessB nt nx0 s' l = true) : Rn C nx0 nt c s ex l.st
theorem Rn.wp {C : Cx} (hC : C.Sound) (g0 : Good σ0 H0 nx0 w0) {c : Code} {s s' : St} {ex : Ex} (h : Rn C nx0 nt c s ex s') : ∀ {a : Act} {w : World}, At σ0 H0 nx0 w0 nt s a w →
    c.wp C.P (fun e a' w' => e = toExit ex ∧ At σ0 H0 nx0 w0 nt s' a' w') a w := by
  induction h with
  | ex h hok => intro a w hat; exact At.run hC g0 h hok hat
  | seq h1 h2 ih1 ih2 =>
    intro a w hat
    refine wp_seq (wp_mono (ih1 hat) ?_)
    rintro e a' w' ⟨rfl, h1⟩
    exact ih2 h1
  | block h ih =>
    intro a w hat
    refine wp_block (wp_mono (ih hat) ?_)
    rintro e a' w' ⟨rfl, h1⟩
    simp only [toExit, Exit.inBlock, if_true]
    exact ⟨trivial, h1⟩
  | @loop b s se ex m hex hok h =>
    intro a w hat
    refine wp_loop_ghost (fun m a1 w1 => ∃ s1, LoopN C nx0 nt b ex se m s1 ∧ At σ0 H0 nx0 w0 nt s1 a1 w1) m ⟨s, h, hat⟩ ?_
    rintro m a1 w1 ⟨s1, h1, h2⟩
    refine wp_mono (h1.turn hC g0 hex hok h2) ?_
    intro e a' w' he
    cases e with
    | normal =>
      obtain ⟨m', s2, q1, q2, q3⟩ := he
      exact ⟨m', q1, s2, q2, q3⟩
    | _ => exact he
  | post h hl ih =>
    intro a w hat
    refine wp_mono (ih hat) ?_
    rintro e a' w' ⟨he, h1⟩
    exact ⟨he, h1.less g0 hl⟩
def sqL : Code → Code | .seq a _ => a | c => c
def sqR : Code → Code | .seq _ b => b | c => c
def isSeq : Code → Bool | .seq _ _ => true | _ => false
def blB : Code → Code | .block _ b => b | c => c
def isBl (id : Nat) : Code → Bool | .block i _ => decide (i = id) | _ => false
def lpB : Code → Code | .loop b => b | c => c
def isLp : Code → Bool | .loop _ => true | _ => false
theorem Rn.seq' {C : Cx} {c : Code} {s s1 s2 : St} {ex : Ex} (hc : isSeq c = true) (h1 : Rn C nx0 nt (sqL c) s .normal s1) (h2 : Rn C nx0 nt (sqR c) s1 ex s2) : Rn C nx0 nt c s ex s2 := by
  cases c <;> first | exact Rn.seq h1 h2 | cases hc
theorem Rn.blockLoop {C : Cx} {c : Code} {id : Nat} {s se : St} {m : Nat} (hc : (isBl id c && isLp (blB c) && codeOK (lpB (blB c))) = true) (h : LoopN C nx0 nt (lpB (blB c)) (.exit id) se m s) : Rn C nx0 nt c s .normal se := by
  simp only [Bool.and_eq_true] at hc
  obtain ⟨⟨h1, h2⟩, h3⟩ := hc
  cases c with
  | block i b =>
    simp only [isBl, decide_eq_true_eq] at h1
    subst h1
    simp only [blB] at h2 h3 h
    cases b with
    | loop b => exact Rn.block (Rn.loop (by simp) h3 h)
    | _ => cases h2
  | _ => cases h1
def exNo : Ex → Nat
  | .normal => 0
  | .ret => 1
  | .exit i => i + 2
theorem exNo_inj {a b : Ex} (h : exNo a = exNo b) : a = b := by
  cases a <;> cases b <;> simp only [exNo] at h <;> first | rfl | omega | (congr 1; omega)
def exlB (C : Cx) (n nx0 nt : Nat) (c : Code) (s : St) (ex : Ex) (l : LS) : Bool := match execF C n nt c s with
  | some (e, s') => decide (exNo e = exNo ex) && lessB nt nx0 s' l
  | none => false
theorem exlB_run {C : Cx} {n : Nat} {c : Code} {s : St} {ex : Ex} {l : LS} (h : exlB C n nx0 nt c s ex l = true) : ∃ s', exec C n nt c s = some (ex, s') ∧ lessB nt nx0 s' l = true := by
  unfold exlB at h
  rw [execF_eq] at h
  split at h
  · rename_i e s' he
    simp only [Bool.and_eq_true, decide_eq_true_eq] at h
    rw [exNo_inj h.1] at he
    exact ⟨s', he, h.2⟩
  · cases h
theorem Rn.leaf {C : Cx} {n : Nat} {c : Code} {s : St} {ex : Ex} {l : LS} (hok : codeOK c = true) (h : exlB C n nx0 nt c s ex l = true) : Rn C nx0 nt c s ex l.st := by
  obtain ⟨s', h1, h2⟩ := exlB_run h
  exact .post (.ex h1 hok) h2
def iters (run : RunFn) (nt : Nat) (b : Code) (m : Nat) : St → Option St :=
  @Nat.rec (fun _ => St → Option St) (fun s => some s) (fun _ ih s => match run nt b s with
    | some (.normal, s') => ih s'
    | _ => none) m
def itB (C : Cx) (n nx0 nt : Nat) (b : Code) (m : Nat) (s : St) (l : LS) : Bool := match iters (execF C n) nt b m s with
  | some s' => lessB nt nx0 s' l
  | none => false
theorem iters_loop {C : Cx} {n : Nat} {b : Code} {ex : Ex} {se : St} {k : Nat} : ∀ {m : Nat} {s s' : St}, iters (execF C n) nt b m s = some s' → LoopN C nx0 nt b ex se k s' → LoopN C nx0 nt b ex se (k + m) s
  | 0, s, s', h, r => by
    have : some s = some s' := h
    injection this with this
    subst this; exact r
  | m + 1, s, s', h, r => by
    have h' : (match execF C n nt b s with | some (.normal, s1) => iters (execF C n) nt b m s1 | _ => none) = some s' := h
    split at h'
    · rename_i s1 h1
      rw [execF_eq] at h1
      exact .step h1 (iters_loop h' r)
    · cases h'
theorem LoopN.more {C : Cx} {n : Nat} {b : Code} {ex : Ex} {se : St} {k m : Nat} {s : St} {l : LS} (h : itB C n nx0 nt b m s l = true) (r : LoopN C nx0 nt b ex se k l.st) : LoopN C nx0 nt b ex se (k + m) s := by
  unfold itB at h
  split at h
  · rename_i s' hs
    exact iters_loop hs (.less h r)
  · cases h
theorem Rn.loopEnd {C : Cx} {n : Nat} {c : Code} {id : Nat} {s sl : St} {l : LS} {m : Nat} (hc : (isBl id c && isLp (blB c) && codeOK (lpB (blB c))) = true) (hl : exlB C n nx0 nt (lpB (blB c)) sl (.exit id) l = true)
    (h : ∀ se, LoopN C nx0 nt (lpB (blB c)) (.exit id) se 0 sl → LoopN C nx0 nt (lpB (blB c)) (.exit id) se m s) : Rn C nx0 nt c s .normal l.st := by
  obtain ⟨s', h1, h2⟩ := exlB_run hl
  exact .post (Rn.blockLoop hc (h s' (.last h1))) h2
def endB (C : Cx) (S : Sm) (φ : List Nat) (rs : List ResultVar) (l : LS) : Bool := match resA C l.st rs with
  | some v => smCheck S φ (some (v, l.st.H, l.nx))
  | none => false
theorem smR_ok {C D : Cx} (hC : C.Sound) {S : Sm} {φ : List Nat} {fn : Func} {body : Code} {ex : Ex} {l : LS} (hf : C.P.funcs[S.k]? = some fn) (hname : (fn.name == "runtime.NumGoroutine") = false) (hbody : fn.body = some body)
    (hlen : S.args.length ≤ fn.ntmps) (hR : Rn C S.n0 fn.ntmps body ⟨argEnv S.args, S.heap, S.n0⟩ ex l.st) (hex : ex = .normal ∨ ex = .ret) (hc : endB C S φ fn.results.toList l = true) (hP : D.P = C.P) : CallOK D (smCall S) := by
  intro k args H nx v H' nx' hk σ w xs hxs g
  unfold smCall at hk
  split at hk
  case isFalse => cases hk
  rename_i e
  subst e
  unfold applySm at hk
  unfold endB at hc
  split at hc
  case h_2 => cases hc
  rename_i v1 hv1
  generalize hfd : findL S.p H 3000 (pairsOfs S.args args []) (.nil, .nil) = ti at hk
  obtain ⟨t, inv⟩ := ti
  simp only at hk
  have hfz : ∀ i, S.n0 ≤ i → σ (psiF t S.n0 nx i) = none := fun i hi => by
    unfold psiF
    rw [if_neg (by omega)]
    exact (g.fresh nx (Nat.le_refl _)).1
  obtain ⟨ha, hg, hgo⟩ := apply_ok hc hfz hk g
  subst ha
  have hx := VRs_ren.1 hxs
  rw [hP]
  have hact := argEnv_R hx hlen
  refine ⟨?_, ?_⟩
  · unfold callFunc
    rw [run_bind_ok (a := C.P) (w' := w) rfl]
    simp only [hf]
    rw [if_neg (by rw [hname]; simp), if_neg (by simp [hbody])]
    rfl
  · refine calls_of_wp hf hbody ?_
    refine wp_mono (hR.wp hC hg ⟨_, hact, Step.refl, hg⟩) ?_
    rintro e a' w' ⟨he, σ1, h1, h2, h3⟩
    obtain ⟨x, hx1, hx2⟩ := resA_run hC.toOK h3 h1 hv1
    obtain ⟨σ', q1, q2, q3⟩ := hgo hx2 h2 h3
    rcases hex with rfl | rfl <;> subst he <;> exact ⟨h1.defers, x, hx1, x, σ', rfl, q1, q2, q3⟩
end CI
namespace CI
open Go
namespace Spl
def spl : List UInt8 → List (List UInt8)
  | [] => [[]]
  | b :: r => if b = 32 then [] :: spl r else (b :: (spl r).headD []) :: (spl r).tail
def joiT : List (List UInt8) → List UInt8
  | [] => []
  | x :: xs => 32 :: (x ++ joiT xs)
def joi : List (List UInt8) → List UInt8
  | [] => []
  | x :: xs => x ++ joiT xs
theorem spl_ne (l : List UInt8) : spl l ≠ [] := by
  cases l with
  | nil => simp [spl]
  | cons b r => unfold spl; split <;> simp
theorem spl_len (l : List UInt8) : (spl l).length = l.count 32 + 1 := by
  induction l with
  | nil => rfl
  | cons b r ih =>
    unfold spl
    split
    · rename_i h
      subst h
      simp [ih]
    · rename_i h
      rw [List.length_cons, List.length_tail, ih, List.count_cons]
      simp [h]
theorem spl_joi (l : List UInt8) : joi (spl l) = l := by
  induction l with
  | nil => rfl
  | cons b r ih =>
    have hn := spl_ne r
    unfold spl
    split
    · rename_i h
      subst h
      revert ih hn
      cases spl r with
      | nil => intro _ h; exact absurd rfl h
      | cons x xs => intro ih _; simp only [joi] at ih; simp only [joi, joiT, List.nil_append, ih]
    · revert ih hn
      cases spl r with
      | nil => intro _ h; exact absurd rfl h
      | cons x xs => intro ih _; simp only [joi] at ih; simp only [joi, List.headD_cons, List.tail_cons, List.cons_append, ih]
theorem ix_none {l : List UInt8} (h : Lib.indexByte l 32 = -1) : spl l = [l] := by
  induction l with
  | nil => rfl
  | cons b r ih =>
    unfold Lib.indexByte at h
    split at h
    · cases h
    · rename_i hb
      split at h
      · rename_i h2
        have hb' : b ≠ 32 := by simpa using hb
        unfold spl
        rw [if_neg hb', ih (by simpa using h2)]
        rfl
      · have := Lib.indexByte_ge r 32
        omega
theorem ix_some {l : List UInt8} {m : Nat} (h : Lib.indexByte l 32 = m) : m < l.length ∧ spl l = l.take m :: spl (l.drop (m + 1)) := by
  induction l generalizing m with
  | nil => simp [Lib.indexByte] at h
  | cons b r ih =>
    unfold Lib.indexByte at h
    split at h
    · rename_i hb
      obtain rfl : m = 0 := by omega
      have hb' : b = 32 := by simpa using hb
      refine ⟨by simp, ?_⟩
      conv => lhs; unfold spl
      rw [if_pos hb']
      simp
    · rename_i hb
      have hb' : b ≠ 32 := by simpa using hb
      split at h
      · omega
      · have := Lib.indexByte_ge r 32
        rename_i h2
        have h2' : Lib.indexByte r 32 ≠ -1 := by simpa using h2
        obtain ⟨k, rfl⟩ : ∃ k, m = k + 1 := ⟨m - 1, by omega⟩
        obtain ⟨i1, i2⟩ := ih (m := k) (by omega)
        refine ⟨by simp; omega, ?_⟩
        conv => lhs; unfold spl
        rw [if_neg hb', i2]
        simp
theorem joiT_len (xs : List (List UInt8)) : (joiT xs).length = (xs.map List.length).sum + xs.length := by
  induction xs with
  | nil => rfl
  | cons x xs ih => simp [joiT, ih]; omega
theorem joi_len (xs : List (List UInt8)) : (joi xs).length = (xs.map List.length).sum + (xs.length - 1) := by
  cases xs with
  | nil => rfl
  | cons x xs => simp [joi, joiT_len]; omega
theorem joiT_app (xs ys : List (List UInt8)) : joiT (xs ++ ys) = joiT xs ++ joiT ys := by
  induction xs with
  | nil => rfl
  | cons x xs ih => simp [joiT, ih]
end Spl
end CI
namespace CI
namespace Quo
def hexC (n : Nat) : UInt8 := UInt8.ofNat (if n < 10 then 48 + n else 87 + n)
def plainN (n : Nat) : Bool := decide (32 < n) && decide (n < 127) && decide (n ≠ 92)
def oneN (n : Nat) : List UInt8 := if n = 92 then [92, 92] else if 32 < n ∧ n < 127 then [UInt8.ofNat n] else [92, 120, hexC (n / 16), hexC (n % 16)]
def oneW (b : UInt8) : List UInt8 := oneN b.toNat
def writeW (s : List UInt8) : List UInt8 := if s = [] then [92, 101] else s.flatMap oneW
def unhex (b : UInt8) : Option Nat := if 48 ≤ b.toNat ∧ b.toNat ≤ 57 then some (b.toNat - 48) else if 97 ≤ b.toNat ∧ b.toNat ≤ 102 then some (b.toNat - 87) else none
def codesB (hi : Nat) : Bool := (List.range 16).any fun lo => !plainN (16 * hi + lo) && decide (16 * hi + lo ≠ 92)
def stepR : List UInt8 → Except Nat (UInt8 × Nat)
  | [] => .error 0
  | b :: r =>
    if b.toNat = 92 then
      match r with
      | [] => .error 1
      | c :: r2 =>
        if c.toNat = 92 then .ok (92, 2) else
        if c.toNat = 120 then
          match r2 with
          | [] => .error 2
          | h :: r3 =>
            match unhex h with
            | none => .error 2
            | some hi =>
              if codesB hi = true then
                match r3 with
                | [] => .error 3
                | l :: _ =>
                  match unhex l with
                  | none => .error 3
                  | some lo => if plainN (16 * hi + lo) = true ∨ 16 * hi + lo = 92 then .error 3 else .ok (UInt8.ofNat (16 * hi + lo), 4)
              else .error 2
        else .error 1
    else if plainN b.toNat = true then .ok (b, 1) else .error 0
def readW : Nat → List UInt8 → Nat → List UInt8 → Except Nat (List UInt8)
  | 0, _, at_, acc => .ok acc
  | n + 1, w, at_, acc =>
    if w.length ≤ at_ then .ok acc else
    match stepR (w.drop at_) with
    | .error k => .error (at_ + k)
    | .ok (b, k) => readW n w (at_ + k) (acc ++ [b])
theorem unhex_hexC : ∀ n : Fin 16, unhex (hexC n.val) = some n.val := by decide
theorem plainN_ok (n : Nat) (h : n < 256) : plainN n = true ↔ 32 < n ∧ n < 127 ∧ n ≠ 92 := by
  simp only [plainN, Bool.and_eq_true, decide_eq_true_eq]
  omega
theorem stepR_one (b : UInt8) (r : List UInt8) : stepR (oneW b ++ r) = .ok (b, (oneW b).length) := by
  have hb : b.toNat < 256 := b.toNat_lt
  unfold oneW oneN
  by_cases h1 : b.toNat = 92
  · rw [if_pos h1]
    have : b = 92 := UInt8.toNat_inj.1 (by rw [h1]; rfl)
    subst this
    rfl
  · rw [if_neg h1]
    by_cases h2 : 32 < b.toNat ∧ b.toNat < 127
    · rw [if_pos h2]
      simp only [UInt8.ofNat_toNat, List.cons_append, List.nil_append, stepR, if_neg h1]
      rw [if_pos ((plainN_ok _ hb).2 ⟨h2.1, h2.2, h1⟩)]
      rfl
    · rw [if_neg h2]
      have u1 := unhex_hexC ⟨b.toNat / 16, by omega⟩
      have u2 := unhex_hexC ⟨b.toNat % 16, by omega⟩
      simp only at u1 u2
      have e : 16 * (b.toNat / 16) + b.toNat % 16 = b.toNat := by omega
      have hnp : plainN b.toNat = false := by
        rw [← Bool.not_eq_true, plainN_ok _ hb]
        rintro ⟨h3, h4, _⟩; exact h2 ⟨h3, h4⟩
      have hc : codesB (b.toNat / 16) = true := by
        unfold codesB
        rw [List.any_eq_true]
        refine ⟨b.toNat % 16, by simp only [List.mem_range]; omega, ?_⟩
        rw [e, hnp]
        simpa using h1
      simp only [List.cons_append, List.nil_append, stepR]
      rw [if_pos (by decide), if_neg (by decide), if_pos (by decide), u1]
      simp only [hc, if_true, u2, e, hnp, Bool.false_eq_true, false_or]
      rw [if_neg h1]
      simp
theorem oneW_pos (b : UInt8) : 1 ≤ (oneW b).length := by
  unfold oneW oneN
  split
  · simp
  · split <;> simp
theorem oneW_le (b : UInt8) : (oneW b).length ≤ 4 := by
  unfold oneW oneN
  split
  · simp
  · split <;> simp
theorem readW_write : ∀ (s pre : List UInt8) (acc : List UInt8) (n : Nat), s.length < n → readW n (pre ++ s.flatMap oneW) pre.length acc = .ok (acc ++ s)
  | [], pre, acc, n + 1, h => by simp [readW]
  | b :: s, pre, acc, n + 1, h => by
    have h1 := oneW_pos b
    simp only [readW]
    rw [if_neg (by simp; omega)]
    rw [List.drop_left, List.flatMap_cons, stepR_one]
    simp only
    have := readW_write s (pre ++ oneW b) (acc ++ [b]) n (by simp at h; omega)
    rw [List.append_assoc, List.length_append] at this
    rw [this]
    simp
section
def codeR : List UInt8 → Except Nat UInt8
  | [] => .error 0
  | h :: r3 =>
    match unhex h with
    | none => .error 0
    | some hi =>
      if codesB hi = true then
        match r3 with
        | [] => .error 1
        | l :: _ =>
          match unhex l with
          | none => .error 1
          | some lo => if plainN (16 * hi + lo) = true ∨ 16 * hi + lo = 92 then .error 1 else .ok (UInt8.ofNat (16 * hi + lo))
      else .error 0
variable {w : List UInt8} {a : Nat}
theorem drop_of {b : UInt8} (h : w[a]? = some b) : w.drop a = b :: w.drop (a + 1) := by
  obtain ⟨h1, h2⟩ := List.getElem?_eq_some_iff.1 h
  rw [List.drop_eq_getElem_cons h1, h2]
theorem codeR_none (h : ∀ b, w[a]? = some b → unhex b = none) : codeR (w.drop a) = .error 0 := by
  cases hw : w[a]? with
  | none => rw [List.drop_eq_nil_of_le (by simpa using hw)]; rfl
  | some b => rw [drop_of hw]; simp only [codeR, h b hw]
theorem codeR_hi {b : UInt8} {n : Nat} (h1 : w[a]? = some b) (h2 : unhex b = some n) (h3 : codesB n = false) : codeR (w.drop a) = .error 0 := by
  rw [drop_of h1]; simp only [codeR, h2, h3, Bool.false_eq_true, if_false]
theorem codeR_lo0 {b : UInt8} {n : Nat} (h1 : w[a]? = some b) (h2 : unhex b = some n) (h3 : codesB n = true) (h : ∀ b, w[a + 1]? = some b → unhex b = none) : codeR (w.drop a) = .error 1 := by
  rw [drop_of h1]
  cases hw : w[a + 1]? with
  | none => rw [List.drop_eq_nil_of_le (by simpa using hw)]; simp only [codeR, h2, h3, if_true]
  | some b => rw [drop_of hw]; simp only [codeR, h2, h3, if_true, h b hw]
theorem codeR_lo {b c : UInt8} {n m : Nat} (h1 : w[a]? = some b) (h2 : unhex b = some n) (h3 : codesB n = true) (h4 : w[a + 1]? = some c) (h5 : unhex c = some m) :
    codeR (w.drop a) = if plainN (16 * n + m) = true ∨ 16 * n + m = 92 then .error 1 else .ok (UInt8.ofNat (16 * n + m)) := by
  rw [drop_of h1, drop_of h4]; simp only [codeR, h2, h3, if_true, h5]
end
def escR : List UInt8 → Except Nat (UInt8 × Nat)
  | [] => .error 0
  | c :: r2 =>
    if c.toNat = 92 then .ok (92, 1) else
    if c.toNat = 120 then
      match codeR r2 with
      | .error k => .error (1 + k)
      | .ok b => .ok (b, 3)
    else .error 0
theorem stepR_esc {b : UInt8} {r : List UInt8} (h : b.toNat = 92) : stepR (b :: r) = match escR r with
    | .error k => .error (1 + k)
    | .ok (c, k) => .ok (c, k + 1) := by
  simp only [stepR, if_pos h]
  cases r with
  | nil => rfl
  | cons c r2 =>
    simp only [escR]
    by_cases h1 : c.toNat = 92
    · simp only [if_pos h1]
    · simp only [if_neg h1]
      by_cases h2 : c.toNat = 120
      · simp only [if_pos h2]
        cases r2 with
        | nil => rfl
        | cons h r3 =>
          simp only [codeR]
          cases unhex h with
          | none => rfl
          | some hi =>
            simp only
            by_cases h3 : codesB hi = true
            · simp only [if_pos h3]
              cases r3 with
              | nil => rfl
              | cons l r4 =>
                simp only
                cases unhex l with
                | none => rfl
                | some lo =>
                  simp only
                  by_cases h4 : plainN (16 * hi + lo) = true ∨ 16 * hi + lo = 92
                  · simp only [if_pos h4]
                  · simp only [if_neg h4]
            · simp only [if_neg h3]
      · simp only [if_neg h2]
theorem stepR_pos {r : List UInt8} {b : UInt8} {k : Nat} (h : stepR r = .ok (b, k)) : 1 ≤ k := by
  cases r with
  | nil => simp [stepR] at h
  | cons c r =>
    by_cases h92 : c.toNat = 92
    · rw [stepR_esc h92] at h
      split at h
      · cases h
      · injection h with h; injection h with h1 h2; omega
    · simp only [stepR, if_neg h92] at h
      split at h
      · injection h with h; injection h with h1 h2; omega
      · cases h
def readI (w : List UInt8) : List UInt8 × Nat × Nat :=
  if w = [92, 101] then ([], 0, 0) else
  match readW (w.length + 1) w 0 [] with
  | .error k => ([], if k = 1 ∧ w.take 2 = [92, 101] then 2 else k, 4)
  | .ok s => if w = [] then ([], 0, 4) else (s, s.length, 0)
theorem oneN_of (b : UInt8) : oneN b.toNat = oneW b := rfl
theorem hexC_unhex {h : UInt8} {n : Nat} (hu : unhex h = some n) : h = hexC n ∧ n < 16 := by
  unfold unhex at hu
  unfold hexC
  split at hu
  · injection hu with hu; subst hu
    rw [if_pos (by omega)]
    refine ⟨UInt8.toNat_inj.1 ?_, by omega⟩
    simp; omega
  · split at hu
    · injection hu with hu; subst hu
      rw [if_neg (by omega)]
      refine ⟨UInt8.toNat_inj.1 ?_, by omega⟩
      simp; omega
    · cases hu
theorem oneN_shape {k : Nat} (h : k < 256) : (k = 92 ∧ oneN k = [92, 92]) ∨ (plainN k = true ∧ oneN k = [UInt8.ofNat k]) ∨ (plainN k = false ∧ k ≠ 92 ∧ oneN k = [92, 120, hexC (k / 16), hexC (k % 16)]) := by
  unfold oneN
  by_cases h1 : k = 92
  · exact .inl ⟨h1, by rw [if_pos h1]⟩
  · rw [if_neg h1]
    by_cases h2 : 32 < k ∧ k < 127
    · exact .inr (.inl ⟨(plainN_ok k h).2 ⟨h2.1, h2.2, h1⟩, by rw [if_pos h2]⟩)
    · refine .inr (.inr ⟨?_, h1, by rw [if_neg h2]⟩)
      rw [← Bool.not_eq_true, plainN_ok k h]
      rintro ⟨a, b, _⟩; exact h2 ⟨a, b⟩
theorem stepR_word {r : List UInt8} {b : UInt8} {n : Nat} (h : stepR r = .ok (b, n)) : r.take (oneN b.toNat).length = oneN b.toNat ∧ (oneN b.toNat).length = n := by
  cases r with
  | nil => simp [stepR] at h
  | cons c r =>
    by_cases h92 : c.toNat = 92
    · have hb : c = 92 := UInt8.toNat_inj.1 h92
      subst hb
      rw [stepR_esc (by rfl)] at h
      cases hes : escR r with
      | error k => rw [hes] at h; cases h
      | ok p =>
        obtain ⟨b', k⟩ := p
        rw [hes] at h
        simp only at h
        injection h with h; injection h with h1 h2; subst h1; subst h2
        cases r with
        | nil => simp [escR] at hes
        | cons c r2 =>
          simp only [escR] at hes
          split at hes
          · rename_i c92
            injection hes with hes; injection hes with h1 h2; subst h1; subst h2
            have hc : c = 92 := UInt8.toNat_inj.1 c92
            subst hc
            exact ⟨rfl, rfl⟩
          · split at hes
            · rename_i c120
              have hc : c = 120 := UInt8.toNat_inj.1 c120
              subst hc
              cases hcr : codeR r2 with
              | error k => rw [hcr] at hes; cases hes
              | ok b2 =>
                rw [hcr] at hes
                simp only at hes
                injection hes with hes; injection hes with h1 h2; subst h1; subst h2
                cases r2 with
                | nil => simp [codeR] at hcr
                | cons x r3 =>
                  simp only [codeR] at hcr
                  split at hcr
                  · cases hcr
                  · rename_i hi hx
                    split at hcr
                    · split at hcr
                      · cases hcr
                      · rename_i y r4
                        split at hcr
                        · cases hcr
                        · rename_i lo hy
                          split at hcr
                          · cases hcr
                          · rename_i hp
                            injection hcr with hcr; subst hcr
                            obtain ⟨rfl, hhi⟩ := hexC_unhex hx
                            obtain ⟨rfl, hlo⟩ := hexC_unhex hy
                            have htn : (UInt8.ofNat (16 * hi + lo)).toNat = 16 * hi + lo := by simp; omega
                            rw [htn]
                            have hs := oneN_shape (k := 16 * hi + lo) (by omega)
                            rcases hs with ⟨q1, _⟩ | ⟨q1, _⟩ | ⟨q1, q2, q⟩
                            · exact absurd (.inr q1) hp
                            · exact absurd (.inl q1) hp
                            · rw [q, show (16 * hi + lo) / 16 = hi by omega, show (16 * hi + lo) % 16 = lo by omega]
                              exact ⟨rfl, rfl⟩
                    · cases hcr
            · cases hes
    · simp only [stepR, if_neg h92] at h
      split at h
      · rename_i hp
        injection h with h; injection h with h1 h2; subst h1; subst h2
        have := (plainN_ok _ c.toNat_lt).1 hp
        unfold oneN
        rw [if_neg h92, if_pos ⟨this.1, this.2.1⟩, UInt8.ofNat_toNat]
        exact ⟨rfl, rfl⟩
      · cases h
theorem readW_ok : ∀ (n : Nat) (w : List UInt8) (a : Nat) (acc s : List UInt8), w.length - a < n → readW n w a acc = .ok s → ∃ t, s = acc ++ t ∧ w.drop a = t.flatMap oneW
  | 0, _, _, _, _, h, _ => by omega
  | n + 1, w, a, acc, s, hn, h => by
    simp only [readW] at h
    split at h
    · rename_i hle
      injection h with h
      exact ⟨[], by simp [h], by rw [List.drop_eq_nil_of_le hle]; rfl⟩
    · rename_i hle
      split at h
      · cases h
      · rename_i b k hs
        have hk := stepR_pos hs
        obtain ⟨t, h1, h2⟩ := readW_ok n w (a + k) (acc ++ [b]) s (by omega) h
        obtain ⟨g1, g2⟩ := stepR_word hs
        refine ⟨b :: t, by rw [h1]; simp, ?_⟩
        rw [List.flatMap_cons, ← h2, ← oneN_of, ← List.drop_drop]
        conv => lhs; rw [← List.take_append_drop (oneN b.toNat).length (w.drop a), g1]
        rw [g2]
theorem flat_le (s : List UInt8) : (s.flatMap oneW).length ≤ 4 * s.length := by
  induction s with
  | nil => simp
  | cons b l ih =>
    have := oneW_le b
    simp only [List.flatMap_cons, List.length_append, List.length_cons]
    omega
theorem writeW_len (s : List UInt8) : (writeW s).length ≤ 4 * s.length + 2 := by
  unfold writeW
  split
  · simp
  · have := flat_le s
    omega
theorem flat_len (s : List UInt8) : s.length ≤ (s.flatMap oneW).length := by
  induction s with
  | nil => simp
  | cons b l ih =>
    have := oneW_pos b
    simp only [List.flatMap_cons, List.length_append, List.length_cons]
    omega
theorem readI_write (s : List UInt8) : readI (writeW s) = (s, s.length, 0) := by
  unfold writeW
  by_cases h0 : s = []
  · subst h0; rfl
  · rw [if_neg h0]
    have hr := readW_write s [] [] ((s.flatMap oneW).length + 1) (by have := flat_len s; omega)
    simp only [List.nil_append, List.length_nil] at hr
    unfold readI
    rw [if_neg, hr]
    · simp only
      rw [if_neg]
      intro h
      have := flat_len s
      rw [h] at this
      simp only [List.length_nil, Nat.le_zero, List.length_eq_zero_iff] at this
      exact h0 this
    · intro h
      rw [h] at hr
      have : readW (([92, 101] : List UInt8).length + 1) [92, 101] 0 [] = .error 1 := rfl
      rw [this] at hr; cases hr
theorem readI_cases (w : List UInt8) : (∃ k : Nat, readI w = ([], k, 4) ∧ ∀ s, writeW s ≠ w) ∨ (∃ s, readI w = (s, s.length, 0) ∧ writeW s = w) := by
  by_cases h : ∃ s, writeW s = w
  · obtain ⟨s, rfl⟩ := h
    exact .inr ⟨s, readI_write s, rfl⟩
  · left
    have hno : ∀ s, writeW s ≠ w := fun s hs => h ⟨s, hs⟩
    unfold readI
    by_cases h0 : w = [92, 101]
    · exact absurd (show writeW [] = w from by rw [h0]; rfl) (hno [])
    · rw [if_neg h0]
      cases hr : readW (w.length + 1) w 0 [] with
      | error k => exact ⟨_, rfl, hno⟩
      | ok s =>
        by_cases hn : w = []
        · exact ⟨0, by simp [hn], hno⟩
        · obtain ⟨t, h3, h4⟩ := readW_ok _ w 0 [] s (by omega) hr
          simp only [List.nil_append, List.drop_zero] at h3 h4
          subst h3
          refine absurd ?_ (hno s)
          unfold writeW
          rw [if_neg, ← h4]
          rintro rfl
          exact hn h4
end Quo
end CI
namespace CI
open Go
namespace Dgs
open Lib
theorem parse_app : ∀ (l r : List UInt8) (acc a : Nat), parseUint10 acc l = .ok a → parseUint10 acc (l ++ r) = parseUint10 a r
  | [], r, acc, a, h => by
    simp only [parseUint10] at h
    injection h with h
    subst h; rfl
  | c :: l, r, acc, a, h => by
    simp only [parseUint10, List.cons_append] at h ⊢
    split at h
    · rename_i h1
      rw [if_pos h1]
      split at h
      · cases h
      · rename_i h2
        rw [if_neg h2]
        split at h
        · cases h
        · rename_i h3
          rw [if_neg h3]
          exact parse_app l r _ a h
    · cases h
theorem toNat_dig {u : Nat} (h : u < 10) : (UInt8.ofNat (48 + u)).toNat = 48 + u := by
  rw [UInt8.toNat_ofNat']
  omega
theorem parse_dec (u : Nat) : u < 18446744073709551616 → parseUint10 0 (decDigits u) = .ok u := by
  induction u using Nat.strongRecOn with
  | _ u ih =>
    intro hu
    by_cases h : u < 10
    · rw [decDigits, dif_pos h]
      simp only [parseUint10, toNat_dig h]
      rw [if_pos (by omega), if_neg (by omega), if_neg (by omega)]
      congr 1; omega
    · have h1 := ih (u / 10) (by omega) (by omega)
      rw [decDigits, dif_neg h, parse_app _ _ _ _ h1]
      simp only [parseUint10, toNat_dig (show u % 10 < 10 by omega)]
      rw [if_pos (by omega), if_neg (by omega), if_neg (by omega)]
      congr 1; omega
theorem dec_dig (u : Nat) : ∀ c, c ∈ decDigits u → 48 ≤ c.toNat ∧ c.toNat ≤ 57 := by
  induction u using Nat.strongRecOn with
  | _ u ih =>
    intro c hc
    by_cases h : u < 10
    · rw [decDigits, dif_pos h, List.mem_singleton] at hc
      subst hc
      rw [toNat_dig h]; omega
    · rw [decDigits, dif_neg h, List.mem_append, List.mem_singleton] at hc
      rcases hc with hc | hc
      · exact ih (u / 10) (by omega) c hc
      · subst hc
        rw [toNat_dig (by omega)]; omega
theorem dec_ne (u : Nat) : decDigits u ≠ [] := by
  by_cases h : u < 10
  · rw [decDigits, dif_pos h]; simp
  · rw [decDigits, dif_neg h]; simp
theorem parse_mag (u : Nat) (hu : u < 18446744073709551616) : parseMag (decDigits u) = .ok u := by
  unfold parseMag
  rw [if_neg (dec_ne u), parse_dec u hu]
theorem atoi_itoa (n : Int) (hn : -9223372036854775808 ≤ n ∧ n ≤ 9223372036854775807) : atoiAll (itoa n) = .ok n := by
  unfold itoa
  by_cases h : n < 0
  · rw [if_pos h, atoiAll_minus, parse_mag _ (by omega)]
    simp only [signed]
    rw [if_neg (by omega)]
    congr 1; omega
  · rw [if_neg h]
    have hm := parse_mag n.toNat (by omega)
    have hd := dec_dig n.toNat
    cases e : decDigits n.toNat with
    | nil => exact absurd e (dec_ne _)
    | cons c r =>
      rw [e] at hm hd
      have hc := hd c List.mem_cons_self
      rw [atoiAll_plain c r (by omega) (by omega), hm]
      simp only [signless]
      rw [if_neg (by omega)]
      congr 1; omega
theorem ofNat_toNat (c : UInt8) : UInt8.ofNat c.toNat = c := by simp
end Dgs
namespace Seat
def parseQ (w : List UInt8) : Int × Int := match Lib.atoiAll w with
  | .ok m => if Lib.itoa m = w then (m, 0) else (0, 4)
  | _ => (0, 4)
theorem ok_range {l : List UInt8} {m : Int} (h : Lib.atoiAll l = .ok m) : -9223372036854775808 ≤ m ∧ m ≤ 9223372036854775807 := by
  unfold Lib.atoiAll at h
  split at h
  · cases h
  · simp only at h
    split at h
    · cases h
    · cases h
    · split at h
      · cases h
      · split at h
        · cases h
        · injection h with h
          subst h
          split <;> omega
end Seat
end CI
namespace CI
open Go
namespace Rcd
open Quo Spl
abbrev W := List UInt8
structure Rec where
  err : Int
  at_ : Int
  kind : Int
  degree : Int
  most : Int
  x : W
  y : W
  z : W
  stops : Bool
  places : Int
  live : Int
  pairs : Int
  triples : Int
  vectors : Int
  deriving DecidableEq
def Rec.zero : Rec := ⟨0, 0, 0, 0, 0, [], [], [], false, 0, 0, 0, 0, 0⟩
def wVerdict : W := [118, 101, 114, 100, 105, 99, 116]
def wPattern : W := [112, 97, 116, 116, 101, 114, 110]
def wFlat : W := [102, 108, 97, 116]
def wSteep : W := [115, 116, 101, 101, 112]
def wWild : W := [119, 105, 108, 100]
def wUnknown : W := [117, 110, 107, 110, 111, 119, 110]
def wYes : W := [121, 101, 115]
def wNo : W := [110, 111]
def kindW (k : Int) : W := if k = 0 then wFlat else if k = 1 then wSteep else if k = 2 then wWild else if k = 3 then wUnknown else []
def kindQ (w : W) : Int × Bool := if w = wUnknown then (3, true) else if w = wFlat then (0, true) else if w = wSteep then (1, true) else if w = wWild then (2, true) else (0, false)
def flagW (b : Bool) : W := if b then wYes else wNo
def Rec.nums (r : Rec) : List Int := [r.err, r.at_, r.degree, r.most, r.places, r.live, r.pairs, r.triples, r.vectors]
structure Rec.ok (r : Rec) : Prop where
  n : ∀ n ∈ r.nums, -9223372036854775808 ≤ n ∧ n ≤ 9223372036854775807
  k : -9223372036854775808 ≤ r.kind ∧ r.kind ≤ 9223372036854775807
def Rec.told (r : Rec) : Prop := (∀ n ∈ r.nums, 0 ≤ n) ∧ r.err ≤ 10 ∧ 0 ≤ r.kind ∧ r.kind ≤ 3
instance (r : Rec) : Decidable r.told := inferInstanceAs (Decidable (_ ∧ _))
def num (n : Int) : W := Lib.itoa n
def lineW (r : Rec) : List W :=
  [wVerdict, num r.err, num r.at_, kindW r.kind, num r.degree, num r.most, writeW r.x, writeW r.y, writeW r.z, flagW r.stops, num r.places, num r.live, num r.pairs, num r.triples, num r.vectors]
abbrev Q := List W × Bool
def nextQ : Q → W × Q
  | ([], _) => ([], ([], true))
  | (s :: l, b) => (s, (l, b))
def isQ (s : W) (q : Q) : Q := ((nextQ q).2.1, decide ((nextQ q).1 ≠ s) || (nextQ q).2.2)
def numQ (q : Q) : Int × Q := ((Seat.parseQ (nextQ q).1).1, ((nextQ q).2.1, (nextQ q).2.2 || decide ((Seat.parseQ (nextQ q).1).2 ≠ 0) || decide ((Seat.parseQ (nextQ q).1).1 < 0)))
def bytesQ (q : Q) : W × Q := ((readI (nextQ q).1).1, ((nextQ q).2.1, (nextQ q).2.2 || decide ((readI (nextQ q).1).2.2 ≠ 0)))
def flagQ (q : Q) : Bool × Q := (decide ((nextQ q).1 = wYes), ((nextQ q).2.1, (nextQ q).2.2 || (decide ((nextQ q).1 ≠ wYes) && decide ((nextQ q).1 ≠ wNo))))
def kindS (q : Q) : Int × Q := ((kindQ (nextQ q).1).1, ((nextQ q).2.1, (nextQ q).2.2 || !(kindQ (nextQ q).1).2))
def doneQ (q : Q) : Bool := !q.2 && decide (q.1.length = 0)
structure Run (ws : List W) where
  q0 : Q
  q1 : Int × Q
  q2 : Int × Q
  q3 : Int × Q
  q4 : Int × Q
  q5 : Int × Q
  q6 : W × Q
  q7 : W × Q
  q8 : W × Q
  q9 : Bool × Q
  q10 : Int × Q
  q11 : Int × Q
  q12 : Int × Q
  q13 : Int × Q
  q14 : Int × Q
  e0 : q0 = isQ wVerdict (ws, false)
  e1 : q1 = numQ q0
  e2 : q2 = numQ q1.2
  e3 : q3 = kindS q2.2
  e4 : q4 = numQ q3.2
  e5 : q5 = numQ q4.2
  e6 : q6 = bytesQ q5.2
  e7 : q7 = bytesQ q6.2
  e8 : q8 = bytesQ q7.2
  e9 : q9 = flagQ q8.2
  e10 : q10 = numQ q9.2
  e11 : q11 = numQ q10.2
  e12 : q12 = numQ q11.2
  e13 : q13 = numQ q12.2
  e14 : q14 = numQ q13.2
def run (ws : List W) : Run ws := ⟨_, _, _, _, _, _, _, _, _, _, _, _, _, _, _, rfl, rfl, rfl, rfl, rfl, rfl, rfl, rfl, rfl, rfl, rfl, rfl, rfl, rfl, rfl⟩
def Run.rcd {ws : List W} (u : Run ws) : Rec := ⟨u.q1.1, u.q2.1, u.q3.1, u.q4.1, u.q5.1, u.q6.1, u.q7.1, u.q8.1, u.q9.1, u.q10.1, u.q11.1, u.q12.1, u.q13.1, u.q14.1⟩
def readR (l : W) : Option Rec := if doneQ (run (spl l)).q14.2 = true ∧ (run (spl l)).rcd.told then some (run (spl l)).rcd else none
theorem next_good {q : Q} {s : W} {q' : Q} (h : nextQ q = (s, q')) (hb : q'.2 = false) : q.1 = s :: q'.1 ∧ q.2 = false := by
  obtain ⟨l, b⟩ := q
  cases l with
  | nil => simp only [nextQ, Prod.mk.injEq] at h; obtain ⟨_, rfl⟩ := h; cases hb
  | cons a l => simp only [nextQ, Prod.mk.injEq] at h; obtain ⟨rfl, rfl⟩ := h; exact ⟨rfl, hb⟩
theorem is_good {s : W} {q q' : Q} (h : q' = isQ s q) (hb : q'.2 = false) : q.1 = s :: q'.1 ∧ q.2 = false := by
  subst h
  simp only [isQ, Bool.or_eq_false_iff, decide_eq_false_iff_not, ne_eq, Decidable.not_not] at hb ⊢
  obtain ⟨h1, h2⟩ := hb
  have := next_good (q := q) (s := (nextQ q).1) (q' := (nextQ q).2) rfl h2
  rw [h1] at this
  exact this
theorem num_back {w : W} (h1 : (Seat.parseQ w).2 = 0) : num (Seat.parseQ w).1 = w ∧ -9223372036854775808 ≤ (Seat.parseQ w).1 ∧ (Seat.parseQ w).1 ≤ 9223372036854775807 := by
  unfold Seat.parseQ at h1 ⊢
  cases h : Lib.atoiAll w with
  | ok m =>
    rw [h] at h1
    simp only at h1 ⊢
    by_cases he : Lib.itoa m = w
    · rw [if_pos he]
      exact ⟨he, Seat.ok_range h⟩
    · rw [if_neg he] at h1; simp at h1
  | _ => rw [h] at h1; simp at h1
theorem numQ_good {q : Q} {n : Int × Q} (h : n = numQ q) (hb : n.2.2 = false) : q.1 = num n.1 :: n.2.1 ∧ q.2 = false ∧ 0 ≤ n.1 ∧ n.1 ≤ 9223372036854775807 := by
  subst h
  simp only [numQ, Bool.or_eq_false_iff, decide_eq_false_iff_not, ne_eq, Decidable.not_not, Int.not_lt] at hb ⊢
  obtain ⟨⟨h1, h2⟩, h3⟩ := hb
  obtain ⟨g1, g2⟩ := next_good (q := q) (s := (nextQ q).1) (q' := (nextQ q).2) rfl h1
  obtain ⟨b1, b2, b3⟩ := num_back h2
  exact ⟨by rw [b1]; exact g1, g2, h3, b3⟩
theorem bytesQ_good {q : Q} {n : W × Q} (h : n = bytesQ q) (hb : n.2.2 = false) : q.1 = writeW n.1 :: n.2.1 ∧ q.2 = false := by
  subst h
  simp only [bytesQ, Bool.or_eq_false_iff, decide_eq_false_iff_not, ne_eq, Decidable.not_not] at hb ⊢
  obtain ⟨h1, h2⟩ := hb
  obtain ⟨g1, g2⟩ := next_good (q := q) (s := (nextQ q).1) (q' := (nextQ q).2) rfl h1
  rcases readI_cases (nextQ q).1 with ⟨k, h3, _⟩ | ⟨s, h3, h4⟩
  · rw [h3] at h2; cases h2
  · rw [h3]
    refine ⟨?_, g2⟩
    rw [h4]; exact g1
theorem flagQ_good {q : Q} {n : Bool × Q} (h : n = flagQ q) (hb : n.2.2 = false) : q.1 = flagW n.1 :: n.2.1 ∧ q.2 = false := by
  subst h
  simp only [flagQ, Bool.or_eq_false_iff, Bool.and_eq_false_iff, decide_eq_false_iff_not, ne_eq, Decidable.not_not] at hb ⊢
  obtain ⟨h1, h2⟩ := hb
  obtain ⟨g1, g2⟩ := next_good (q := q) (s := (nextQ q).1) (q' := (nextQ q).2) rfl h1
  refine ⟨?_, g2⟩
  rw [g1]
  rcases h2 with h2 | h2
  · simp [flagW, h2]
  · have hne : ¬ wNo = wYes := by decide
    simp [flagW, h2, hne]
theorem kindW_Q {w : W} (h : (kindQ w).2 = true) : kindW (kindQ w).1 = w ∧ 0 ≤ (kindQ w).1 ∧ (kindQ w).1 ≤ 3 := by
  unfold kindQ at h ⊢
  by_cases h1 : w = wUnknown
  · rw [if_pos h1]; exact ⟨h1.symm, by decide, by decide⟩
  · rw [if_neg h1] at h ⊢
    by_cases h2 : w = wFlat
    · rw [if_pos h2]; exact ⟨h2.symm, by decide, by decide⟩
    · rw [if_neg h2] at h ⊢
      by_cases h3 : w = wSteep
      · rw [if_pos h3]; exact ⟨h3.symm, by decide, by decide⟩
      · rw [if_neg h3] at h ⊢
        by_cases h4 : w = wWild
        · rw [if_pos h4]; exact ⟨h4.symm, by decide, by decide⟩
        · rw [if_neg h4] at h; cases h
theorem kindS_good {q : Q} {n : Int × Q} (h : n = kindS q) (hb : n.2.2 = false) : q.1 = kindW n.1 :: n.2.1 ∧ q.2 = false ∧ 0 ≤ n.1 ∧ n.1 ≤ 3 := by
  subst h
  simp only [kindS, Bool.or_eq_false_iff, Bool.not_eq_false'] at hb ⊢
  obtain ⟨h1, h2⟩ := hb
  obtain ⟨g1, g2⟩ := next_good (q := q) (s := (nextQ q).1) (q' := (nextQ q).2) rfl h1
  obtain ⟨k1, k2, k3⟩ := kindW_Q h2
  exact ⟨by rw [k1]; exact g1, g2, k2, k3⟩
theorem run_back {ws : List W} (u : Run ws) (h : doneQ u.q14.2 = true) : ws = lineW u.rcd ∧ u.rcd.ok ∧ (∀ n ∈ u.rcd.nums, 0 ≤ n) ∧ 0 ≤ u.rcd.kind ∧ u.rcd.kind ≤ 3 := by
  simp only [doneQ, Bool.and_eq_true, Bool.not_eq_true', decide_eq_true_eq, List.length_eq_zero_iff] at h
  obtain ⟨hb, hl⟩ := h
  obtain ⟨w14, b13, p14, r14⟩ := numQ_good u.e14 hb
  obtain ⟨w13, b12, p13, r13⟩ := numQ_good u.e13 b13
  obtain ⟨w12, b11, p12, r12⟩ := numQ_good u.e12 b12
  obtain ⟨w11, b10, p11, r11⟩ := numQ_good u.e11 b11
  obtain ⟨w10, b9, p10, r10⟩ := numQ_good u.e10 b10
  obtain ⟨w9, b8⟩ := flagQ_good u.e9 b9
  obtain ⟨w8, b7⟩ := bytesQ_good u.e8 b8
  obtain ⟨w7, b6⟩ := bytesQ_good u.e7 b7
  obtain ⟨w6, b5⟩ := bytesQ_good u.e6 b6
  obtain ⟨w5, b4, p5, r5⟩ := numQ_good u.e5 b5
  obtain ⟨w4, b3, p4, r4⟩ := numQ_good u.e4 b4
  obtain ⟨w3, b2, p3, r3⟩ := kindS_good u.e3 b3
  obtain ⟨w2, b1, p2, r2⟩ := numQ_good u.e2 b2
  obtain ⟨w1, b0, p1, r1⟩ := numQ_good u.e1 b1
  obtain ⟨w0, _⟩ := is_good u.e0 b0
  simp only at w0
  refine ⟨?_, ⟨?_, ?_⟩, ?_, p3, r3⟩
  · rw [w1, w2, w3, w4, w5, w6, w7, w8, w9, w10, w11, w12, w13, w14, hl] at w0
    exact w0
  · intro n hn
    simp only [Rec.nums, Run.rcd, List.mem_cons, List.not_mem_nil, or_false] at hn
    rcases hn with rfl | rfl | rfl | rfl | rfl | rfl | rfl | rfl | rfl <;> constructor <;> omega
  · show _ ≤ u.q3.1 ∧ u.q3.1 ≤ _
    omega
  · intro n hn
    simp only [Rec.nums, Run.rcd, List.mem_cons, List.not_mem_nil, or_false] at hn
    rcases hn with rfl | rfl | rfl | rfl | rfl | rfl | rfl | rfl | rfl <;> assumption
theorem readR_back {l : W} {r : Rec} (h : readR l = some r) : joi (lineW r) = l ∧ r.told ∧ r.ok := by
  unfold readR at h
  split at h
  · rename_i hc
    injection h with h; subst h
    obtain ⟨h1, h2, _⟩ := run_back (run (spl l)) hc.1
    exact ⟨by rw [← h1]; exact spl_joi l, hc.2, h2⟩
  · cases h
theorem numQ_num {n : Int} (h : 0 ≤ n ∧ n ≤ 9223372036854775807) (l : List W) : numQ (num n :: l, false) = (n, (l, false)) := by
  have hp : Seat.parseQ (num n) = (n, 0) := by
    unfold Seat.parseQ num
    rw [Dgs.atoi_itoa n ⟨by omega, h.2⟩]
    simp
  simp only [numQ, nextQ, hp]
  simp
  omega
theorem bytesQ_write (s : W) (l : List W) : bytesQ (writeW s :: l, false) = (s, (l, false)) := by
  simp [bytesQ, nextQ, readI_write]
theorem flagQ_flag (b : Bool) (l : List W) : flagQ (flagW b :: l, false) = (b, (l, false)) := by
  cases b <;> simp [flagQ, nextQ, flagW, wYes, wNo]
theorem kindS_kind {k : Int} (h : 0 ≤ k ∧ k ≤ 3) (l : List W) : kindS (kindW k :: l, false) = (k, (l, false)) := by
  have h2 : k = 0 ∨ k = 1 ∨ k = 2 ∨ k = 3 := by omega
  rcases h2 with rfl | rfl | rfl | rfl <;> rfl
theorem run_line {r : Rec} (ho : r.ok) (ht : r.told) (u : Run (lineW r)) : u.rcd = r ∧ doneQ u.q14.2 = true := by
  have hn : ∀ n ∈ r.nums, 0 ≤ n ∧ n ≤ 9223372036854775807 := fun n h => ⟨ht.1 n h, (ho.n n h).2⟩
  simp only [Rec.nums, List.mem_cons, List.not_mem_nil, or_false, forall_eq_or_imp, forall_eq] at hn
  obtain ⟨n1, n2, n3, n4, n5, n6, n7, n8, n9⟩ := hn
  obtain ⟨q0, q1, q2, q3, q4, q5, q6, q7, q8, q9, q10, q11, q12, q13, q14, e0, e1, e2, e3, e4, e5, e6, e7, e8, e9, e10, e11, e12, e13, e14⟩ := u
  have f0 : isQ wVerdict (lineW r, false) = ((lineW r).tail, false) := by simp [isQ, nextQ, lineW]
  rw [f0] at e0; subst e0
  rw [show (lineW r).tail = num r.err :: (lineW r).tail.tail from rfl, numQ_num n1] at e1; subst e1
  simp only at e2
  rw [show (lineW r).tail.tail = num r.at_ :: (lineW r).tail.tail.tail from rfl, numQ_num n2] at e2; subst e2
  simp only at e3
  rw [show (lineW r).tail.tail.tail = kindW r.kind :: (lineW r).drop 4 from rfl, kindS_kind ⟨ht.2.2.1, ht.2.2.2⟩] at e3; subst e3
  simp only at e4
  rw [show (lineW r).drop 4 = num r.degree :: (lineW r).drop 5 from rfl, numQ_num n3] at e4; subst e4
  simp only at e5
  rw [show (lineW r).drop 5 = num r.most :: (lineW r).drop 6 from rfl, numQ_num n4] at e5; subst e5
  simp only at e6
  rw [show (lineW r).drop 6 = writeW r.x :: (lineW r).drop 7 from rfl, bytesQ_write] at e6; subst e6
  simp only at e7
  rw [show (lineW r).drop 7 = writeW r.y :: (lineW r).drop 8 from rfl, bytesQ_write] at e7; subst e7
  simp only at e8
  rw [show (lineW r).drop 8 = writeW r.z :: (lineW r).drop 9 from rfl, bytesQ_write] at e8; subst e8
  simp only at e9
  rw [show (lineW r).drop 9 = flagW r.stops :: (lineW r).drop 10 from rfl, flagQ_flag] at e9; subst e9
  simp only at e10
  rw [show (lineW r).drop 10 = num r.places :: (lineW r).drop 11 from rfl, numQ_num n5] at e10; subst e10
  simp only at e11
  rw [show (lineW r).drop 11 = num r.live :: (lineW r).drop 12 from rfl, numQ_num n6] at e11; subst e11
  simp only at e12
  rw [show (lineW r).drop 12 = num r.pairs :: (lineW r).drop 13 from rfl, numQ_num n7] at e12; subst e12
  simp only at e13
  rw [show (lineW r).drop 13 = num r.triples :: (lineW r).drop 14 from rfl, numQ_num n8] at e13; subst e13
  simp only at e14
  rw [show (lineW r).drop 14 = num r.vectors :: [] from rfl, numQ_num n9] at e14; subst e14
  exact ⟨rfl, rfl⟩
theorem free_num (n : Int) : (32 : UInt8) ∉ num n := by
  unfold num Lib.itoa
  have hd : ∀ u : Nat, (32 : UInt8) ∉ Lib.decDigits u := fun u h => by
    have := Dgs.dec_dig u 32 h
    simp at this
  split
  · intro h
    rcases List.mem_cons.1 h with h | h
    · cases h
    · exact hd _ h
  · exact hd _
theorem free_one (b : UInt8) : (32 : UInt8) ∉ oneW b := by
  have h : ∀ b : Fin 256, (32 : UInt8) ∉ oneN b.val := by decide +kernel
  exact h ⟨b.toNat, b.toNat_lt⟩
theorem free_write (s : W) : (32 : UInt8) ∉ writeW s := by
  unfold writeW
  split
  · decide
  · intro h
    obtain ⟨b, _, h2⟩ := List.mem_flatMap.1 h
    exact free_one b h2
theorem free_kind (k : Int) : (32 : UInt8) ∉ kindW k := by
  unfold kindW
  split
  · decide
  · split
    · decide
    · split
      · decide
      · split <;> decide
theorem free_flag (b : Bool) : (32 : UInt8) ∉ flagW b := by cases b <;> decide
theorem free_line (r : Rec) : ∀ w ∈ lineW r, (32 : UInt8) ∉ w := by
  intro w h
  simp only [lineW, List.mem_cons, List.not_mem_nil, or_false] at h
  rcases h with rfl | rfl | rfl | rfl | rfl | rfl | rfl | rfl | rfl | rfl | rfl | rfl | rfl | rfl | rfl <;> first | exact free_num _ | exact free_kind _ | exact free_write _ | exact free_flag _ | decide
theorem spl_one {w : W} (h : (32 : UInt8) ∉ w) : spl w = [w] := by
  induction w with
  | nil => rfl
  | cons b r ih =>
    simp only [List.mem_cons, not_or] at h
    unfold spl
    rw [if_neg (fun e => h.1 e.symm), ih h.2]
    rfl
theorem spl_app {w : W} (h : (32 : UInt8) ∉ w) (l : W) : spl (w ++ 32 :: l) = w :: spl l := by
  induction w with
  | nil => show spl (32 :: l) = _; rw [spl, if_pos rfl]
  | cons b r ih =>
    simp only [List.mem_cons, not_or] at h
    show spl (b :: (r ++ 32 :: l)) = _
    rw [spl, if_neg (fun e => h.1 e.symm), ih h.2]
    rfl
theorem joi_spl : ∀ (ws : List W), ws ≠ [] → (∀ w ∈ ws, (32 : UInt8) ∉ w) → spl (joi ws) = ws
  | [], h, _ => absurd rfl h
  | [w], _, h => by
    simp only [joi, joiT, List.append_nil]
    exact spl_one (h w (List.mem_cons_self ..))
  | w :: v :: ws, _, h => by
    have ih := joi_spl (v :: ws) (by simp) (fun u hu => h u (List.mem_cons_of_mem _ hu))
    simp only [joi, joiT] at ih ⊢
    rw [spl_app (h w (List.mem_cons_self ..)), ih]
theorem spl_line (r : Rec) : spl (joi (lineW r)) = lineW r := joi_spl _ (by simp [lineW]) (free_line r)
theorem readR_line {r : Rec} (ho : r.ok) (ht : r.told) : readR (joi (lineW r)) = some r := by
  obtain ⟨ws, hws⟩ : ∃ ws, ws = spl (joi (lineW r)) := ⟨_, rfl⟩
  have h2 : ws = lineW r := by rw [hws, spl_line]
  have key : ∀ (ws : List W) (u : Run ws), ws = lineW r → u.rcd = r ∧ doneQ u.q14.2 = true := by
    rintro ws u rfl
    exact run_line ho ht u
  obtain ⟨k1, k2⟩ := key _ (run (spl (joi (lineW r)))) (spl_line r)
  unfold readR
  rw [if_pos ⟨k2, by rw [k1]; exact ht⟩, k1]
end Rcd
end CI
namespace CI
open Go
namespace Rcd
open Quo Spl
structure Ent where
  pat : W
  mode : Int
  rcd : Rec
  deriving DecidableEq
def right (m : Int) : Prop := 0 ≤ m ∧ m ≤ 3
instance (m : Int) : Decidable (right m) := inferInstanceAs (Decidable (_ ∧ _))
def headW (m : Int) (p : W) : List W := [wPattern, num m, writeW p]
def headQ (l : W) : Option (Int × W) :=
  if doneQ (bytesQ (numQ (isQ wPattern (spl l, false))).2).2 = true ∧ right (numQ (isQ wPattern (spl l, false))).1 then
    some ((numQ (isQ wPattern (spl l, false))).1, (bytesQ (numQ (isQ wPattern (spl l, false))).2).1) else none
theorem headQ_back {l p : W} {m : Int} (h : headQ l = some (m, p)) : joi (headW m p) = l ∧ right m := by
  unfold headQ at h
  split at h
  · rename_i hc
    obtain ⟨hd, hr⟩ := hc
    injection h with h
    simp only [Prod.mk.injEq] at h
    obtain ⟨h1, h2⟩ := h
    simp only [doneQ, Bool.and_eq_true, Bool.not_eq_true', decide_eq_true_eq, List.length_eq_zero_iff] at hd
    obtain ⟨hb, hl⟩ := hd
    obtain ⟨w2, b2⟩ := bytesQ_good (q := (numQ (isQ wPattern (spl l, false))).2) rfl hb
    obtain ⟨w1, b1, p1, r1⟩ := numQ_good (q := isQ wPattern (spl l, false)) rfl b2
    obtain ⟨w0, _⟩ := is_good (q := (spl l, false)) rfl b1
    simp only at w0
    rw [w1, w2, hl, h1, h2] at w0
    rw [h1] at hr
    refine ⟨?_, hr⟩
    have := spl_joi l
    rw [w0] at this
    exact this
  · cases h
def linesOf : W → List W × W
  | [] => ([], [])
  | b :: r => if b = 10 then ([] :: (linesOf r).1, (linesOf r).2) else
    match (linesOf r).1 with
    | [] => ([], b :: (linesOf r).2)
    | l :: ls => ((b :: l) :: ls, (linesOf r).2)
def joinL (ls : List W) : W := ls.flatMap fun l => l ++ [10]
theorem lines_join (t : W) : joinL (linesOf t).1 ++ (linesOf t).2 = t := by
  induction t with
  | nil => rfl
  | cons b r ih =>
    unfold linesOf
    split
    · rename_i h; subst h
      show 10 :: (joinL (linesOf r).1 ++ _) = _
      rw [ih]
    · revert ih
      cases h : (linesOf r).1 with
      | nil => intro ih; simp only [joinL, List.flatMap_nil, List.nil_append] at ih ⊢; rw [ih]
      | cons l ls => intro ih; simp only [joinL, List.flatMap_cons, List.cons_append, List.append_assoc] at ih ⊢; rw [ih]
theorem lines_app {l : W} (h : (10 : UInt8) ∉ l) (t : W) : linesOf (l ++ 10 :: t) = (l :: (linesOf t).1, (linesOf t).2) := by
  induction l with
  | nil => show linesOf (10 :: t) = _; rw [linesOf, if_pos rfl]
  | cons b r ih =>
    simp only [List.mem_cons, not_or] at h
    show linesOf (b :: (r ++ 10 :: t)) = _
    rw [linesOf, if_neg (fun e => h.1 e.symm), ih h.2]
theorem lines_free {t : W} (h : (10 : UInt8) ∉ t) : linesOf t = ([], t) := by
  induction t with
  | nil => rfl
  | cons b r ih =>
    simp only [List.mem_cons, not_or] at h
    rw [linesOf, if_neg (fun e => h.1 e.symm), ih h.2]
theorem ix10_none {l : W} (h : Lib.indexByte l 10 = -1) : (10 : UInt8) ∉ l := by
  induction l with
  | nil => simp
  | cons b r ih =>
    unfold Lib.indexByte at h
    split at h
    · cases h
    · rename_i hb
      split at h
      · rename_i h2
        have hb' : b ≠ 10 := by simpa using hb
        simp only [List.mem_cons, not_or]
        exact ⟨fun e => hb' e.symm, ih (by simpa using h2)⟩
      · have := Lib.indexByte_ge r 10
        omega
theorem ix10_some {l : W} {m : Nat} (h : Lib.indexByte l 10 = m) : m < l.length ∧ (10 : UInt8) ∉ l.take m ∧ l = l.take m ++ 10 :: l.drop (m + 1) := by
  induction l generalizing m with
  | nil => simp [Lib.indexByte] at h
  | cons b r ih =>
    unfold Lib.indexByte at h
    split at h
    · rename_i hb
      obtain rfl : m = 0 := by omega
      have hb' : b = 10 := by simpa using hb
      refine ⟨by simp, by simp, by simp [hb']⟩
    · rename_i hb
      have hb' : b ≠ 10 := by simpa using hb
      split at h
      · omega
      · have := Lib.indexByte_ge r 10
        rename_i h2
        have h2' : Lib.indexByte r 10 ≠ -1 := by simpa using h2
        obtain ⟨k, rfl⟩ : ∃ k, m = k + 1 := ⟨m - 1, by omega⟩
        obtain ⟨i1, i2, i3⟩ := ih (m := k) (by omega)
        refine ⟨by simp; omega, ?_, ?_⟩
        · simp only [List.take_succ_cons, List.mem_cons, not_or]
          exact ⟨fun e => hb' e.symm, i2⟩
        · simp only [List.take_succ_cons, List.drop_succ_cons, List.cons_append]
          rw [← i3]
theorem cut_lines {t : W} : (Lib.indexByte t 10 = -1 ∧ linesOf t = ([], t)) ∨ (∃ m : Nat, Lib.indexByte t 10 = m ∧ m < t.length ∧ linesOf t = (t.take m :: (linesOf (t.drop (m + 1))).1, (linesOf (t.drop (m + 1))).2)) := by
  have hge := Lib.indexByte_ge t 10
  by_cases h : Lib.indexByte t 10 = -1
  · exact .inl ⟨h, lines_free (ix10_none h)⟩
  · obtain ⟨m, hm⟩ : ∃ m : Nat, Lib.indexByte t 10 = m := ⟨(Lib.indexByte t 10).toNat, by omega⟩
    obtain ⟨h1, h2, h3⟩ := ix10_some hm
    refine .inr ⟨m, hm, h1, ?_⟩
    conv => lhs; rw [h3]
    exact lines_app h2 _
def entW (e : Ent) : W := joi (headW e.mode e.pat) ++ 10 :: (joi (lineW e.rcd) ++ [10])
def textW (es : List Ent) : W := es.flatMap entW
def parseG (hq : W → Option (Int × W)) (rr : W → Option Rec) : List W → W → Nat → Except Nat (List Ent)
  | [], r, n => if r = [] then .ok [] else .error (n + 1)
  | [a], _, n => match hq a with
    | none => .error (n + 1)
    | some _ => .error (n + 2)
  | a :: b :: ls, r, n => match hq a with
    | none => .error (n + 1)
    | some (m, p) => match rr b with
      | none => .error (n + 2)
      | some rc => match parseG hq rr ls r (n + 2) with
        | .ok es => .ok (⟨p, m, rc⟩ :: es)
        | .error k => .error k
def Ent.good (e : Ent) : Prop := e.rcd.told ∧ e.rcd.ok ∧ right e.mode
theorem parseG_back {hq : W → Option (Int × W)} {rr : W → Option Rec} (Hh : ∀ l p m, hq l = some (m, p) → joi (headW m p) = l ∧ right m) (Hr : ∀ l r, rr l = some r → joi (lineW r) = l ∧ r.told ∧ r.ok) : ∀ (ls : List W) (r : W) (n : Nat) (es : List Ent), parseG hq rr ls r n = .ok es → joinL ls ++ r = textW es ∧ ∀ e ∈ es, e.good
  | [], r, n, es, h => by
    unfold parseG at h
    split at h
    · rename_i hr; subst hr; injection h with h; subst h; exact ⟨rfl, fun e he => by cases he⟩
    · cases h
  | [a], r, n, es, h => by
    unfold parseG at h
    split at h <;> cases h
  | a :: b :: ls, r, n, es, h => by
    unfold parseG at h
    split at h
    · cases h
    · rename_i m p hq1
      split at h
      · cases h
      · rename_i rc hr
        split at h
        · rename_i es' hp
          injection h with h; subst h
          obtain ⟨i1, i2⟩ := parseG_back Hh Hr ls r (n + 2) es' hp
          obtain ⟨k1, k2⟩ := Hh _ _ _ hq1
          obtain ⟨k3, k4, k5⟩ := Hr _ _ hr
          refine ⟨?_, fun e he => ?_⟩
          · simp only [joinL, List.flatMap_cons, textW, entW] at i1 ⊢
            rw [← i1, k1, k3]
            simp
          · rcases List.mem_cons.1 he with rfl | he
            · exact ⟨k4, k5, k2⟩
            · exact i2 e he
        · cases h
theorem no10 {w : W} (h : ∀ b ∈ w, 32 ≤ b.toNat) : (10 : UInt8) ∉ w := fun hm => by
  have := h _ hm
  simp at this
theorem ge_num (n : Int) : ∀ b ∈ num n, 32 ≤ b.toNat := by
  unfold num Lib.itoa
  have hd : ∀ u : Nat, ∀ b ∈ Lib.decDigits u, 32 ≤ b.toNat := fun u b h => by
    have := Dgs.dec_dig u b h
    omega
  split
  · intro b h
    rcases List.mem_cons.1 h with rfl | h
    · decide
    · exact hd _ b h
  · exact hd _
theorem ge_one (b : UInt8) : ∀ c ∈ oneW b, 32 ≤ c.toNat := by
  have h : ∀ b : Fin 256, ∀ c ∈ oneN b.val, 32 ≤ c.toNat := by decide +kernel
  exact h ⟨b.toNat, b.toNat_lt⟩
theorem ge_write (s : W) : ∀ b ∈ writeW s, 32 ≤ b.toNat := by
  unfold writeW
  split
  · decide
  · intro c h
    obtain ⟨b, _, h2⟩ := List.mem_flatMap.1 h
    exact ge_one b c h2
theorem ge_kind (k : Int) : ∀ b ∈ kindW k, 32 ≤ b.toNat := by
  unfold kindW
  split
  · decide
  · split
    · decide
    · split
      · decide
      · split <;> decide
theorem ge_flag (b : Bool) : ∀ c ∈ flagW b, 32 ≤ c.toNat := by cases b <;> decide
theorem ge_joiT : ∀ ws : List W, (∀ w ∈ ws, ∀ b ∈ w, 32 ≤ b.toNat) → ∀ b ∈ joiT ws, 32 ≤ b.toNat
  | [], _, b, h => by cases h
  | w :: ws, hw, b, h => by
    simp only [joiT, List.mem_cons, List.mem_append] at h
    rcases h with rfl | h | h
    · decide
    · exact hw w (List.mem_cons_self ..) b h
    · exact ge_joiT ws (fun v hv => hw v (List.mem_cons_of_mem _ hv)) b h
theorem ge_joi : ∀ ws : List W, (∀ w ∈ ws, ∀ b ∈ w, 32 ≤ b.toNat) → ∀ b ∈ joi ws, 32 ≤ b.toNat
  | [], _, b, h => by cases h
  | w :: ws, hw, b, h => by
    simp only [joi, List.mem_append] at h
    rcases h with h | h
    · exact hw w (List.mem_cons_self ..) b h
    · exact ge_joiT ws (fun v hv => hw v (List.mem_cons_of_mem _ hv)) b h
theorem line_no10 (r : Rec) : (10 : UInt8) ∉ joi (lineW r) := by
  refine no10 (ge_joi _ fun w h => ?_)
  simp only [lineW, List.mem_cons, List.not_mem_nil, or_false] at h
  rcases h with rfl | rfl | rfl | rfl | rfl | rfl | rfl | rfl | rfl | rfl | rfl | rfl | rfl | rfl | rfl <;> first | exact ge_num _ | exact ge_kind _ | exact ge_write _ | exact ge_flag _ | decide
def goodG (hq : W → Option (Int × W)) (rr : W → Option Rec) (i : Nat) (l : W) : Bool := if i % 2 = 0 then (hq l).isSome else (rr l).isSome
theorem parseG_err {hq : W → Option (Int × W)} {rr : W → Option Rec} : ∀ (ls : List W) (r : W) (n k : Nat), parseG hq rr ls r n = .error k →
    (∃ i l, ls[i]? = some l ∧ (∀ j l, j < i → ls[j]? = some l → goodG hq rr j l = true) ∧ goodG hq rr i l = false ∧ k = n + i + 1) ∨ ((∀ j l, ls[j]? = some l → goodG hq rr j l = true) ∧ k = n + ls.length + 1 ∧ (r ≠ [] ∨ ls.length % 2 = 1))
  | [], r, n, k, h => by
    unfold parseG at h
    split at h
    · cases h
    · rename_i hr
      injection h with h
      exact .inr ⟨fun j l hl => by simp at hl, by simp; omega, .inl hr⟩
  | [a], r, n, k, h => by
    unfold parseG at h
    split at h
    · rename_i hq1
      injection h with h
      exact .inl ⟨0, a, rfl, fun j l hj => by omega, by simp [goodG, hq1], by omega⟩
    · rename_i m hq1
      injection h with h
      refine .inr ⟨fun j l hl => ?_, by simp; omega, .inr rfl⟩
      cases j with
      | zero => simp at hl; subst hl; simp [goodG, hq1]
      | succ j => simp at hl
  | a :: b :: ls, r, n, k, h => by
    unfold parseG at h
    split at h
    · rename_i hq1
      injection h with h
      exact .inl ⟨0, a, rfl, fun j l hj => by omega, by simp [goodG, hq1], by omega⟩
    · rename_i m p hq1
      have g0 : goodG hq rr 0 a = true := by simp [goodG, hq1]
      split at h
      · rename_i hr
        injection h with h
        refine .inl ⟨1, b, rfl, fun j l hj hl => ?_, by simp [goodG, hr], by omega⟩
        obtain rfl : j = 0 := by omega
        simp at hl; subst hl; exact g0
      · rename_i rc hr
        have g1 : goodG hq rr 1 b = true := by simp [goodG, hr]
        split at h
        · cases h
        · rename_i k' hp
          injection h with h; subst h
          have lift : ∀ j l, goodG hq rr j l = goodG hq rr (j + 2) l := fun j l => by unfold goodG; rw [Nat.add_mod_right]
          rcases parseG_err ls r (n + 2) _ hp with ⟨i, l, h1, h2, h3, h4⟩ | ⟨h1, h2, h3⟩
          · refine .inl ⟨i + 2, l, by simpa using h1, fun j l' hj hl => ?_, by rw [← lift]; exact h3, by omega⟩
            match j, hl with
            | 0, hl => simp at hl; subst hl; exact g0
            | 1, hl => simp at hl; subst hl; exact g1
            | j + 2, hl => rw [← lift]; exact h2 j l' (by omega) (by simpa using hl)
          · refine .inr ⟨fun j l' hl => ?_, by simp; omega, ?_⟩
            · match j, hl with
              | 0, hl => simp at hl; subst hl; exact g0
              | 1, hl => simp at hl; subst hl; exact g1
              | j + 2, hl => rw [← lift]; exact h1 j l' (by simpa using hl)
            · simp only [List.length_cons]; rcases h3 with h3 | h3
              · exact .inl h3
              · exact .inr (by omega)
def parseT (t : W) : Except Nat (List Ent) := parseG headQ readR (linesOf t).1 (linesOf t).2 0
theorem parseT_back {t : W} {es : List Ent} (h : parseT t = .ok es) : textW es = t ∧ ∀ e ∈ es, e.good := by
  obtain ⟨h1, h2⟩ := parseG_back (fun _ _ _ h => headQ_back h) (fun _ _ h => readR_back h) _ _ _ _ h
  rw [lines_join] at h1
  exact ⟨h1.symm, h2⟩
theorem zero_told : Rec.zero.told := by decide
theorem zero_ok : Rec.zero.ok := ⟨by decide, by decide⟩
theorem parseT_one {l : W} (h : (10 : UInt8) ∉ l) : (∃ es, parseT (l ++ 10 :: (joi (lineW Rec.zero) ++ [10])) = .ok es) ↔ (headQ l).isSome = true := by
  unfold parseT
  rw [lines_app h, lines_app (line_no10 _)]
  simp only
  unfold parseG
  cases hq : headQ l with
  | none => simp
  | some x =>
    obtain ⟨m, p⟩ := x
    simp only
    rw [readR_line zero_ok zero_told]
    simp [parseG, linesOf]
end Rcd
end CI
namespace CI
open Go
variable {P : Program}
end CI
