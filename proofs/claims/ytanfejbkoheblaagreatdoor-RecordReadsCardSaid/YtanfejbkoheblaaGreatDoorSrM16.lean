/- Parts of the proof: Rc Rw Re Rf Req. -/
import Derived.Test.YtanfejbkoheblaaGreatDoorSrM3
import Derived.Test.YtanfejbkoheblaaGreatDoorSrRb
import Derived.Test.YtanfejbkoheblaaGreatDoorSrM14
import Derived.Test.YtanfejbkoheblaaGreatDoorSrM13
import Derived.Test.YtanfejbkoheblaaGreatDoorSrM5
set_option linter.unusedVariables false
set_option linter.unusedSimpArgs false
set_option maxRecDepth 10000
namespace CI
open Go
namespace Seat
open Quo Rcd Spl
variable {H : Heap} {nx : Nat}
def booA (b : Bool) : AV := .lit (.bool b)
structure Ws (H : Heap) (lim p : Nat) (tl : List AV) (t : TypeId) (q : Q) : Prop where
  pn : p < lim
  mem : ∃ b o all, H.get p = some (.cells (.slice b o q.1.length (some q.1.length) 1 :: booA q.2 :: tl) t false) ∧ b ≠ p ∧ b < lim ∧ H.get b = some (.cells (List.map strA all) 9 false) ∧ (q.1 ≠ [] → all.drop o = q.1)
structure FrP (p : Nat) (H : Heap) (nx : Nat) (H' : Heap) (nx' : Nat) : Prop where
  le : nx ≤ nx'
  old : ∀ c, c < nx → c ≠ p → H'.get c = H.get c
  fr : (∀ b, nx ≤ b → H.get b = none) → ∀ b, nx' ≤ b → H'.get b = none
theorem FrP.trans {p : Nat} {H1 H2 : Heap} {n1 n2 : Nat} (a : FrP p H nx H1 n1) (b : FrP p H1 n1 H2 n2) : FrP p H nx H2 n2 :=
  ⟨Nat.le_trans a.le b.le, fun c hc hp => (b.old c (Nat.lt_of_lt_of_le hc a.le) hp).trans (a.old c hc hp), fun h => b.fr (a.fr h)⟩
theorem FrP.put {p : Nat} (hp : p < nx) (ob : Option AObj) : FrP p H nx (H.put p ob) nx :=
  ⟨Nat.le_refl _, fun c hc h => Tr.get_put_ne _ _ _ _ h, fun h b hb => by rw [Tr.get_put_ne _ _ _ _ (by omega)]; exact h b hb⟩
theorem Fr.toP {p : Nat} {H' : Heap} {nx' : Nat} (h : Fr H nx H' nx') : FrP p H nx H' nx' := ⟨h.le, fun c hc _ => h.old c hc, fun _ => h.fr⟩
theorem Ws.mono {lim p : Nat} {tl : List AV} {t : TypeId} {q : Q} (h : Ws H lim p tl t q) {H' : Heap} (hF : ∀ c, c < lim → H'.get c = H.get c) : Ws H' lim p tl t q := by
  obtain ⟨pn, b, o, all, h1, h2, h3, h4, h5⟩ := h
  exact ⟨pn, b, o, all, (hF p pn).trans h1, h2, h3, (hF b h3).trans h4, h5⟩
theorem fa138_0 (p o : Nat) : fieldAddrOp cx.T 138 (.ptr p o) 0 = some (.ptr p o) := by kernel_rfl
theorem fa138_1 (p o : Nat) : fieldAddrOp cx.T 138 (.ptr p o) 1 = some (.ptr p (o + 1)) := by kernel_rfl
theorem ln_sl (H : Heap) (b o n : Nat) (c : Option Nat) : lenOp cx.T H 100 (.slice b o n c 1) = some n := by kernel_rfl
theorem sl_tail (b o n : Nat) : sliceOp cx.P cx.T H 100 (.slice b o (n + 1) (some (n + 1)) 1) (some (.lit (.int .i64 1))) none none = some (.slice b (if n = 0 then o else o + 1) n (some n) 1) := by
  unfold sliceOp
  simp only [T100, ti100, T9, ti9]
  have e1 : ∀ k, bnd (some (.lit (.int .i64 1))) k = some 1 := fun _ => rfl
  have e2 : ∀ k, bnd none k = some k := fun _ => rfl
  rw [if_neg (by simp)]
  simp only [e1, e2]
  rw [if_pos ⟨Nat.le_refl _, Nat.le_refl _, by omega, by simp⟩]
  unfold cutTo
  by_cases h : n = 0
  · subst h; simp
  · rw [if_neg (by omega), if_neg h]; simp
section
variable {lim p : Nat} {tl : List AV} {t : TypeId} {q : Q}
theorem Ws.ld_bad (h : Ws H lim p tl t q) : loadOp cx.T H 4 (.ptr p 1) = some (booA q.2) := by
  obtain ⟨pn, b, o, all, h1, h2, h3, h4, h5⟩ := h
  exact ld_at (by kernel_rfl) h1 rfl
theorem Ws.st_bad (h : Ws H lim p tl t q) (hlim : lim ≤ nx) (v : Bool) : ∃ H', storeOp cx.T H 4 (.ptr p 1) (.lit (.bool v)) = some H' ∧ Ws H' lim p tl t (q.1, v) ∧ FrP p H nx H' nx := by
  obtain ⟨pn, b, o, all, h1, h2, h3, h4, h5⟩ := h
  refine ⟨_, st_at (t := 4) (v := booA v) (by kernel_rfl) h1 (by simp) rfl rfl, ⟨pn, b, o, all, Tr.get_put_same _ _ _, h2, h3, by rw [Tr.get_put_ne _ _ _ _ h2]; exact h4, h5⟩, FrP.put (by omega) _⟩
theorem wnext_cl (h : Ws H lim p tl t q) (hlim : lim ≤ nx) : ∃ H', Cl cx 145 [.ptr p 0] H nx = some (strA (nextQ q).1, H', nx) ∧ Ws H' lim p tl t (nextQ q).2 ∧ FrP p H nx H' nx := by
  have h' := h
  obtain ⟨l, bad⟩ := q
  obtain ⟨pn, b, o, all, h1, h2, h3, h4, h5⟩ := h
  have hl : loadOp cx.T H 100 (.ptr p 0) = some (.slice b o l.length (some l.length) 1) := ld_at (by kernel_rfl) h1 rfl
  cases l with
  | nil =>
    obtain ⟨H', k1, k2, k3⟩ := h'.st_bad hlim true
    refine ⟨H', ?_, k2, k3⟩
    refine wp145 _ _ _ _ (by simp) ?_
    unfold s145
    have e0 : ((([] : List W).length : Int) = 0) = True := by simp
    simp only [↓aA, ↓aB, ↓aC, ↓aD, ↓aE, ↓aF, ↓aG, ↓aH, aI, ↓aJ, ↓aK, aL, stepA, opA, convA, isCall, put?, ev, aM, aN, builtinA, callA, argEnv, wantedS, aO, aP, aQ, aR, aS, aT, aU, aV, aW, undef, z_none, aX, aY, aZ, bA, bB, bC, bD, bE, bF, bG, extractOp, bH, bI, bJ, bK, Nat.reduceLT, Nat.reduceEqDiff, Nat.reduceAdd, bL, bM, bN, bO, bP, ↓reduceIte, bQ, bR, reduceCtorEq, resA, resOf, bS, bT, bU, bV, bW, bX, bY, bZ, cA, cB, cC, cD, cE, cF, cG, cH, cI, cJ, cK, cL, maxA, minA, cM, cN, cO, cP, cQ, cR, cS, cT, cU, cV, cW, cX, nc_ptr, fa138_0, fa138_1, hl, ln_sl, e0, k1]
    rfl
  | cons s l =>
    have hd := h5 (by simp)
    have hs : all[o]? = some s := by
      have := congrArg (·[0]?) hd
      simpa using this
    have hix : indexAddrOp cx.T 100 (.slice b o (l.length + 1) (some (l.length + 1)) 1) (.lit (.int .i64 0)) = some (.ptr b o) := by
      have := ix100o (b := b) (o := o) (n := l.length + 1) (i := 0) (c := some (l.length + 1)) (by omega)
      exact this
    have hld : loadOp cx.T H 9 (.ptr b o) = some (strA s) := ld_at (by kernel_rfl) h4 (by simp [List.getElem?_map, hs])
    have hst := st_at (t := 100) (v := .slice b (if l.length = 0 then o else o + 1) l.length (some l.length) 1) (by kernel_rfl) h1 (o := 0) (by simp) rfl rfl
    refine ⟨_, ?_, ⟨pn, b, (if l.length = 0 then o else o + 1), all, Tr.get_put_same _ _ _, h2, h3, by rw [Tr.get_put_ne _ _ _ _ h2]; exact h4, ?_⟩, FrP.put (by omega) _⟩
    · refine wp145 _ _ _ _ (by simp) ?_
      unfold s145
      have e0 : (((l.length + 1 : Nat) : Int) = 0) = False := by simp; omega
      simp only [List.length_cons] at hl
      simp only [↓aA, ↓aB, ↓aC, ↓aD, ↓aE, ↓aF, ↓aG, ↓aH, aI, ↓aJ, ↓aK, aL, stepA, opA, convA, isCall, put?, ev, aM, aN, builtinA, callA, argEnv, wantedS, aO, aP, aQ, aR, aS, aT, aU, aV, aW, undef, z_none, aX, aY, aZ, bA, bB, bC, bD, bE, bF, bG, extractOp, bH, bI, bJ, bK, Nat.reduceLT, Nat.reduceEqDiff, Nat.reduceAdd, bL, bM, bN, bO, bP, ↓reduceIte, bQ, bR, reduceCtorEq, resA, resOf, bS, bT, bU, bV, bW, bX, bY, bZ, cA, cB, cC, cD, cE, cF, cG, cH, cI, cJ, cK, cL, maxA, minA, cM, cN, cO, cP, cQ, cR, cS, cT, cU, cV, cW, cX, nc_ptr, fa138_0, fa138_1, hl, ln_sl, e0, hix, hld, sl_tail, hst]
      exact ⟨rfl, rfl⟩
    · intro hne
      have hne' : l ≠ [] := hne
      show List.drop (if l.length = 0 then o else o + 1) all = l
      rw [if_neg (by simpa using hne')]
      have := congrArg List.tail hd
      rw [List.tail_drop] at this
      simpa using this
theorem is_cl (h : Ws H lim p tl t q) (hlim : lim ≤ nx) (s : W) : ∃ H', Cl cx 79 [.ptr p 0, strA s] H nx = some (.tuple [], H', nx) ∧ Ws H' lim p tl t (isQ s q) ∧ FrP p H nx H' nx := by
  obtain ⟨H1, n1, n2, n3⟩ := wnext_cl h hlim
  obtain ⟨H2, k1, k2, k3⟩ := n2.st_bad hlim (decide ((nextQ q).1 ≠ s) || (nextQ q).2.2)
  refine ⟨H2, ?_, k2, n3.trans k3⟩
  refine wp79 _ _ _ _ (by simp) ?_
  unfold s79
  have hlb := n2.ld_bad
  unfold booA at hlb
  by_cases he : (nextQ q).1 = s
  · simp only [he, ne_eq, not_true_eq_false, decide_false, Bool.false_or] at k1
    simp only [↓aA, ↓aB, ↓aC, ↓aD, ↓aE, ↓aF, ↓aG, ↓aH, aI, ↓aJ, ↓aK, aL, stepA, opA, convA, isCall, put?, ev, aM, aN, builtinA, callA, argEnv, wantedS, aO, aP, aQ, aR, aS, aT, aU, aV, aW, undef, z_none, aX, aY, aZ, bA, bB, bC, bD, bE, bF, bG, extractOp, bH, bI, bJ, bK, Nat.reduceLT, Nat.reduceEqDiff, Nat.reduceAdd, bL, bM, bN, bO, bP, ↓reduceIte, bQ, bR, reduceCtorEq, resA, resOf, bS, bT, bU, bV, bW, bX, bY, bZ, cA, cB, cC, cD, cE, cF, cG, cH, cI, cJ, cK, cL, maxA, minA, cM, cN, cO, cP, cQ, cR, cS, cT, cU, cV, cW, cX, x_none, n1, str_neq, he, nc_ptr, fa138_1, hlb, k1]
  · simp only [he, ne_eq, not_false_eq_true, decide_true, Bool.true_or] at k1
    simp only [↓aA, ↓aB, ↓aC, ↓aD, ↓aE, ↓aF, ↓aG, ↓aH, aI, ↓aJ, ↓aK, aL, stepA, opA, convA, isCall, put?, ev, aM, aN, builtinA, callA, argEnv, wantedS, aO, aP, aQ, aR, aS, aT, aU, aV, aW, undef, z_none, aX, aY, aZ, bA, bB, bC, bD, bE, bF, bG, extractOp, bH, bI, bJ, bK, Nat.reduceLT, Nat.reduceEqDiff, Nat.reduceAdd, bL, bM, bN, bO, bP, ↓reduceIte, bQ, bR, reduceCtorEq, resA, resOf, bS, bT, bU, bV, bW, bX, bY, bZ, cA, cB, cC, cD, cE, cF, cG, cH, cI, cJ, cK, cL, maxA, minA, cM, cN, cO, cP, cQ, cR, cS, cT, cU, cV, cW, cX, x_none, n1, str_neq, he, nc_ptr, fa138_1, hlb, k1]
theorem nextQ_len {q : Q} {n : Nat} (h : ∀ w ∈ q.1, w.length ≤ n) : (nextQ q).1.length ≤ n ∧ ∀ w ∈ (nextQ q).2.1, w.length ≤ n := by
  obtain ⟨l, b⟩ := q
  cases l with
  | nil => exact ⟨by simp [nextQ], by simp [nextQ]⟩
  | cons a l => exact ⟨h a (List.mem_cons_self ..), fun w hw => h w (List.mem_cons_of_mem _ hw)⟩
theorem number_cl (h : Ws H lim p tl t q) (hlim : lim ≤ nx) (hq : ∀ w ∈ q.1, w.length ≤ 1000000) (hfr : ∀ b, nx ≤ b → H.get b = none) : ∃ H' nx', Cl cx 80 [.ptr p 0] H nx = some (.lit (.int .i64 (numQ q).1), H', nx') ∧ Ws H' lim p tl t (numQ q).2 ∧ FrP p H nx H' nx' := by
  obtain ⟨H1, n1, n2, n3⟩ := wnext_cl h hlim
  obtain ⟨H2, nx2, p1, p2⟩ := parse_cl (H := H1) (nx := nx) (nextQ q).1 (nextQ_len hq).1 (n3.fr hfr)
  have n4 := n2.mono (fun c hc => p2.old c (by omega))
  obtain ⟨H3, k1, k2, k3⟩ := n4.st_bad (nx := nx2) (by have := p2.le; omega) ((nextQ q).2.2 || decide ((parseQ (nextQ q).1).2 ≠ 0) || decide ((parseQ (nextQ q).1).1 < 0))
  refine ⟨H3, nx2, ?_, k2, (n3.trans p2.toP).trans k3⟩
  refine wp80 _ _ _ _ (by simp) ?_
  unfold s80
  have hlb := n4.ld_bad
  unfold booA at hlb
  generalize hP : parseQ (nextQ q).1 = P at *
  have hr : (numQ q).1 = P.1 := by rw [← hP]; rfl
  rw [hr]
  by_cases hb : (nextQ q).2.2 = true
  · simp only [hb, Bool.true_or] at k1
    rw [hb] at hlb
    simp only [↓aA, ↓aB, ↓aC, ↓aD, ↓aE, ↓aF, ↓aG, ↓aH, aI, ↓aJ, ↓aK, aL, stepA, opA, convA, isCall, put?, ev, aM, aN, builtinA, callA, argEnv, wantedS, aO, aP, aQ, aR, aS, aT, aU, aV, aW, undef, z_none, aX, aY, aZ, bA, bB, bC, bD, bE, bF, bG, extractOp, bH, bI, bJ, bK, Nat.reduceLT, Nat.reduceEqDiff, Nat.reduceAdd, bL, bM, bN, bO, bP, ↓reduceIte, bQ, bR, reduceCtorEq, resA, resOf, bS, bT, bU, bV, bW, bX, bY, bZ, cA, cB, cC, cD, cE, cF, cG, cH, cI, cJ, cK, cL, maxA, minA, cM, cN, cO, cP, cQ, cR, cS, cT, cU, cV, cW, cX, x_none, n1, p1, nc_ptr, fa138_1, hlb, k1]
  · simp only [Bool.not_eq_true] at hb
    rw [hb] at hlb
    by_cases he : P.2 = 0
    · simp only [hb, he, ne_eq, not_true_eq_false, decide_false, Bool.false_or] at k1
      simp only [↓aA, ↓aB, ↓aC, ↓aD, ↓aE, ↓aF, ↓aG, ↓aH, aI, ↓aJ, ↓aK, aL, stepA, opA, convA, isCall, put?, ev, aM, aN, builtinA, callA, argEnv, wantedS, aO, aP, aQ, aR, aS, aT, aU, aV, aW, undef, z_none, aX, aY, aZ, bA, bB, bC, bD, bE, bF, bG, extractOp, bH, bI, bJ, bK, Nat.reduceLT, Nat.reduceEqDiff, Nat.reduceAdd, bL, bM, bN, bO, bP, ↓reduceIte, bQ, bR, reduceCtorEq, resA, resOf, bS, bT, bU, bV, bW, bX, bY, bZ, cA, cB, cC, cD, cE, cF, cG, cH, cI, cJ, cK, cL, maxA, minA, cM, cN, cO, cP, cQ, cR, cS, cT, cU, cV, cW, cX, x_none, n1, p1, nc_ptr, fa138_1, hlb, he, k1]
    · simp only [hb, he, ne_eq, not_false_eq_true, decide_true, Bool.false_or, Bool.true_or] at k1
      simp only [↓aA, ↓aB, ↓aC, ↓aD, ↓aE, ↓aF, ↓aG, ↓aH, aI, ↓aJ, ↓aK, aL, stepA, opA, convA, isCall, put?, ev, aM, aN, builtinA, callA, argEnv, wantedS, aO, aP, aQ, aR, aS, aT, aU, aV, aW, undef, z_none, aX, aY, aZ, bA, bB, bC, bD, bE, bF, bG, extractOp, bH, bI, bJ, bK, Nat.reduceLT, Nat.reduceEqDiff, Nat.reduceAdd, bL, bM, bN, bO, bP, ↓reduceIte, bQ, bR, reduceCtorEq, resA, resOf, bS, bT, bU, bV, bW, bX, bY, bZ, cA, cB, cC, cD, cE, cF, cG, cH, cI, cJ, cK, cL, maxA, minA, cM, cN, cO, cP, cQ, cR, cS, cT, cU, cV, cW, cX, x_none, n1, p1, nc_ptr, fa138_1, hlb, he, k1]
theorem bytes_cl (h : Ws H lim p tl t q) (hlim : lim ≤ nx) (hq : ∀ w ∈ q.1, w.length ≤ 1000000) (hfr : ∀ b, nx ≤ b → H.get b = none) : ∃ H' nx', Cl cx 82 [.ptr p 0] H nx = some (strA (bytesQ q).1, H', nx') ∧ Ws H' lim p tl t (bytesQ q).2 ∧ FrP p H nx H' nx' := by
  obtain ⟨H1, n1, n2, n3⟩ := wnext_cl h hlim
  obtain ⟨v, H2, nx2, p1, rfl, p2⟩ := read_cl (H := H1) (nx := nx) (w := (nextQ q).1) (nextQ_len hq).1 (n3.fr hfr)
  have n4 := n2.mono (fun c hc => p2.old c (by omega))
  obtain ⟨H3, k1, k2, k3⟩ := n4.st_bad (nx := nx2) (by have := p2.le; omega) ((nextQ q).2.2 || decide ((readI (nextQ q).1).2.2 ≠ 0))
  refine ⟨H3, nx2, ?_, k2, (n3.trans p2.toP).trans k3⟩
  refine wp82 _ _ _ _ (by simp) ?_
  unfold s82
  have hlb := n4.ld_bad
  unfold booA at hlb
  by_cases hb : (nextQ q).2.2 = true
  · simp only [hb, Bool.true_or] at k1
    rw [hb] at hlb
    simp only [↓aA, ↓aB, ↓aC, ↓aD, ↓aE, ↓aF, ↓aG, ↓aH, aI, ↓aJ, ↓aK, aL, stepA, opA, convA, isCall, put?, ev, aM, aN, builtinA, callA, argEnv, wantedS, aO, aP, aQ, aR, aS, aT, aU, aV, aW, undef, z_none, aX, aY, aZ, bA, bB, bC, bD, bE, bF, bG, extractOp, bH, bI, bJ, bK, Nat.reduceLT, Nat.reduceEqDiff, Nat.reduceAdd, bL, bM, bN, bO, bP, ↓reduceIte, bQ, bR, reduceCtorEq, resA, resOf, bS, bT, bU, bV, bW, bX, bY, bZ, cA, cB, cC, cD, cE, cF, cG, cH, cI, cJ, cK, cL, maxA, minA, cM, cN, cO, cP, cQ, cR, cS, cT, cU, cV, cW, cX, x_none, n1, p1, nc_ptr, fa138_1, hlb, k1]
    rfl
  · simp only [Bool.not_eq_true] at hb
    rw [hb] at hlb
    by_cases he : (readI (nextQ q).1).2.2 = 0
    · have he2 : (((readI (nextQ q).1).2.2 : Int) = 0) = True := by simp [he]
      simp only [hb, he, ne_eq, not_true_eq_false, decide_false, Bool.false_or] at k1
      simp only [↓aA, ↓aB, ↓aC, ↓aD, ↓aE, ↓aF, ↓aG, ↓aH, aI, ↓aJ, ↓aK, aL, stepA, opA, convA, isCall, put?, ev, aM, aN, builtinA, callA, argEnv, wantedS, aO, aP, aQ, aR, aS, aT, aU, aV, aW, undef, z_none, aX, aY, aZ, bA, bB, bC, bD, bE, bF, bG, extractOp, bH, bI, bJ, bK, Nat.reduceLT, Nat.reduceEqDiff, Nat.reduceAdd, bL, bM, bN, bO, bP, ↓reduceIte, bQ, bR, reduceCtorEq, resA, resOf, bS, bT, bU, bV, bW, bX, bY, bZ, cA, cB, cC, cD, cE, cF, cG, cH, cI, cJ, cK, cL, maxA, minA, cM, cN, cO, cP, cQ, cR, cS, cT, cU, cV, cW, cX, x_none, n1, p1, nc_ptr, fa138_1, hlb, he2, k1]
      rfl
    · have he2 : (((readI (nextQ q).1).2.2 : Int) = 0) = False := by simp [he]
      simp only [hb, he, ne_eq, not_false_eq_true, decide_true, Bool.false_or, Bool.true_or] at k1
      simp only [↓aA, ↓aB, ↓aC, ↓aD, ↓aE, ↓aF, ↓aG, ↓aH, aI, ↓aJ, ↓aK, aL, stepA, opA, convA, isCall, put?, ev, aM, aN, builtinA, callA, argEnv, wantedS, aO, aP, aQ, aR, aS, aT, aU, aV, aW, undef, z_none, aX, aY, aZ, bA, bB, bC, bD, bE, bF, bG, extractOp, bH, bI, bJ, bK, Nat.reduceLT, Nat.reduceEqDiff, Nat.reduceAdd, bL, bM, bN, bO, bP, ↓reduceIte, bQ, bR, reduceCtorEq, resA, resOf, bS, bT, bU, bV, bW, bX, bY, bZ, cA, cB, cC, cD, cE, cF, cG, cH, cI, cJ, cK, cL, maxA, minA, cM, cN, cO, cP, cQ, cR, cS, cT, cU, cV, cW, cX, x_none, n1, p1, nc_ptr, fa138_1, hlb, he2, k1]
      rfl
theorem flag_cl (h : Ws H lim p tl t q) (hlim : lim ≤ nx) : ∃ H', Cl cx 83 [.ptr p 0] H nx = some (.lit (.bool (flagQ q).1), H', nx) ∧ Ws H' lim p tl t (flagQ q).2 ∧ FrP p H nx H' nx := by
  obtain ⟨H1, n1, n2, n3⟩ := wnext_cl h hlim
  obtain ⟨H3, k1, k2, k3⟩ := n2.st_bad hlim ((nextQ q).2.2 || (decide ((nextQ q).1 ≠ wYes) && decide ((nextQ q).1 ≠ wNo)))
  refine ⟨H3, ?_, k2, n3.trans k3⟩
  refine wp83 _ _ _ _ (by simp) ?_
  unfold s83
  have hlb := n2.ld_bad
  unfold booA at hlb
  have hr : (flagQ q).1 = decide ((nextQ q).1 = wYes) := rfl
  rw [hr]
  by_cases hb : (nextQ q).2.2 = true
  · simp only [hb, Bool.true_or] at k1
    rw [hb] at hlb
    simp only [↓aA, ↓aB, ↓aC, ↓aD, ↓aE, ↓aF, ↓aG, ↓aH, aI, ↓aJ, ↓aK, aL, stepA, opA, convA, isCall, put?, ev, aM, aN, builtinA, callA, argEnv, wantedS, aO, aP, aQ, aR, aS, aT, aU, aV, aW, undef, z_none, aX, aY, aZ, bA, bB, bC, bD, bE, bF, bG, extractOp, bH, bI, bJ, bK, Nat.reduceLT, Nat.reduceEqDiff, Nat.reduceAdd, bL, bM, bN, bO, bP, ↓reduceIte, bQ, bR, reduceCtorEq, resA, resOf, bS, bT, bU, bV, bW, bX, bY, bZ, cA, cB, cC, cD, cE, cF, cG, cH, cI, cJ, cK, cL, maxA, minA, cM, cN, cO, cP, cQ, cR, cS, cT, cU, cV, cW, cX, x_none, n1, nc_ptr, fa138_1, hlb, lit_yes, lit_no, str_eql, k1]
  · simp only [Bool.not_eq_true] at hb
    rw [hb] at hlb
    by_cases he : (nextQ q).1 = wYes
    · simp only [hb, he, ne_eq, not_true_eq_false, decide_false, Bool.false_or, Bool.false_and] at k1
      simp only [↓aA, ↓aB, ↓aC, ↓aD, ↓aE, ↓aF, ↓aG, ↓aH, aI, ↓aJ, ↓aK, aL, stepA, opA, convA, isCall, put?, ev, aM, aN, builtinA, callA, argEnv, wantedS, aO, aP, aQ, aR, aS, aT, aU, aV, aW, undef, z_none, aX, aY, aZ, bA, bB, bC, bD, bE, bF, bG, extractOp, bH, bI, bJ, bK, Nat.reduceLT, Nat.reduceEqDiff, Nat.reduceAdd, bL, bM, bN, bO, bP, ↓reduceIte, bQ, bR, reduceCtorEq, resA, resOf, bS, bT, bU, bV, bW, bX, bY, bZ, cA, cB, cC, cD, cE, cF, cG, cH, cI, cJ, cK, cL, maxA, minA, cM, cN, cO, cP, cQ, cR, cS, cT, cU, cV, cW, cX, x_none, n1, nc_ptr, fa138_1, hlb, lit_yes, lit_no, str_eql, str_neq, he, k1]
    · by_cases hn : (nextQ q).1 = wNo
      · have hne : ¬ wNo = wYes := by decide
        simp only [hb, he, hn, hne, ne_eq, not_true_eq_false, not_false_eq_true, decide_false, decide_true, Bool.false_or, Bool.and_false] at k1
        simp only [↓aA, ↓aB, ↓aC, ↓aD, ↓aE, ↓aF, ↓aG, ↓aH, aI, ↓aJ, ↓aK, aL, stepA, opA, convA, isCall, put?, ev, aM, aN, builtinA, callA, argEnv, wantedS, aO, aP, aQ, aR, aS, aT, aU, aV, aW, undef, z_none, aX, aY, aZ, bA, bB, bC, bD, bE, bF, bG, extractOp, bH, bI, bJ, bK, Nat.reduceLT, Nat.reduceEqDiff, Nat.reduceAdd, bL, bM, bN, bO, bP, ↓reduceIte, bQ, bR, reduceCtorEq, resA, resOf, bS, bT, bU, bV, bW, bX, bY, bZ, cA, cB, cC, cD, cE, cF, cG, cH, cI, cJ, cK, cL, maxA, minA, cM, cN, cO, cP, cQ, cR, cS, cT, cU, cV, cW, cX, x_none, n1, nc_ptr, fa138_1, hlb, lit_yes, lit_no, str_eql, str_neq, hn, hne, k1]
      · simp only [hb, he, hn, ne_eq, not_false_eq_true, decide_true, Bool.false_or, Bool.and_true] at k1
        simp only [↓aA, ↓aB, ↓aC, ↓aD, ↓aE, ↓aF, ↓aG, ↓aH, aI, ↓aJ, ↓aK, aL, stepA, opA, convA, isCall, put?, ev, aM, aN, builtinA, callA, argEnv, wantedS, aO, aP, aQ, aR, aS, aT, aU, aV, aW, undef, z_none, aX, aY, aZ, bA, bB, bC, bD, bE, bF, bG, extractOp, bH, bI, bJ, bK, Nat.reduceLT, Nat.reduceEqDiff, Nat.reduceAdd, bL, bM, bN, bO, bP, ↓reduceIte, bQ, bR, reduceCtorEq, resA, resOf, bS, bT, bU, bV, bW, bX, bY, bZ, cA, cB, cC, cD, cE, cF, cG, cH, cI, cJ, cK, cL, maxA, minA, cM, cN, cO, cP, cQ, cR, cS, cT, cU, cV, cW, cX, x_none, n1, nc_ptr, fa138_1, hlb, lit_yes, lit_no, str_eql, str_neq, he, hn, k1]
theorem kind_cl (h : Ws H lim p tl t q) (hlim : lim ≤ nx) (hfr : ∀ b, nx ≤ b → H.get b = none) : ∃ H' nx', Cl cx 81 [.ptr p 0] H nx = some (.lit (.int .i64 (kindS q).1), H', nx') ∧ Ws H' lim p tl t (kindS q).2 ∧ FrP p H nx H' nx' := by
  obtain ⟨H1, n1, n2, n3⟩ := wnext_cl h hlim
  obtain ⟨H2, nx2, p1, p2⟩ := rkind_cl (H := H1) (nx := nx) (nextQ q).1 (n3.fr hfr)
  have n4 := n2.mono (fun c hc => p2.old c (by omega))
  obtain ⟨H3, k1, k2, k3⟩ := n4.st_bad (nx := nx2) (by have := p2.le; omega) ((nextQ q).2.2 || !(kindQ (nextQ q).1).2)
  refine ⟨H3, nx2, ?_, k2, (n3.trans p2.toP).trans k3⟩
  refine wp81 _ _ _ _ (by simp) ?_
  unfold s81
  have hlb := n4.ld_bad
  unfold booA at hlb
  have hr : (kindS q).1 = (kindQ (nextQ q).1).1 := rfl
  rw [hr]
  by_cases hb : (nextQ q).2.2 = true
  · simp only [hb, Bool.true_or] at k1
    rw [hb] at hlb
    simp only [↓aA, ↓aB, ↓aC, ↓aD, ↓aE, ↓aF, ↓aG, ↓aH, aI, ↓aJ, ↓aK, aL, stepA, opA, convA, isCall, put?, ev, aM, aN, builtinA, callA, argEnv, wantedS, aO, aP, aQ, aR, aS, aT, aU, aV, aW, undef, z_none, aX, aY, aZ, bA, bB, bC, bD, bE, bF, bG, extractOp, bH, bI, bJ, bK, Nat.reduceLT, Nat.reduceEqDiff, Nat.reduceAdd, bL, bM, bN, bO, bP, ↓reduceIte, bQ, bR, reduceCtorEq, resA, resOf, bS, bT, bU, bV, bW, bX, bY, bZ, cA, cB, cC, cD, cE, cF, cG, cH, cI, cJ, cK, cL, maxA, minA, cM, cN, cO, cP, cQ, cR, cS, cT, cU, cV, cW, cX, x_none, n1, p1, nc_ptr, fa138_1, hlb, k1]
  · simp only [Bool.not_eq_true] at hb
    rw [hb] at hlb
    simp only [hb, Bool.false_or] at k1
    simp only [↓aA, ↓aB, ↓aC, ↓aD, ↓aE, ↓aF, ↓aG, ↓aH, aI, ↓aJ, ↓aK, aL, stepA, opA, convA, isCall, put?, ev, aM, aN, builtinA, callA, argEnv, wantedS, aO, aP, aQ, aR, aS, aT, aU, aV, aW, undef, z_none, aX, aY, aZ, bA, bB, bC, bD, bE, bF, bG, extractOp, bH, bI, bJ, bK, Nat.reduceLT, Nat.reduceEqDiff, Nat.reduceAdd, bL, bM, bN, bO, bP, ↓reduceIte, bQ, bR, reduceCtorEq, resA, resOf, bS, bT, bU, bV, bW, bX, bY, bZ, cA, cB, cC, cD, cE, cF, cG, cH, cI, cJ, cK, cL, maxA, minA, cM, cN, cO, cP, cQ, cR, cS, cT, cU, cV, cW, cX, x_none, n1, p1, nc_ptr, fa138_1, hlb, k1]
theorem done_cl (h : Ws H lim p tl t q) : Cl cx 84 [.ptr p 0] H nx = some (.lit (.bool (doneQ q)), H, nx) := by
  refine wp84 _ _ _ _ (by simp) ?_
  unfold s84 doneQ
  have hlb := h.ld_bad
  unfold booA at hlb
  obtain ⟨l, bad⟩ := q
  obtain ⟨pn, b, o, all, h1, h2, h3, h4, h5⟩ := h
  have hl : loadOp cx.T H 100 (.ptr p 0) = some (.slice b o l.length (some l.length) 1) := ld_at (by kernel_rfl) h1 rfl
  simp only at hlb
  cases bad
  · have hz : (((l.length : Nat) : Int) = 0) = (l.length = 0) := by simp
    simp only [↓aA, ↓aB, ↓aC, ↓aD, ↓aE, ↓aF, ↓aG, ↓aH, aI, ↓aJ, ↓aK, aL, stepA, opA, convA, isCall, put?, ev, aM, aN, builtinA, callA, argEnv, wantedS, aO, aP, aQ, aR, aS, aT, aU, aV, aW, undef, z_none, aX, aY, aZ, bA, bB, bC, bD, bE, bF, bG, extractOp, bH, bI, bJ, bK, Nat.reduceLT, Nat.reduceEqDiff, Nat.reduceAdd, bL, bM, bN, bO, bP, ↓reduceIte, bQ, bR, reduceCtorEq, resA, resOf, bS, bT, bU, bV, bW, bX, bY, bZ, cA, cB, cC, cD, cE, cF, cG, cH, cI, cJ, cK, cL, maxA, minA, cM, cN, cO, cP, cQ, cR, cS, cT, cU, cV, cW, cX, nc_ptr, fa138_0, fa138_1, hlb, hl, ln_sl, hz]
    simp
  · simp only [↓aA, ↓aB, ↓aC, ↓aD, ↓aE, ↓aF, ↓aG, ↓aH, aI, ↓aJ, ↓aK, aL, stepA, opA, convA, isCall, put?, ev, aM, aN, builtinA, callA, argEnv, wantedS, aO, aP, aQ, aR, aS, aT, aU, aV, aW, undef, z_none, aX, aY, aZ, bA, bB, bC, bD, bE, bF, bG, extractOp, bH, bI, bJ, bK, Nat.reduceLT, Nat.reduceEqDiff, Nat.reduceAdd, bL, bM, bN, bO, bP, ↓reduceIte, bQ, bR, reduceCtorEq, resA, resOf, bS, bT, bU, bV, bW, bX, bY, bZ, cA, cB, cC, cD, cE, cF, cG, cH, cI, cJ, cK, cL, maxA, minA, cM, cN, cO, cP, cQ, cR, cS, cT, cU, cV, cW, cX, nc_ptr, fa138_0, fa138_1, hlb]
    simp
end
end Seat
end CI
namespace CI
open Go
namespace Seat
open Quo Rcd Spl
variable {H : Heap} {nx : Nat}
theorem num_len (n : Int) (h : -9223372036854775808 ≤ n ∧ n ≤ 9223372036854775807) : (num n).length ≤ 21 := by
  unfold num Lib.itoa
  split
  · have := dec_len 20 n.natAbs (by omega) (by omega)
    simp only [List.length_cons]; omega
  · have := dec_len 20 n.toNat (by omega) (by omega)
    omega
theorem kindW_len (k : Int) : (kindW k).length ≤ 7 := by
  unfold kindW
  split
  · decide
  · split
    · decide
    · split
      · decide
      · split <;> decide
theorem flagW_len (b : Bool) : (flagW b).length ≤ 3 := by cases b <;> decide
structure Short (r : Rec) : Prop where
  x : r.x.length ≤ 1000000
  y : r.y.length ≤ 1000000
  z : r.z.length ≤ 1000000
end Seat
end CI
namespace CI
open Go
namespace Seat
open Quo Rcd Spl
variable {H : Heap} {nx : Nat}
theorem fa60_0 (p o : Nat) : fieldAddrOp cx.T 60 (.ptr p o) 0 = some (.ptr p (o + 0)) := by kernel_rfl
theorem fa60_1 (p o : Nat) : fieldAddrOp cx.T 60 (.ptr p o) 1 = some (.ptr p (o + 1)) := by kernel_rfl
theorem fa60_2 (p o : Nat) : fieldAddrOp cx.T 60 (.ptr p o) 2 = some (.ptr p (o + 2)) := by kernel_rfl
theorem fa60_3 (p o : Nat) : fieldAddrOp cx.T 60 (.ptr p o) 3 = some (.ptr p (o + 3)) := by kernel_rfl
theorem fa60_4 (p o : Nat) : fieldAddrOp cx.T 60 (.ptr p o) 4 = some (.ptr p (o + 4)) := by kernel_rfl
theorem fa60_5 (p o : Nat) : fieldAddrOp cx.T 60 (.ptr p o) 5 = some (.ptr p (o + 5)) := by kernel_rfl
theorem fa60_6 (p o : Nat) : fieldAddrOp cx.T 60 (.ptr p o) 6 = some (.ptr p (o + 6)) := by kernel_rfl
theorem fa60_7 (p o : Nat) : fieldAddrOp cx.T 60 (.ptr p o) 7 = some (.ptr p (o + 7)) := by kernel_rfl
theorem fa60_8 (p o : Nat) : fieldAddrOp cx.T 60 (.ptr p o) 8 = some (.ptr p (o + 8)) := by kernel_rfl
theorem fa60_9 (p o : Nat) : fieldAddrOp cx.T 60 (.ptr p o) 9 = some (.ptr p (o + 9)) := by kernel_rfl
theorem fa60_10 (p o : Nat) : fieldAddrOp cx.T 60 (.ptr p o) 10 = some (.ptr p (o + 10)) := by kernel_rfl
theorem fa60_11 (p o : Nat) : fieldAddrOp cx.T 60 (.ptr p o) 11 = some (.ptr p (o + 11)) := by kernel_rfl
theorem fa60_12 (p o : Nat) : fieldAddrOp cx.T 60 (.ptr p o) 12 = some (.ptr p (o + 12)) := by kernel_rfl
theorem fa60_13 (p o : Nat) : fieldAddrOp cx.T 60 (.ptr p o) 13 = some (.ptr p (o + 13)) := by kernel_rfl
theorem ref_lds {p : Nat} {t : TypeId} {ro : Bool} {r : Rec} (h : H.get p = some (.cells (recC r) t ro)) :
    loadOp cx.T H 3 (.ptr p 0) = some (.lit (.int .i64 r.err)) ∧
    loadOp cx.T H 3 (.ptr p 1) = some (.lit (.int .i64 r.at_)) ∧
    loadOp cx.T H 3 (.ptr p 2) = some (.lit (.int .i64 r.kind)) ∧
    loadOp cx.T H 3 (.ptr p 3) = some (.lit (.int .i64 r.degree)) ∧
    loadOp cx.T H 3 (.ptr p 4) = some (.lit (.int .i64 r.most)) ∧
    loadOp cx.T H 9 (.ptr p 5) = some (strA r.x) ∧
    loadOp cx.T H 9 (.ptr p 6) = some (strA r.y) ∧
    loadOp cx.T H 9 (.ptr p 7) = some (strA r.z) ∧
    loadOp cx.T H 4 (.ptr p 8) = some (.lit (.bool r.stops)) ∧
    loadOp cx.T H 3 (.ptr p 9) = some (.lit (.int .i64 r.places)) ∧
    loadOp cx.T H 3 (.ptr p 10) = some (.lit (.int .i64 r.live)) ∧
    loadOp cx.T H 3 (.ptr p 11) = some (.lit (.int .i64 r.pairs)) ∧
    loadOp cx.T H 3 (.ptr p 12) = some (.lit (.int .i64 r.triples)) ∧
    loadOp cx.T H 3 (.ptr p 13) = some (.lit (.int .i64 r.vectors)) :=
  ⟨ld_at (by kernel_rfl) h rfl, ld_at (by kernel_rfl) h rfl, ld_at (by kernel_rfl) h rfl, ld_at (by kernel_rfl) h rfl, ld_at (by kernel_rfl) h rfl, ld_at (by kernel_rfl) h rfl, ld_at (by kernel_rfl) h rfl, ld_at (by kernel_rfl) h rfl, ld_at (by kernel_rfl) h rfl, ld_at (by kernel_rfl) h rfl, ld_at (by kernel_rfl) h rfl, ld_at (by kernel_rfl) h rfl, ld_at (by kernel_rfl) h rfl, ld_at (by kernel_rfl) h rfl⟩
theorem bx60 (r : Rec) : boxOp H nx 60 (.agg (recC r)) = some (.ptr nx 0, H.put nx (some (.cells (recC r) 60 false)), nx + 1) := by kernel_rfl
theorem al60 : allocOp cx.T H nx 60 = some (.ptr nx 0, H.put nx (some (.cells (recC Rec.zero) 60 false)), nx + 1) := by kernel_rfl
theorem to_cl (r : Rec) (hfr : ∀ b, nx ≤ b → H.get b = none) : ∃ H' nx', Cl cx 37 [.agg (recC r)] H nx = some (.agg (recC r), H', nx') ∧ Fr H nx H' nx' := by
  have F1 := Fr.put hfr (some (.cells (recC r) 39 false))
  have F2 := F1.trans (Fr.put2 F1.fr (some (.cells (recC Rec.zero) 60 false)) (some (.cells (recC r) 60 false)))
  refine ⟨_, _, ?_, F2⟩
  have hb1 : ((H.put nx (some (.cells (recC r) 39 false))).put (nx + 1) (some (.cells (recC Rec.zero) 60 false))).get nx = some (.cells (recC r) 39 false) := by rw [Tr.get_put_ne _ _ _ _ (by omega)]; exact Tr.get_put_same _ _ _
  have hbd : buildOp cx.T 60 [(0, .lit (.int .i64 r.err)), (1, .lit (.int .i64 r.at_)), (2, .lit (.int .i64 r.kind)), (3, .lit (.int .i64 r.degree)), (4, .lit (.int .i64 r.most)), (5, strA r.x), (6, strA r.y), (7, strA r.z), (8, .lit (.bool r.stops)), (9, .lit (.int .i64 r.places)), (10, .lit (.int .i64 r.live)), (11, .lit (.int .i64 r.pairs)), (12, .lit (.int .i64 r.triples)), (13, .lit (.int .i64 r.vectors))] = some (.agg (recC r)) := by kernel_rfl
  have hst := st_all (H := (H.put nx (some (.cells (recC r) 39 false))).put (nx + 1) (some (.cells (recC Rec.zero) 60 false))) (t := 60) (vs := recC r) (by kernel_rfl) (Tr.get_put_same _ _ _) rfl rfl
  have hld := ld_all (H := ((H.put nx (some (.cells (recC r) 39 false))).put (nx + 1) (some (.cells (recC Rec.zero) 60 false))).put (nx + 1) (some (.cells (recC r) 60 false))) (t := 60) (cs := recC r) (by kernel_rfl) (Tr.get_put_same _ _ _)
  refine wp37 _ _ _ _ (by simp) ?_
  unfold s37
  simp only [↓aA, ↓aB, ↓aC, ↓aD, ↓aE, ↓aF, ↓aG, ↓aH, aI, ↓aJ, ↓aK, aL, stepA, opA, convA, isCall, put?, ev, aM, aN, builtinA, callA, argEnv, wantedS, aO, aP, aQ, aR, aS, aT, aU, aV, aW, undef, z_none, aX, aY, aZ, bA, bB, bC, bD, bE, bF, bG, extractOp, bH, bI, bJ, bK, Nat.reduceLT, Nat.reduceEqDiff, Nat.reduceAdd, bL, bM, bN, bO, bP, ↓reduceIte, bQ, bR, reduceCtorEq, resA, resOf, bS, bT, bU, bV, bW, bX, bY, bZ, cA, cB, cC, cD, cE, cF, cG, cH, cI, cJ, cK, cL, maxA, minA, cM, cN, cO, cP, cQ, cR, cS, cT, cU, cV, cW, cX, bx39, al60, fa39_0, fa39_1, fa39_2, fa39_3, fa39_4, fa39_5, fa39_6, fa39_7, fa39_8, fa39_9, fa39_10, fa39_11, fa39_12, fa39_13, rec_lds hb1, partsA, hbd, hst, hld, Option.bind_some]
theorem refKind_cl (k : Int) (hfr : ∀ b, nx ≤ b → H.get b = none) : ∃ H' nx', Cl cx 41 [.lit (.int .i64 k)] H nx = some (strA (kindW k), H', nx') ∧ Fr H nx H' nx' := by
  refine ⟨_, _, ?_, Fr.put hfr (some (.cells [strA wFlat, strA wSteep, strA wWild, strA wUnknown] 9 false))⟩
  have hb : (H.put nx (some (.cells [strA wFlat, strA wSteep, strA wWild, strA wUnknown] 9 false))).get nx = some (.cells [strA wFlat, strA wSteep, strA wWild, strA wUnknown] 9 false) := Tr.get_put_same _ _ _
  refine wp41 _ _ _ _ (by simp) ?_
  unfold s41
  have hnil : AV.lit (.string (ByteArray.mk #[])) = strA [] := rfl
  by_cases h0 : k < 0
  · rw [(kindW_nil k).2 (by omega)]
    simp only [↓aA, ↓aB, ↓aC, ↓aD, ↓aE, ↓aF, ↓aG, ↓aH, aI, ↓aJ, ↓aK, aL, stepA, opA, convA, isCall, put?, ev, aM, aN, builtinA, callA, argEnv, wantedS, aO, aP, aQ, aR, aS, aT, aU, aV, aW, undef, z_none, aX, aY, aZ, bA, bB, bC, bD, bE, bF, bG, extractOp, bH, bI, bJ, bK, Nat.reduceLT, Nat.reduceEqDiff, Nat.reduceAdd, bL, bM, bN, bO, bP, ↓reduceIte, bQ, bR, reduceCtorEq, resA, resOf, bS, bT, bU, bV, bW, bX, bY, bZ, cA, cB, cC, cD, cE, cF, cG, cH, cI, cJ, cK, cL, maxA, minA, cM, cN, cO, cP, cQ, cR, cS, cT, cU, cV, cW, cX, partsA, lit_flat, lit_steep, lit_wild, lit_unknown, bsl4, h0, hnil]
  · by_cases h3 : k > 3
    · rw [(kindW_nil k).2 (by omega)]
      simp only [↓aA, ↓aB, ↓aC, ↓aD, ↓aE, ↓aF, ↓aG, ↓aH, aI, ↓aJ, ↓aK, aL, stepA, opA, convA, isCall, put?, ev, aM, aN, builtinA, callA, argEnv, wantedS, aO, aP, aQ, aR, aS, aT, aU, aV, aW, undef, z_none, aX, aY, aZ, bA, bB, bC, bD, bE, bF, bG, extractOp, bH, bI, bJ, bK, Nat.reduceLT, Nat.reduceEqDiff, Nat.reduceAdd, bL, bM, bN, bO, bP, ↓reduceIte, bQ, bR, reduceCtorEq, resA, resOf, bS, bT, bU, bV, bW, bX, bY, bZ, cA, cB, cC, cD, cE, cF, cG, cH, cI, cJ, cK, cL, maxA, minA, cM, cN, cO, cP, cQ, cR, cS, cT, cU, cV, cW, cX, partsA, lit_flat, lit_steep, lit_wild, lit_unknown, bsl4, h0, h3, hnil]
    · have h4 : k = 0 ∨ k = 1 ∨ k = 2 ∨ k = 3 := by omega
      have g : ∀ i : Nat, i < 4 → indexAddrOp cx.T 100 (.slice nx 0 4 (some 4) 1) (.lit (.int .i64 (i : Int))) = some (.ptr nx i) := fun i hi => ix100 hi
      have g0 := g 0 (by omega)
      have g1 := g 1 (by omega)
      have g2 := g 2 (by omega)
      have g3 := g 3 (by omega)
      have l0 := ld_at (t := 9) (o := 0) (v := strA wFlat) (by kernel_rfl) hb rfl
      have l1 := ld_at (t := 9) (o := 1) (v := strA wSteep) (by kernel_rfl) hb rfl
      have l2 := ld_at (t := 9) (o := 2) (v := strA wWild) (by kernel_rfl) hb rfl
      have l3 := ld_at (t := 9) (o := 3) (v := strA wUnknown) (by kernel_rfl) hb rfl
      have d0 : indexAddrOp cx.T 100 (.slice nx 0 4 (some 4) 1) (.lit (.int .i64 0)) = some (.ptr nx 0) := g0
      have d1 : indexAddrOp cx.T 100 (.slice nx 0 4 (some 4) 1) (.lit (.int .i64 1)) = some (.ptr nx 1) := g1
      have d2 : indexAddrOp cx.T 100 (.slice nx 0 4 (some 4) 1) (.lit (.int .i64 2)) = some (.ptr nx 2) := g2
      have d3 : indexAddrOp cx.T 100 (.slice nx 0 4 (some 4) 1) (.lit (.int .i64 3)) = some (.ptr nx 3) := g3
      rcases h4 with rfl | rfl | rfl | rfl
      · simp only [↓aA, ↓aB, ↓aC, ↓aD, ↓aE, ↓aF, ↓aG, ↓aH, aI, ↓aJ, ↓aK, aL, stepA, opA, convA, isCall, put?, ev, aM, aN, builtinA, callA, argEnv, wantedS, aO, aP, aQ, aR, aS, aT, aU, aV, aW, undef, z_none, aX, aY, aZ, bA, bB, bC, bD, bE, bF, bG, extractOp, bH, bI, bJ, bK, Nat.reduceLT, Nat.reduceEqDiff, Nat.reduceAdd, bL, bM, bN, bO, bP, ↓reduceIte, bQ, bR, reduceCtorEq, resA, resOf, bS, bT, bU, bV, bW, bX, bY, bZ, cA, cB, cC, cD, cE, cF, cG, cH, cI, cJ, cK, cL, maxA, minA, cM, cN, cO, cP, cQ, cR, cS, cT, cU, cV, cW, cX, partsA, lit_flat, lit_steep, lit_wild, lit_unknown, bsl4, h0, h3, d0, l0]
        rfl
      · simp only [↓aA, ↓aB, ↓aC, ↓aD, ↓aE, ↓aF, ↓aG, ↓aH, aI, ↓aJ, ↓aK, aL, stepA, opA, convA, isCall, put?, ev, aM, aN, builtinA, callA, argEnv, wantedS, aO, aP, aQ, aR, aS, aT, aU, aV, aW, undef, z_none, aX, aY, aZ, bA, bB, bC, bD, bE, bF, bG, extractOp, bH, bI, bJ, bK, Nat.reduceLT, Nat.reduceEqDiff, Nat.reduceAdd, bL, bM, bN, bO, bP, ↓reduceIte, bQ, bR, reduceCtorEq, resA, resOf, bS, bT, bU, bV, bW, bX, bY, bZ, cA, cB, cC, cD, cE, cF, cG, cH, cI, cJ, cK, cL, maxA, minA, cM, cN, cO, cP, cQ, cR, cS, cT, cU, cV, cW, cX, partsA, lit_flat, lit_steep, lit_wild, lit_unknown, bsl4, h0, h3, d1, l1]
        rfl
      · simp only [↓aA, ↓aB, ↓aC, ↓aD, ↓aE, ↓aF, ↓aG, ↓aH, aI, ↓aJ, ↓aK, aL, stepA, opA, convA, isCall, put?, ev, aM, aN, builtinA, callA, argEnv, wantedS, aO, aP, aQ, aR, aS, aT, aU, aV, aW, undef, z_none, aX, aY, aZ, bA, bB, bC, bD, bE, bF, bG, extractOp, bH, bI, bJ, bK, Nat.reduceLT, Nat.reduceEqDiff, Nat.reduceAdd, bL, bM, bN, bO, bP, ↓reduceIte, bQ, bR, reduceCtorEq, resA, resOf, bS, bT, bU, bV, bW, bX, bY, bZ, cA, cB, cC, cD, cE, cF, cG, cH, cI, cJ, cK, cL, maxA, minA, cM, cN, cO, cP, cQ, cR, cS, cT, cU, cV, cW, cX, partsA, lit_flat, lit_steep, lit_wild, lit_unknown, bsl4, h0, h3, d2, l2]
        rfl
      · simp only [↓aA, ↓aB, ↓aC, ↓aD, ↓aE, ↓aF, ↓aG, ↓aH, aI, ↓aJ, ↓aK, aL, stepA, opA, convA, isCall, put?, ev, aM, aN, builtinA, callA, argEnv, wantedS, aO, aP, aQ, aR, aS, aT, aU, aV, aW, undef, z_none, aX, aY, aZ, bA, bB, bC, bD, bE, bF, bG, extractOp, bH, bI, bJ, bK, Nat.reduceLT, Nat.reduceEqDiff, Nat.reduceAdd, bL, bM, bN, bO, bP, ↓reduceIte, bQ, bR, reduceCtorEq, resA, resOf, bS, bT, bU, bV, bW, bX, bY, bZ, cA, cB, cC, cD, cE, cF, cG, cH, cI, cJ, cK, cL, maxA, minA, cM, cN, cO, cP, cQ, cR, cS, cT, cU, cV, cW, cX, partsA, lit_flat, lit_steep, lit_wild, lit_unknown, bsl4, h0, h3, d3, l3]
        rfl
theorem refTold_cl (r : Rec) (hfr : ∀ b, nx ≤ b → H.get b = none) : ∃ H' nx', Cl cx 36 [.agg (recC r)] H nx = some (.lit (.bool (decide r.told)), H', nx') ∧ Fr H nx H' nx' := by
  have F1 := Fr.put hfr (some (.cells (recC r) 60 false))
  have hb0 : (H.put nx (some (.cells (recC r) 60 false))).get nx = some (.cells (recC r) 60 false) := Tr.get_put_same _ _ _
  obtain ⟨H1, nx1, k1, k2⟩ := refKind_cl r.kind F1.fr
  have hb1 : H1.get nx = some (.cells (recC r) 60 false) := (k2.old nx (Nat.lt_succ_self _)).trans hb0
  have hnil : AV.lit (.string (ByteArray.mk #[])) = strA [] := rfl
  have hF : ∀ p : Prop, [Decidable p] → ¬ p → decide p = false := fun p _ h => by simpa using h
  by_cases h0 : r.err ≥ 0
  · skip
    by_cases h1 : r.err ≤ 10
    · skip
      by_cases h2 : r.at_ ≥ 0
      · skip
        by_cases h3 : kindW r.kind ≠ []
        · skip
          by_cases h4 : r.degree ≥ 0
          · skip
            by_cases h5 : r.most ≥ 0
            · skip
              by_cases h6 : r.places ≥ 0
              · skip
                by_cases h7 : r.live ≥ 0
                · skip
                  by_cases h8 : r.pairs ≥ 0
                  · skip
                    by_cases h9 : r.triples ≥ 0
                    · skip
                      by_cases h10 : r.vectors ≥ 0
                      · skip
                        have ht : r.told := by
                          have hk := mt (kindW_nil r.kind).2 h3
                          refine ⟨?_, h1, by omega, by omega⟩
                          simp only [Rec.nums, List.mem_cons, List.not_mem_nil, or_false, forall_eq_or_imp, forall_eq]
                          exact ⟨h0, h2, h4, h5, h6, h7, h8, h9, h10⟩
                        refine ⟨_, _, ?_, F1.trans k2⟩
                        rw [show decide r.told = true by simpa using ht]
                        refine wp36 _ _ _ _ (by simp) ?_
                        unfold s36
                        simp only [↓aA, ↓aB, ↓aC, ↓aD, ↓aE, ↓aF, ↓aG, ↓aH, aI, ↓aJ, ↓aK, aL, stepA, opA, convA, isCall, put?, ev, aM, aN, builtinA, callA, argEnv, wantedS, aO, aP, aQ, aR, aS, aT, aU, aV, aW, undef, z_none, aX, aY, aZ, bA, bB, bC, bD, bE, bF, bG, extractOp, bH, bI, bJ, bK, Nat.reduceLT, Nat.reduceEqDiff, Nat.reduceAdd, bL, bM, bN, bO, bP, ↓reduceIte, bQ, bR, reduceCtorEq, resA, resOf, bS, bT, bU, bV, bW, bX, bY, bZ, cA, cB, cC, cD, cE, cF, cG, cH, cI, cJ, cK, cL, maxA, minA, cM, cN, cO, cP, cQ, cR, cS, cT, cU, cV, cW, cX, bx60, fa60_0, fa60_1, fa60_2, fa60_3, fa60_4, fa60_5, fa60_6, fa60_7, fa60_8, fa60_9, fa60_10, fa60_11, fa60_12, fa60_13, ref_lds hb0, ref_lds hb1, x_none, k1, hnil, str_neq, h0, h1, h2, h3, h4, h5, h6, h7, h8, h9, h10]
                      · rw [show decide r.told = false from hF _ (fun ht => h10 (ht.1 r.vectors (by simp [Rec.nums])))]
                        refine ⟨_, _, ?_, F1.trans k2⟩
                        refine wp36 _ _ _ _ (by simp) ?_
                        unfold s36
                        simp only [↓aA, ↓aB, ↓aC, ↓aD, ↓aE, ↓aF, ↓aG, ↓aH, aI, ↓aJ, ↓aK, aL, stepA, opA, convA, isCall, put?, ev, aM, aN, builtinA, callA, argEnv, wantedS, aO, aP, aQ, aR, aS, aT, aU, aV, aW, undef, z_none, aX, aY, aZ, bA, bB, bC, bD, bE, bF, bG, extractOp, bH, bI, bJ, bK, Nat.reduceLT, Nat.reduceEqDiff, Nat.reduceAdd, bL, bM, bN, bO, bP, ↓reduceIte, bQ, bR, reduceCtorEq, resA, resOf, bS, bT, bU, bV, bW, bX, bY, bZ, cA, cB, cC, cD, cE, cF, cG, cH, cI, cJ, cK, cL, maxA, minA, cM, cN, cO, cP, cQ, cR, cS, cT, cU, cV, cW, cX, bx60, fa60_0, fa60_1, fa60_2, fa60_3, fa60_4, fa60_5, fa60_6, fa60_7, fa60_8, fa60_9, fa60_10, fa60_11, fa60_12, fa60_13, ref_lds hb0, ref_lds hb1, x_none, k1, hnil, str_neq, h0, h1, h2, h3, h4, h5, h6, h7, h8, h9, h10]
                    · rw [show decide r.told = false from hF _ (fun ht => h9 (ht.1 r.triples (by simp [Rec.nums])))]
                      refine ⟨_, _, ?_, F1.trans k2⟩
                      refine wp36 _ _ _ _ (by simp) ?_
                      unfold s36
                      simp only [↓aA, ↓aB, ↓aC, ↓aD, ↓aE, ↓aF, ↓aG, ↓aH, aI, ↓aJ, ↓aK, aL, stepA, opA, convA, isCall, put?, ev, aM, aN, builtinA, callA, argEnv, wantedS, aO, aP, aQ, aR, aS, aT, aU, aV, aW, undef, z_none, aX, aY, aZ, bA, bB, bC, bD, bE, bF, bG, extractOp, bH, bI, bJ, bK, Nat.reduceLT, Nat.reduceEqDiff, Nat.reduceAdd, bL, bM, bN, bO, bP, ↓reduceIte, bQ, bR, reduceCtorEq, resA, resOf, bS, bT, bU, bV, bW, bX, bY, bZ, cA, cB, cC, cD, cE, cF, cG, cH, cI, cJ, cK, cL, maxA, minA, cM, cN, cO, cP, cQ, cR, cS, cT, cU, cV, cW, cX, bx60, fa60_0, fa60_1, fa60_2, fa60_3, fa60_4, fa60_5, fa60_6, fa60_7, fa60_8, fa60_9, fa60_10, fa60_11, fa60_12, fa60_13, ref_lds hb0, ref_lds hb1, x_none, k1, hnil, str_neq, h0, h1, h2, h3, h4, h5, h6, h7, h8, h9]
                  · rw [show decide r.told = false from hF _ (fun ht => h8 (ht.1 r.pairs (by simp [Rec.nums])))]
                    refine ⟨_, _, ?_, F1.trans k2⟩
                    refine wp36 _ _ _ _ (by simp) ?_
                    unfold s36
                    simp only [↓aA, ↓aB, ↓aC, ↓aD, ↓aE, ↓aF, ↓aG, ↓aH, aI, ↓aJ, ↓aK, aL, stepA, opA, convA, isCall, put?, ev, aM, aN, builtinA, callA, argEnv, wantedS, aO, aP, aQ, aR, aS, aT, aU, aV, aW, undef, z_none, aX, aY, aZ, bA, bB, bC, bD, bE, bF, bG, extractOp, bH, bI, bJ, bK, Nat.reduceLT, Nat.reduceEqDiff, Nat.reduceAdd, bL, bM, bN, bO, bP, ↓reduceIte, bQ, bR, reduceCtorEq, resA, resOf, bS, bT, bU, bV, bW, bX, bY, bZ, cA, cB, cC, cD, cE, cF, cG, cH, cI, cJ, cK, cL, maxA, minA, cM, cN, cO, cP, cQ, cR, cS, cT, cU, cV, cW, cX, bx60, fa60_0, fa60_1, fa60_2, fa60_3, fa60_4, fa60_5, fa60_6, fa60_7, fa60_8, fa60_9, fa60_10, fa60_11, fa60_12, fa60_13, ref_lds hb0, ref_lds hb1, x_none, k1, hnil, str_neq, h0, h1, h2, h3, h4, h5, h6, h7, h8]
                · rw [show decide r.told = false from hF _ (fun ht => h7 (ht.1 r.live (by simp [Rec.nums])))]
                  refine ⟨_, _, ?_, F1.trans k2⟩
                  refine wp36 _ _ _ _ (by simp) ?_
                  unfold s36
                  simp only [↓aA, ↓aB, ↓aC, ↓aD, ↓aE, ↓aF, ↓aG, ↓aH, aI, ↓aJ, ↓aK, aL, stepA, opA, convA, isCall, put?, ev, aM, aN, builtinA, callA, argEnv, wantedS, aO, aP, aQ, aR, aS, aT, aU, aV, aW, undef, z_none, aX, aY, aZ, bA, bB, bC, bD, bE, bF, bG, extractOp, bH, bI, bJ, bK, Nat.reduceLT, Nat.reduceEqDiff, Nat.reduceAdd, bL, bM, bN, bO, bP, ↓reduceIte, bQ, bR, reduceCtorEq, resA, resOf, bS, bT, bU, bV, bW, bX, bY, bZ, cA, cB, cC, cD, cE, cF, cG, cH, cI, cJ, cK, cL, maxA, minA, cM, cN, cO, cP, cQ, cR, cS, cT, cU, cV, cW, cX, bx60, fa60_0, fa60_1, fa60_2, fa60_3, fa60_4, fa60_5, fa60_6, fa60_7, fa60_8, fa60_9, fa60_10, fa60_11, fa60_12, fa60_13, ref_lds hb0, ref_lds hb1, x_none, k1, hnil, str_neq, h0, h1, h2, h3, h4, h5, h6, h7]
              · rw [show decide r.told = false from hF _ (fun ht => h6 (ht.1 r.places (by simp [Rec.nums])))]
                refine ⟨_, _, ?_, F1.trans k2⟩
                refine wp36 _ _ _ _ (by simp) ?_
                unfold s36
                simp only [↓aA, ↓aB, ↓aC, ↓aD, ↓aE, ↓aF, ↓aG, ↓aH, aI, ↓aJ, ↓aK, aL, stepA, opA, convA, isCall, put?, ev, aM, aN, builtinA, callA, argEnv, wantedS, aO, aP, aQ, aR, aS, aT, aU, aV, aW, undef, z_none, aX, aY, aZ, bA, bB, bC, bD, bE, bF, bG, extractOp, bH, bI, bJ, bK, Nat.reduceLT, Nat.reduceEqDiff, Nat.reduceAdd, bL, bM, bN, bO, bP, ↓reduceIte, bQ, bR, reduceCtorEq, resA, resOf, bS, bT, bU, bV, bW, bX, bY, bZ, cA, cB, cC, cD, cE, cF, cG, cH, cI, cJ, cK, cL, maxA, minA, cM, cN, cO, cP, cQ, cR, cS, cT, cU, cV, cW, cX, bx60, fa60_0, fa60_1, fa60_2, fa60_3, fa60_4, fa60_5, fa60_6, fa60_7, fa60_8, fa60_9, fa60_10, fa60_11, fa60_12, fa60_13, ref_lds hb0, ref_lds hb1, x_none, k1, hnil, str_neq, h0, h1, h2, h3, h4, h5, h6]
            · rw [show decide r.told = false from hF _ (fun ht => h5 (ht.1 r.most (by simp [Rec.nums])))]
              refine ⟨_, _, ?_, F1.trans k2⟩
              refine wp36 _ _ _ _ (by simp) ?_
              unfold s36
              simp only [↓aA, ↓aB, ↓aC, ↓aD, ↓aE, ↓aF, ↓aG, ↓aH, aI, ↓aJ, ↓aK, aL, stepA, opA, convA, isCall, put?, ev, aM, aN, builtinA, callA, argEnv, wantedS, aO, aP, aQ, aR, aS, aT, aU, aV, aW, undef, z_none, aX, aY, aZ, bA, bB, bC, bD, bE, bF, bG, extractOp, bH, bI, bJ, bK, Nat.reduceLT, Nat.reduceEqDiff, Nat.reduceAdd, bL, bM, bN, bO, bP, ↓reduceIte, bQ, bR, reduceCtorEq, resA, resOf, bS, bT, bU, bV, bW, bX, bY, bZ, cA, cB, cC, cD, cE, cF, cG, cH, cI, cJ, cK, cL, maxA, minA, cM, cN, cO, cP, cQ, cR, cS, cT, cU, cV, cW, cX, bx60, fa60_0, fa60_1, fa60_2, fa60_3, fa60_4, fa60_5, fa60_6, fa60_7, fa60_8, fa60_9, fa60_10, fa60_11, fa60_12, fa60_13, ref_lds hb0, ref_lds hb1, x_none, k1, hnil, str_neq, h0, h1, h2, h3, h4, h5]
          · rw [show decide r.told = false from hF _ (fun ht => h4 (ht.1 r.degree (by simp [Rec.nums])))]
            refine ⟨_, _, ?_, F1.trans k2⟩
            refine wp36 _ _ _ _ (by simp) ?_
            unfold s36
            simp only [↓aA, ↓aB, ↓aC, ↓aD, ↓aE, ↓aF, ↓aG, ↓aH, aI, ↓aJ, ↓aK, aL, stepA, opA, convA, isCall, put?, ev, aM, aN, builtinA, callA, argEnv, wantedS, aO, aP, aQ, aR, aS, aT, aU, aV, aW, undef, z_none, aX, aY, aZ, bA, bB, bC, bD, bE, bF, bG, extractOp, bH, bI, bJ, bK, Nat.reduceLT, Nat.reduceEqDiff, Nat.reduceAdd, bL, bM, bN, bO, bP, ↓reduceIte, bQ, bR, reduceCtorEq, resA, resOf, bS, bT, bU, bV, bW, bX, bY, bZ, cA, cB, cC, cD, cE, cF, cG, cH, cI, cJ, cK, cL, maxA, minA, cM, cN, cO, cP, cQ, cR, cS, cT, cU, cV, cW, cX, bx60, fa60_0, fa60_1, fa60_2, fa60_3, fa60_4, fa60_5, fa60_6, fa60_7, fa60_8, fa60_9, fa60_10, fa60_11, fa60_12, fa60_13, ref_lds hb0, ref_lds hb1, x_none, k1, hnil, str_neq, h0, h1, h2, h3, h4]
        · rw [show decide r.told = false from hF _ (fun ht => h3 (fun hk => (kindW_nil r.kind).1 hk ⟨ht.2.2.1, ht.2.2.2⟩))]
          refine ⟨_, _, ?_, F1.trans k2⟩
          refine wp36 _ _ _ _ (by simp) ?_
          unfold s36
          simp only [↓aA, ↓aB, ↓aC, ↓aD, ↓aE, ↓aF, ↓aG, ↓aH, aI, ↓aJ, ↓aK, aL, stepA, opA, convA, isCall, put?, ev, aM, aN, builtinA, callA, argEnv, wantedS, aO, aP, aQ, aR, aS, aT, aU, aV, aW, undef, z_none, aX, aY, aZ, bA, bB, bC, bD, bE, bF, bG, extractOp, bH, bI, bJ, bK, Nat.reduceLT, Nat.reduceEqDiff, Nat.reduceAdd, bL, bM, bN, bO, bP, ↓reduceIte, bQ, bR, reduceCtorEq, resA, resOf, bS, bT, bU, bV, bW, bX, bY, bZ, cA, cB, cC, cD, cE, cF, cG, cH, cI, cJ, cK, cL, maxA, minA, cM, cN, cO, cP, cQ, cR, cS, cT, cU, cV, cW, cX, bx60, fa60_0, fa60_1, fa60_2, fa60_3, fa60_4, fa60_5, fa60_6, fa60_7, fa60_8, fa60_9, fa60_10, fa60_11, fa60_12, fa60_13, ref_lds hb0, ref_lds hb1, x_none, k1, hnil, str_neq, h0, h1, h2, h3]
      · rw [show decide r.told = false from hF _ (fun ht => h2 (ht.1 r.at_ (by simp [Rec.nums])))]
        refine ⟨_, _, ?_, F1⟩
        refine wp36 _ _ _ _ (by simp) ?_
        unfold s36
        simp only [↓aA, ↓aB, ↓aC, ↓aD, ↓aE, ↓aF, ↓aG, ↓aH, aI, ↓aJ, ↓aK, aL, stepA, opA, convA, isCall, put?, ev, aM, aN, builtinA, callA, argEnv, wantedS, aO, aP, aQ, aR, aS, aT, aU, aV, aW, undef, z_none, aX, aY, aZ, bA, bB, bC, bD, bE, bF, bG, extractOp, bH, bI, bJ, bK, Nat.reduceLT, Nat.reduceEqDiff, Nat.reduceAdd, bL, bM, bN, bO, bP, ↓reduceIte, bQ, bR, reduceCtorEq, resA, resOf, bS, bT, bU, bV, bW, bX, bY, bZ, cA, cB, cC, cD, cE, cF, cG, cH, cI, cJ, cK, cL, maxA, minA, cM, cN, cO, cP, cQ, cR, cS, cT, cU, cV, cW, cX, bx60, fa60_0, fa60_1, fa60_2, fa60_3, fa60_4, fa60_5, fa60_6, fa60_7, fa60_8, fa60_9, fa60_10, fa60_11, fa60_12, fa60_13, ref_lds hb0, ref_lds hb1, x_none, k1, hnil, str_neq, h0, h1, h2]
    · rw [show decide r.told = false from hF _ (fun ht => h1 ht.2.1)]
      refine ⟨_, _, ?_, F1⟩
      refine wp36 _ _ _ _ (by simp) ?_
      unfold s36
      simp only [↓aA, ↓aB, ↓aC, ↓aD, ↓aE, ↓aF, ↓aG, ↓aH, aI, ↓aJ, ↓aK, aL, stepA, opA, convA, isCall, put?, ev, aM, aN, builtinA, callA, argEnv, wantedS, aO, aP, aQ, aR, aS, aT, aU, aV, aW, undef, z_none, aX, aY, aZ, bA, bB, bC, bD, bE, bF, bG, extractOp, bH, bI, bJ, bK, Nat.reduceLT, Nat.reduceEqDiff, Nat.reduceAdd, bL, bM, bN, bO, bP, ↓reduceIte, bQ, bR, reduceCtorEq, resA, resOf, bS, bT, bU, bV, bW, bX, bY, bZ, cA, cB, cC, cD, cE, cF, cG, cH, cI, cJ, cK, cL, maxA, minA, cM, cN, cO, cP, cQ, cR, cS, cT, cU, cV, cW, cX, bx60, fa60_0, fa60_1, fa60_2, fa60_3, fa60_4, fa60_5, fa60_6, fa60_7, fa60_8, fa60_9, fa60_10, fa60_11, fa60_12, fa60_13, ref_lds hb0, ref_lds hb1, x_none, k1, hnil, str_neq, h0, h1]
  · rw [show decide r.told = false from hF _ (fun ht => h0 (ht.1 r.err (by simp [Rec.nums])))]
    refine ⟨_, _, ?_, F1⟩
    refine wp36 _ _ _ _ (by simp) ?_
    unfold s36
    simp only [↓aA, ↓aB, ↓aC, ↓aD, ↓aE, ↓aF, ↓aG, ↓aH, aI, ↓aJ, ↓aK, aL, stepA, opA, convA, isCall, put?, ev, aM, aN, builtinA, callA, argEnv, wantedS, aO, aP, aQ, aR, aS, aT, aU, aV, aW, undef, z_none, aX, aY, aZ, bA, bB, bC, bD, bE, bF, bG, extractOp, bH, bI, bJ, bK, Nat.reduceLT, Nat.reduceEqDiff, Nat.reduceAdd, bL, bM, bN, bO, bP, ↓reduceIte, bQ, bR, reduceCtorEq, resA, resOf, bS, bT, bU, bV, bW, bX, bY, bZ, cA, cB, cC, cD, cE, cF, cG, cH, cI, cJ, cK, cL, maxA, minA, cM, cN, cO, cP, cQ, cR, cS, cT, cU, cV, cW, cX, bx60, fa60_0, fa60_1, fa60_2, fa60_3, fa60_4, fa60_5, fa60_6, fa60_7, fa60_8, fa60_9, fa60_10, fa60_11, fa60_12, fa60_13, ref_lds hb0, ref_lds hb1, x_none, k1, hnil, str_neq, h0]
end Seat
end CI
set_option maxHeartbeats 1000000
namespace CI
open Go
namespace Seat
open Quo Rcd Spl
variable {H : Heap} {nx : Nat}
def wVerdict8 : W := [118, 101, 114, 100, 105, 99, 116, 32]
theorem lit_verdict8 : AV.lit (.string (ByteArray.mk #[118, 101, 114, 100, 105, 99, 116, 32])) = strA wVerdict8 := rfl
theorem refnum_cl (n : Int) (hn : -9223372036854775808 ≤ n ∧ n ≤ 9223372036854775807) (hfr : ∀ b, nx ≤ b → H.get b = none) : ∃ H' nx', Cl cx 29 [.lit (.int .i64 n)] H nx = some (strA (num n), H', nx') ∧ Fr H nx H' nx' := by
  obtain ⟨v, H', nx', h1, rfl, h2⟩ := ref_cl n hn hfr
  exact ⟨H', nx', h1, h2⟩
theorem refwr_cl (s : W) (hs : s.length ≤ 1000000) (hfr : ∀ b, nx ≤ b → H.get b = none) : ∃ H' nx', Cl cx 45 [strA s] H nx = some (strA (writeW s), H', nx') ∧ Fr H nx H' nx' := by
  obtain ⟨v, H', nx', h1, rfl, h2⟩ := rwrite_cl (s := s) hs hfr
  exact ⟨H', nx', h1, h2⟩
theorem refwrite_cl (r : Rec) (ho : r.ok) (hs : Short r) (hfr : ∀ b, nx ≤ b → H.get b = none) : ∃ v H' nx', Cl cx 39 [.agg (recC r)] H nx = some (v, H', nx') ∧ (v = strA (joi (lineW r)) ∧ Fr H nx H' nx') := by
  refine wpP39 _ _ _ _ (by simp) ?_
  unfold s39
  have F0 := Fr.put hfr (some (.cells (recC r) 60 false))
  obtain ⟨K0, hK0⟩ : ∃ K, K = H.put nx (some (.cells (recC r) 60 false)) := ⟨_, rfl⟩
  rw [← hK0] at F0
  have hb0 : K0.get nx = some (.cells (recC r) 60 false) := by rw [hK0]; exact Tr.get_put_same _ _ _
  have hbx : boxOp H nx 60 (.agg (recC r)) = some (.ptr nx 0, K0, nx + 1) := by rw [hK0]; exact bx60 r
  have hn : ∀ n ∈ r.nums, -9223372036854775808 ≤ n ∧ n ≤ 9223372036854775807 := ho.n
  simp only [Rec.nums, List.mem_cons, List.not_mem_nil, or_false, forall_eq_or_imp, forall_eq] at hn
  obtain ⟨b1, b2, b4, b5, b9, b10, b11, b12, b13⟩ := hn
  have q1 := num_len r.err b1
  have q2 := num_len r.at_ b2
  have q3 := kindW_len r.kind
  have q4 := num_len r.degree b4
  have q5 := num_len r.most b5
  have q6 := writeW_len r.x
  have q7 := writeW_len r.y
  have q8 := writeW_len r.z
  have q9 := num_len r.places b9
  have q10 := num_len r.live b10
  have q11 := num_len r.pairs b11
  have q12 := num_len r.triples b12
  have q13 := num_len r.vectors b13
  have qf := flagW_len r.stops
  have qv : wVerdict8.length = 8 := rfl
  have q0 : ([32] : W).length = 1 := rfl
  have sx := hs.x
  have sy := hs.y
  have sz := hs.z
  have m0 : nx + 1 = nx + 1 := rfl
  obtain ⟨K1, m1, c1, f1⟩ := refnum_cl (H := K0) (nx := (nx + 1)) r.err b1 F0.fr
  have F1 := F0.trans f1
  have hb1 : K1.get nx = some (.cells (recC r) 60 false) := (f1.old nx (by have := F0.le; omega)).trans hb0
  have le1 := f1.le
  obtain ⟨K2, m2, c2, f2⟩ := refnum_cl (H := K1) (nx := m1) r.at_ b2 F1.fr
  have F2 := F1.trans f2
  have hb2 : K2.get nx = some (.cells (recC r) 60 false) := (f2.old nx (by have := F1.le; omega)).trans hb1
  have le2 := f2.le
  obtain ⟨K3, m3, c3, f3⟩ := refKind_cl (H := K2) (nx := m2) r.kind F2.fr
  have F3 := F2.trans f3
  have hb3 : K3.get nx = some (.cells (recC r) 60 false) := (f3.old nx (by have := F2.le; omega)).trans hb2
  have le3 := f3.le
  obtain ⟨K4, m4, c4, f4⟩ := refnum_cl (H := K3) (nx := m3) r.degree b4 F3.fr
  have F4 := F3.trans f4
  have hb4 : K4.get nx = some (.cells (recC r) 60 false) := (f4.old nx (by have := F3.le; omega)).trans hb3
  have le4 := f4.le
  obtain ⟨K5, m5, c5, f5⟩ := refnum_cl (H := K4) (nx := m4) r.most b5 F4.fr
  have F5 := F4.trans f5
  have hb5 : K5.get nx = some (.cells (recC r) 60 false) := (f5.old nx (by have := F4.le; omega)).trans hb4
  have le5 := f5.le
  obtain ⟨K6, m6, c6, f6⟩ := refwr_cl (H := K5) (nx := m5) r.x hs.x F5.fr
  have F6 := F5.trans f6
  have hb6 : K6.get nx = some (.cells (recC r) 60 false) := (f6.old nx (by have := F5.le; omega)).trans hb5
  have le6 := f6.le
  obtain ⟨K7, m7, c7, f7⟩ := refwr_cl (H := K6) (nx := m6) r.y hs.y F6.fr
  have F7 := F6.trans f7
  have hb7 : K7.get nx = some (.cells (recC r) 60 false) := (f7.old nx (by have := F6.le; omega)).trans hb6
  have le7 := f7.le
  obtain ⟨K8, m8, c8, f8⟩ := refwr_cl (H := K7) (nx := m7) r.z hs.z F7.fr
  have F8 := F7.trans f8
  have hb8 : K8.get nx = some (.cells (recC r) 60 false) := (f8.old nx (by have := F7.le; omega)).trans hb7
  have le8 := f8.le
  obtain ⟨K9, m9, c9, f9⟩ := refnum_cl (H := K8) (nx := m8) r.places b9 F8.fr
  have F9 := F8.trans f9
  have hb9 : K9.get nx = some (.cells (recC r) 60 false) := (f9.old nx (by have := F8.le; omega)).trans hb8
  have le9 := f9.le
  obtain ⟨K10, m10, c10, f10⟩ := refnum_cl (H := K9) (nx := m9) r.live b10 F9.fr
  have F10 := F9.trans f10
  have hb10 : K10.get nx = some (.cells (recC r) 60 false) := (f10.old nx (by have := F9.le; omega)).trans hb9
  have le10 := f10.le
  obtain ⟨K11, m11, c11, f11⟩ := refnum_cl (H := K10) (nx := m10) r.pairs b11 F10.fr
  have F11 := F10.trans f11
  have hb11 : K11.get nx = some (.cells (recC r) 60 false) := (f11.old nx (by have := F10.le; omega)).trans hb10
  have le11 := f11.le
  obtain ⟨K12, m12, c12, f12⟩ := refnum_cl (H := K11) (nx := m11) r.triples b12 F11.fr
  have F12 := F11.trans f12
  have hb12 : K12.get nx = some (.cells (recC r) 60 false) := (f12.old nx (by have := F11.le; omega)).trans hb11
  have le12 := f12.le
  obtain ⟨K13, m13, c13, f13⟩ := refnum_cl (H := K12) (nx := m12) r.vectors b13 F12.fr
  have F13 := F12.trans f13
  have hb13 : K13.get nx = some (.cells (recC r) 60 false) := (f13.old nx (by have := F12.le; omega)).trans hb12
  have le13 := f13.le
  obtain ⟨P0, hP0⟩ : ∃ P, P = wVerdict8 ++ num r.err := ⟨_, rfl⟩
  have L0 : P0.length ≤ 29 := by rw [hP0, List.length_append]; omega
  have A0 : ∀ x y, binOpA cx.P cx.T .add 9 x y (strA (wVerdict8)) (strA (num r.err)) = some (strA P0) := fun x y => by rw [str_add x y _ _ (by omega), ← hP0]
  obtain ⟨P1, hP1⟩ : ∃ P, P = P0 ++ [32] := ⟨_, rfl⟩
  have L1 : P1.length ≤ 30 := by rw [hP1, List.length_append]; omega
  have A1 : ∀ x y, binOpA cx.P cx.T .add 9 x y (strA (P0)) (strA ([32])) = some (strA P1) := fun x y => by rw [str_add x y _ _ (by omega), ← hP1]
  obtain ⟨P2, hP2⟩ : ∃ P, P = P1 ++ num r.at_ := ⟨_, rfl⟩
  have L2 : P2.length ≤ 51 := by rw [hP2, List.length_append]; omega
  have A2 : ∀ x y, binOpA cx.P cx.T .add 9 x y (strA (P1)) (strA (num r.at_)) = some (strA P2) := fun x y => by rw [str_add x y _ _ (by omega), ← hP2]
  obtain ⟨P3, hP3⟩ : ∃ P, P = P2 ++ [32] := ⟨_, rfl⟩
  have L3 : P3.length ≤ 52 := by rw [hP3, List.length_append]; omega
  have A3 : ∀ x y, binOpA cx.P cx.T .add 9 x y (strA (P2)) (strA ([32])) = some (strA P3) := fun x y => by rw [str_add x y _ _ (by omega), ← hP3]
  obtain ⟨P4, hP4⟩ : ∃ P, P = P3 ++ kindW r.kind := ⟨_, rfl⟩
  have L4 : P4.length ≤ 59 := by rw [hP4, List.length_append]; omega
  have A4 : ∀ x y, binOpA cx.P cx.T .add 9 x y (strA (P3)) (strA (kindW r.kind)) = some (strA P4) := fun x y => by rw [str_add x y _ _ (by omega), ← hP4]
  obtain ⟨P5, hP5⟩ : ∃ P, P = P4 ++ [32] := ⟨_, rfl⟩
  have L5 : P5.length ≤ 60 := by rw [hP5, List.length_append]; omega
  have A5 : ∀ x y, binOpA cx.P cx.T .add 9 x y (strA (P4)) (strA ([32])) = some (strA P5) := fun x y => by rw [str_add x y _ _ (by omega), ← hP5]
  obtain ⟨P6, hP6⟩ : ∃ P, P = P5 ++ num r.degree := ⟨_, rfl⟩
  have L6 : P6.length ≤ 81 := by rw [hP6, List.length_append]; omega
  have A6 : ∀ x y, binOpA cx.P cx.T .add 9 x y (strA (P5)) (strA (num r.degree)) = some (strA P6) := fun x y => by rw [str_add x y _ _ (by omega), ← hP6]
  obtain ⟨P7, hP7⟩ : ∃ P, P = P6 ++ [32] := ⟨_, rfl⟩
  have L7 : P7.length ≤ 82 := by rw [hP7, List.length_append]; omega
  have A7 : ∀ x y, binOpA cx.P cx.T .add 9 x y (strA (P6)) (strA ([32])) = some (strA P7) := fun x y => by rw [str_add x y _ _ (by omega), ← hP7]
  obtain ⟨P8, hP8⟩ : ∃ P, P = P7 ++ num r.most := ⟨_, rfl⟩
  have L8 : P8.length ≤ 103 := by rw [hP8, List.length_append]; omega
  have A8 : ∀ x y, binOpA cx.P cx.T .add 9 x y (strA (P7)) (strA (num r.most)) = some (strA P8) := fun x y => by rw [str_add x y _ _ (by omega), ← hP8]
  obtain ⟨P9, hP9⟩ : ∃ P, P = P8 ++ [32] := ⟨_, rfl⟩
  have L9 : P9.length ≤ 104 := by rw [hP9, List.length_append]; omega
  have A9 : ∀ x y, binOpA cx.P cx.T .add 9 x y (strA (P8)) (strA ([32])) = some (strA P9) := fun x y => by rw [str_add x y _ _ (by omega), ← hP9]
  obtain ⟨P10, hP10⟩ : ∃ P, P = P9 ++ writeW r.x := ⟨_, rfl⟩
  have L10 : P10.length ≤ 4000106 := by rw [hP10, List.length_append]; omega
  have A10 : ∀ x y, binOpA cx.P cx.T .add 9 x y (strA (P9)) (strA (writeW r.x)) = some (strA P10) := fun x y => by rw [str_add x y _ _ (by omega), ← hP10]
  obtain ⟨P11, hP11⟩ : ∃ P, P = P10 ++ [32] := ⟨_, rfl⟩
  have L11 : P11.length ≤ 4000107 := by rw [hP11, List.length_append]; omega
  have A11 : ∀ x y, binOpA cx.P cx.T .add 9 x y (strA (P10)) (strA ([32])) = some (strA P11) := fun x y => by rw [str_add x y _ _ (by omega), ← hP11]
  obtain ⟨P12, hP12⟩ : ∃ P, P = P11 ++ writeW r.y := ⟨_, rfl⟩
  have L12 : P12.length ≤ 8000109 := by rw [hP12, List.length_append]; omega
  have A12 : ∀ x y, binOpA cx.P cx.T .add 9 x y (strA (P11)) (strA (writeW r.y)) = some (strA P12) := fun x y => by rw [str_add x y _ _ (by omega), ← hP12]
  obtain ⟨P13, hP13⟩ : ∃ P, P = P12 ++ [32] := ⟨_, rfl⟩
  have L13 : P13.length ≤ 8000110 := by rw [hP13, List.length_append]; omega
  have A13 : ∀ x y, binOpA cx.P cx.T .add 9 x y (strA (P12)) (strA ([32])) = some (strA P13) := fun x y => by rw [str_add x y _ _ (by omega), ← hP13]
  obtain ⟨P14, hP14⟩ : ∃ P, P = P13 ++ writeW r.z := ⟨_, rfl⟩
  have L14 : P14.length ≤ 12000112 := by rw [hP14, List.length_append]; omega
  have A14 : ∀ x y, binOpA cx.P cx.T .add 9 x y (strA (P13)) (strA (writeW r.z)) = some (strA P14) := fun x y => by rw [str_add x y _ _ (by omega), ← hP14]
  obtain ⟨P15, hP15⟩ : ∃ P, P = P14 ++ [32] := ⟨_, rfl⟩
  have L15 : P15.length ≤ 12000113 := by rw [hP15, List.length_append]; omega
  have A15 : ∀ x y, binOpA cx.P cx.T .add 9 x y (strA (P14)) (strA ([32])) = some (strA P15) := fun x y => by rw [str_add x y _ _ (by omega), ← hP15]
  obtain ⟨P16, hP16⟩ : ∃ P, P = P15 ++ flagW r.stops := ⟨_, rfl⟩
  have L16 : P16.length ≤ 12000116 := by rw [hP16, List.length_append]; omega
  have A16 : ∀ x y, binOpA cx.P cx.T .add 9 x y (strA (P15)) (strA (flagW r.stops)) = some (strA P16) := fun x y => by rw [str_add x y _ _ (by omega), ← hP16]
  obtain ⟨P17, hP17⟩ : ∃ P, P = P16 ++ [32] := ⟨_, rfl⟩
  have L17 : P17.length ≤ 12000117 := by rw [hP17, List.length_append]; omega
  have A17 : ∀ x y, binOpA cx.P cx.T .add 9 x y (strA (P16)) (strA ([32])) = some (strA P17) := fun x y => by rw [str_add x y _ _ (by omega), ← hP17]
  obtain ⟨P18, hP18⟩ : ∃ P, P = P17 ++ num r.places := ⟨_, rfl⟩
  have L18 : P18.length ≤ 12000138 := by rw [hP18, List.length_append]; omega
  have A18 : ∀ x y, binOpA cx.P cx.T .add 9 x y (strA (P17)) (strA (num r.places)) = some (strA P18) := fun x y => by rw [str_add x y _ _ (by omega), ← hP18]
  obtain ⟨P19, hP19⟩ : ∃ P, P = P18 ++ [32] := ⟨_, rfl⟩
  have L19 : P19.length ≤ 12000139 := by rw [hP19, List.length_append]; omega
  have A19 : ∀ x y, binOpA cx.P cx.T .add 9 x y (strA (P18)) (strA ([32])) = some (strA P19) := fun x y => by rw [str_add x y _ _ (by omega), ← hP19]
  obtain ⟨P20, hP20⟩ : ∃ P, P = P19 ++ num r.live := ⟨_, rfl⟩
  have L20 : P20.length ≤ 12000160 := by rw [hP20, List.length_append]; omega
  have A20 : ∀ x y, binOpA cx.P cx.T .add 9 x y (strA (P19)) (strA (num r.live)) = some (strA P20) := fun x y => by rw [str_add x y _ _ (by omega), ← hP20]
  obtain ⟨P21, hP21⟩ : ∃ P, P = P20 ++ [32] := ⟨_, rfl⟩
  have L21 : P21.length ≤ 12000161 := by rw [hP21, List.length_append]; omega
  have A21 : ∀ x y, binOpA cx.P cx.T .add 9 x y (strA (P20)) (strA ([32])) = some (strA P21) := fun x y => by rw [str_add x y _ _ (by omega), ← hP21]
  obtain ⟨P22, hP22⟩ : ∃ P, P = P21 ++ num r.pairs := ⟨_, rfl⟩
  have L22 : P22.length ≤ 12000182 := by rw [hP22, List.length_append]; omega
  have A22 : ∀ x y, binOpA cx.P cx.T .add 9 x y (strA (P21)) (strA (num r.pairs)) = some (strA P22) := fun x y => by rw [str_add x y _ _ (by omega), ← hP22]
  obtain ⟨P23, hP23⟩ : ∃ P, P = P22 ++ [32] := ⟨_, rfl⟩
  have L23 : P23.length ≤ 12000183 := by rw [hP23, List.length_append]; omega
  have A23 : ∀ x y, binOpA cx.P cx.T .add 9 x y (strA (P22)) (strA ([32])) = some (strA P23) := fun x y => by rw [str_add x y _ _ (by omega), ← hP23]
  obtain ⟨P24, hP24⟩ : ∃ P, P = P23 ++ num r.triples := ⟨_, rfl⟩
  have L24 : P24.length ≤ 12000204 := by rw [hP24, List.length_append]; omega
  have A24 : ∀ x y, binOpA cx.P cx.T .add 9 x y (strA (P23)) (strA (num r.triples)) = some (strA P24) := fun x y => by rw [str_add x y _ _ (by omega), ← hP24]
  obtain ⟨P25, hP25⟩ : ∃ P, P = P24 ++ [32] := ⟨_, rfl⟩
  have L25 : P25.length ≤ 12000205 := by rw [hP25, List.length_append]; omega
  have A25 : ∀ x y, binOpA cx.P cx.T .add 9 x y (strA (P24)) (strA ([32])) = some (strA P25) := fun x y => by rw [str_add x y _ _ (by omega), ← hP25]
  obtain ⟨P26, hP26⟩ : ∃ P, P = P25 ++ num r.vectors := ⟨_, rfl⟩
  have L26 : P26.length ≤ 12000226 := by rw [hP26, List.length_append]; omega
  have A26 : ∀ x y, binOpA cx.P cx.T .add 9 x y (strA (P25)) (strA (num r.vectors)) = some (strA P26) := fun x y => by rw [str_add x y _ _ (by omega), ← hP26]
  have hline : P26 = joi (lineW r) := by
    simp only [hP26, hP25, hP24, hP23, hP22, hP21, hP20, hP19, hP18, hP17, hP16, hP15, hP14, hP13, hP12, hP11, hP10, hP9, hP8, hP7, hP6, hP5, hP4, hP3, hP2, hP1, hP0, joi, joiT, lineW, List.append_assoc, List.cons_append, List.nil_append, List.append_nil]
    rfl
  cases hst : r.stops
  · have hfl : flagW r.stops = wNo := by rw [hst]; rfl
    rw [hfl] at A16
    simp only [↓aA, ↓aB, ↓aC, ↓aD, ↓aE, ↓aF, ↓aG, ↓aH, aI, ↓aJ, ↓aK, aL, stepA, opA, convA, isCall, put?, ev, aM, aN, builtinA, callA, argEnv, wantedS, aO, aP, aQ, aR, aS, aT, aU, aV, aW, undef, z_none, aX, aY, aZ, bA, bB, bC, bD, bE, bF, bG, extractOp, bH, bI, bJ, bK, Nat.reduceLT, Nat.reduceEqDiff, Nat.reduceAdd, bL, bM, bN, bO, bP, ↓reduceIte, bQ, bR, reduceCtorEq, resA, resOf, bS, bT, bU, bV, bW, bX, bY, bZ, cA, cB, cC, cD, cE, cF, cG, cH, cI, cJ, cK, cL, maxA, minA, cM, cN, cO, cP, cQ, cR, cS, cT, cU, cV, cW, cX, hbx, fa60_0, fa60_1, fa60_2, fa60_3, fa60_4, fa60_5, fa60_6, fa60_7, fa60_8, fa60_9, fa60_10, fa60_11, fa60_12, fa60_13, (ref_lds hb0).2.2.2.2.2.2.2.2.1, hst, lit_yes, lit_no]
    refine wpS_draw6 (nx + 1) (by omega) (show s39_d0.toList.map (stripO s39_d0) = s39_d0s by kernel_rfl) ?_
    unfold s39_d0s
    simp only [↓aA, ↓aB, ↓aC, ↓aD, ↓aE, ↓aF, ↓aG, ↓aH, aI, ↓aJ, ↓aK, aL, stepA, opA, convA, isCall, put?, ev, aM, aN, builtinA, callA, argEnv, wantedS, aO, aP, aQ, aR, aS, aT, aU, aV, aW, undef, z_none, aX, aY, aZ, bA, bB, bC, bD, bE, bF, bG, extractOp, bH, bI, bJ, bK, Nat.reduceLT, Nat.reduceEqDiff, Nat.reduceAdd, bL, bM, bN, bO, bP, ↓reduceIte, bQ, bR, reduceCtorEq, resA, resOf, bS, bT, bU, bV, bW, bX, bY, bZ, cA, cB, cC, cD, cE, cF, cG, cH, cI, cJ, cK, cL, maxA, minA, cM, cN, cO, cP, cQ, cR, cS, cT, cU, cV, cW, cX, ↓cY, ↓cZ, txS, dA, dB, dC, dD, dE, dF, dG, dH, dI, dJ, dK, dL, dM, isEff, dN, dO, dP, dQ, dR, dS, AV.belowB, dT, dU, ↓dV, ↓dW, dX, dY, dZ, eA, eB, eC, eD, eF, eG, eH, eI, eJ, eK, eL, eM, eN, eO, eP, eQ, goodAt_eq, ldLow, eR, eS, fa60_0, fa60_1, fa60_2, fa60_3, fa60_4, fa60_5, fa60_6, fa60_7, fa60_8, fa60_9, fa60_10, fa60_11, fa60_12, fa60_13, ref_lds hb0, ref_lds hb1, ref_lds hb2, ref_lds hb3, ref_lds hb4, ref_lds hb5, x_none, c1, c2, c3, c4, c5, A0, A1, A2, A3, A4, A5, A6, A7, A8, lit32, lit_verdict8, eqB_strA, below_strA, le1, le2, le3, le4, le5]
    refine wpS_draw6 (nx + 1) (by omega) (show s39_d1.toList.map (stripO s39_d1) = s39_d1s by kernel_rfl) ?_
    unfold s39_d1s
    simp only [↓aA, ↓aB, ↓aC, ↓aD, ↓aE, ↓aF, ↓aG, ↓aH, aI, ↓aJ, ↓aK, aL, stepA, opA, convA, isCall, put?, ev, aM, aN, builtinA, callA, argEnv, wantedS, aO, aP, aQ, aR, aS, aT, aU, aV, aW, undef, z_none, aX, aY, aZ, bA, bB, bC, bD, bE, bF, bG, extractOp, bH, bI, bJ, bK, Nat.reduceLT, Nat.reduceEqDiff, Nat.reduceAdd, bL, bM, bN, bO, bP, ↓reduceIte, bQ, bR, reduceCtorEq, resA, resOf, bS, bT, bU, bV, bW, bX, bY, bZ, cA, cB, cC, cD, cE, cF, cG, cH, cI, cJ, cK, cL, maxA, minA, cM, cN, cO, cP, cQ, cR, cS, cT, cU, cV, cW, cX, ↓cY, ↓cZ, txS, dA, dB, dC, dD, dE, dF, dG, dH, dI, dJ, dK, dL, dM, isEff, dN, dO, dP, dQ, dR, dS, AV.belowB, dT, dU, ↓dV, ↓dW, dX, dY, dZ, eA, eB, eC, eD, eF, eG, eH, eI, eJ, eK, eL, eM, eN, eO, eP, eQ, goodAt_eq, ldLow, eR, eS, fa60_0, fa60_1, fa60_2, fa60_3, fa60_4, fa60_5, fa60_6, fa60_7, fa60_8, fa60_9, fa60_10, fa60_11, fa60_12, fa60_13, ref_lds hb5, ref_lds hb6, ref_lds hb7, ref_lds hb8, x_none, c6, c7, c8, A9, A10, A11, A12, A13, A14, A15, A16, lit32, lit_verdict8, eqB_strA, below_strA, le6, le7, le8]
    refine wpS_draw6 (nx + 1) (by omega) (show s39_d2.toList.map (stripO s39_d2) = s39_d2s by kernel_rfl) ?_
    unfold s39_d2s
    simp only [↓aA, ↓aB, ↓aC, ↓aD, ↓aE, ↓aF, ↓aG, ↓aH, aI, ↓aJ, ↓aK, aL, stepA, opA, convA, isCall, put?, ev, aM, aN, builtinA, callA, argEnv, wantedS, aO, aP, aQ, aR, aS, aT, aU, aV, aW, undef, z_none, aX, aY, aZ, bA, bB, bC, bD, bE, bF, bG, extractOp, bH, bI, bJ, bK, Nat.reduceLT, Nat.reduceEqDiff, Nat.reduceAdd, bL, bM, bN, bO, bP, ↓reduceIte, bQ, bR, reduceCtorEq, resA, resOf, bS, bT, bU, bV, bW, bX, bY, bZ, cA, cB, cC, cD, cE, cF, cG, cH, cI, cJ, cK, cL, maxA, minA, cM, cN, cO, cP, cQ, cR, cS, cT, cU, cV, cW, cX, ↓cY, ↓cZ, txS, dA, dB, dC, dD, dE, dF, dG, dH, dI, dJ, dK, dL, dM, isEff, dN, dO, dP, dQ, dR, dS, AV.belowB, dT, dU, ↓dV, ↓dW, dX, dY, dZ, eA, eB, eC, eD, eF, eG, eH, eI, eJ, eK, eL, eM, eN, eO, eP, eQ, goodAt_eq, ldLow, eR, eS, fa60_0, fa60_1, fa60_2, fa60_3, fa60_4, fa60_5, fa60_6, fa60_7, fa60_8, fa60_9, fa60_10, fa60_11, fa60_12, fa60_13, ref_lds hb8, ref_lds hb9, ref_lds hb10, ref_lds hb11, ref_lds hb12, ref_lds hb13, x_none, c9, c10, c11, c12, c13, A17, A18, A19, A20, A21, A22, A23, A24, A25, A26, lit32, lit_verdict8, eqB_strA, below_strA, le9, le10, le11, le12, le13]
    try simp only [↓aA, ↓aB, ↓aC, ↓aD, ↓aE, ↓aF, ↓aG, ↓aH, aI, ↓aJ, ↓aK, aL, stepA, opA, convA, isCall, put?, ev, aM, aN, builtinA, callA, argEnv, wantedS, aO, aP, aQ, aR, aS, aT, aU, aV, aW, undef, z_none, aX, aY, aZ, bA, bB, bC, bD, bE, bF, bG, extractOp, bH, bI, bJ, bK, Nat.reduceLT, Nat.reduceEqDiff, Nat.reduceAdd, bL, bM, bN, bO, bP, ↓reduceIte, bQ, bR, reduceCtorEq, resA, resOf, bS, bT, bU, bV, bW, bX, bY, bZ, cA, cB, cC, cD, cE, cF, cG, cH, cI, cJ, cK, cL, maxA, minA, cM, cN, cO, cP, cQ, cR, cS, cT, cU, cV, cW, cX]
    exact ⟨by rw [hline], F13⟩
  · have hfl : flagW r.stops = wYes := by rw [hst]; rfl
    rw [hfl] at A16
    simp only [↓aA, ↓aB, ↓aC, ↓aD, ↓aE, ↓aF, ↓aG, ↓aH, aI, ↓aJ, ↓aK, aL, stepA, opA, convA, isCall, put?, ev, aM, aN, builtinA, callA, argEnv, wantedS, aO, aP, aQ, aR, aS, aT, aU, aV, aW, undef, z_none, aX, aY, aZ, bA, bB, bC, bD, bE, bF, bG, extractOp, bH, bI, bJ, bK, Nat.reduceLT, Nat.reduceEqDiff, Nat.reduceAdd, bL, bM, bN, bO, bP, ↓reduceIte, bQ, bR, reduceCtorEq, resA, resOf, bS, bT, bU, bV, bW, bX, bY, bZ, cA, cB, cC, cD, cE, cF, cG, cH, cI, cJ, cK, cL, maxA, minA, cM, cN, cO, cP, cQ, cR, cS, cT, cU, cV, cW, cX, hbx, fa60_0, fa60_1, fa60_2, fa60_3, fa60_4, fa60_5, fa60_6, fa60_7, fa60_8, fa60_9, fa60_10, fa60_11, fa60_12, fa60_13, (ref_lds hb0).2.2.2.2.2.2.2.2.1, hst, lit_yes, lit_no]
    refine wpS_draw6 (nx + 1) (by omega) (show s39_d0.toList.map (stripO s39_d0) = s39_d0s by kernel_rfl) ?_
    unfold s39_d0s
    simp only [↓aA, ↓aB, ↓aC, ↓aD, ↓aE, ↓aF, ↓aG, ↓aH, aI, ↓aJ, ↓aK, aL, stepA, opA, convA, isCall, put?, ev, aM, aN, builtinA, callA, argEnv, wantedS, aO, aP, aQ, aR, aS, aT, aU, aV, aW, undef, z_none, aX, aY, aZ, bA, bB, bC, bD, bE, bF, bG, extractOp, bH, bI, bJ, bK, Nat.reduceLT, Nat.reduceEqDiff, Nat.reduceAdd, bL, bM, bN, bO, bP, ↓reduceIte, bQ, bR, reduceCtorEq, resA, resOf, bS, bT, bU, bV, bW, bX, bY, bZ, cA, cB, cC, cD, cE, cF, cG, cH, cI, cJ, cK, cL, maxA, minA, cM, cN, cO, cP, cQ, cR, cS, cT, cU, cV, cW, cX, ↓cY, ↓cZ, txS, dA, dB, dC, dD, dE, dF, dG, dH, dI, dJ, dK, dL, dM, isEff, dN, dO, dP, dQ, dR, dS, AV.belowB, dT, dU, ↓dV, ↓dW, dX, dY, dZ, eA, eB, eC, eD, eF, eG, eH, eI, eJ, eK, eL, eM, eN, eO, eP, eQ, goodAt_eq, ldLow, eR, eS, fa60_0, fa60_1, fa60_2, fa60_3, fa60_4, fa60_5, fa60_6, fa60_7, fa60_8, fa60_9, fa60_10, fa60_11, fa60_12, fa60_13, ref_lds hb0, ref_lds hb1, ref_lds hb2, ref_lds hb3, ref_lds hb4, ref_lds hb5, x_none, c1, c2, c3, c4, c5, A0, A1, A2, A3, A4, A5, A6, A7, A8, lit32, lit_verdict8, eqB_strA, below_strA, le1, le2, le3, le4, le5]
    refine wpS_draw6 (nx + 1) (by omega) (show s39_d1.toList.map (stripO s39_d1) = s39_d1s by kernel_rfl) ?_
    unfold s39_d1s
    simp only [↓aA, ↓aB, ↓aC, ↓aD, ↓aE, ↓aF, ↓aG, ↓aH, aI, ↓aJ, ↓aK, aL, stepA, opA, convA, isCall, put?, ev, aM, aN, builtinA, callA, argEnv, wantedS, aO, aP, aQ, aR, aS, aT, aU, aV, aW, undef, z_none, aX, aY, aZ, bA, bB, bC, bD, bE, bF, bG, extractOp, bH, bI, bJ, bK, Nat.reduceLT, Nat.reduceEqDiff, Nat.reduceAdd, bL, bM, bN, bO, bP, ↓reduceIte, bQ, bR, reduceCtorEq, resA, resOf, bS, bT, bU, bV, bW, bX, bY, bZ, cA, cB, cC, cD, cE, cF, cG, cH, cI, cJ, cK, cL, maxA, minA, cM, cN, cO, cP, cQ, cR, cS, cT, cU, cV, cW, cX, ↓cY, ↓cZ, txS, dA, dB, dC, dD, dE, dF, dG, dH, dI, dJ, dK, dL, dM, isEff, dN, dO, dP, dQ, dR, dS, AV.belowB, dT, dU, ↓dV, ↓dW, dX, dY, dZ, eA, eB, eC, eD, eF, eG, eH, eI, eJ, eK, eL, eM, eN, eO, eP, eQ, goodAt_eq, ldLow, eR, eS, fa60_0, fa60_1, fa60_2, fa60_3, fa60_4, fa60_5, fa60_6, fa60_7, fa60_8, fa60_9, fa60_10, fa60_11, fa60_12, fa60_13, ref_lds hb5, ref_lds hb6, ref_lds hb7, ref_lds hb8, x_none, c6, c7, c8, A9, A10, A11, A12, A13, A14, A15, A16, lit32, lit_verdict8, eqB_strA, below_strA, le6, le7, le8]
    refine wpS_draw6 (nx + 1) (by omega) (show s39_d2.toList.map (stripO s39_d2) = s39_d2s by kernel_rfl) ?_
    unfold s39_d2s
    simp only [↓aA, ↓aB, ↓aC, ↓aD, ↓aE, ↓aF, ↓aG, ↓aH, aI, ↓aJ, ↓aK, aL, stepA, opA, convA, isCall, put?, ev, aM, aN, builtinA, callA, argEnv, wantedS, aO, aP, aQ, aR, aS, aT, aU, aV, aW, undef, z_none, aX, aY, aZ, bA, bB, bC, bD, bE, bF, bG, extractOp, bH, bI, bJ, bK, Nat.reduceLT, Nat.reduceEqDiff, Nat.reduceAdd, bL, bM, bN, bO, bP, ↓reduceIte, bQ, bR, reduceCtorEq, resA, resOf, bS, bT, bU, bV, bW, bX, bY, bZ, cA, cB, cC, cD, cE, cF, cG, cH, cI, cJ, cK, cL, maxA, minA, cM, cN, cO, cP, cQ, cR, cS, cT, cU, cV, cW, cX, ↓cY, ↓cZ, txS, dA, dB, dC, dD, dE, dF, dG, dH, dI, dJ, dK, dL, dM, isEff, dN, dO, dP, dQ, dR, dS, AV.belowB, dT, dU, ↓dV, ↓dW, dX, dY, dZ, eA, eB, eC, eD, eF, eG, eH, eI, eJ, eK, eL, eM, eN, eO, eP, eQ, goodAt_eq, ldLow, eR, eS, fa60_0, fa60_1, fa60_2, fa60_3, fa60_4, fa60_5, fa60_6, fa60_7, fa60_8, fa60_9, fa60_10, fa60_11, fa60_12, fa60_13, ref_lds hb8, ref_lds hb9, ref_lds hb10, ref_lds hb11, ref_lds hb12, ref_lds hb13, x_none, c9, c10, c11, c12, c13, A17, A18, A19, A20, A21, A22, A23, A24, A25, A26, lit32, lit_verdict8, eqB_strA, below_strA, le9, le10, le11, le12, le13]
    try simp only [↓aA, ↓aB, ↓aC, ↓aD, ↓aE, ↓aF, ↓aG, ↓aH, aI, ↓aJ, ↓aK, aL, stepA, opA, convA, isCall, put?, ev, aM, aN, builtinA, callA, argEnv, wantedS, aO, aP, aQ, aR, aS, aT, aU, aV, aW, undef, z_none, aX, aY, aZ, bA, bB, bC, bD, bE, bF, bG, extractOp, bH, bI, bJ, bK, Nat.reduceLT, Nat.reduceEqDiff, Nat.reduceAdd, bL, bM, bN, bO, bP, ↓reduceIte, bQ, bR, reduceCtorEq, resA, resOf, bS, bT, bU, bV, bW, bX, bY, bZ, cA, cB, cC, cD, cE, cF, cG, cH, cI, cJ, cK, cL, maxA, minA, cM, cN, cO, cP, cQ, cR, cS, cT, cU, cV, cW, cX]
    exact ⟨by rw [hline], F13⟩
end Seat
end CI
namespace CI
open Go
namespace Seat
open Rcd
def recV (r : Rec) : Array Value := #[.int .i64 r.err, .int .i64 r.at_, .int .i64 r.kind, .int .i64 r.degree, .int .i64 r.most, .string (B r.x), .string (B r.y), .string (B r.z), .bool r.stops, .int .i64 r.places, .int .i64 r.live, .int .i64 r.pairs, .int .i64 r.triples, .int .i64 r.vectors]
theorem rec_parts (r : Rec) : PartsSelf cx.P 9999 (recV r) (cx.P.fieldsOf 39).toList := by
  rw [show (cx.P.fieldsOf 39).toList = [{ name := "Err", type := 24, offset := 0, embedded := false, tag := "", pkgPath := "", byteOffset := 0 }, { name := "At", type := 3, offset := 1, embedded := false, tag := "", pkgPath := "", byteOffset := 8 }, { name := "Kind", type := 3, offset := 2, embedded := false, tag := "", pkgPath := "", byteOffset := 16 }, { name := "Degree", type := 3, offset := 3, embedded := false, tag := "", pkgPath := "", byteOffset := 24 }, { name := "Most", type := 3, offset := 4, embedded := false, tag := "", pkgPath := "", byteOffset := 32 }, { name := "X", type := 9, offset := 5, embedded := false, tag := "", pkgPath := "", byteOffset := 40 }, { name := "Y", type := 9, offset := 6, embedded := false, tag := "", pkgPath := "", byteOffset := 56 }, { name := "Z", type := 9, offset := 7, embedded := false, tag := "", pkgPath := "", byteOffset := 72 }, { name := "Stops", type := 4, offset := 8, embedded := false, tag := "", pkgPath := "", byteOffset := 88 }, { name := "Places", type := 3, offset := 9, embedded := false, tag := "", pkgPath := "", byteOffset := 96 }, { name := "Live", type := 3, offset := 10, embedded := false, tag := "", pkgPath := "", byteOffset := 104 }, { name := "Pairs", type := 3, offset := 11, embedded := false, tag := "", pkgPath := "", byteOffset := 112 }, { name := "Triples", type := 3, offset := 12, embedded := false, tag := "", pkgPath := "", byteOffset := 120 }, { name := "Vectors", type := 3, offset := 13, embedded := false, tag := "", pkgPath := "", byteOffset := 128 }] by kernel_rfl]
  refine ⟨⟨.int .i64 r.err, ?_, ?_⟩, ⟨.int .i64 r.at_, ?_, ?_⟩, ⟨.int .i64 r.kind, ?_, ?_⟩, ⟨.int .i64 r.degree, ?_, ?_⟩, ⟨.int .i64 r.most, ?_, ?_⟩, ⟨.string (B r.x), ?_, ?_⟩, ⟨.string (B r.y), ?_, ?_⟩, ⟨.string (B r.z), ?_, ?_⟩, ⟨.bool r.stops, ?_, ?_⟩, ⟨.int .i64 r.places, ?_, ?_⟩, ⟨.int .i64 r.live, ?_, ?_⟩, ⟨.int .i64 r.pairs, ?_, ?_⟩, ⟨.int .i64 r.triples, ?_, ?_⟩, ⟨.int .i64 r.vectors, ?_, ?_⟩, trivial⟩
  · kernel_rfl
  · rw [show pureRun cx.P (Op.equalIn 9999 24 (.int .i64 r.err) (.int .i64 r.err)) = some (r.err == r.err) by kernel_rfl]; simp
  · kernel_rfl
  · rw [show pureRun cx.P (Op.equalIn 9999 3 (.int .i64 r.at_) (.int .i64 r.at_)) = some (r.at_ == r.at_) by kernel_rfl]; simp
  · kernel_rfl
  · rw [show pureRun cx.P (Op.equalIn 9999 3 (.int .i64 r.kind) (.int .i64 r.kind)) = some (r.kind == r.kind) by kernel_rfl]; simp
  · kernel_rfl
  · rw [show pureRun cx.P (Op.equalIn 9999 3 (.int .i64 r.degree) (.int .i64 r.degree)) = some (r.degree == r.degree) by kernel_rfl]; simp
  · kernel_rfl
  · rw [show pureRun cx.P (Op.equalIn 9999 3 (.int .i64 r.most) (.int .i64 r.most)) = some (r.most == r.most) by kernel_rfl]; simp
  · kernel_rfl
  · rw [show pureRun cx.P (Op.equalIn 9999 9 (.string (B r.x)) (.string (B r.x))) = some (B r.x == B r.x) by kernel_rfl]; simp [beq_toListBytes]
  · kernel_rfl
  · rw [show pureRun cx.P (Op.equalIn 9999 9 (.string (B r.y)) (.string (B r.y))) = some (B r.y == B r.y) by kernel_rfl]; simp [beq_toListBytes]
  · kernel_rfl
  · rw [show pureRun cx.P (Op.equalIn 9999 9 (.string (B r.z)) (.string (B r.z))) = some (B r.z == B r.z) by kernel_rfl]; simp [beq_toListBytes]
  · kernel_rfl
  · rw [show pureRun cx.P (Op.equalIn 9999 4 (.bool r.stops) (.bool r.stops)) = some (r.stops == r.stops) by kernel_rfl]; simp
  · kernel_rfl
  · rw [show pureRun cx.P (Op.equalIn 9999 3 (.int .i64 r.places) (.int .i64 r.places)) = some (r.places == r.places) by kernel_rfl]; simp
  · kernel_rfl
  · rw [show pureRun cx.P (Op.equalIn 9999 3 (.int .i64 r.live) (.int .i64 r.live)) = some (r.live == r.live) by kernel_rfl]; simp
  · kernel_rfl
  · rw [show pureRun cx.P (Op.equalIn 9999 3 (.int .i64 r.pairs) (.int .i64 r.pairs)) = some (r.pairs == r.pairs) by kernel_rfl]; simp
  · kernel_rfl
  · rw [show pureRun cx.P (Op.equalIn 9999 3 (.int .i64 r.triples) (.int .i64 r.triples)) = some (r.triples == r.triples) by kernel_rfl]; simp
  · kernel_rfl
  · rw [show pureRun cx.P (Op.equalIn 9999 3 (.int .i64 r.vectors) (.int .i64 r.vectors)) = some (r.vectors == r.vectors) by kernel_rfl]; simp
theorem under_rec : cx.P.underlying 39 = some (.struct (cx.P.fieldsOf 39)) := by kernel_rfl
theorem held_rec : cx.P.stoodInHeld 39 = false := by kernel_rfl
theorem eq_rec (x y : Operand) (r : Rec) : binOpA cx.P cx.T .eql 39 x y (.agg (recC r)) (.agg (recC r)) = some (.lit (.bool true)) := by
  have e : plain2 cx.P (fun p q => do eqGuard .eql 39 x y p q; binOp .eql 39 p q) (.agg (recC r)) (.agg (recC r)) = (pureRun cx.P (do eqGuard .eql 39 x y (.agg (recV r)) (.agg (recV r)); binOp .eql 39 (.agg (recV r)) (.agg (recV r)))).map abs := by kernel_rfl
  have g : pureRun cx.P (eqGuard .eql 39 x y (.agg (recV r)) (.agg (recV r))) = some () := by kernel_rfl
  have b : binOp .eql 39 (.agg (recV r)) (.agg (recV r)) = (Op.equalIn (9999 + 1) 39 (.agg (recV r)) (.agg (recV r)) >>= fun b => pure (.bool b)) := rfl
  unfold binOpA
  rw [e, pureRun_bi, g, Option.bind_some, b, pureRun_bi, struct_self 9999 39 (recV r) under_rec held_rec (rec_parts r)]
  rfl
end Seat
end CI
