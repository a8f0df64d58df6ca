/- Parts of the proof: Rc Rw Req Re Rf. -/
import Derived.Test.YtanfejbkoheblaaGreatDoorSuM3
import Derived.Test.YtanfejbkoheblaaGreatDoorSuRb
import Derived.Test.YtanfejbkoheblaaGreatDoorSuM14
import Derived.Test.YtanfejbkoheblaaGreatDoorSuM5
set_option linter.unusedVariables false
set_option linter.unusedSimpArgs false
set_option maxRecDepth 10000
namespace CI
open Go
namespace Seat
open Quo Rcd Spl
variable {H : Heap} {nx : Nat}
def booA (b : Bool) : AV := .lit (.bool b)
structure Ws (H : Heap) (lim p : Nat) (tl : List AV) (t : TypeId) (q : Q) : Prop where
  pn : p < lim
  mem : ∃ b o all, H.get p = some (.cells (.slice b o q.1.length (some q.1.length) 1 :: booA q.2 :: tl) t false) ∧ b ≠ p ∧ b < lim ∧ H.get b = some (.cells (List.map strA all) 9 false) ∧ (q.1 ≠ [] → all.drop o = q.1)
structure FrP (p : Nat) (H : Heap) (nx : Nat) (H' : Heap) (nx' : Nat) : Prop where
  le : nx ≤ nx'
  old : ∀ c, c < nx → c ≠ p → H'.get c = H.get c
  fr : (∀ b, nx ≤ b → H.get b = none) → ∀ b, nx' ≤ b → H'.get b = none
theorem FrP.trans {p : Nat} {H1 H2 : Heap} {n1 n2 : Nat} (a : FrP p H nx H1 n1) (b : FrP p H1 n1 H2 n2) : FrP p H nx H2 n2 :=
  ⟨Nat.le_trans a.le b.le, fun c hc hp => (b.old c (Nat.lt_of_lt_of_le hc a.le) hp).trans (a.old c hc hp), fun h => b.fr (a.fr h)⟩
theorem FrP.put {p : Nat} (hp : p < nx) (ob : Option AObj) : FrP p H nx (H.put p ob) nx :=
  ⟨Nat.le_refl _, fun c hc h => Tr.get_put_ne _ _ _ _ h, fun h b hb => by rw [Tr.get_put_ne _ _ _ _ (by omega)]; exact h b hb⟩
theorem Fr.toP {p : Nat} {H' : Heap} {nx' : Nat} (h : Fr H nx H' nx') : FrP p H nx H' nx' := ⟨h.le, fun c hc _ => h.old c hc, fun _ => h.fr⟩
theorem Ws.mono {lim p : Nat} {tl : List AV} {t : TypeId} {q : Q} (h : Ws H lim p tl t q) {H' : Heap} (hF : ∀ c, c < lim → H'.get c = H.get c) : Ws H' lim p tl t q := by
  obtain ⟨pn, b, o, all, h1, h2, h3, h4, h5⟩ := h
  exact ⟨pn, b, o, all, (hF p pn).trans h1, h2, h3, (hF b h3).trans h4, h5⟩
theorem fa138_0 (p o : Nat) : fieldAddrOp cx.T 138 (.ptr p o) 0 = some (.ptr p o) := by kernel_rfl
theorem fa138_1 (p o : Nat) : fieldAddrOp cx.T 138 (.ptr p o) 1 = some (.ptr p (o + 1)) := by kernel_rfl
theorem ln_sl (H : Heap) (b o n : Nat) (c : Option Nat) : lenOp cx.T H 100 (.slice b o n c 1) = some n := by kernel_rfl
theorem sl_tail (b o n : Nat) : sliceOp cx.P cx.T H 100 (.slice b o (n + 1) (some (n + 1)) 1) (some (.lit (.int .i64 1))) none none = some (.slice b (if n = 0 then o else o + 1) n (some n) 1) := by
  unfold sliceOp
  simp only [T100, ti100, T9, ti9]
  have e1 : ∀ k, bnd (some (.lit (.int .i64 1))) k = some 1 := fun _ => rfl
  have e2 : ∀ k, bnd none k = some k := fun _ => rfl
  rw [if_neg (by simp)]
  simp only [e1, e2]
  rw [if_pos ⟨Nat.le_refl _, Nat.le_refl _, by omega, by simp⟩]
  unfold cutTo
  by_cases h : n = 0
  · subst h; simp
  · rw [if_neg (by omega), if_neg h]; simp
section
variable {lim p : Nat} {tl : List AV} {t : TypeId} {q : Q}
theorem Ws.ld_bad (h : Ws H lim p tl t q) : loadOp cx.T H 4 (.ptr p 1) = some (booA q.2) := by
  obtain ⟨pn, b, o, all, h1, h2, h3, h4, h5⟩ := h
  exact ld_at (by kernel_rfl) h1 rfl
theorem Ws.st_bad (h : Ws H lim p tl t q) (hlim : lim ≤ nx) (v : Bool) : ∃ H', storeOp cx.T H 4 (.ptr p 1) (.lit (.bool v)) = some H' ∧ Ws H' lim p tl t (q.1, v) ∧ FrP p H nx H' nx := by
  obtain ⟨pn, b, o, all, h1, h2, h3, h4, h5⟩ := h
  refine ⟨_, st_at (t := 4) (v := booA v) (by kernel_rfl) h1 (by simp) rfl rfl, ⟨pn, b, o, all, Tr.get_put_same _ _ _, h2, h3, by rw [Tr.get_put_ne _ _ _ _ h2]; exact h4, h5⟩, FrP.put (by omega) _⟩
theorem wnext_cl (h : Ws H lim p tl t q) (hlim : lim ≤ nx) : ∃ H', Cl cx 145 [.ptr p 0] H nx = some (strA (nextQ q).1, H', nx) ∧ Ws H' lim p tl t (nextQ q).2 ∧ FrP p H nx H' nx := by
  have h' := h
  obtain ⟨l, bad⟩ := q
  obtain ⟨pn, b, o, all, h1, h2, h3, h4, h5⟩ := h
  have hl : loadOp cx.T H 100 (.ptr p 0) = some (.slice b o l.length (some l.length) 1) := ld_at (by kernel_rfl) h1 rfl
  cases l with
  | nil =>
    obtain ⟨H', k1, k2, k3⟩ := h'.st_bad hlim true
    refine ⟨H', ?_, k2, k3⟩
    refine wp145 _ _ _ _ (by simp) ?_
    unfold s145
    have e0 : ((([] : List W).length : Int) = 0) = True := by simp
    simp only [↓aD, ↓aE, ↓aF, ↓aG, ↓aH, ↓aI, ↓aJ, ↓aK, aL, ↓aM, ↓aN, aO, stepA, opA, convA, isCall, put?, ev, aA, aQ, builtinA, callA, argEnv, wantedS, aR, aS, aT, aU, aV, aW, aX, aY, undef, z_none, bA, bB, bC, bD, bH, bI, extractOp, bK, bL, bM, bN, Nat.reduceLT, Nat.reduceEqDiff, Nat.reduceAdd, bR, bS, ↓reduceIte, reduceCtorEq, resA, resOf, cB, maxA, minA, nc_ptr, fa138_0, fa138_1, hl, ln_sl, e0, k1]
    rfl
  | cons s l =>
    have hd := h5 (by simp)
    have hs : all[o]? = some s := by
      have := congrArg (·[0]?) hd
      simpa using this
    have hix : indexAddrOp cx.T 100 (.slice b o (l.length + 1) (some (l.length + 1)) 1) (.lit (.int .i64 0)) = some (.ptr b o) := by
      have := ix100o (b := b) (o := o) (n := l.length + 1) (i := 0) (c := some (l.length + 1)) (by omega)
      exact this
    have hld : loadOp cx.T H 9 (.ptr b o) = some (strA s) := ld_at (by kernel_rfl) h4 (by simp [List.getElem?_map, hs])
    have hst := st_at (t := 100) (v := .slice b (if l.length = 0 then o else o + 1) l.length (some l.length) 1) (by kernel_rfl) h1 (o := 0) (by simp) rfl rfl
    refine ⟨_, ?_, ⟨pn, b, (if l.length = 0 then o else o + 1), all, Tr.get_put_same _ _ _, h2, h3, by rw [Tr.get_put_ne _ _ _ _ h2]; exact h4, ?_⟩, FrP.put (by omega) _⟩
    · refine wp145 _ _ _ _ (by simp) ?_
      unfold s145
      have e0 : (((l.length + 1 : Nat) : Int) = 0) = False := by simp; omega
      simp only [List.length_cons] at hl
      simp only [↓aD, ↓aE, ↓aF, ↓aG, ↓aH, ↓aI, ↓aJ, ↓aK, aL, ↓aM, ↓aN, aO, stepA, opA, convA, isCall, put?, ev, aA, aQ, builtinA, callA, argEnv, wantedS, aR, aS, aT, aU, aV, aW, aX, aY, undef, z_none, bA, bB, bC, bD, bH, bI, extractOp, bK, bL, bM, bN, Nat.reduceLT, Nat.reduceEqDiff, Nat.reduceAdd, bR, bS, ↓reduceIte, reduceCtorEq, resA, resOf, cB, maxA, minA, nc_ptr, fa138_0, fa138_1, hl, ln_sl, e0, hix, hld, sl_tail, hst]
      exact ⟨rfl, rfl⟩
    · intro hne
      have hne' : l ≠ [] := hne
      show List.drop (if l.length = 0 then o else o + 1) all = l
      rw [if_neg (by simpa using hne')]
      have := congrArg List.tail hd
      rw [List.tail_drop] at this
      simpa using this
theorem is_cl (h : Ws H lim p tl t q) (hlim : lim ≤ nx) (s : W) : ∃ H', Cl cx 79 [.ptr p 0, strA s] H nx = some (.tuple [], H', nx) ∧ Ws H' lim p tl t (isQ s q) ∧ FrP p H nx H' nx := by
  obtain ⟨H1, n1, n2, n3⟩ := wnext_cl h hlim
  obtain ⟨H2, k1, k2, k3⟩ := n2.st_bad hlim (decide ((nextQ q).1 ≠ s) || (nextQ q).2.2)
  refine ⟨H2, ?_, k2, n3.trans k3⟩
  refine wp79 _ _ _ _ (by simp) ?_
  unfold s79
  have hlb := n2.ld_bad
  unfold booA at hlb
  by_cases he : (nextQ q).1 = s
  · simp only [he, ne_eq, not_true_eq_false, decide_false, Bool.false_or] at k1
    simp only [↓aD, ↓aE, ↓aF, ↓aG, ↓aH, ↓aI, ↓aJ, ↓aK, aL, ↓aM, ↓aN, aO, stepA, opA, convA, isCall, put?, ev, aA, aQ, builtinA, callA, argEnv, wantedS, aR, aS, aT, aU, aV, aW, aX, aY, undef, z_none, bA, bB, bC, bD, bH, bI, extractOp, bK, bL, bM, bN, Nat.reduceLT, Nat.reduceEqDiff, Nat.reduceAdd, bR, bS, ↓reduceIte, reduceCtorEq, resA, resOf, cB, maxA, minA, x_none, n1, str_neq, he, nc_ptr, fa138_1, hlb, k1]
  · simp only [he, ne_eq, not_false_eq_true, decide_true, Bool.true_or] at k1
    simp only [↓aD, ↓aE, ↓aF, ↓aG, ↓aH, ↓aI, ↓aJ, ↓aK, aL, ↓aM, ↓aN, aO, stepA, opA, convA, isCall, put?, ev, aA, aQ, builtinA, callA, argEnv, wantedS, aR, aS, aT, aU, aV, aW, aX, aY, undef, z_none, bA, bB, bC, bD, bH, bI, extractOp, bK, bL, bM, bN, Nat.reduceLT, Nat.reduceEqDiff, Nat.reduceAdd, bR, bS, ↓reduceIte, reduceCtorEq, resA, resOf, cB, maxA, minA, x_none, n1, str_neq, he, nc_ptr, fa138_1, hlb, k1]
theorem nextQ_len {q : Q} {n : Nat} (h : ∀ w ∈ q.1, w.length ≤ n) : (nextQ q).1.length ≤ n ∧ ∀ w ∈ (nextQ q).2.1, w.length ≤ n := by
  obtain ⟨l, b⟩ := q
  cases l with
  | nil => exact ⟨by simp [nextQ], by simp [nextQ]⟩
  | cons a l => exact ⟨h a (List.mem_cons_self ..), fun w hw => h w (List.mem_cons_of_mem _ hw)⟩
theorem number_cl (h : Ws H lim p tl t q) (hlim : lim ≤ nx) (hq : ∀ w ∈ q.1, w.length ≤ 1000000) (hfr : ∀ b, nx ≤ b → H.get b = none) : ∃ H' nx', Cl cx 80 [.ptr p 0] H nx = some (.lit (.int .i64 (numQ q).1), H', nx') ∧ Ws H' lim p tl t (numQ q).2 ∧ FrP p H nx H' nx' := by
  obtain ⟨H1, n1, n2, n3⟩ := wnext_cl h hlim
  obtain ⟨H2, nx2, p1, p2⟩ := parse_cl (H := H1) (nx := nx) (nextQ q).1 (nextQ_len hq).1 (n3.fr hfr)
  have n4 := n2.mono (fun c hc => p2.old c (by omega))
  obtain ⟨H3, k1, k2, k3⟩ := n4.st_bad (nx := nx2) (by have := p2.le; omega) ((nextQ q).2.2 || decide ((parseQ (nextQ q).1).2 ≠ 0) || decide ((parseQ (nextQ q).1).1 < 0))
  refine ⟨H3, nx2, ?_, k2, (n3.trans p2.toP).trans k3⟩
  refine wp80 _ _ _ _ (by simp) ?_
  unfold s80
  have hlb := n4.ld_bad
  unfold booA at hlb
  generalize hP : parseQ (nextQ q).1 = P at *
  have hr : (numQ q).1 = P.1 := by rw [← hP]; rfl
  rw [hr]
  by_cases hb : (nextQ q).2.2 = true
  · simp only [hb, Bool.true_or] at k1
    rw [hb] at hlb
    simp only [↓aD, ↓aE, ↓aF, ↓aG, ↓aH, ↓aI, ↓aJ, ↓aK, aL, ↓aM, ↓aN, aO, stepA, opA, convA, isCall, put?, ev, aA, aQ, builtinA, callA, argEnv, wantedS, aR, aS, aT, aU, aV, aW, aX, aY, undef, z_none, bA, bB, bC, bD, bH, bI, extractOp, bK, bL, bM, bN, Nat.reduceLT, Nat.reduceEqDiff, Nat.reduceAdd, bR, bS, ↓reduceIte, reduceCtorEq, resA, resOf, cB, maxA, minA, x_none, n1, p1, nc_ptr, fa138_1, hlb, k1]
  · simp only [Bool.not_eq_true] at hb
    rw [hb] at hlb
    by_cases he : P.2 = 0
    · simp only [hb, he, ne_eq, not_true_eq_false, decide_false, Bool.false_or] at k1
      simp only [↓aD, ↓aE, ↓aF, ↓aG, ↓aH, ↓aI, ↓aJ, ↓aK, aL, ↓aM, ↓aN, aO, stepA, opA, convA, isCall, put?, ev, aA, aQ, builtinA, callA, argEnv, wantedS, aR, aS, aT, aU, aV, aW, aX, aY, undef, z_none, bA, bB, bC, bD, bH, bI, extractOp, bK, bL, bM, bN, Nat.reduceLT, Nat.reduceEqDiff, Nat.reduceAdd, bR, bS, ↓reduceIte, reduceCtorEq, resA, resOf, cB, maxA, minA, x_none, n1, p1, nc_ptr, fa138_1, hlb, he, k1]
    · simp only [hb, he, ne_eq, not_false_eq_true, decide_true, Bool.false_or, Bool.true_or] at k1
      simp only [↓aD, ↓aE, ↓aF, ↓aG, ↓aH, ↓aI, ↓aJ, ↓aK, aL, ↓aM, ↓aN, aO, stepA, opA, convA, isCall, put?, ev, aA, aQ, builtinA, callA, argEnv, wantedS, aR, aS, aT, aU, aV, aW, aX, aY, undef, z_none, bA, bB, bC, bD, bH, bI, extractOp, bK, bL, bM, bN, Nat.reduceLT, Nat.reduceEqDiff, Nat.reduceAdd, bR, bS, ↓reduceIte, reduceCtorEq, resA, resOf, cB, maxA, minA, x_none, n1, p1, nc_ptr, fa138_1, hlb, he, k1]
theorem bytes_cl (h : Ws H lim p tl t q) (hlim : lim ≤ nx) (hq : ∀ w ∈ q.1, w.length ≤ 1000000) (hfr : ∀ b, nx ≤ b → H.get b = none) : ∃ H' nx', Cl cx 82 [.ptr p 0] H nx = some (strA (bytesQ q).1, H', nx') ∧ Ws H' lim p tl t (bytesQ q).2 ∧ FrP p H nx H' nx' := by
  obtain ⟨H1, n1, n2, n3⟩ := wnext_cl h hlim
  obtain ⟨v, H2, nx2, p1, rfl, p2⟩ := read_cl (H := H1) (nx := nx) (w := (nextQ q).1) (nextQ_len hq).1 (n3.fr hfr)
  have n4 := n2.mono (fun c hc => p2.old c (by omega))
  obtain ⟨H3, k1, k2, k3⟩ := n4.st_bad (nx := nx2) (by have := p2.le; omega) ((nextQ q).2.2 || decide ((readI (nextQ q).1).2.2 ≠ 0))
  refine ⟨H3, nx2, ?_, k2, (n3.trans p2.toP).trans k3⟩
  refine wp82 _ _ _ _ (by simp) ?_
  unfold s82
  have hlb := n4.ld_bad
  unfold booA at hlb
  by_cases hb : (nextQ q).2.2 = true
  · simp only [hb, Bool.true_or] at k1
    rw [hb] at hlb
    simp only [↓aD, ↓aE, ↓aF, ↓aG, ↓aH, ↓aI, ↓aJ, ↓aK, aL, ↓aM, ↓aN, aO, stepA, opA, convA, isCall, put?, ev, aA, aQ, builtinA, callA, argEnv, wantedS, aR, aS, aT, aU, aV, aW, aX, aY, undef, z_none, bA, bB, bC, bD, bH, bI, extractOp, bK, bL, bM, bN, Nat.reduceLT, Nat.reduceEqDiff, Nat.reduceAdd, bR, bS, ↓reduceIte, reduceCtorEq, resA, resOf, cB, maxA, minA, x_none, n1, p1, nc_ptr, fa138_1, hlb, k1]
    rfl
  · simp only [Bool.not_eq_true] at hb
    rw [hb] at hlb
    by_cases he : (readI (nextQ q).1).2.2 = 0
    · have he2 : (((readI (nextQ q).1).2.2 : Int) = 0) = True := by simp [he]
      simp only [hb, he, ne_eq, not_true_eq_false, decide_false, Bool.false_or] at k1
      simp only [↓aD, ↓aE, ↓aF, ↓aG, ↓aH, ↓aI, ↓aJ, ↓aK, aL, ↓aM, ↓aN, aO, stepA, opA, convA, isCall, put?, ev, aA, aQ, builtinA, callA, argEnv, wantedS, aR, aS, aT, aU, aV, aW, aX, aY, undef, z_none, bA, bB, bC, bD, bH, bI, extractOp, bK, bL, bM, bN, Nat.reduceLT, Nat.reduceEqDiff, Nat.reduceAdd, bR, bS, ↓reduceIte, reduceCtorEq, resA, resOf, cB, maxA, minA, x_none, n1, p1, nc_ptr, fa138_1, hlb, he2, k1]
      rfl
    · have he2 : (((readI (nextQ q).1).2.2 : Int) = 0) = False := by simp [he]
      simp only [hb, he, ne_eq, not_false_eq_true, decide_true, Bool.false_or, Bool.true_or] at k1
      simp only [↓aD, ↓aE, ↓aF, ↓aG, ↓aH, ↓aI, ↓aJ, ↓aK, aL, ↓aM, ↓aN, aO, stepA, opA, convA, isCall, put?, ev, aA, aQ, builtinA, callA, argEnv, wantedS, aR, aS, aT, aU, aV, aW, aX, aY, undef, z_none, bA, bB, bC, bD, bH, bI, extractOp, bK, bL, bM, bN, Nat.reduceLT, Nat.reduceEqDiff, Nat.reduceAdd, bR, bS, ↓reduceIte, reduceCtorEq, resA, resOf, cB, maxA, minA, x_none, n1, p1, nc_ptr, fa138_1, hlb, he2, k1]
      rfl
theorem flag_cl (h : Ws H lim p tl t q) (hlim : lim ≤ nx) : ∃ H', Cl cx 83 [.ptr p 0] H nx = some (.lit (.bool (flagQ q).1), H', nx) ∧ Ws H' lim p tl t (flagQ q).2 ∧ FrP p H nx H' nx := by
  obtain ⟨H1, n1, n2, n3⟩ := wnext_cl h hlim
  obtain ⟨H3, k1, k2, k3⟩ := n2.st_bad hlim ((nextQ q).2.2 || (decide ((nextQ q).1 ≠ wYes) && decide ((nextQ q).1 ≠ wNo)))
  refine ⟨H3, ?_, k2, n3.trans k3⟩
  refine wp83 _ _ _ _ (by simp) ?_
  unfold s83
  have hlb := n2.ld_bad
  unfold booA at hlb
  have hr : (flagQ q).1 = decide ((nextQ q).1 = wYes) := rfl
  rw [hr]
  by_cases hb : (nextQ q).2.2 = true
  · simp only [hb, Bool.true_or] at k1
    rw [hb] at hlb
    simp only [↓aD, ↓aE, ↓aF, ↓aG, ↓aH, ↓aI, ↓aJ, ↓aK, aL, ↓aM, ↓aN, aO, stepA, opA, convA, isCall, put?, ev, aA, aQ, builtinA, callA, argEnv, wantedS, aR, aS, aT, aU, aV, aW, aX, aY, undef, z_none, bA, bB, bC, bD, bH, bI, extractOp, bK, bL, bM, bN, Nat.reduceLT, Nat.reduceEqDiff, Nat.reduceAdd, bR, bS, ↓reduceIte, reduceCtorEq, resA, resOf, cB, maxA, minA, x_none, n1, nc_ptr, fa138_1, hlb, lit_yes, lit_no, str_eql, k1]
  · simp only [Bool.not_eq_true] at hb
    rw [hb] at hlb
    by_cases he : (nextQ q).1 = wYes
    · simp only [hb, he, ne_eq, not_true_eq_false, decide_false, Bool.false_or, Bool.false_and] at k1
      simp only [↓aD, ↓aE, ↓aF, ↓aG, ↓aH, ↓aI, ↓aJ, ↓aK, aL, ↓aM, ↓aN, aO, stepA, opA, convA, isCall, put?, ev, aA, aQ, builtinA, callA, argEnv, wantedS, aR, aS, aT, aU, aV, aW, aX, aY, undef, z_none, bA, bB, bC, bD, bH, bI, extractOp, bK, bL, bM, bN, Nat.reduceLT, Nat.reduceEqDiff, Nat.reduceAdd, bR, bS, ↓reduceIte, reduceCtorEq, resA, resOf, cB, maxA, minA, x_none, n1, nc_ptr, fa138_1, hlb, lit_yes, lit_no, str_eql, str_neq, he, k1]
    · by_cases hn : (nextQ q).1 = wNo
      · have hne : ¬ wNo = wYes := by decide
        simp only [hb, he, hn, hne, ne_eq, not_true_eq_false, not_false_eq_true, decide_false, decide_true, Bool.false_or, Bool.and_false] at k1
        simp only [↓aD, ↓aE, ↓aF, ↓aG, ↓aH, ↓aI, ↓aJ, ↓aK, aL, ↓aM, ↓aN, aO, stepA, opA, convA, isCall, put?, ev, aA, aQ, builtinA, callA, argEnv, wantedS, aR, aS, aT, aU, aV, aW, aX, aY, undef, z_none, bA, bB, bC, bD, bH, bI, extractOp, bK, bL, bM, bN, Nat.reduceLT, Nat.reduceEqDiff, Nat.reduceAdd, bR, bS, ↓reduceIte, reduceCtorEq, resA, resOf, cB, maxA, minA, x_none, n1, nc_ptr, fa138_1, hlb, lit_yes, lit_no, str_eql, str_neq, hn, hne, k1]
      · simp only [hb, he, hn, ne_eq, not_false_eq_true, decide_true, Bool.false_or, Bool.and_true] at k1
        simp only [↓aD, ↓aE, ↓aF, ↓aG, ↓aH, ↓aI, ↓aJ, ↓aK, aL, ↓aM, ↓aN, aO, stepA, opA, convA, isCall, put?, ev, aA, aQ, builtinA, callA, argEnv, wantedS, aR, aS, aT, aU, aV, aW, aX, aY, undef, z_none, bA, bB, bC, bD, bH, bI, extractOp, bK, bL, bM, bN, Nat.reduceLT, Nat.reduceEqDiff, Nat.reduceAdd, bR, bS, ↓reduceIte, reduceCtorEq, resA, resOf, cB, maxA, minA, x_none, n1, nc_ptr, fa138_1, hlb, lit_yes, lit_no, str_eql, str_neq, he, hn, k1]
theorem kind_cl (h : Ws H lim p tl t q) (hlim : lim ≤ nx) (hfr : ∀ b, nx ≤ b → H.get b = none) : ∃ H' nx', Cl cx 81 [.ptr p 0] H nx = some (.lit (.int .i64 (kindS q).1), H', nx') ∧ Ws H' lim p tl t (kindS q).2 ∧ FrP p H nx H' nx' := by
  obtain ⟨H1, n1, n2, n3⟩ := wnext_cl h hlim
  obtain ⟨H2, nx2, p1, p2⟩ := rkind_cl (H := H1) (nx := nx) (nextQ q).1 (n3.fr hfr)
  have n4 := n2.mono (fun c hc => p2.old c (by omega))
  obtain ⟨H3, k1, k2, k3⟩ := n4.st_bad (nx := nx2) (by have := p2.le; omega) ((nextQ q).2.2 || !(kindQ (nextQ q).1).2)
  refine ⟨H3, nx2, ?_, k2, (n3.trans p2.toP).trans k3⟩
  refine wp81 _ _ _ _ (by simp) ?_
  unfold s81
  have hlb := n4.ld_bad
  unfold booA at hlb
  have hr : (kindS q).1 = (kindQ (nextQ q).1).1 := rfl
  rw [hr]
  by_cases hb : (nextQ q).2.2 = true
  · simp only [hb, Bool.true_or] at k1
    rw [hb] at hlb
    simp only [↓aD, ↓aE, ↓aF, ↓aG, ↓aH, ↓aI, ↓aJ, ↓aK, aL, ↓aM, ↓aN, aO, stepA, opA, convA, isCall, put?, ev, aA, aQ, builtinA, callA, argEnv, wantedS, aR, aS, aT, aU, aV, aW, aX, aY, undef, z_none, bA, bB, bC, bD, bH, bI, extractOp, bK, bL, bM, bN, Nat.reduceLT, Nat.reduceEqDiff, Nat.reduceAdd, bR, bS, ↓reduceIte, reduceCtorEq, resA, resOf, cB, maxA, minA, x_none, n1, p1, nc_ptr, fa138_1, hlb, k1]
  · simp only [Bool.not_eq_true] at hb
    rw [hb] at hlb
    simp only [hb, Bool.false_or] at k1
    simp only [↓aD, ↓aE, ↓aF, ↓aG, ↓aH, ↓aI, ↓aJ, ↓aK, aL, ↓aM, ↓aN, aO, stepA, opA, convA, isCall, put?, ev, aA, aQ, builtinA, callA, argEnv, wantedS, aR, aS, aT, aU, aV, aW, aX, aY, undef, z_none, bA, bB, bC, bD, bH, bI, extractOp, bK, bL, bM, bN, Nat.reduceLT, Nat.reduceEqDiff, Nat.reduceAdd, bR, bS, ↓reduceIte, reduceCtorEq, resA, resOf, cB, maxA, minA, x_none, n1, p1, nc_ptr, fa138_1, hlb, k1]
theorem done_cl (h : Ws H lim p tl t q) : Cl cx 84 [.ptr p 0] H nx = some (.lit (.bool (doneQ q)), H, nx) := by
  refine wp84 _ _ _ _ (by simp) ?_
  unfold s84 doneQ
  have hlb := h.ld_bad
  unfold booA at hlb
  obtain ⟨l, bad⟩ := q
  obtain ⟨pn, b, o, all, h1, h2, h3, h4, h5⟩ := h
  have hl : loadOp cx.T H 100 (.ptr p 0) = some (.slice b o l.length (some l.length) 1) := ld_at (by kernel_rfl) h1 rfl
  simp only at hlb
  cases bad
  · have hz : (((l.length : Nat) : Int) = 0) = (l.length = 0) := by simp
    simp only [↓aD, ↓aE, ↓aF, ↓aG, ↓aH, ↓aI, ↓aJ, ↓aK, aL, ↓aM, ↓aN, aO, stepA, opA, convA, isCall, put?, ev, aA, aQ, builtinA, callA, argEnv, wantedS, aR, aS, aT, aU, aV, aW, aX, aY, undef, z_none, bA, bB, bC, bD, bH, bI, extractOp, bK, bL, bM, bN, Nat.reduceLT, Nat.reduceEqDiff, Nat.reduceAdd, bR, bS, ↓reduceIte, reduceCtorEq, resA, resOf, cB, maxA, minA, nc_ptr, fa138_0, fa138_1, hlb, hl, ln_sl, hz]
    simp
  · simp only [↓aD, ↓aE, ↓aF, ↓aG, ↓aH, ↓aI, ↓aJ, ↓aK, aL, ↓aM, ↓aN, aO, stepA, opA, convA, isCall, put?, ev, aA, aQ, builtinA, callA, argEnv, wantedS, aR, aS, aT, aU, aV, aW, aX, aY, undef, z_none, bA, bB, bC, bD, bH, bI, extractOp, bK, bL, bM, bN, Nat.reduceLT, Nat.reduceEqDiff, Nat.reduceAdd, bR, bS, ↓reduceIte, reduceCtorEq, resA, resOf, cB, maxA, minA, nc_ptr, fa138_0, fa138_1, hlb]
    simp
end
end Seat
end CI
namespace CI
open Go
namespace Seat
open Quo Rcd Spl
variable {H : Heap} {nx : Nat}
theorem bsi2 (a b : Int) : buildSliceOp cx.T H nx 117 2 [(0, .lit (.int .i64 a)), (1, .lit (.int .i64 b))] = some (.slice nx 0 2 (some 2) 1, H.put nx (some (.cells [.lit (.int .i64 a), .lit (.int .i64 b)] 3 false)), nx + 1) := by kernel_rfl
theorem bsi5 (a b c d e : Int) : buildSliceOp cx.T H nx 117 5 [(0, .lit (.int .i64 a)), (1, .lit (.int .i64 b)), (2, .lit (.int .i64 c)), (3, .lit (.int .i64 d)), (4, .lit (.int .i64 e))] =
    some (.slice nx 0 5 (some 5) 1, H.put nx (some (.cells [.lit (.int .i64 a), .lit (.int .i64 b), .lit (.int .i64 c), .lit (.int .i64 d), .lit (.int .i64 e)] 3 false)), nx + 1) := by kernel_rfl
theorem app_nums {n0 n : Nat} {v : AV} {ws : List W} {l : List Int} (hS : SL n0 H nx v ws) (hn0 : n0 ≤ nx) (hfr : ∀ b, nx ≤ b → H.get b = none) (hl : ∀ n ∈ l, -9223372036854775808 ≤ n ∧ n ≤ 9223372036854775807) (hn : l.length = n) (hn2 : n ≤ 1000) (hws : ws.length ≤ 1000000) :
    ∃ v1 H1 nx1 v2 H2 nx2, Cl cx 75 [.slice nx 0 n (some n) 1] (H.put nx (some (.cells (l.map intA) 3 false))) (nx + 1) = some (v1, H1, nx1) ∧ appendOp cx.T H1 nx1 100 v 100 v1 = some (v2, H2, nx2) ∧
      SL n0 H2 nx2 v2 (ws ++ l.map num) ∧ FrO n0 H nx H2 nx2 ∧ Fr H nx H1 nx1 := by
  have hF := Fr.put hfr (some (.cells (l.map intA) 3 false))
  obtain ⟨v1, H1, nx1, a1, a2, a3⟩ := numbers_cl (H := H.put nx (some (.cells (l.map intA) 3 false))) (nx := nx + 1) (k := some n) hl hn hn2 (Tr.get_put_same _ _ _) (Nat.lt_succ_self _) hF.fr
  have h1 := hF.trans a3
  obtain ⟨v2, H2, nx2, b1, b2, b3⟩ := sl_app (hS.mono h1) a2.src (by simp; omega) (by have := h1.le; omega) h1.fr
  exact ⟨v1, H1, nx1, v2, H2, nx2, a1, b1, b2, (h1.toO hn0).trans b3, h1⟩
theorem app_word {n0 : Nat} {v : AV} {ws : List W} (w : W) (hS : SL n0 H nx v ws) (hn0 : n0 ≤ nx) (hfr : ∀ b, nx ≤ b → H.get b = none) (hws : ws.length ≤ 1000000) :
    ∃ v2 H2 nx2, appendOp cx.T (H.put nx (some (.cells [strA w] 9 false))) (nx + 1) 100 v 100 (.slice nx 0 1 (some 1) 1) = some (v2, H2, nx2) ∧ SL n0 H2 nx2 v2 (ws ++ [w]) ∧ FrO n0 H nx H2 nx2 := by
  have hF := Fr.put hfr (some (.cells [strA w] 9 false))
  obtain ⟨v2, H2, nx2, b1, b2, b3⟩ := sl_app (more := [w]) (hS.mono hF) (src_put (ws := [w]) rfl) (by simp; omega) (by omega) hF.fr
  exact ⟨v2, H2, nx2, b1, b2, (hF.toO hn0).trans b3⟩
theorem app_four {n0 : Nat} {v : AV} {ws : List W} (a b c d : W) (hS : SL n0 H nx v ws) (hn0 : n0 ≤ nx) (hfr : ∀ b, nx ≤ b → H.get b = none) (hws : ws.length ≤ 1000000) :
    ∃ v2 H2 nx2, appendOp cx.T (H.put nx (some (.cells [strA a, strA b, strA c, strA d] 9 false))) (nx + 1) 100 v 100 (.slice nx 0 4 (some 4) 1) = some (v2, H2, nx2) ∧ SL n0 H2 nx2 v2 (ws ++ [a, b, c, d]) ∧ FrO n0 H nx H2 nx2 ∧ nx + 1 ≤ nx2 := by
  have hF := Fr.put hfr (some (.cells [strA a, strA b, strA c, strA d] 9 false))
  obtain ⟨v2, H2, nx2, b1, b2, b3⟩ := sl_app (more := [a, b, c, d]) (hS.mono hF) (src_put (ws := [a, b, c, d]) rfl) (by simp; omega) (by omega) hF.fr
  exact ⟨v2, H2, nx2, b1, b2, (hF.toO hn0).trans b3, b3.le⟩
theorem num_len (n : Int) (h : -9223372036854775808 ≤ n ∧ n ≤ 9223372036854775807) : (num n).length ≤ 21 := by
  unfold num Lib.itoa
  split
  · have := dec_len 20 n.natAbs (by omega) (by omega)
    simp only [List.length_cons]; omega
  · have := dec_len 20 n.toNat (by omega) (by omega)
    omega
theorem kindW_len (k : Int) : (kindW k).length ≤ 7 := by
  unfold kindW
  split
  · decide
  · split
    · decide
    · split
      · decide
      · split <;> decide
theorem flagW_len (b : Bool) : (flagW b).length ≤ 3 := by cases b <;> decide
theorem line_len (r : Rec) (ho : r.ok) : (joi (lineW r)).length ≤ 4 * (r.x.length + r.y.length + r.z.length) + 300 := by
  have hn : ∀ n ∈ r.nums, (num n).length ≤ 21 := fun n h => num_len n (ho.n n h)
  simp only [Rec.nums, List.mem_cons, List.not_mem_nil, or_false, forall_eq_or_imp, forall_eq] at hn
  obtain ⟨n1, n2, n3, n4, n5, n6, n7, n8, n9⟩ := hn
  have k := kindW_len r.kind
  have f := flagW_len r.stops
  have x := writeW_len r.x
  have y := writeW_len r.y
  have z := writeW_len r.z
  have v : wVerdict.length = 7 := rfl
  rw [joi_len]
  simp only [lineW, List.map_cons, List.map_nil, List.sum_cons, List.sum_nil, List.length_cons, List.length_nil]
  omega
structure Short (r : Rec) : Prop where
  x : r.x.length ≤ 1000000
  y : r.y.length ≤ 1000000
  z : r.z.length ≤ 1000000
theorem write_rec (r : Rec) (ho : r.ok) (hs : Short r) (hfr : ∀ b, nx ≤ b → H.get b = none) :
    ∃ v H' nx', Cl cx 35 [.agg (recC r)] H nx = some (v, H', nx') ∧ (v = .tuple [strA (if r.told then joi (lineW r) else []), .lit (.int .i64 (if r.told then 0 else 1))] ∧ Fr H nx H' nx') := by
  refine wpP35 _ _ _ _ (by simp) ?_
  unfold s35
  have hF0 := Fr.put hfr (some (.cells (recC r) 39 false))
  have hb0 : (H.put nx (some (.cells (recC r) 39 false))).get nx = some (.cells (recC r) 39 false) := Tr.get_put_same _ _ _
  have hla := ld_all (t := 39) (by kernel_rfl) hb0
  obtain ⟨H1, nx1, t1, t2⟩ := told_cl r hF0.fr
  have hnil : AV.lit (.string (ByteArray.mk #[])) = strA [] := rfl
  by_cases ht : r.told
  · have hd : decide r.told = true := by simpa using ht
    rw [hd] at t1
    have hF1 := hF0.trans t2
    have hnx1 : nx < nx1 := by have := t2.le; omega
    have hb1 : H1.get nx = _ := (t2.old nx (Nat.lt_succ_self _)).trans hb0
    have hn : ∀ n ∈ r.nums, -9223372036854775808 ≤ n ∧ n ≤ 9223372036854775807 := ho.n
    simp only [Rec.nums, List.mem_cons, List.not_mem_nil, or_false, forall_eq_or_imp, forall_eq] at hn
    obtain ⟨n1, n2, n3, n4, n5, n6, n7, n8, n9⟩ := hn
    have hF2 := Fr.put hF1.fr (some (.cells [strA wVerdict] 9 false))
    have hS2 : SL nx1 (H1.put nx1 (some (.cells [strA wVerdict] 9 false))) (nx1 + 1) (.slice nx1 0 1 (some 1) 1) [wVerdict] := SL.lit [wVerdict] (by simp) rfl
    obtain ⟨v3, H3, nx3, v4, H4, nx4, a1, a2, a3, a4, a5⟩ := app_nums (n := 2) (l := [r.err, r.at_]) hS2 (by omega) hF2.fr (by simp only [List.mem_cons, List.not_mem_nil, or_false, forall_eq_or_imp, forall_eq]; exact ⟨n1, n2⟩) rfl (by decide) (by simp)
    have hb2 : (H1.put nx1 (some (.cells [strA wVerdict] 9 false))).get nx = some (.cells (recC r) 39 false) := by rw [Tr.get_put_ne _ _ _ _ (by omega)]; exact hb1
    have hb4 : H4.get nx = _ := (a4.old nx hnx1).trans hb2
    have g4 : nx1 ≤ nx4 := by have := a4.le; omega
    obtain ⟨H5, nx5, k1, k2⟩ := rKind_cl (H := H4) (nx := nx4) r.kind a4.fr
    obtain ⟨v6, H6, nx6, b1, b2, b3⟩ := app_word (kindW r.kind) (a3.mono k2) (by have := k2.le; omega) k2.fr (by simp)
    have hb6 : H6.get nx = some (.cells (recC r) 39 false) := by rw [b3.old nx hnx1, k2.old nx (by omega)]; exact hb4
    have g6 : nx1 ≤ nx6 := by have := b3.le; have := k2.le; omega
    obtain ⟨v7, H7, nx7, v8, H8, nx8, c1, c2, c3, c4, c5⟩ := app_nums (n := 2) (l := [r.degree, r.most]) b2 g6 b3.fr (by simp only [List.mem_cons, List.not_mem_nil, or_false, forall_eq_or_imp, forall_eq]; exact ⟨n3, n4⟩) rfl (by decide) (by simp)
    have hb8 : H8.get nx = _ := (c4.old nx hnx1).trans hb6
    have g8 : nx1 ≤ nx8 := by have := c4.le; omega
    obtain ⟨w1, H9, nx9, d1, rfl, d2⟩ := write_cl (H := H8) (nx := nx8) (s := r.x) hs.x c4.fr
    obtain ⟨w2, H10, nx10, d3, rfl, d4⟩ := write_cl (H := H9) (nx := nx9) (s := r.y) hs.y d2.fr
    obtain ⟨w3, H11, nx11, d5, rfl, d6⟩ := write_cl (H := H10) (nx := nx10) (s := r.z) hs.z d4.fr
    have hF11 := (d2.trans d4).trans d6
    have hb9 : H9.get nx = _ := (d2.old nx (by omega)).trans hb8
    have hb10 : H10.get nx = _ := ((d2.trans d4).old nx (by omega)).trans hb8
    have hb11 : H11.get nx = _ := (hF11.old nx (by omega)).trans hb8
    have g11 : nx1 ≤ nx11 := by have := hF11.le; omega
    obtain ⟨v12, H12, nx12, e1, e2, e3, e4⟩ := app_four (writeW r.x) (writeW r.y) (writeW r.z) (flagW r.stops) (c3.mono hF11) g11 hF11.fr (by simp)
    have hb12 : H12.get nx = some (.cells (recC r) 39 false) := by rw [e3.old nx hnx1]; exact hb11
    have g12 : nx1 ≤ nx12 := by have := e3.le; omega
    obtain ⟨v13, H13, nx13, v14, H14, nx14, f1, f2, f3, f4, f5⟩ := app_nums (n := 5) (l := [r.places, r.live, r.pairs, r.triples, r.vectors]) e2 g12 e3.fr (by simp only [List.mem_cons, List.not_mem_nil, or_false, forall_eq_or_imp, forall_eq]; exact ⟨n5, n6, n7, n8, n9⟩) rfl (by decide) (by simp)
    have hline : [wVerdict] ++ [r.err, r.at_].map num ++ [kindW r.kind] ++ [r.degree, r.most].map num ++ [writeW r.x, writeW r.y, writeW r.z, flagW r.stops] ++ [r.places, r.live, r.pairs, r.triples, r.vectors].map num = lineW r := rfl
    rw [hline] at f3
    obtain ⟨c, k, q1, q2, rfl, q3, q4, q5⟩ : ∃ c k, nx1 ≤ c ∧ c < nx14 ∧ v14 = .slice c 0 (lineW r).length k 1 ∧ (k = none ∨ k = some (lineW r).length) ∧ lineW r ≠ [] ∧ H14.get c = some (.cells ((lineW r).map strA) 9 false) := by
      rcases f3 with ⟨_, h⟩ | h
      · simp [lineW] at h
      · exact h
    have hll := line_len r ho
    have := hs.x; have := hs.y; have := hs.z
    obtain ⟨H15, nx15, p1, p2⟩ := words_cl q4 q5 q2 f4.fr (by simp [lineW]) q3 (by omega)
    simp only [List.map_cons, List.map_nil, intA] at a1 c1 f1
    obtain ⟨l0, l1, l2, l3, l4, l5, l6, l7, l8, l9, l10, l11, l12, l13⟩ := rec_lds hb2
    obtain ⟨_, _, m2, _, _, _, _, _, _, _, _, _, _, _⟩ := rec_lds hb4
    obtain ⟨_, _, _, o3, o4, _, _, _, _, _, _, _, _, _⟩ := rec_lds hb6
    obtain ⟨_, _, _, _, _, x5, x6, x7, x8, _, _, _, _, _⟩ := rec_lds hb8
    obtain ⟨_, _, _, _, _, y5, y6, y7, y8, _, _, _, _, _⟩ := rec_lds hb9
    obtain ⟨_, _, _, _, _, z5, z6, z7, z8, _, _, _, _, _⟩ := rec_lds hb10
    obtain ⟨_, _, _, _, _, u5, u6, u7, u8, _, _, _, _, _⟩ := rec_lds hb11
    obtain ⟨_, _, _, _, _, t5, t6, t7, t8, t9, t10, t11, t12, t13⟩ := rec_lds hb12
    simp only [↓aD, ↓aE, ↓aF, ↓aG, ↓aH, ↓aI, ↓aJ, ↓aK, aL, ↓aM, ↓aN, aO, stepA, opA, convA, isCall, put?, ev, aA, aQ, builtinA, callA, argEnv, wantedS, aR, aS, aT, aU, aV, aW, aX, aY, undef, z_none, bA, bB, bC, bD, bH, bI, extractOp, bK, bL, bM, bN, Nat.reduceLT, Nat.reduceEqDiff, Nat.reduceAdd, bR, bS, ↓reduceIte, reduceCtorEq, resA, resOf, cB, maxA, minA, bx39, fa39_0, fa39_1, fa39_2, fa39_3, fa39_4, fa39_5, fa39_6, fa39_7, fa39_8, fa39_9, fa39_10, fa39_11, fa39_12, fa39_13, hla, x_none, t1, lit_verdict, partsA, bsl1, l0, l1, bsi2, a1, a2, m2, k1, b1, o3, o4, c1, c2]
    refine wpS_draw6 nx8 (Nat.le_refl _) (show s35_d0.toList.map (stripO s35_d0) = s35_d0s by kernel_rfl) ?_
    unfold s35_d0s
    have hb' : decide (nx < nx8) = true := by simp; omega
    simp only [↓aD, ↓aE, ↓aF, ↓aG, ↓aH, ↓aI, ↓aJ, ↓aK, aL, ↓aM, ↓aN, aO, stepA, opA, convA, isCall, put?, ev, aA, aQ, builtinA, callA, argEnv, wantedS, aR, aS, aT, aU, aV, aW, aX, aY, undef, z_none, bA, bB, bC, bD, bH, bI, extractOp, bK, bL, bM, bN, Nat.reduceLT, Nat.reduceEqDiff, Nat.reduceAdd, bR, bS, ↓reduceIte, reduceCtorEq, resA, resOf, cB, maxA, minA, ↓dB, ↓dC, txS, dD, dE, dF, dG, dH, dI, dJ, dK, dL, dM, dN, aB, isEff, dV, AV.belowB, ↓dY, ↓dZ, eA, eB, eC, eD, eF, eG, eH, eI, eJ, eK, eL, eM, eN, eO, eP, eQ, eS, eT, eU, goodAt_eq, ldLow, aC, fa39_0, fa39_1, fa39_2, fa39_3, fa39_4, fa39_5, fa39_6, fa39_7, fa39_8, fa39_9, fa39_10, fa39_11, fa39_12, fa39_13, x_none, x5, x6, x7, x8, y5, y6, y7, y8, z5, z6, z7, z8, u5, u6, u7, u8, t5, t6, t7, t8, d1, d3, d5, rflag_cl, partsA, bsl4, e1, eqB_strA, below_strA, show nx < nx8 by omega, hb', d2.le, d4.le, d6.le, e4]
    simp only [↓aD, ↓aE, ↓aF, ↓aG, ↓aH, ↓aI, ↓aJ, ↓aK, aL, ↓aM, ↓aN, aO, stepA, opA, convA, isCall, put?, ev, aA, aQ, builtinA, callA, argEnv, wantedS, aR, aS, aT, aU, aV, aW, aX, aY, undef, z_none, bA, bB, bC, bD, bH, bI, extractOp, bK, bL, bM, bN, Nat.reduceLT, Nat.reduceEqDiff, Nat.reduceAdd, bR, bS, ↓reduceIte, reduceCtorEq, resA, resOf, cB, maxA, minA, x_none, t9, t10, t11, t12, t13, partsA, bsi5, f1, f2, p1, ht]
    exact hF1.trans (((((((((hF2.toO (Nat.le_refl _)).trans a4).trans (k2.toO g4)).trans b3).trans c4).trans (hF11.toO g8)).trans e3).trans f4).toFr.trans p2)
  · have hd : decide r.told = false := by simpa using ht
    rw [hd] at t1
    simp only [↓aD, ↓aE, ↓aF, ↓aG, ↓aH, ↓aI, ↓aJ, ↓aK, aL, ↓aM, ↓aN, aO, stepA, opA, convA, isCall, put?, ev, aA, aQ, builtinA, callA, argEnv, wantedS, aR, aS, aT, aU, aV, aW, aX, aY, undef, z_none, bA, bB, bC, bD, bH, bI, extractOp, bK, bL, bM, bN, Nat.reduceLT, Nat.reduceEqDiff, Nat.reduceAdd, bR, bS, ↓reduceIte, reduceCtorEq, resA, resOf, cB, maxA, minA, bx39, hla, x_none, t1, hnil, ht]
    exact hF0.trans t2
end Seat
end CI
namespace CI
open Go
namespace Seat
open Rcd
def entC (e : Ent) : List AV := strA e.pat :: .lit (.int .i64 e.mode) :: recC e.rcd
end Seat
end CI
namespace CI
open Go
namespace Seat
open Quo Rcd Spl
variable {H : Heap} {nx : Nat}
theorem fa60_0 (p o : Nat) : fieldAddrOp cx.T 60 (.ptr p o) 0 = some (.ptr p (o + 0)) := by kernel_rfl
theorem fa60_1 (p o : Nat) : fieldAddrOp cx.T 60 (.ptr p o) 1 = some (.ptr p (o + 1)) := by kernel_rfl
theorem fa60_2 (p o : Nat) : fieldAddrOp cx.T 60 (.ptr p o) 2 = some (.ptr p (o + 2)) := by kernel_rfl
theorem fa60_3 (p o : Nat) : fieldAddrOp cx.T 60 (.ptr p o) 3 = some (.ptr p (o + 3)) := by kernel_rfl
theorem fa60_4 (p o : Nat) : fieldAddrOp cx.T 60 (.ptr p o) 4 = some (.ptr p (o + 4)) := by kernel_rfl
theorem fa60_5 (p o : Nat) : fieldAddrOp cx.T 60 (.ptr p o) 5 = some (.ptr p (o + 5)) := by kernel_rfl
theorem fa60_6 (p o : Nat) : fieldAddrOp cx.T 60 (.ptr p o) 6 = some (.ptr p (o + 6)) := by kernel_rfl
theorem fa60_7 (p o : Nat) : fieldAddrOp cx.T 60 (.ptr p o) 7 = some (.ptr p (o + 7)) := by kernel_rfl
theorem fa60_8 (p o : Nat) : fieldAddrOp cx.T 60 (.ptr p o) 8 = some (.ptr p (o + 8)) := by kernel_rfl
theorem fa60_9 (p o : Nat) : fieldAddrOp cx.T 60 (.ptr p o) 9 = some (.ptr p (o + 9)) := by kernel_rfl
theorem fa60_10 (p o : Nat) : fieldAddrOp cx.T 60 (.ptr p o) 10 = some (.ptr p (o + 10)) := by kernel_rfl
theorem fa60_11 (p o : Nat) : fieldAddrOp cx.T 60 (.ptr p o) 11 = some (.ptr p (o + 11)) := by kernel_rfl
theorem fa60_12 (p o : Nat) : fieldAddrOp cx.T 60 (.ptr p o) 12 = some (.ptr p (o + 12)) := by kernel_rfl
theorem fa60_13 (p o : Nat) : fieldAddrOp cx.T 60 (.ptr p o) 13 = some (.ptr p (o + 13)) := by kernel_rfl
theorem ref_lds {p : Nat} {t : TypeId} {ro : Bool} {r : Rec} (h : H.get p = some (.cells (recC r) t ro)) :
    loadOp cx.T H 3 (.ptr p 0) = some (.lit (.int .i64 r.err)) ∧
    loadOp cx.T H 3 (.ptr p 1) = some (.lit (.int .i64 r.at_)) ∧
    loadOp cx.T H 3 (.ptr p 2) = some (.lit (.int .i64 r.kind)) ∧
    loadOp cx.T H 3 (.ptr p 3) = some (.lit (.int .i64 r.degree)) ∧
    loadOp cx.T H 3 (.ptr p 4) = some (.lit (.int .i64 r.most)) ∧
    loadOp cx.T H 9 (.ptr p 5) = some (strA r.x) ∧
    loadOp cx.T H 9 (.ptr p 6) = some (strA r.y) ∧
    loadOp cx.T H 9 (.ptr p 7) = some (strA r.z) ∧
    loadOp cx.T H 4 (.ptr p 8) = some (.lit (.bool r.stops)) ∧
    loadOp cx.T H 3 (.ptr p 9) = some (.lit (.int .i64 r.places)) ∧
    loadOp cx.T H 3 (.ptr p 10) = some (.lit (.int .i64 r.live)) ∧
    loadOp cx.T H 3 (.ptr p 11) = some (.lit (.int .i64 r.pairs)) ∧
    loadOp cx.T H 3 (.ptr p 12) = some (.lit (.int .i64 r.triples)) ∧
    loadOp cx.T H 3 (.ptr p 13) = some (.lit (.int .i64 r.vectors)) :=
  ⟨ld_at (by kernel_rfl) h rfl, ld_at (by kernel_rfl) h rfl, ld_at (by kernel_rfl) h rfl, ld_at (by kernel_rfl) h rfl, ld_at (by kernel_rfl) h rfl, ld_at (by kernel_rfl) h rfl, ld_at (by kernel_rfl) h rfl, ld_at (by kernel_rfl) h rfl, ld_at (by kernel_rfl) h rfl, ld_at (by kernel_rfl) h rfl, ld_at (by kernel_rfl) h rfl, ld_at (by kernel_rfl) h rfl, ld_at (by kernel_rfl) h rfl, ld_at (by kernel_rfl) h rfl⟩
theorem bx60 (r : Rec) : boxOp H nx 60 (.agg (recC r)) = some (.ptr nx 0, H.put nx (some (.cells (recC r) 60 false)), nx + 1) := by kernel_rfl
theorem refKind_cl (k : Int) (hfr : ∀ b, nx ≤ b → H.get b = none) : ∃ H' nx', Cl cx 41 [.lit (.int .i64 k)] H nx = some (strA (kindW k), H', nx') ∧ Fr H nx H' nx' := by
  refine ⟨_, _, ?_, Fr.put hfr (some (.cells [strA wFlat, strA wSteep, strA wWild, strA wUnknown] 9 false))⟩
  have hb : (H.put nx (some (.cells [strA wFlat, strA wSteep, strA wWild, strA wUnknown] 9 false))).get nx = some (.cells [strA wFlat, strA wSteep, strA wWild, strA wUnknown] 9 false) := Tr.get_put_same _ _ _
  refine wp41 _ _ _ _ (by simp) ?_
  unfold s41
  have hnil : AV.lit (.string (ByteArray.mk #[])) = strA [] := rfl
  by_cases h0 : k < 0
  · rw [(kindW_nil k).2 (by omega)]
    simp only [↓aD, ↓aE, ↓aF, ↓aG, ↓aH, ↓aI, ↓aJ, ↓aK, aL, ↓aM, ↓aN, aO, stepA, opA, convA, isCall, put?, ev, aA, aQ, builtinA, callA, argEnv, wantedS, aR, aS, aT, aU, aV, aW, aX, aY, undef, z_none, bA, bB, bC, bD, bH, bI, extractOp, bK, bL, bM, bN, Nat.reduceLT, Nat.reduceEqDiff, Nat.reduceAdd, bR, bS, ↓reduceIte, reduceCtorEq, resA, resOf, cB, maxA, minA, partsA, lit_flat, lit_steep, lit_wild, lit_unknown, bsl4, h0, hnil]
  · by_cases h3 : k > 3
    · rw [(kindW_nil k).2 (by omega)]
      simp only [↓aD, ↓aE, ↓aF, ↓aG, ↓aH, ↓aI, ↓aJ, ↓aK, aL, ↓aM, ↓aN, aO, stepA, opA, convA, isCall, put?, ev, aA, aQ, builtinA, callA, argEnv, wantedS, aR, aS, aT, aU, aV, aW, aX, aY, undef, z_none, bA, bB, bC, bD, bH, bI, extractOp, bK, bL, bM, bN, Nat.reduceLT, Nat.reduceEqDiff, Nat.reduceAdd, bR, bS, ↓reduceIte, reduceCtorEq, resA, resOf, cB, maxA, minA, partsA, lit_flat, lit_steep, lit_wild, lit_unknown, bsl4, h0, h3, hnil]
    · have h4 : k = 0 ∨ k = 1 ∨ k = 2 ∨ k = 3 := by omega
      have g : ∀ i : Nat, i < 4 → indexAddrOp cx.T 100 (.slice nx 0 4 (some 4) 1) (.lit (.int .i64 (i : Int))) = some (.ptr nx i) := fun i hi => ix100 hi
      have g0 := g 0 (by omega)
      have g1 := g 1 (by omega)
      have g2 := g 2 (by omega)
      have g3 := g 3 (by omega)
      have l0 := ld_at (t := 9) (o := 0) (v := strA wFlat) (by kernel_rfl) hb rfl
      have l1 := ld_at (t := 9) (o := 1) (v := strA wSteep) (by kernel_rfl) hb rfl
      have l2 := ld_at (t := 9) (o := 2) (v := strA wWild) (by kernel_rfl) hb rfl
      have l3 := ld_at (t := 9) (o := 3) (v := strA wUnknown) (by kernel_rfl) hb rfl
      have d0 : indexAddrOp cx.T 100 (.slice nx 0 4 (some 4) 1) (.lit (.int .i64 0)) = some (.ptr nx 0) := g0
      have d1 : indexAddrOp cx.T 100 (.slice nx 0 4 (some 4) 1) (.lit (.int .i64 1)) = some (.ptr nx 1) := g1
      have d2 : indexAddrOp cx.T 100 (.slice nx 0 4 (some 4) 1) (.lit (.int .i64 2)) = some (.ptr nx 2) := g2
      have d3 : indexAddrOp cx.T 100 (.slice nx 0 4 (some 4) 1) (.lit (.int .i64 3)) = some (.ptr nx 3) := g3
      rcases h4 with rfl | rfl | rfl | rfl
      · simp only [↓aD, ↓aE, ↓aF, ↓aG, ↓aH, ↓aI, ↓aJ, ↓aK, aL, ↓aM, ↓aN, aO, stepA, opA, convA, isCall, put?, ev, aA, aQ, builtinA, callA, argEnv, wantedS, aR, aS, aT, aU, aV, aW, aX, aY, undef, z_none, bA, bB, bC, bD, bH, bI, extractOp, bK, bL, bM, bN, Nat.reduceLT, Nat.reduceEqDiff, Nat.reduceAdd, bR, bS, ↓reduceIte, reduceCtorEq, resA, resOf, cB, maxA, minA, partsA, lit_flat, lit_steep, lit_wild, lit_unknown, bsl4, h0, h3, d0, l0]
        rfl
      · simp only [↓aD, ↓aE, ↓aF, ↓aG, ↓aH, ↓aI, ↓aJ, ↓aK, aL, ↓aM, ↓aN, aO, stepA, opA, convA, isCall, put?, ev, aA, aQ, builtinA, callA, argEnv, wantedS, aR, aS, aT, aU, aV, aW, aX, aY, undef, z_none, bA, bB, bC, bD, bH, bI, extractOp, bK, bL, bM, bN, Nat.reduceLT, Nat.reduceEqDiff, Nat.reduceAdd, bR, bS, ↓reduceIte, reduceCtorEq, resA, resOf, cB, maxA, minA, partsA, lit_flat, lit_steep, lit_wild, lit_unknown, bsl4, h0, h3, d1, l1]
        rfl
      · simp only [↓aD, ↓aE, ↓aF, ↓aG, ↓aH, ↓aI, ↓aJ, ↓aK, aL, ↓aM, ↓aN, aO, stepA, opA, convA, isCall, put?, ev, aA, aQ, builtinA, callA, argEnv, wantedS, aR, aS, aT, aU, aV, aW, aX, aY, undef, z_none, bA, bB, bC, bD, bH, bI, extractOp, bK, bL, bM, bN, Nat.reduceLT, Nat.reduceEqDiff, Nat.reduceAdd, bR, bS, ↓reduceIte, reduceCtorEq, resA, resOf, cB, maxA, minA, partsA, lit_flat, lit_steep, lit_wild, lit_unknown, bsl4, h0, h3, d2, l2]
        rfl
      · simp only [↓aD, ↓aE, ↓aF, ↓aG, ↓aH, ↓aI, ↓aJ, ↓aK, aL, ↓aM, ↓aN, aO, stepA, opA, convA, isCall, put?, ev, aA, aQ, builtinA, callA, argEnv, wantedS, aR, aS, aT, aU, aV, aW, aX, aY, undef, z_none, bA, bB, bC, bD, bH, bI, extractOp, bK, bL, bM, bN, Nat.reduceLT, Nat.reduceEqDiff, Nat.reduceAdd, bR, bS, ↓reduceIte, reduceCtorEq, resA, resOf, cB, maxA, minA, partsA, lit_flat, lit_steep, lit_wild, lit_unknown, bsl4, h0, h3, d3, l3]
        rfl
end Seat
end CI
set_option maxHeartbeats 1000000
namespace CI
open Go
namespace Seat
open Quo Rcd Spl
variable {H : Heap} {nx : Nat}
def wVerdict8 : W := [118, 101, 114, 100, 105, 99, 116, 32]
theorem lit_verdict8 : AV.lit (.string (ByteArray.mk #[118, 101, 114, 100, 105, 99, 116, 32])) = strA wVerdict8 := rfl
theorem refnum_cl (n : Int) (hn : -9223372036854775808 ≤ n ∧ n ≤ 9223372036854775807) (hfr : ∀ b, nx ≤ b → H.get b = none) : ∃ H' nx', Cl cx 29 [.lit (.int .i64 n)] H nx = some (strA (num n), H', nx') ∧ Fr H nx H' nx' := by
  obtain ⟨v, H', nx', h1, rfl, h2⟩ := ref_cl n hn hfr
  exact ⟨H', nx', h1, h2⟩
theorem refwr_cl (s : W) (hs : s.length ≤ 1000000) (hfr : ∀ b, nx ≤ b → H.get b = none) : ∃ H' nx', Cl cx 45 [strA s] H nx = some (strA (writeW s), H', nx') ∧ Fr H nx H' nx' := by
  obtain ⟨v, H', nx', h1, rfl, h2⟩ := rwrite_cl (s := s) hs hfr
  exact ⟨H', nx', h1, h2⟩
theorem refwrite_cl (r : Rec) (ho : r.ok) (hs : Short r) (hfr : ∀ b, nx ≤ b → H.get b = none) : ∃ v H' nx', Cl cx 39 [.agg (recC r)] H nx = some (v, H', nx') ∧ (v = strA (joi (lineW r)) ∧ Fr H nx H' nx') := by
  refine wpP39 _ _ _ _ (by simp) ?_
  unfold s39
  have F0 := Fr.put hfr (some (.cells (recC r) 60 false))
  obtain ⟨K0, hK0⟩ : ∃ K, K = H.put nx (some (.cells (recC r) 60 false)) := ⟨_, rfl⟩
  rw [← hK0] at F0
  have hb0 : K0.get nx = some (.cells (recC r) 60 false) := by rw [hK0]; exact Tr.get_put_same _ _ _
  have hbx : boxOp H nx 60 (.agg (recC r)) = some (.ptr nx 0, K0, nx + 1) := by rw [hK0]; exact bx60 r
  have hn : ∀ n ∈ r.nums, -9223372036854775808 ≤ n ∧ n ≤ 9223372036854775807 := ho.n
  simp only [Rec.nums, List.mem_cons, List.not_mem_nil, or_false, forall_eq_or_imp, forall_eq] at hn
  obtain ⟨b1, b2, b4, b5, b9, b10, b11, b12, b13⟩ := hn
  have q1 := num_len r.err b1
  have q2 := num_len r.at_ b2
  have q3 := kindW_len r.kind
  have q4 := num_len r.degree b4
  have q5 := num_len r.most b5
  have q6 := writeW_len r.x
  have q7 := writeW_len r.y
  have q8 := writeW_len r.z
  have q9 := num_len r.places b9
  have q10 := num_len r.live b10
  have q11 := num_len r.pairs b11
  have q12 := num_len r.triples b12
  have q13 := num_len r.vectors b13
  have qf := flagW_len r.stops
  have qv : wVerdict8.length = 8 := rfl
  have q0 : ([32] : W).length = 1 := rfl
  have sx := hs.x
  have sy := hs.y
  have sz := hs.z
  have m0 : nx + 1 = nx + 1 := rfl
  obtain ⟨K1, m1, c1, f1⟩ := refnum_cl (H := K0) (nx := (nx + 1)) r.err b1 F0.fr
  have F1 := F0.trans f1
  have hb1 : K1.get nx = _ := (f1.old nx (by have := F0.le; omega)).trans hb0
  have le1 := f1.le
  obtain ⟨K2, m2, c2, f2⟩ := refnum_cl (H := K1) (nx := m1) r.at_ b2 F1.fr
  have F2 := F1.trans f2
  have hb2 : K2.get nx = _ := (f2.old nx (by have := F1.le; omega)).trans hb1
  have le2 := f2.le
  obtain ⟨K3, m3, c3, f3⟩ := refKind_cl (H := K2) (nx := m2) r.kind F2.fr
  have F3 := F2.trans f3
  have hb3 : K3.get nx = _ := (f3.old nx (by have := F2.le; omega)).trans hb2
  have le3 := f3.le
  obtain ⟨K4, m4, c4, f4⟩ := refnum_cl (H := K3) (nx := m3) r.degree b4 F3.fr
  have F4 := F3.trans f4
  have hb4 : K4.get nx = _ := (f4.old nx (by have := F3.le; omega)).trans hb3
  have le4 := f4.le
  obtain ⟨K5, m5, c5, f5⟩ := refnum_cl (H := K4) (nx := m4) r.most b5 F4.fr
  have F5 := F4.trans f5
  have hb5 : K5.get nx = _ := (f5.old nx (by have := F4.le; omega)).trans hb4
  have le5 := f5.le
  obtain ⟨K6, m6, c6, f6⟩ := refwr_cl (H := K5) (nx := m5) r.x hs.x F5.fr
  have F6 := F5.trans f6
  have hb6 : K6.get nx = _ := (f6.old nx (by have := F5.le; omega)).trans hb5
  have le6 := f6.le
  obtain ⟨K7, m7, c7, f7⟩ := refwr_cl (H := K6) (nx := m6) r.y hs.y F6.fr
  have F7 := F6.trans f7
  have hb7 : K7.get nx = _ := (f7.old nx (by have := F6.le; omega)).trans hb6
  have le7 := f7.le
  obtain ⟨K8, m8, c8, f8⟩ := refwr_cl (H := K7) (nx := m7) r.z hs.z F7.fr
  have F8 := F7.trans f8
  have hb8 : K8.get nx = _ := (f8.old nx (by have := F7.le; omega)).trans hb7
  have le8 := f8.le
  obtain ⟨K9, m9, c9, f9⟩ := refnum_cl (H := K8) (nx := m8) r.places b9 F8.fr
  have F9 := F8.trans f9
  have hb9 : K9.get nx = _ := (f9.old nx (by have := F8.le; omega)).trans hb8
  have le9 := f9.le
  obtain ⟨K10, m10, c10, f10⟩ := refnum_cl (H := K9) (nx := m9) r.live b10 F9.fr
  have F10 := F9.trans f10
  have hb10 : K10.get nx = _ := (f10.old nx (by have := F9.le; omega)).trans hb9
  have le10 := f10.le
  obtain ⟨K11, m11, c11, f11⟩ := refnum_cl (H := K10) (nx := m10) r.pairs b11 F10.fr
  have F11 := F10.trans f11
  have hb11 : K11.get nx = _ := (f11.old nx (by have := F10.le; omega)).trans hb10
  have le11 := f11.le
  obtain ⟨K12, m12, c12, f12⟩ := refnum_cl (H := K11) (nx := m11) r.triples b12 F11.fr
  have F12 := F11.trans f12
  have hb12 : K12.get nx = _ := (f12.old nx (by have := F11.le; omega)).trans hb11
  have le12 := f12.le
  obtain ⟨K13, m13, c13, f13⟩ := refnum_cl (H := K12) (nx := m12) r.vectors b13 F12.fr
  have F13 := F12.trans f13
  have hb13 : K13.get nx = _ := (f13.old nx (by have := F12.le; omega)).trans hb12
  have le13 := f13.le
  obtain ⟨P0, hP0⟩ : ∃ P, P = wVerdict8 ++ num r.err := ⟨_, rfl⟩
  have L0 : P0.length ≤ 29 := by rw [hP0, List.length_append]; omega
  have A0 : ∀ x y, binOpA cx.P cx.T .add 9 x y (strA (wVerdict8)) (strA (num r.err)) = some (strA P0) := fun x y => by rw [str_add x y _ _ (by omega), ← hP0]
  obtain ⟨P1, hP1⟩ : ∃ P, P = P0 ++ [32] := ⟨_, rfl⟩
  have L1 : P1.length ≤ 30 := by rw [hP1, List.length_append]; omega
  have A1 : ∀ x y, binOpA cx.P cx.T .add 9 x y (strA (P0)) (strA ([32])) = some (strA P1) := fun x y => by rw [str_add x y _ _ (by omega), ← hP1]
  obtain ⟨P2, hP2⟩ : ∃ P, P = P1 ++ num r.at_ := ⟨_, rfl⟩
  have L2 : P2.length ≤ 51 := by rw [hP2, List.length_append]; omega
  have A2 : ∀ x y, binOpA cx.P cx.T .add 9 x y (strA (P1)) (strA (num r.at_)) = some (strA P2) := fun x y => by rw [str_add x y _ _ (by omega), ← hP2]
  obtain ⟨P3, hP3⟩ : ∃ P, P = P2 ++ [32] := ⟨_, rfl⟩
  have L3 : P3.length ≤ 52 := by rw [hP3, List.length_append]; omega
  have A3 : ∀ x y, binOpA cx.P cx.T .add 9 x y (strA (P2)) (strA ([32])) = some (strA P3) := fun x y => by rw [str_add x y _ _ (by omega), ← hP3]
  obtain ⟨P4, hP4⟩ : ∃ P, P = P3 ++ kindW r.kind := ⟨_, rfl⟩
  have L4 : P4.length ≤ 59 := by rw [hP4, List.length_append]; omega
  have A4 : ∀ x y, binOpA cx.P cx.T .add 9 x y (strA (P3)) (strA (kindW r.kind)) = some (strA P4) := fun x y => by rw [str_add x y _ _ (by omega), ← hP4]
  obtain ⟨P5, hP5⟩ : ∃ P, P = P4 ++ [32] := ⟨_, rfl⟩
  have L5 : P5.length ≤ 60 := by rw [hP5, List.length_append]; omega
  have A5 : ∀ x y, binOpA cx.P cx.T .add 9 x y (strA (P4)) (strA ([32])) = some (strA P5) := fun x y => by rw [str_add x y _ _ (by omega), ← hP5]
  obtain ⟨P6, hP6⟩ : ∃ P, P = P5 ++ num r.degree := ⟨_, rfl⟩
  have L6 : P6.length ≤ 81 := by rw [hP6, List.length_append]; omega
  have A6 : ∀ x y, binOpA cx.P cx.T .add 9 x y (strA (P5)) (strA (num r.degree)) = some (strA P6) := fun x y => by rw [str_add x y _ _ (by omega), ← hP6]
  obtain ⟨P7, hP7⟩ : ∃ P, P = P6 ++ [32] := ⟨_, rfl⟩
  have L7 : P7.length ≤ 82 := by rw [hP7, List.length_append]; omega
  have A7 : ∀ x y, binOpA cx.P cx.T .add 9 x y (strA (P6)) (strA ([32])) = some (strA P7) := fun x y => by rw [str_add x y _ _ (by omega), ← hP7]
  obtain ⟨P8, hP8⟩ : ∃ P, P = P7 ++ num r.most := ⟨_, rfl⟩
  have L8 : P8.length ≤ 103 := by rw [hP8, List.length_append]; omega
  have A8 : ∀ x y, binOpA cx.P cx.T .add 9 x y (strA (P7)) (strA (num r.most)) = some (strA P8) := fun x y => by rw [str_add x y _ _ (by omega), ← hP8]
  obtain ⟨P9, hP9⟩ : ∃ P, P = P8 ++ [32] := ⟨_, rfl⟩
  have L9 : P9.length ≤ 104 := by rw [hP9, List.length_append]; omega
  have A9 : ∀ x y, binOpA cx.P cx.T .add 9 x y (strA (P8)) (strA ([32])) = some (strA P9) := fun x y => by rw [str_add x y _ _ (by omega), ← hP9]
  obtain ⟨P10, hP10⟩ : ∃ P, P = P9 ++ writeW r.x := ⟨_, rfl⟩
  have L10 : P10.length ≤ 4000106 := by rw [hP10, List.length_append]; omega
  have A10 : ∀ x y, binOpA cx.P cx.T .add 9 x y (strA (P9)) (strA (writeW r.x)) = some (strA P10) := fun x y => by rw [str_add x y _ _ (by omega), ← hP10]
  obtain ⟨P11, hP11⟩ : ∃ P, P = P10 ++ [32] := ⟨_, rfl⟩
  have L11 : P11.length ≤ 4000107 := by rw [hP11, List.length_append]; omega
  have A11 : ∀ x y, binOpA cx.P cx.T .add 9 x y (strA (P10)) (strA ([32])) = some (strA P11) := fun x y => by rw [str_add x y _ _ (by omega), ← hP11]
  obtain ⟨P12, hP12⟩ : ∃ P, P = P11 ++ writeW r.y := ⟨_, rfl⟩
  have L12 : P12.length ≤ 8000109 := by rw [hP12, List.length_append]; omega
  have A12 : ∀ x y, binOpA cx.P cx.T .add 9 x y (strA (P11)) (strA (writeW r.y)) = some (strA P12) := fun x y => by rw [str_add x y _ _ (by omega), ← hP12]
  obtain ⟨P13, hP13⟩ : ∃ P, P = P12 ++ [32] := ⟨_, rfl⟩
  have L13 : P13.length ≤ 8000110 := by rw [hP13, List.length_append]; omega
  have A13 : ∀ x y, binOpA cx.P cx.T .add 9 x y (strA (P12)) (strA ([32])) = some (strA P13) := fun x y => by rw [str_add x y _ _ (by omega), ← hP13]
  obtain ⟨P14, hP14⟩ : ∃ P, P = P13 ++ writeW r.z := ⟨_, rfl⟩
  have L14 : P14.length ≤ 12000112 := by rw [hP14, List.length_append]; omega
  have A14 : ∀ x y, binOpA cx.P cx.T .add 9 x y (strA (P13)) (strA (writeW r.z)) = some (strA P14) := fun x y => by rw [str_add x y _ _ (by omega), ← hP14]
  obtain ⟨P15, hP15⟩ : ∃ P, P = P14 ++ [32] := ⟨_, rfl⟩
  have L15 : P15.length ≤ 12000113 := by rw [hP15, List.length_append]; omega
  have A15 : ∀ x y, binOpA cx.P cx.T .add 9 x y (strA (P14)) (strA ([32])) = some (strA P15) := fun x y => by rw [str_add x y _ _ (by omega), ← hP15]
  obtain ⟨P16, hP16⟩ : ∃ P, P = P15 ++ flagW r.stops := ⟨_, rfl⟩
  have L16 : P16.length ≤ 12000116 := by rw [hP16, List.length_append]; omega
  have A16 : ∀ x y, binOpA cx.P cx.T .add 9 x y (strA (P15)) (strA (flagW r.stops)) = some (strA P16) := fun x y => by rw [str_add x y _ _ (by omega), ← hP16]
  obtain ⟨P17, hP17⟩ : ∃ P, P = P16 ++ [32] := ⟨_, rfl⟩
  have L17 : P17.length ≤ 12000117 := by rw [hP17, List.length_append]; omega
  have A17 : ∀ x y, binOpA cx.P cx.T .add 9 x y (strA (P16)) (strA ([32])) = some (strA P17) := fun x y => by rw [str_add x y _ _ (by omega), ← hP17]
  obtain ⟨P18, hP18⟩ : ∃ P, P = P17 ++ num r.places := ⟨_, rfl⟩
  have L18 : P18.length ≤ 12000138 := by rw [hP18, List.length_append]; omega
  have A18 : ∀ x y, binOpA cx.P cx.T .add 9 x y (strA (P17)) (strA (num r.places)) = some (strA P18) := fun x y => by rw [str_add x y _ _ (by omega), ← hP18]
  obtain ⟨P19, hP19⟩ : ∃ P, P = P18 ++ [32] := ⟨_, rfl⟩
  have L19 : P19.length ≤ 12000139 := by rw [hP19, List.length_append]; omega
  have A19 : ∀ x y, binOpA cx.P cx.T .add 9 x y (strA (P18)) (strA ([32])) = some (strA P19) := fun x y => by rw [str_add x y _ _ (by omega), ← hP19]
  obtain ⟨P20, hP20⟩ : ∃ P, P = P19 ++ num r.live := ⟨_, rfl⟩
  have L20 : P20.length ≤ 12000160 := by rw [hP20, List.length_append]; omega
  have A20 : ∀ x y, binOpA cx.P cx.T .add 9 x y (strA (P19)) (strA (num r.live)) = some (strA P20) := fun x y => by rw [str_add x y _ _ (by omega), ← hP20]
  obtain ⟨P21, hP21⟩ : ∃ P, P = P20 ++ [32] := ⟨_, rfl⟩
  have L21 : P21.length ≤ 12000161 := by rw [hP21, List.length_append]; omega
  have A21 : ∀ x y, binOpA cx.P cx.T .add 9 x y (strA (P20)) (strA ([32])) = some (strA P21) := fun x y => by rw [str_add x y _ _ (by omega), ← hP21]
  obtain ⟨P22, hP22⟩ : ∃ P, P = P21 ++ num r.pairs := ⟨_, rfl⟩
  have L22 : P22.length ≤ 12000182 := by rw [hP22, List.length_append]; omega
  have A22 : ∀ x y, binOpA cx.P cx.T .add 9 x y (strA (P21)) (strA (num r.pairs)) = some (strA P22) := fun x y => by rw [str_add x y _ _ (by omega), ← hP22]
  obtain ⟨P23, hP23⟩ : ∃ P, P = P22 ++ [32] := ⟨_, rfl⟩
  have L23 : P23.length ≤ 12000183 := by rw [hP23, List.length_append]; omega
  have A23 : ∀ x y, binOpA cx.P cx.T .add 9 x y (strA (P22)) (strA ([32])) = some (strA P23) := fun x y => by rw [str_add x y _ _ (by omega), ← hP23]
  obtain ⟨P24, hP24⟩ : ∃ P, P = P23 ++ num r.triples := ⟨_, rfl⟩
  have L24 : P24.length ≤ 12000204 := by rw [hP24, List.length_append]; omega
  have A24 : ∀ x y, binOpA cx.P cx.T .add 9 x y (strA (P23)) (strA (num r.triples)) = some (strA P24) := fun x y => by rw [str_add x y _ _ (by omega), ← hP24]
  obtain ⟨P25, hP25⟩ : ∃ P, P = P24 ++ [32] := ⟨_, rfl⟩
  have L25 : P25.length ≤ 12000205 := by rw [hP25, List.length_append]; omega
  have A25 : ∀ x y, binOpA cx.P cx.T .add 9 x y (strA (P24)) (strA ([32])) = some (strA P25) := fun x y => by rw [str_add x y _ _ (by omega), ← hP25]
  obtain ⟨P26, hP26⟩ : ∃ P, P = P25 ++ num r.vectors := ⟨_, rfl⟩
  have L26 : P26.length ≤ 12000226 := by rw [hP26, List.length_append]; omega
  have A26 : ∀ x y, binOpA cx.P cx.T .add 9 x y (strA (P25)) (strA (num r.vectors)) = some (strA P26) := fun x y => by rw [str_add x y _ _ (by omega), ← hP26]
  have hline : P26 = joi (lineW r) := by
    simp only [hP26, hP25, hP24, hP23, hP22, hP21, hP20, hP19, hP18, hP17, hP16, hP15, hP14, hP13, hP12, hP11, hP10, hP9, hP8, hP7, hP6, hP5, hP4, hP3, hP2, hP1, hP0, joi, joiT, lineW, List.append_assoc, List.cons_append, List.nil_append, List.append_nil]
    rfl
  cases hst : r.stops
  · have hfl : flagW r.stops = wNo := by rw [hst]; rfl
    rw [hfl] at A16
    simp only [↓aD, ↓aE, ↓aF, ↓aG, ↓aH, ↓aI, ↓aJ, ↓aK, aL, ↓aM, ↓aN, aO, stepA, opA, convA, isCall, put?, ev, aA, aQ, builtinA, callA, argEnv, wantedS, aR, aS, aT, aU, aV, aW, aX, aY, undef, z_none, bA, bB, bC, bD, bH, bI, extractOp, bK, bL, bM, bN, Nat.reduceLT, Nat.reduceEqDiff, Nat.reduceAdd, bR, bS, ↓reduceIte, reduceCtorEq, resA, resOf, cB, maxA, minA, hbx, fa60_0, fa60_1, fa60_2, fa60_3, fa60_4, fa60_5, fa60_6, fa60_7, fa60_8, fa60_9, fa60_10, fa60_11, fa60_12, fa60_13, (ref_lds hb0).2.2.2.2.2.2.2.2.1, hst, lit_yes, lit_no]
    refine wpS_draw6 (nx + 1) (by omega) (show s39_d0.toList.map (stripO s39_d0) = s39_d0s by kernel_rfl) ?_
    unfold s39_d0s
    simp only [↓aD, ↓aE, ↓aF, ↓aG, ↓aH, ↓aI, ↓aJ, ↓aK, aL, ↓aM, ↓aN, aO, stepA, opA, convA, isCall, put?, ev, aA, aQ, builtinA, callA, argEnv, wantedS, aR, aS, aT, aU, aV, aW, aX, aY, undef, z_none, bA, bB, bC, bD, bH, bI, extractOp, bK, bL, bM, bN, Nat.reduceLT, Nat.reduceEqDiff, Nat.reduceAdd, bR, bS, ↓reduceIte, reduceCtorEq, resA, resOf, cB, maxA, minA, ↓dB, ↓dC, txS, dD, dE, dF, dG, dH, dI, dJ, dK, dL, dM, dN, aB, isEff, dV, AV.belowB, ↓dY, ↓dZ, eA, eB, eC, eD, eF, eG, eH, eI, eJ, eK, eL, eM, eN, eO, eP, eQ, eS, eT, eU, goodAt_eq, ldLow, aC, fa60_0, fa60_1, fa60_2, fa60_3, fa60_4, fa60_5, fa60_6, fa60_7, fa60_8, fa60_9, fa60_10, fa60_11, fa60_12, fa60_13, ref_lds hb0, ref_lds hb1, ref_lds hb2, ref_lds hb3, ref_lds hb4, ref_lds hb5, x_none, c1, c2, c3, c4, c5, A0, A1, A2, A3, A4, A5, A6, A7, A8, lit32, lit_verdict8, eqB_strA, below_strA, le1, le2, le3, le4, le5]
    refine wpS_draw6 (nx + 1) (by omega) (show s39_d1.toList.map (stripO s39_d1) = s39_d1s by kernel_rfl) ?_
    unfold s39_d1s
    simp only [↓aD, ↓aE, ↓aF, ↓aG, ↓aH, ↓aI, ↓aJ, ↓aK, aL, ↓aM, ↓aN, aO, stepA, opA, convA, isCall, put?, ev, aA, aQ, builtinA, callA, argEnv, wantedS, aR, aS, aT, aU, aV, aW, aX, aY, undef, z_none, bA, bB, bC, bD, bH, bI, extractOp, bK, bL, bM, bN, Nat.reduceLT, Nat.reduceEqDiff, Nat.reduceAdd, bR, bS, ↓reduceIte, reduceCtorEq, resA, resOf, cB, maxA, minA, ↓dB, ↓dC, txS, dD, dE, dF, dG, dH, dI, dJ, dK, dL, dM, dN, aB, isEff, dV, AV.belowB, ↓dY, ↓dZ, eA, eB, eC, eD, eF, eG, eH, eI, eJ, eK, eL, eM, eN, eO, eP, eQ, eS, eT, eU, goodAt_eq, ldLow, aC, fa60_0, fa60_1, fa60_2, fa60_3, fa60_4, fa60_5, fa60_6, fa60_7, fa60_8, fa60_9, fa60_10, fa60_11, fa60_12, fa60_13, ref_lds hb5, ref_lds hb6, ref_lds hb7, ref_lds hb8, x_none, c6, c7, c8, A9, A10, A11, A12, A13, A14, A15, A16, lit32, lit_verdict8, eqB_strA, below_strA, le6, le7, le8]
    refine wpS_draw6 (nx + 1) (by omega) (show s39_d2.toList.map (stripO s39_d2) = s39_d2s by kernel_rfl) ?_
    unfold s39_d2s
    simp only [↓aD, ↓aE, ↓aF, ↓aG, ↓aH, ↓aI, ↓aJ, ↓aK, aL, ↓aM, ↓aN, aO, stepA, opA, convA, isCall, put?, ev, aA, aQ, builtinA, callA, argEnv, wantedS, aR, aS, aT, aU, aV, aW, aX, aY, undef, z_none, bA, bB, bC, bD, bH, bI, extractOp, bK, bL, bM, bN, Nat.reduceLT, Nat.reduceEqDiff, Nat.reduceAdd, bR, bS, ↓reduceIte, reduceCtorEq, resA, resOf, cB, maxA, minA, ↓dB, ↓dC, txS, dD, dE, dF, dG, dH, dI, dJ, dK, dL, dM, dN, aB, isEff, dV, AV.belowB, ↓dY, ↓dZ, eA, eB, eC, eD, eF, eG, eH, eI, eJ, eK, eL, eM, eN, eO, eP, eQ, eS, eT, eU, goodAt_eq, ldLow, aC, fa60_0, fa60_1, fa60_2, fa60_3, fa60_4, fa60_5, fa60_6, fa60_7, fa60_8, fa60_9, fa60_10, fa60_11, fa60_12, fa60_13, ref_lds hb8, ref_lds hb9, ref_lds hb10, ref_lds hb11, ref_lds hb12, ref_lds hb13, x_none, c9, c10, c11, c12, c13, A17, A18, A19, A20, A21, A22, A23, A24, A25, A26, lit32, lit_verdict8, eqB_strA, below_strA, le9, le10, le11, le12, le13]
    try simp only [↓aD, ↓aE, ↓aF, ↓aG, ↓aH, ↓aI, ↓aJ, ↓aK, aL, ↓aM, ↓aN, aO, stepA, opA, convA, isCall, put?, ev, aA, aQ, builtinA, callA, argEnv, wantedS, aR, aS, aT, aU, aV, aW, aX, aY, undef, z_none, bA, bB, bC, bD, bH, bI, extractOp, bK, bL, bM, bN, Nat.reduceLT, Nat.reduceEqDiff, Nat.reduceAdd, bR, bS, ↓reduceIte, reduceCtorEq, resA, resOf, cB, maxA, minA]
    exact ⟨by rw [hline], F13⟩
  · have hfl : flagW r.stops = wYes := by rw [hst]; rfl
    rw [hfl] at A16
    simp only [↓aD, ↓aE, ↓aF, ↓aG, ↓aH, ↓aI, ↓aJ, ↓aK, aL, ↓aM, ↓aN, aO, stepA, opA, convA, isCall, put?, ev, aA, aQ, builtinA, callA, argEnv, wantedS, aR, aS, aT, aU, aV, aW, aX, aY, undef, z_none, bA, bB, bC, bD, bH, bI, extractOp, bK, bL, bM, bN, Nat.reduceLT, Nat.reduceEqDiff, Nat.reduceAdd, bR, bS, ↓reduceIte, reduceCtorEq, resA, resOf, cB, maxA, minA, hbx, fa60_0, fa60_1, fa60_2, fa60_3, fa60_4, fa60_5, fa60_6, fa60_7, fa60_8, fa60_9, fa60_10, fa60_11, fa60_12, fa60_13, (ref_lds hb0).2.2.2.2.2.2.2.2.1, hst, lit_yes, lit_no]
    refine wpS_draw6 (nx + 1) (by omega) (show s39_d0.toList.map (stripO s39_d0) = s39_d0s by kernel_rfl) ?_
    unfold s39_d0s
    simp only [↓aD, ↓aE, ↓aF, ↓aG, ↓aH, ↓aI, ↓aJ, ↓aK, aL, ↓aM, ↓aN, aO, stepA, opA, convA, isCall, put?, ev, aA, aQ, builtinA, callA, argEnv, wantedS, aR, aS, aT, aU, aV, aW, aX, aY, undef, z_none, bA, bB, bC, bD, bH, bI, extractOp, bK, bL, bM, bN, Nat.reduceLT, Nat.reduceEqDiff, Nat.reduceAdd, bR, bS, ↓reduceIte, reduceCtorEq, resA, resOf, cB, maxA, minA, ↓dB, ↓dC, txS, dD, dE, dF, dG, dH, dI, dJ, dK, dL, dM, dN, aB, isEff, dV, AV.belowB, ↓dY, ↓dZ, eA, eB, eC, eD, eF, eG, eH, eI, eJ, eK, eL, eM, eN, eO, eP, eQ, eS, eT, eU, goodAt_eq, ldLow, aC, fa60_0, fa60_1, fa60_2, fa60_3, fa60_4, fa60_5, fa60_6, fa60_7, fa60_8, fa60_9, fa60_10, fa60_11, fa60_12, fa60_13, ref_lds hb0, ref_lds hb1, ref_lds hb2, ref_lds hb3, ref_lds hb4, ref_lds hb5, x_none, c1, c2, c3, c4, c5, A0, A1, A2, A3, A4, A5, A6, A7, A8, lit32, lit_verdict8, eqB_strA, below_strA, le1, le2, le3, le4, le5]
    refine wpS_draw6 (nx + 1) (by omega) (show s39_d1.toList.map (stripO s39_d1) = s39_d1s by kernel_rfl) ?_
    unfold s39_d1s
    simp only [↓aD, ↓aE, ↓aF, ↓aG, ↓aH, ↓aI, ↓aJ, ↓aK, aL, ↓aM, ↓aN, aO, stepA, opA, convA, isCall, put?, ev, aA, aQ, builtinA, callA, argEnv, wantedS, aR, aS, aT, aU, aV, aW, aX, aY, undef, z_none, bA, bB, bC, bD, bH, bI, extractOp, bK, bL, bM, bN, Nat.reduceLT, Nat.reduceEqDiff, Nat.reduceAdd, bR, bS, ↓reduceIte, reduceCtorEq, resA, resOf, cB, maxA, minA, ↓dB, ↓dC, txS, dD, dE, dF, dG, dH, dI, dJ, dK, dL, dM, dN, aB, isEff, dV, AV.belowB, ↓dY, ↓dZ, eA, eB, eC, eD, eF, eG, eH, eI, eJ, eK, eL, eM, eN, eO, eP, eQ, eS, eT, eU, goodAt_eq, ldLow, aC, fa60_0, fa60_1, fa60_2, fa60_3, fa60_4, fa60_5, fa60_6, fa60_7, fa60_8, fa60_9, fa60_10, fa60_11, fa60_12, fa60_13, ref_lds hb5, ref_lds hb6, ref_lds hb7, ref_lds hb8, x_none, c6, c7, c8, A9, A10, A11, A12, A13, A14, A15, A16, lit32, lit_verdict8, eqB_strA, below_strA, le6, le7, le8]
    refine wpS_draw6 (nx + 1) (by omega) (show s39_d2.toList.map (stripO s39_d2) = s39_d2s by kernel_rfl) ?_
    unfold s39_d2s
    simp only [↓aD, ↓aE, ↓aF, ↓aG, ↓aH, ↓aI, ↓aJ, ↓aK, aL, ↓aM, ↓aN, aO, stepA, opA, convA, isCall, put?, ev, aA, aQ, builtinA, callA, argEnv, wantedS, aR, aS, aT, aU, aV, aW, aX, aY, undef, z_none, bA, bB, bC, bD, bH, bI, extractOp, bK, bL, bM, bN, Nat.reduceLT, Nat.reduceEqDiff, Nat.reduceAdd, bR, bS, ↓reduceIte, reduceCtorEq, resA, resOf, cB, maxA, minA, ↓dB, ↓dC, txS, dD, dE, dF, dG, dH, dI, dJ, dK, dL, dM, dN, aB, isEff, dV, AV.belowB, ↓dY, ↓dZ, eA, eB, eC, eD, eF, eG, eH, eI, eJ, eK, eL, eM, eN, eO, eP, eQ, eS, eT, eU, goodAt_eq, ldLow, aC, fa60_0, fa60_1, fa60_2, fa60_3, fa60_4, fa60_5, fa60_6, fa60_7, fa60_8, fa60_9, fa60_10, fa60_11, fa60_12, fa60_13, ref_lds hb8, ref_lds hb9, ref_lds hb10, ref_lds hb11, ref_lds hb12, ref_lds hb13, x_none, c9, c10, c11, c12, c13, A17, A18, A19, A20, A21, A22, A23, A24, A25, A26, lit32, lit_verdict8, eqB_strA, below_strA, le9, le10, le11, le12, le13]
    try simp only [↓aD, ↓aE, ↓aF, ↓aG, ↓aH, ↓aI, ↓aJ, ↓aK, aL, ↓aM, ↓aN, aO, stepA, opA, convA, isCall, put?, ev, aA, aQ, builtinA, callA, argEnv, wantedS, aR, aS, aT, aU, aV, aW, aX, aY, undef, z_none, bA, bB, bC, bD, bH, bI, extractOp, bK, bL, bM, bN, Nat.reduceLT, Nat.reduceEqDiff, Nat.reduceAdd, bR, bS, ↓reduceIte, reduceCtorEq, resA, resOf, cB, maxA, minA]
    exact ⟨by rw [hline], F13⟩
end Seat
end CI
