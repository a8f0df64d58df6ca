/- Parts of the proof: Bn Bo. -/
import Derived.Test.YtanfejbkoheblaaGreatDoorSrM3
import Derived.Test.YtanfejbkoheblaaGreatDoorSrM13
set_option linter.unusedVariables false
set_option linter.unusedSimpArgs false
namespace CI
open Go
namespace Seat
open Quo
variable {H : Heap} {nx : Nat}
section
variable {n0 r at_ : Nat} {w bs : List UInt8} {cs : List AV}
def AfterS (n0 : Nat) (r : Nat) (w : List UInt8) (at_ : Nat) (bs : List UInt8) (x : Except Nat (UInt8 × Nat)) (ok : Bool) (H' : Heap) (nx' : Nat) (cs' : List AV) : Prop :=
  match x with
  | .ok (b, k) => ok = true ∧ at_ + k ≤ w.length ∧ Rd n0 H' nx' r w (at_ + k) (bs ++ [b]) cs'
  | .error k => ok = false ∧ at_ + k ≤ w.length ∧ Rd n0 H' nx' r w (at_ + k) bs cs'
theorem esc_cl (h : Rd n0 H nx r w at_ bs cs) (hw : w.length ≤ 1000000) (ha : at_ ≤ w.length) (hbs : bs.length ≤ 1000000) :
    ∃ ok H' nx' cs', Cl cx 276 [.ptr r 0] H nx = some (.lit (.bool ok), H', nx') ∧ nx ≤ nx' ∧ (∀ c, c < n0 → H'.get c = H.get c) ∧ AfterS n0 r w at_ bs (escR (w.drop at_)) ok H' nx' cs' := by
  have hn := next_cl h
  by_cases hlt : at_ < w.length
  · have hg : w.getD at_ 0 = w[at_] := by simp [List.getD_eq_getElem?_getD, hlt]
    rw [hg] at hn
    simp only [hlt, decide_true] at hn
    have hd := drop_of (List.getElem?_eq_getElem hlt)
    have hwr : IntKind.i64.wrap ((at_ : Int) + 1) = ((at_ + 1 : Nat) : Int) := by rw [wrapI (by constructor <;> omega)]; rfl
    obtain ⟨H1, cs1, s1, s2, s3⟩ := h.st (at_ + 1)
    have hb5 : byteA w[at_] = .lit (.int .u8 w[at_].toNat) := rfl
    rw [hb5] at hn
    by_cases h92 : w[at_].toNat = 92
    · have e1 : (((w[at_].toNat : Nat) : Int) = 92) = True := by simp; omega
      obtain ⟨H2, nx2, cs2, w1, w2, w3, w4⟩ := s2.wb (by omega) 92
      have hb92 : byteA 92 = .lit (.int .u8 92) := rfl
      rw [hb92] at w1
      refine ⟨true, H2, nx2, cs2, ?_, w3, fun c hc => (w4 c hc).trans (s3 c hc), ?_⟩
      · refine wp276 _ _ _ _ (by simp) ?_
        unfold s276
        simp only [↓aA, ↓aB, ↓aC, ↓aD, ↓aE, ↓aF, ↓aG, ↓aH, aI, ↓aJ, ↓aK, aL, stepA, opA, convA, isCall, put?, ev, aM, aN, builtinA, callA, argEnv, wantedS, aO, aP, aQ, aR, aS, aT, aU, aV, aW, undef, z_none, aX, aY, aZ, bA, bB, bC, bD, bE, bF, bG, extractOp, bH, bI, bJ, bK, Nat.reduceLT, Nat.reduceEqDiff, Nat.reduceAdd, bL, bM, bN, bO, bP, ↓reduceIte, bQ, bR, reduceCtorEq, resA, resOf, bS, bT, bU, bV, bW, bX, bY, bZ, cA, cB, cC, cD, cE, cF, cG, cH, cI, cJ, cK, cL, maxA, minA, cM, cN, cO, cP, cQ, cR, cS, cT, cU, cV, cW, cX, x_none, nc_ptr, fa321_0, fa321_1, fa319_1, hn, e1, h.ld_at, hwr, s1, w1]
      · rw [hd]
        simp only [escR, if_pos h92]
        exact ⟨rfl, by omega, w2⟩
    · have e1 : (((w[at_].toNat : Nat) : Int) = 92) = False := by simp; omega
      by_cases h120 : w[at_].toNat = 120
      · have e2 : (((w[at_].toNat : Nat) : Int) = 120) = True := by simp; omega
        obtain ⟨ok, H2, nx2, cs2, c1, c2, c3, c4⟩ := code_cl s2 hw (by omega) hbs
        refine ⟨ok, H2, nx2, cs2, ?_, c2, fun c hc => (c3 c hc).trans (s3 c hc), ?_⟩
        · refine wp276 _ _ _ _ (by simp) ?_
          unfold s276
          simp only [↓aA, ↓aB, ↓aC, ↓aD, ↓aE, ↓aF, ↓aG, ↓aH, aI, ↓aJ, ↓aK, aL, stepA, opA, convA, isCall, put?, ev, aM, aN, builtinA, callA, argEnv, wantedS, aO, aP, aQ, aR, aS, aT, aU, aV, aW, undef, z_none, aX, aY, aZ, bA, bB, bC, bD, bE, bF, bG, extractOp, bH, bI, bJ, bK, Nat.reduceLT, Nat.reduceEqDiff, Nat.reduceAdd, bL, bM, bN, bO, bP, ↓reduceIte, bQ, bR, reduceCtorEq, resA, resOf, bS, bT, bU, bV, bW, bX, bY, bZ, cA, cB, cC, cD, cE, cF, cG, cH, cI, cJ, cK, cL, maxA, minA, cM, cN, cO, cP, cQ, cR, cS, cT, cU, cV, cW, cX, x_none, nc_ptr, fa321_0, fa321_1, fa319_1, hn, e1, e2, h.ld_at, hwr, s1, c1]
        · rw [hd]
          simp only [escR, if_neg h92, if_pos h120]
          unfold After at c4
          unfold AfterS
          cases hc : codeR (w.drop (at_ + 1)) with
          | error k => rw [hc] at c4; simp only at c4 ⊢; rw [← Nat.add_assoc]; exact c4
          | ok b => rw [hc] at c4; simp only at c4 ⊢; rw [show at_ + 3 = at_ + 1 + 2 from rfl]; exact c4
      · have e2 : (((w[at_].toNat : Nat) : Int) = 120) = False := by simp; omega
        refine ⟨false, H, nx, cs, ?_, Nat.le_refl _, fun _ _ => rfl, ?_⟩
        · refine wp276 _ _ _ _ (by simp) ?_
          unfold s276
          simp only [↓aA, ↓aB, ↓aC, ↓aD, ↓aE, ↓aF, ↓aG, ↓aH, aI, ↓aJ, ↓aK, aL, stepA, opA, convA, isCall, put?, ev, aM, aN, builtinA, callA, argEnv, wantedS, aO, aP, aQ, aR, aS, aT, aU, aV, aW, undef, z_none, aX, aY, aZ, bA, bB, bC, bD, bE, bF, bG, extractOp, bH, bI, bJ, bK, Nat.reduceLT, Nat.reduceEqDiff, Nat.reduceAdd, bL, bM, bN, bO, bP, ↓reduceIte, bQ, bR, reduceCtorEq, resA, resOf, bS, bT, bU, bV, bW, bX, bY, bZ, cA, cB, cC, cD, cE, cF, cG, cH, cI, cJ, cK, cL, maxA, minA, cM, cN, cO, cP, cQ, cR, cS, cT, cU, cV, cW, cX, x_none, nc_ptr, fa321_0, fa321_1, fa319_1, hn, e1, e2]
        · rw [hd]
          simp only [escR, if_neg h92, if_neg h120]
          exact ⟨rfl, by omega, h⟩
  · simp only [hlt, decide_false] at hn
    refine ⟨false, H, nx, cs, ?_, Nat.le_refl _, fun _ _ => rfl, ?_⟩
    · refine wp276 _ _ _ _ (by simp) ?_
      unfold s276
      simp only [↓aA, ↓aB, ↓aC, ↓aD, ↓aE, ↓aF, ↓aG, ↓aH, aI, ↓aJ, ↓aK, aL, stepA, opA, convA, isCall, put?, ev, aM, aN, builtinA, callA, argEnv, wantedS, aO, aP, aQ, aR, aS, aT, aU, aV, aW, undef, z_none, aX, aY, aZ, bA, bB, bC, bD, bE, bF, bG, extractOp, bH, bI, bJ, bK, Nat.reduceLT, Nat.reduceEqDiff, Nat.reduceAdd, bL, bM, bN, bO, bP, ↓reduceIte, bQ, bR, reduceCtorEq, resA, resOf, bS, bT, bU, bV, bW, bX, bY, bZ, cA, cB, cC, cD, cE, cF, cG, cH, cI, cJ, cK, cL, maxA, minA, cM, cN, cO, cP, cQ, cR, cS, cT, cU, cV, cW, cX, x_none, nc_ptr, fa321_0, fa321_1, fa319_1, hn]
    · rw [List.drop_eq_nil_of_le (by omega)]
      exact ⟨rfl, by omega, h⟩
theorem oneR_cl (h : Rd n0 H nx r w at_ bs cs) (hw : w.length ≤ 1000000) (hlt : at_ < w.length) (hbs : bs.length ≤ 1000000) :
    ∃ ok H' nx' cs', Cl cx 205 [.ptr r 0] H nx = some (.lit (.bool ok), H', nx') ∧ nx ≤ nx' ∧ (∀ c, c < n0 → H'.get c = H.get c) ∧ AfterS n0 r w at_ bs (stepR (w.drop at_)) ok H' nx' cs' := by
  have hn := next_cl h
  have hg : w.getD at_ 0 = w[at_] := by simp [List.getD_eq_getElem?_getD, hlt]
  rw [hg] at hn
  simp only [hlt, decide_true] at hn
  have hd := drop_of (List.getElem?_eq_getElem hlt)
  have hwr : IntKind.i64.wrap ((at_ : Int) + 1) = ((at_ + 1 : Nat) : Int) := by rw [wrapI (by constructor <;> omega)]; rfl
  obtain ⟨H1, cs1, s1, s2, s3⟩ := h.st (at_ + 1)
  have hb5 : byteA w[at_] = .lit (.int .u8 w[at_].toNat) := rfl
  have hpl := plain_cl (H := H) (nx := nx) w[at_]
  rw [hb5] at hn hpl
  by_cases h92 : w[at_].toNat = 92
  · have e1 : (((w[at_].toNat : Nat) : Int) = 92) = True := by simp; omega
    obtain ⟨ok, H2, nx2, cs2, c1, c2, c3, c4⟩ := esc_cl s2 hw (by omega) hbs
    refine ⟨ok, H2, nx2, cs2, ?_, c2, fun c hc => (c3 c hc).trans (s3 c hc), ?_⟩
    · refine wp205 _ _ _ _ (by simp) ?_
      unfold s205
      simp only [↓aA, ↓aB, ↓aC, ↓aD, ↓aE, ↓aF, ↓aG, ↓aH, aI, ↓aJ, ↓aK, aL, stepA, opA, convA, isCall, put?, ev, aM, aN, builtinA, callA, argEnv, wantedS, aO, aP, aQ, aR, aS, aT, aU, aV, aW, undef, z_none, aX, aY, aZ, bA, bB, bC, bD, bE, bF, bG, extractOp, bH, bI, bJ, bK, Nat.reduceLT, Nat.reduceEqDiff, Nat.reduceAdd, bL, bM, bN, bO, bP, ↓reduceIte, bQ, bR, reduceCtorEq, resA, resOf, bS, bT, bU, bV, bW, bX, bY, bZ, cA, cB, cC, cD, cE, cF, cG, cH, cI, cJ, cK, cL, maxA, minA, cM, cN, cO, cP, cQ, cR, cS, cT, cU, cV, cW, cX, x_none, nc_ptr, fa321_0, fa321_1, fa319_1, hn, e1, h.ld_at, hwr, s1, c1]
    · rw [hd, stepR_esc h92]
      unfold AfterS at c4 ⊢
      cases hc : escR (w.drop (at_ + 1)) with
      | error k => rw [hc] at c4; simp only at c4 ⊢; rw [← Nat.add_assoc]; exact c4
      | ok p =>
        obtain ⟨b, k⟩ := p
        rw [hc] at c4; simp only at c4 ⊢
        rw [show at_ + (k + 1) = at_ + 1 + k by omega]; exact c4
  · have e1 : (((w[at_].toNat : Nat) : Int) = 92) = False := by simp; omega
    cases hp : plainN w[at_].toNat with
    | true =>
      rw [hp] at hpl
      obtain ⟨H2, nx2, cs2, w1, w2, w3, w4⟩ := s2.wb (by omega) w[at_]
      rw [hb5] at w1
      refine ⟨true, H2, nx2, cs2, ?_, w3, fun c hc => (w4 c hc).trans (s3 c hc), ?_⟩
      · refine wp205 _ _ _ _ (by simp) ?_
        unfold s205
        simp only [↓aA, ↓aB, ↓aC, ↓aD, ↓aE, ↓aF, ↓aG, ↓aH, aI, ↓aJ, ↓aK, aL, stepA, opA, convA, isCall, put?, ev, aM, aN, builtinA, callA, argEnv, wantedS, aO, aP, aQ, aR, aS, aT, aU, aV, aW, undef, z_none, aX, aY, aZ, bA, bB, bC, bD, bE, bF, bG, extractOp, bH, bI, bJ, bK, Nat.reduceLT, Nat.reduceEqDiff, Nat.reduceAdd, bL, bM, bN, bO, bP, ↓reduceIte, bQ, bR, reduceCtorEq, resA, resOf, bS, bT, bU, bV, bW, bX, bY, bZ, cA, cB, cC, cD, cE, cF, cG, cH, cI, cJ, cK, cL, maxA, minA, cM, cN, cO, cP, cQ, cR, cS, cT, cU, cV, cW, cX, x_none, nc_ptr, fa321_0, fa321_1, fa319_1, hn, e1, hpl, h.ld_at, hwr, s1, w1]
      · rw [hd]
        simp only [stepR, if_neg h92, hp, if_true]
        exact ⟨rfl, by omega, w2⟩
    | false =>
      rw [hp] at hpl
      refine ⟨false, H, nx, cs, ?_, Nat.le_refl _, fun _ _ => rfl, ?_⟩
      · refine wp205 _ _ _ _ (by simp) ?_
        unfold s205
        simp only [↓aA, ↓aB, ↓aC, ↓aD, ↓aE, ↓aF, ↓aG, ↓aH, aI, ↓aJ, ↓aK, aL, stepA, opA, convA, isCall, put?, ev, aM, aN, builtinA, callA, argEnv, wantedS, aO, aP, aQ, aR, aS, aT, aU, aV, aW, undef, z_none, aX, aY, aZ, bA, bB, bC, bD, bE, bF, bG, extractOp, bH, bI, bJ, bK, Nat.reduceLT, Nat.reduceEqDiff, Nat.reduceAdd, bL, bM, bN, bO, bP, ↓reduceIte, bQ, bR, reduceCtorEq, resA, resOf, bS, bT, bU, bV, bW, bX, bY, bZ, cA, cB, cC, cD, cE, cF, cG, cH, cI, cJ, cK, cL, maxA, minA, cM, cN, cO, cP, cQ, cR, cS, cT, cU, cV, cW, cX, x_none, nc_ptr, fa321_0, fa321_1, fa319_1, hn, e1, hpl]
      · rw [hd]
        simp only [stepR, if_neg h92, hp, Bool.false_eq_true, if_false]
        exact ⟨rfl, by omega, h⟩
theorem pre_cl (w : List UInt8) (hw : w.length ≤ 1000000) : Cl cx 259 [strA w, strA [92, 101]] H nx = some (.lit (.bool (decide (w.take 2 = [92, 101]))), H, nx) := by
  have h48 : Cl cx 335 [strA w, strA [92, 101]] H nx = some (.lit (.bool (decide (w.take 2 = [92, 101]))), H, nx) := by
    refine wp335 _ _ _ _ (by simp) ?_
    unfold s335
    by_cases h2 : 2 ≤ w.length
    · have e1 : (((w.length : Nat) : Int) ≥ (([92, 101] : List UInt8).length : Nat)) = True := by simp; omega
      have hsl : sliceOp cx.P cx.T H 9 (strA w) none (some (.lit (.int .i64 (([92, 101] : List UInt8).length : Nat)))) none = some (strA (w.take 2)) := by
        exact str_to w 2 h2
      have he := str_eql (.tmp 14) (.tmp 15) (w.take 2) [92, 101]
      simp only [↓aA, ↓aB, ↓aC, ↓aD, ↓aE, ↓aF, ↓aG, ↓aH, aI, ↓aJ, ↓aK, aL, stepA, opA, convA, isCall, put?, ev, aM, aN, builtinA, callA, argEnv, wantedS, aO, aP, aQ, aR, aS, aT, aU, aV, aW, undef, z_none, aX, aY, aZ, bA, bB, bC, bD, bE, bF, bG, extractOp, bH, bI, bJ, bK, Nat.reduceLT, Nat.reduceEqDiff, Nat.reduceAdd, bL, bM, bN, bO, bP, ↓reduceIte, bQ, bR, reduceCtorEq, resA, resOf, bS, bT, bU, bV, bW, bX, bY, bZ, cA, cB, cC, cD, cE, cF, cG, cH, cI, cJ, cK, cL, maxA, minA, cM, cN, cO, cP, cQ, cR, cS, cT, cU, cV, cW, cX, str_len, e1, hsl, he]
    · have e1 : (((w.length : Nat) : Int) ≥ (([92, 101] : List UInt8).length : Nat)) = False := by simp; omega
      have hne : (w.take 2 = [92, 101]) = False := by
        simp only [eq_iff_iff, iff_false]
        intro h
        have := congrArg List.length h
        rw [List.length_take] at this
        simp at this; omega
      simp only [↓aA, ↓aB, ↓aC, ↓aD, ↓aE, ↓aF, ↓aG, ↓aH, aI, ↓aJ, ↓aK, aL, stepA, opA, convA, isCall, put?, ev, aM, aN, builtinA, callA, argEnv, wantedS, aO, aP, aQ, aR, aS, aT, aU, aV, aW, undef, z_none, aX, aY, aZ, bA, bB, bC, bD, bE, bF, bG, extractOp, bH, bI, bJ, bK, Nat.reduceLT, Nat.reduceEqDiff, Nat.reduceAdd, bL, bM, bN, bO, bP, ↓reduceIte, bQ, bR, reduceCtorEq, resA, resOf, bS, bT, bU, bV, bW, bX, bY, bZ, cA, cB, cC, cD, cE, cF, cG, cH, cI, cJ, cK, cL, maxA, minA, cM, cN, cO, cP, cQ, cR, cS, cT, cU, cV, cW, cX, str_len, e1, hne]
  refine wp259 _ _ _ _ (by simp) ?_
  unfold s259
  simp only [↓aA, ↓aB, ↓aC, ↓aD, ↓aE, ↓aF, ↓aG, ↓aH, aI, ↓aJ, ↓aK, aL, stepA, opA, convA, isCall, put?, ev, aM, aN, builtinA, callA, argEnv, wantedS, aO, aP, aQ, aR, aS, aT, aU, aV, aW, undef, z_none, aX, aY, aZ, bA, bB, bC, bD, bE, bF, bG, extractOp, bH, bI, bJ, bK, Nat.reduceLT, Nat.reduceEqDiff, Nat.reduceAdd, bL, bM, bN, bO, bP, ↓reduceIte, bQ, bR, reduceCtorEq, resA, resOf, bS, bT, bU, bV, bW, bX, bY, bZ, cA, cB, cC, cD, cE, cF, cG, cH, cI, cJ, cK, cL, maxA, minA, cM, cN, cO, cP, cQ, cR, cS, cT, cU, cV, cW, cX, x_none, h48]
theorem failed_cl (h : Rd n0 H nx r w at_ bs cs) (hw : w.length ≤ 1000000) : Cl cx 206 [.ptr r 0] H nx = some (.lit (.int .i64 ((if at_ = 1 ∧ w.take 2 = [92, 101] then 2 else at_ : Nat) : Int)), H, nx) := by
  refine wp206 _ _ _ _ (by simp) ?_
  unfold s206
  by_cases h1 : at_ = 1
  · have e1 : (((at_ : Nat) : Int) = 1) = True := by simp; omega
    by_cases h2 : w.take 2 = [92, 101]
    · rw [if_pos ⟨h1, h2⟩]
      simp only [↓aA, ↓aB, ↓aC, ↓aD, ↓aE, ↓aF, ↓aG, ↓aH, aI, ↓aJ, ↓aK, aL, stepA, opA, convA, isCall, put?, ev, aM, aN, builtinA, callA, argEnv, wantedS, aO, aP, aQ, aR, aS, aT, aU, aV, aW, undef, z_none, aX, aY, aZ, bA, bB, bC, bD, bE, bF, bG, extractOp, bH, bI, bJ, bK, Nat.reduceLT, Nat.reduceEqDiff, Nat.reduceAdd, bL, bM, bN, bO, bP, ↓reduceIte, bQ, bR, reduceCtorEq, resA, resOf, bS, bT, bU, bV, bW, bX, bY, bZ, cA, cB, cC, cD, cE, cF, cG, cH, cI, cJ, cK, cL, maxA, minA, cM, cN, cO, cP, cQ, cR, cS, cT, cU, cV, cW, cX, x_none, nc_ptr, fa321_0, fa319_0, fa319_1, h.ld_at, h.ld_s, e1, lit_e, pre_cl w hw, h2]
      rfl
    · rw [if_neg (fun h => h2 h.2)]
      simp only [↓aA, ↓aB, ↓aC, ↓aD, ↓aE, ↓aF, ↓aG, ↓aH, aI, ↓aJ, ↓aK, aL, stepA, opA, convA, isCall, put?, ev, aM, aN, builtinA, callA, argEnv, wantedS, aO, aP, aQ, aR, aS, aT, aU, aV, aW, undef, z_none, aX, aY, aZ, bA, bB, bC, bD, bE, bF, bG, extractOp, bH, bI, bJ, bK, Nat.reduceLT, Nat.reduceEqDiff, Nat.reduceAdd, bL, bM, bN, bO, bP, ↓reduceIte, bQ, bR, reduceCtorEq, resA, resOf, bS, bT, bU, bV, bW, bX, bY, bZ, cA, cB, cC, cD, cE, cF, cG, cH, cI, cJ, cK, cL, maxA, minA, cM, cN, cO, cP, cQ, cR, cS, cT, cU, cV, cW, cX, x_none, nc_ptr, fa321_0, fa319_0, fa319_1, h.ld_at, h.ld_s, e1, lit_e, pre_cl w hw, h2]
  · have e1 : (((at_ : Nat) : Int) = 1) = False := by simp; omega
    rw [if_neg (fun h => h1 h.1)]
    simp only [↓aA, ↓aB, ↓aC, ↓aD, ↓aE, ↓aF, ↓aG, ↓aH, aI, ↓aJ, ↓aK, aL, stepA, opA, convA, isCall, put?, ev, aM, aN, builtinA, callA, argEnv, wantedS, aO, aP, aQ, aR, aS, aT, aU, aV, aW, undef, z_none, aX, aY, aZ, bA, bB, bC, bD, bE, bF, bG, extractOp, bH, bI, bJ, bK, Nat.reduceLT, Nat.reduceEqDiff, Nat.reduceAdd, bL, bM, bN, bO, bP, ↓reduceIte, bQ, bR, reduceCtorEq, resA, resOf, bS, bT, bU, bV, bW, bX, bY, bZ, cA, cB, cC, cD, cE, cF, cG, cH, cI, cJ, cK, cL, maxA, minA, cM, cN, cO, cP, cQ, cR, cS, cT, cU, cV, cW, cX, x_none, nc_ptr, fa321_0, fa319_0, fa319_1, h.ld_at, h.ld_s, e1]
end
end Seat
end CI
namespace CI
open Go
namespace Seat
open Quo
variable {H : Heap} {nx : Nat}
theorem read_l0 {n0 r : Nat} {w : List UInt8} {cs : List AV} {E : Tr AV} {QQ : Ex → St → Prop} (h : Rd n0 H nx r w 0 [] cs) (hw : w.length ≤ 1000000) (e0 : E.get 0 = some (strA w)) (e5 : E.get 5 = some (.ptr r 0))
    (hQ : ∀ E' H' nx' cs' s, readW (w.length + 1) w 0 [] = .ok s → s.length ≤ w.length → Rd n0 H' nx' r w w.length s cs' → nx ≤ nx' → (∀ c, c < n0 → H'.get c = H.get c) → E'.get 0 = some (strA w) → E'.get 5 = some (.ptr r 0) → QQ (.exit 0) ⟨E', H', nx'⟩)
    (hR : ∀ E' H' nx' k, readW (w.length + 1) w 0 [] = .error k → nx ≤ nx' → (∀ c, c < n0 → H'.get c = H.get c) → (∀ b, nx' ≤ b → H'.get b = none) → E'.get 2 = some (strA []) →
      E'.get 3 = some (.lit (.int .i64 ((if k = 1 ∧ w.take 2 = [92, 101] then 2 else k : Nat) : Int))) → E'.get 4 = some (.lit (.int .i64 4)) → QQ .ret ⟨E', H', nx'⟩) :
    Wp cx 35 (.loop s148_l0) ⟨E, H, nx⟩ QQ := by
  refine Wp_loop (fun n st => ∃ (a : Nat) (bs : List UInt8) (cs' : List AV) (f : Nat), n = w.length - a ∧ a ≤ w.length ∧ bs.length ≤ a ∧ w.length - a < f ∧ readW f w a bs = readW (w.length + 1) w 0 [] ∧ Rd n0 st.H st.nx r w a bs cs' ∧ nx ≤ st.nx ∧
    (∀ c, c < n0 → st.H.get c = H.get c) ∧ st.env.get 0 = some (strA w) ∧ st.env.get 5 = some (.ptr r 0)) ?_ w.length _ ⟨0, [], cs, w.length + 1, by omega, by omega, by simp, by omega, rfl, h, Nat.le_refl _, fun _ _ => rfl, e0, e5⟩
  rintro n ⟨E, H1, nx1⟩ ⟨a, bs, cs1, f, hn, ha, hbs, hf, hrd, h, hnx, hold, e0, e5⟩
  simp only at h hnx hold e0 e5
  refine Wp_of ?_
  unfold s148_l0
  obtain ⟨f, rfl⟩ : ∃ g, f = g + 1 := ⟨f - 1, by omega⟩
  by_cases hlt : a < w.length
  · have e1 : (((a : Nat) : Int) < (w.length : Nat)) = True := by simp; omega
    obtain ⟨ok, H2, nx2, cs2, c1, c2, c3, c4⟩ := oneR_cl h hw hlt (by omega)
    simp only [readW, if_neg (show ¬ w.length ≤ a by omega)] at hrd
    unfold AfterS at c4
    cases hs : stepR (w.drop a) with
    | error k =>
      rw [hs] at c4 hrd
      simp only at c4 hrd
      obtain ⟨rfl, hk, hR2⟩ := c4
      have hfl := failed_cl hR2 hw
      simp only [↓aA, ↓aB, ↓aC, ↓aD, ↓aE, ↓aF, ↓aG, ↓aH, aI, ↓aJ, ↓aK, aL, stepA, opA, convA, isCall, put?, ev, aM, aN, builtinA, callA, argEnv, wantedS, aO, aP, aQ, aR, aS, aT, aU, aV, aW, undef, z_none, aX, aY, aZ, bA, bB, bC, bD, bE, bF, bG, extractOp, bH, bI, bJ, bK, Nat.reduceLT, Nat.reduceEqDiff, Nat.reduceAdd, bL, bM, bN, bO, bP, ↓reduceIte, bQ, bR, reduceCtorEq, resA, resOf, bS, bT, bU, bV, bW, bX, bY, bZ, cA, cB, cC, cD, cE, cF, cG, cH, cI, cJ, cK, cL, maxA, minA, cM, cN, cO, cP, cQ, cR, cS, cT, cU, cV, cW, cX, x_none, nc_ptr, fa321_0, fa319_1, e0, e5, h.ld_at, str_len, e1, c1, lit_nil, hfl]
      refine hR _ _ _ (a + k) hrd.symm (by omega) (fun c hc => (c3 c hc).trans (hold c hc)) hR2.bld.fr ?_ ?_ ?_
      · simp only [↓aA, ↓aB, ↓aC, ↓aD, ↓aE, ↓aF, ↓aG, ↓aH, aI, ↓aJ, ↓aK, aL, stepA, opA, convA, isCall, put?, ev, aM, aN, builtinA, callA, argEnv, wantedS, aO, aP, aQ, aR, aS, aT, aU, aV, aW, undef, z_none, aX, aY, aZ, bA, bB, bC, bD, bE, bF, bG, extractOp, bH, bI, bJ, bK, Nat.reduceLT, Nat.reduceEqDiff, Nat.reduceAdd, bL, bM, bN, bO, bP, ↓reduceIte, bQ, bR, reduceCtorEq, resA, resOf, bS, bT, bU, bV, bW, bX, bY, bZ, cA, cB, cC, cD, cE, cF, cG, cH, cI, cJ, cK, cL, maxA, minA, cM, cN, cO, cP, cQ, cR, cS, cT, cU, cV, cW, cX]
      · simp only [↓aA, ↓aB, ↓aC, ↓aD, ↓aE, ↓aF, ↓aG, ↓aH, aI, ↓aJ, ↓aK, aL, stepA, opA, convA, isCall, put?, ev, aM, aN, builtinA, callA, argEnv, wantedS, aO, aP, aQ, aR, aS, aT, aU, aV, aW, undef, z_none, aX, aY, aZ, bA, bB, bC, bD, bE, bF, bG, extractOp, bH, bI, bJ, bK, Nat.reduceLT, Nat.reduceEqDiff, Nat.reduceAdd, bL, bM, bN, bO, bP, ↓reduceIte, bQ, bR, reduceCtorEq, resA, resOf, bS, bT, bU, bV, bW, bX, bY, bZ, cA, cB, cC, cD, cE, cF, cG, cH, cI, cJ, cK, cL, maxA, minA, cM, cN, cO, cP, cQ, cR, cS, cT, cU, cV, cW, cX]
      · simp only [↓aA, ↓aB, ↓aC, ↓aD, ↓aE, ↓aF, ↓aG, ↓aH, aI, ↓aJ, ↓aK, aL, stepA, opA, convA, isCall, put?, ev, aM, aN, builtinA, callA, argEnv, wantedS, aO, aP, aQ, aR, aS, aT, aU, aV, aW, undef, z_none, aX, aY, aZ, bA, bB, bC, bD, bE, bF, bG, extractOp, bH, bI, bJ, bK, Nat.reduceLT, Nat.reduceEqDiff, Nat.reduceAdd, bL, bM, bN, bO, bP, ↓reduceIte, bQ, bR, reduceCtorEq, resA, resOf, bS, bT, bU, bV, bW, bX, bY, bZ, cA, cB, cC, cD, cE, cF, cG, cH, cI, cJ, cK, cL, maxA, minA, cM, cN, cO, cP, cQ, cR, cS, cT, cU, cV, cW, cX]
    | ok p =>
      obtain ⟨b, k⟩ := p
      rw [hs] at c4 hrd
      simp only at c4 hrd
      obtain ⟨rfl, hk, hR2⟩ := c4
      have hkp := stepR_pos hs
      simp only [↓aA, ↓aB, ↓aC, ↓aD, ↓aE, ↓aF, ↓aG, ↓aH, aI, ↓aJ, ↓aK, aL, stepA, opA, convA, isCall, put?, ev, aM, aN, builtinA, callA, argEnv, wantedS, aO, aP, aQ, aR, aS, aT, aU, aV, aW, undef, z_none, aX, aY, aZ, bA, bB, bC, bD, bE, bF, bG, extractOp, bH, bI, bJ, bK, Nat.reduceLT, Nat.reduceEqDiff, Nat.reduceAdd, bL, bM, bN, bO, bP, ↓reduceIte, bQ, bR, reduceCtorEq, resA, resOf, bS, bT, bU, bV, bW, bX, bY, bZ, cA, cB, cC, cD, cE, cF, cG, cH, cI, cJ, cK, cL, maxA, minA, cM, cN, cO, cP, cQ, cR, cS, cT, cU, cV, cW, cX, x_none, nc_ptr, fa321_0, fa319_1, e0, e5, h.ld_at, str_len, e1, c1]
      exact ⟨w.length - (a + k), by omega, a + k, bs ++ [b], cs2, f, rfl, by omega, by simp; omega, by omega, hrd, hR2, by omega, fun c hc => (c3 c hc).trans (hold c hc)⟩
  · have e1 : (((a : Nat) : Int) < (w.length : Nat)) = False := by simp; omega
    have haw : a = w.length := by omega
    subst haw
    simp only [readW, Nat.le_refl, if_true] at hrd
    simp only [↓aA, ↓aB, ↓aC, ↓aD, ↓aE, ↓aF, ↓aG, ↓aH, aI, ↓aJ, ↓aK, aL, stepA, opA, convA, isCall, put?, ev, aM, aN, builtinA, callA, argEnv, wantedS, aO, aP, aQ, aR, aS, aT, aU, aV, aW, undef, z_none, aX, aY, aZ, bA, bB, bC, bD, bE, bF, bG, extractOp, bH, bI, bJ, bK, Nat.reduceLT, Nat.reduceEqDiff, Nat.reduceAdd, bL, bM, bN, bO, bP, ↓reduceIte, bQ, bR, reduceCtorEq, resA, resOf, bS, bT, bU, bV, bW, bX, bY, bZ, cA, cB, cC, cD, cE, cF, cG, cH, cI, cJ, cK, cL, maxA, minA, cM, cN, cO, cP, cQ, cR, cS, cT, cU, cV, cW, cX, x_none, nc_ptr, fa321_0, fa319_1, e0, e5, h.ld_at, str_len, e1]
    refine hQ _ _ _ cs1 bs hrd.symm hbs h hnx hold ?_ ?_
    · simp only [↓aA, ↓aB, ↓aC, ↓aD, ↓aE, ↓aF, ↓aG, ↓aH, aI, ↓aJ, ↓aK, aL, stepA, opA, convA, isCall, put?, ev, aM, aN, builtinA, callA, argEnv, wantedS, aO, aP, aQ, aR, aS, aT, aU, aV, aW, undef, z_none, aX, aY, aZ, bA, bB, bC, bD, bE, bF, bG, extractOp, bH, bI, bJ, bK, Nat.reduceLT, Nat.reduceEqDiff, Nat.reduceAdd, bL, bM, bN, bO, bP, ↓reduceIte, bQ, bR, reduceCtorEq, resA, resOf, bS, bT, bU, bV, bW, bX, bY, bZ, cA, cB, cC, cD, cE, cF, cG, cH, cI, cJ, cK, cL, maxA, minA, cM, cN, cO, cP, cQ, cR, cS, cT, cU, cV, cW, cX, e0]
    · simp only [↓aA, ↓aB, ↓aC, ↓aD, ↓aE, ↓aF, ↓aG, ↓aH, aI, ↓aJ, ↓aK, aL, stepA, opA, convA, isCall, put?, ev, aM, aN, builtinA, callA, argEnv, wantedS, aO, aP, aQ, aR, aS, aT, aU, aV, aW, undef, z_none, aX, aY, aZ, bA, bB, bC, bD, bE, bF, bG, extractOp, bH, bI, bJ, bK, Nat.reduceLT, Nat.reduceEqDiff, Nat.reduceAdd, bL, bM, bN, bO, bP, ↓reduceIte, bQ, bR, reduceCtorEq, resA, resOf, bS, bT, bU, bV, bW, bX, bY, bZ, cA, cB, cC, cD, cE, cF, cG, cH, cI, cJ, cK, cL, maxA, minA, cM, cN, cO, cP, cQ, cR, cS, cT, cU, cV, cW, cX, e5]
theorem bd319 (w : List UInt8) : buildOp cx.T 319 [(0, strA w)] = some (.agg [strA w, .lit (.int .i64 0)]) := by kernel_rfl
theorem bd321 (w : List UInt8) : buildOp cx.T 321 [(0, .agg [strA w, .lit (.int .i64 0)])] = some (.agg [strA w, .lit (.int .i64 0), .lit (.pointer none), .lit (.slice none 0 0)]) := by kernel_rfl
theorem bx321 (w : List UInt8) : boxOp H nx 321 (.agg [strA w, .lit (.int .i64 0), .lit (.pointer none), .lit (.slice none 0 0)]) =
    some (.ptr nx 0, H.put nx (some (.cells [strA w, .lit (.int .i64 0), .lit (.pointer none), .lit (.slice none 0 0)] 321 false)), nx + 1) := rfl
theorem rd_new (h : ∀ b, nx ≤ b → H.get b = none) (w : List UInt8) : Rd nx (H.put nx (some (.cells [strA w, .lit (.int .i64 0), .lit (.pointer none), .lit (.slice none 0 0)] 321 false))) (nx + 1) nx w 0 [] [strA w, .lit (.int .i64 0), .lit (.pointer none), .lit (.slice none 0 0)] where
  bld := {
    hp := Tr.get_put_same _ _ _
    p0 := Nat.le_refl _
    p1 := by omega
    lies := by kernel_rfl
    self := .inl rfl
    buf := .inl ⟨rfl, rfl⟩
    fr := (Fr.put h _).fr }
  s := rfl
  at1 := rfl
  len := rfl
theorem read_cl {w : List UInt8} (hw : w.length ≤ 1000000) (hfr : ∀ b, nx ≤ b → H.get b = none) :
    ∃ v H' nx', Cl cx 148 [strA w] H nx = some (v, H', nx') ∧ v = .tuple [strA (readI w).1, .lit (.int .i64 ((readI w).2.1 : Nat)), .lit (.int .i64 ((readI w).2.2 : Nat))] ∧ Fr H nx H' nx' := by
  refine wpP148 _ _ _ _ (by simp) ?_
  unfold s148 readI
  have he := str_eql (.tmp 7) (.const (.string (ByteArray.mk #[92, 101]))) w [92, 101]
  by_cases h0 : w = [92, 101]
  · subst h0
    rw [if_pos rfl]
    simp only [↓aA, ↓aB, ↓aC, ↓aD, ↓aE, ↓aF, ↓aG, ↓aH, aI, ↓aJ, ↓aK, aL, stepA, opA, convA, isCall, put?, ev, aM, aN, builtinA, callA, argEnv, wantedS, aO, aP, aQ, aR, aS, aT, aU, aV, aW, undef, z_none, aX, aY, aZ, bA, bB, bC, bD, bE, bF, bG, extractOp, bH, bI, bJ, bK, Nat.reduceLT, Nat.reduceEqDiff, Nat.reduceAdd, bL, bM, bN, bO, bP, ↓reduceIte, bQ, bR, reduceCtorEq, resA, resOf, bS, bT, bU, bV, bW, bX, bY, bZ, cA, cB, cC, cD, cE, cF, cG, cH, cI, cJ, cK, cL, maxA, minA, cM, cN, cO, cP, cQ, cR, cS, cT, cU, cV, cW, cX, lit_nil, lit_e, he]
    exact ⟨rfl, Fr.refl hfr⟩
  · rw [if_neg h0]
    simp only [↓aA, ↓aB, ↓aC, ↓aD, ↓aE, ↓aF, ↓aG, ↓aH, aI, ↓aJ, ↓aK, aL, stepA, opA, convA, isCall, put?, ev, aM, aN, builtinA, callA, argEnv, wantedS, aO, aP, aQ, aR, aS, aT, aU, aV, aW, undef, z_none, aX, aY, aZ, bA, bB, bC, bD, bE, bF, bG, extractOp, bH, bI, bJ, bK, Nat.reduceLT, Nat.reduceEqDiff, Nat.reduceAdd, bL, bM, bN, bO, bP, ↓reduceIte, bQ, bR, reduceCtorEq, resA, resOf, bS, bT, bU, bV, bW, bX, bY, bZ, cA, cB, cC, cD, cE, cF, cG, cH, cI, cJ, cK, cL, maxA, minA, cM, cN, cO, cP, cQ, cR, cS, cT, cU, cV, cW, cX, lit_nil, lit_e, he, h0, partsA, bd319, bd321, bx321]
    refine read_l0 (rd_new hfr w) hw ?_ ?_ ?_ ?_
    · simp only [↓aA, ↓aB, ↓aC, ↓aD, ↓aE, ↓aF, ↓aG, ↓aH, aI, ↓aJ, ↓aK, aL, stepA, opA, convA, isCall, put?, ev, aM, aN, builtinA, callA, argEnv, wantedS, aO, aP, aQ, aR, aS, aT, aU, aV, aW, undef, z_none, aX, aY, aZ, bA, bB, bC, bD, bE, bF, bG, extractOp, bH, bI, bJ, bK, Nat.reduceLT, Nat.reduceEqDiff, Nat.reduceAdd, bL, bM, bN, bO, bP, ↓reduceIte, bQ, bR, reduceCtorEq, resA, resOf, bS, bT, bU, bV, bW, bX, bY, bZ, cA, cB, cC, cD, cE, cF, cG, cH, cI, cJ, cK, cL, maxA, minA, cM, cN, cO, cP, cQ, cR, cS, cT, cU, cV, cW, cX]
    · simp only [↓aA, ↓aB, ↓aC, ↓aD, ↓aE, ↓aF, ↓aG, ↓aH, aI, ↓aJ, ↓aK, aL, stepA, opA, convA, isCall, put?, ev, aM, aN, builtinA, callA, argEnv, wantedS, aO, aP, aQ, aR, aS, aT, aU, aV, aW, undef, z_none, aX, aY, aZ, bA, bB, bC, bD, bE, bF, bG, extractOp, bH, bI, bJ, bK, Nat.reduceLT, Nat.reduceEqDiff, Nat.reduceAdd, bL, bM, bN, bO, bP, ↓reduceIte, bQ, bR, reduceCtorEq, resA, resOf, bS, bT, bU, bV, bW, bX, bY, bZ, cA, cB, cC, cD, cE, cF, cG, cH, cI, cJ, cK, cL, maxA, minA, cM, cN, cO, cP, cQ, cR, cS, cT, cU, cV, cW, cX]
    · intro E' H' nx' cs' s hs hsl hR hnx hold e0 e5
      have he2 := str_eql (.tmp 26) (.const (.string (ByteArray.mk #[]))) w []
      by_cases hn : w = []
      · subst hn
        simp only [↓aA, ↓aB, ↓aC, ↓aD, ↓aE, ↓aF, ↓aG, ↓aH, aI, ↓aJ, ↓aK, aL, stepA, opA, convA, isCall, put?, ev, aM, aN, builtinA, callA, argEnv, wantedS, aO, aP, aQ, aR, aS, aT, aU, aV, aW, undef, z_none, aX, aY, aZ, bA, bB, bC, bD, bE, bF, bG, extractOp, bH, bI, bJ, bK, Nat.reduceLT, Nat.reduceEqDiff, Nat.reduceAdd, bL, bM, bN, bO, bP, ↓reduceIte, bQ, bR, reduceCtorEq, resA, resOf, bS, bT, bU, bV, bW, bX, bY, bZ, cA, cB, cC, cD, cE, cF, cG, cH, cI, cJ, cK, cL, maxA, minA, cM, cN, cO, cP, cQ, cR, cS, cT, cU, cV, cW, cX, lit_nil, e0, he2]
        rw [hs]
        simp only [if_true]
        refine ⟨rfl, by omega, fun c hc => ?_, hR.bld.fr⟩
        rw [hold c hc, Tr.get_put_ne _ _ _ _ (by omega)]
      · have hs0 : s ≠ [] := by
          rintro rfl
          obtain ⟨t, h3, h4⟩ := readW_ok _ w 0 [] [] (by omega) hs
          simp only [List.nil_append, List.drop_zero] at h3 h4
          subst h3
          exact hn h4
        obtain ⟨H2, k1, k2, k3⟩ := bstr_cl hR.bld (by omega) (.inl hs0)
        simp only [↓aA, ↓aB, ↓aC, ↓aD, ↓aE, ↓aF, ↓aG, ↓aH, aI, ↓aJ, ↓aK, aL, stepA, opA, convA, isCall, put?, ev, aM, aN, builtinA, callA, argEnv, wantedS, aO, aP, aQ, aR, aS, aT, aU, aV, aW, undef, z_none, aX, aY, aZ, bA, bB, bC, bD, bE, bF, bG, extractOp, bH, bI, bJ, bK, Nat.reduceLT, Nat.reduceEqDiff, Nat.reduceAdd, bL, bM, bN, bO, bP, ↓reduceIte, bQ, bR, reduceCtorEq, resA, resOf, bS, bT, bU, bV, bW, bX, bY, bZ, cA, cB, cC, cD, cE, cF, cG, cH, cI, cJ, cK, cL, maxA, minA, cM, cN, cO, cP, cQ, cR, cS, cT, cU, cV, cW, cX, x_none, lit_nil, e0, e5, he2, hn, nc_ptr, fa321_1, k1, str_len]
        rw [hs]
        simp only [if_neg hn]
        refine ⟨rfl, by omega, fun c hc => ?_, k3⟩
        rw [k2 c hc, hold c hc, Tr.get_put_ne _ _ _ _ (by omega)]
    · intro E' H' nx' k hs hnx hold hf e2 e3 e4
      simp only [↓aA, ↓aB, ↓aC, ↓aD, ↓aE, ↓aF, ↓aG, ↓aH, aI, ↓aJ, ↓aK, aL, stepA, opA, convA, isCall, put?, ev, aM, aN, builtinA, callA, argEnv, wantedS, aO, aP, aQ, aR, aS, aT, aU, aV, aW, undef, z_none, aX, aY, aZ, bA, bB, bC, bD, bE, bF, bG, extractOp, bH, bI, bJ, bK, Nat.reduceLT, Nat.reduceEqDiff, Nat.reduceAdd, bL, bM, bN, bO, bP, ↓reduceIte, bQ, bR, reduceCtorEq, resA, resOf, bS, bT, bU, bV, bW, bX, bY, bZ, cA, cB, cC, cD, cE, cF, cG, cH, cI, cJ, cK, cL, maxA, minA, cM, cN, cO, cP, cQ, cR, cS, cT, cU, cV, cW, cX, e2, e3, e4]
      rw [hs]
      refine ⟨rfl, by omega, fun c hc => ?_, hf⟩
      rw [hold c hc, Tr.get_put_ne _ _ _ _ (by omega)]
end Seat
end CI
