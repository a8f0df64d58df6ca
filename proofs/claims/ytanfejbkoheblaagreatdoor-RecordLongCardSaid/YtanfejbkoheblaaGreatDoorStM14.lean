/- Parts of the proof: Rc Rw Req Re Rf. -/
import Derived.Test.YtanfejbkoheblaaGreatDoorStM3
import Derived.Test.YtanfejbkoheblaaGreatDoorStRb
import Derived.Test.YtanfejbkoheblaaGreatDoorStM12
import Derived.Test.YtanfejbkoheblaaGreatDoorStM4
set_option linter.unusedVariables false
set_option linter.unusedSimpArgs false
set_option maxRecDepth 10000
namespace CI
open Go
namespace Seat
open Quo Rcd Spl
variable {H : Heap} {nx : Nat}
def booA (b : Bool) : AV := .lit (.bool b)
structure Ws (H : Heap) (lim p : Nat) (tl : List AV) (t : TypeId) (q : Q) : Prop where
  pn : p < lim
  mem : ∃ b o all, H.get p = some (.cells (.slice b o q.1.length (some q.1.length) 1 :: booA q.2 :: tl) t false) ∧ b ≠ p ∧ b < lim ∧ H.get b = some (.cells (List.map strA all) 9 false) ∧ (q.1 ≠ [] → all.drop o = q.1)
structure FrP (p : Nat) (H : Heap) (nx : Nat) (H' : Heap) (nx' : Nat) : Prop where
  le : nx ≤ nx'
  old : ∀ c, c < nx → c ≠ p → H'.get c = H.get c
  fr : (∀ b, nx ≤ b → H.get b = none) → ∀ b, nx' ≤ b → H'.get b = none
theorem FrP.trans {p : Nat} {H1 H2 : Heap} {n1 n2 : Nat} (a : FrP p H nx H1 n1) (b : FrP p H1 n1 H2 n2) : FrP p H nx H2 n2 :=
  ⟨Nat.le_trans a.le b.le, fun c hc hp => (b.old c (Nat.lt_of_lt_of_le hc a.le) hp).trans (a.old c hc hp), fun h => b.fr (a.fr h)⟩
theorem FrP.put {p : Nat} (hp : p < nx) (ob : Option AObj) : FrP p H nx (H.put p ob) nx :=
  ⟨Nat.le_refl _, fun c hc h => Tr.get_put_ne _ _ _ _ h, fun h b hb => by rw [Tr.get_put_ne _ _ _ _ (by omega)]; exact h b hb⟩
theorem Ws.mono {lim p : Nat} {tl : List AV} {t : TypeId} {q : Q} (h : Ws H lim p tl t q) {H' : Heap} (hF : ∀ c, c < lim → H'.get c = H.get c) : Ws H' lim p tl t q := by
  obtain ⟨pn, b, o, all, h1, h2, h3, h4, h5⟩ := h
  exact ⟨pn, b, o, all, (hF p pn).trans h1, h2, h3, (hF b h3).trans h4, h5⟩
section
variable {lim p : Nat} {tl : List AV} {t : TypeId} {q : Q}
theorem nextQ_len {q : Q} {n : Nat} (h : ∀ w ∈ q.1, w.length ≤ n) : (nextQ q).1.length ≤ n ∧ ∀ w ∈ (nextQ q).2.1, w.length ≤ n := by
  obtain ⟨l, b⟩ := q
  cases l with
  | nil => exact ⟨by simp [nextQ], by simp [nextQ]⟩
  | cons a l => exact ⟨h a (List.mem_cons_self ..), fun w hw => h w (List.mem_cons_of_mem _ hw)⟩
end
end Seat
end CI
namespace CI
open Go
namespace Seat
open Quo Rcd Spl
variable {H : Heap} {nx : Nat}
theorem bsi2 (a b : Int) : buildSliceOp cx.T H nx 117 2 [(0, .lit (.int .i64 a)), (1, .lit (.int .i64 b))] = some (.slice nx 0 2 (some 2) 1, H.put nx (some (.cells [.lit (.int .i64 a), .lit (.int .i64 b)] 3 false)), nx + 1) := by kernel_rfl
theorem bsi5 (a b c d e : Int) : buildSliceOp cx.T H nx 117 5 [(0, .lit (.int .i64 a)), (1, .lit (.int .i64 b)), (2, .lit (.int .i64 c)), (3, .lit (.int .i64 d)), (4, .lit (.int .i64 e))] =
    some (.slice nx 0 5 (some 5) 1, H.put nx (some (.cells [.lit (.int .i64 a), .lit (.int .i64 b), .lit (.int .i64 c), .lit (.int .i64 d), .lit (.int .i64 e)] 3 false)), nx + 1) := by kernel_rfl
theorem app_nums {n0 n : Nat} {v : AV} {ws : List W} {l : List Int} (hS : SL n0 H nx v ws) (hn0 : n0 ≤ nx) (hfr : ∀ b, nx ≤ b → H.get b = none) (hl : ∀ n ∈ l, -9223372036854775808 ≤ n ∧ n ≤ 9223372036854775807) (hn : l.length = n) (hn2 : n ≤ 1000) (hws : ws.length ≤ 1000000) :
    ∃ v1 H1 nx1 v2 H2 nx2, Cl cx 75 [.slice nx 0 n (some n) 1] (H.put nx (some (.cells (l.map intA) 3 false))) (nx + 1) = some (v1, H1, nx1) ∧ appendOp cx.T H1 nx1 100 v 100 v1 = some (v2, H2, nx2) ∧
      SL n0 H2 nx2 v2 (ws ++ l.map num) ∧ FrO n0 H nx H2 nx2 ∧ Fr H nx H1 nx1 := by
  have hF := Fr.put hfr (some (.cells (l.map intA) 3 false))
  obtain ⟨v1, H1, nx1, a1, a2, a3⟩ := numbers_cl (H := H.put nx (some (.cells (l.map intA) 3 false))) (nx := nx + 1) (k := some n) hl hn hn2 (Tr.get_put_same _ _ _) (Nat.lt_succ_self _) hF.fr
  have h1 := hF.trans a3
  obtain ⟨v2, H2, nx2, b1, b2, b3⟩ := sl_app (hS.mono h1) a2.src (by simp; omega) (by have := h1.le; omega) h1.fr
  exact ⟨v1, H1, nx1, v2, H2, nx2, a1, b1, b2, (h1.toO hn0).trans b3, h1⟩
theorem app_word {n0 : Nat} {v : AV} {ws : List W} (w : W) (hS : SL n0 H nx v ws) (hn0 : n0 ≤ nx) (hfr : ∀ b, nx ≤ b → H.get b = none) (hws : ws.length ≤ 1000000) :
    ∃ v2 H2 nx2, appendOp cx.T (H.put nx (some (.cells [strA w] 9 false))) (nx + 1) 100 v 100 (.slice nx 0 1 (some 1) 1) = some (v2, H2, nx2) ∧ SL n0 H2 nx2 v2 (ws ++ [w]) ∧ FrO n0 H nx H2 nx2 := by
  have hF := Fr.put hfr (some (.cells [strA w] 9 false))
  obtain ⟨v2, H2, nx2, b1, b2, b3⟩ := sl_app (more := [w]) (hS.mono hF) (src_put (ws := [w]) rfl) (by simp; omega) (by omega) hF.fr
  exact ⟨v2, H2, nx2, b1, b2, (hF.toO hn0).trans b3⟩
theorem app_four {n0 : Nat} {v : AV} {ws : List W} (a b c d : W) (hS : SL n0 H nx v ws) (hn0 : n0 ≤ nx) (hfr : ∀ b, nx ≤ b → H.get b = none) (hws : ws.length ≤ 1000000) :
    ∃ v2 H2 nx2, appendOp cx.T (H.put nx (some (.cells [strA a, strA b, strA c, strA d] 9 false))) (nx + 1) 100 v 100 (.slice nx 0 4 (some 4) 1) = some (v2, H2, nx2) ∧ SL n0 H2 nx2 v2 (ws ++ [a, b, c, d]) ∧ FrO n0 H nx H2 nx2 ∧ nx + 1 ≤ nx2 := by
  have hF := Fr.put hfr (some (.cells [strA a, strA b, strA c, strA d] 9 false))
  obtain ⟨v2, H2, nx2, b1, b2, b3⟩ := sl_app (more := [a, b, c, d]) (hS.mono hF) (src_put (ws := [a, b, c, d]) rfl) (by simp; omega) (by omega) hF.fr
  exact ⟨v2, H2, nx2, b1, b2, (hF.toO hn0).trans b3, b3.le⟩
theorem num_len (n : Int) (h : -9223372036854775808 ≤ n ∧ n ≤ 9223372036854775807) : (num n).length ≤ 21 := by
  unfold num Lib.itoa
  split
  · have := dec_len 20 n.natAbs (by omega) (by omega)
    simp only [List.length_cons]; omega
  · have := dec_len 20 n.toNat (by omega) (by omega)
    omega
theorem kindW_len (k : Int) : (kindW k).length ≤ 7 := by
  unfold kindW
  split
  · decide
  · split
    · decide
    · split
      · decide
      · split <;> decide
theorem flagW_len (b : Bool) : (flagW b).length ≤ 3 := by cases b <;> decide
theorem line_len (r : Rec) (ho : r.ok) : (joi (lineW r)).length ≤ 4 * (r.x.length + r.y.length + r.z.length) + 300 := by
  have hn : ∀ n ∈ r.nums, (num n).length ≤ 21 := fun n h => num_len n (ho.n n h)
  simp only [Rec.nums, List.mem_cons, List.not_mem_nil, or_false, forall_eq_or_imp, forall_eq] at hn
  obtain ⟨n1, n2, n3, n4, n5, n6, n7, n8, n9⟩ := hn
  have k := kindW_len r.kind
  have f := flagW_len r.stops
  have x := writeW_len r.x
  have y := writeW_len r.y
  have z := writeW_len r.z
  have v : wVerdict.length = 7 := rfl
  rw [joi_len]
  simp only [lineW, List.map_cons, List.map_nil, List.sum_cons, List.sum_nil, List.length_cons, List.length_nil]
  omega
structure Short (r : Rec) : Prop where
  x : r.x.length ≤ 1000000
  y : r.y.length ≤ 1000000
  z : r.z.length ≤ 1000000
theorem write_rec (r : Rec) (ho : r.ok) (hs : Short r) (hfr : ∀ b, nx ≤ b → H.get b = none) :
    ∃ v H' nx', Cl cx 35 [.agg (recC r)] H nx = some (v, H', nx') ∧ (v = .tuple [strA (if r.told then joi (lineW r) else []), .lit (.int .i64 (if r.told then 0 else 1))] ∧ Fr H nx H' nx') := by
  refine wpP35 _ _ _ _ (by simp) ?_
  unfold s35
  have hF0 := Fr.put hfr (some (.cells (recC r) 39 false))
  have hb0 : (H.put nx (some (.cells (recC r) 39 false))).get nx = some (.cells (recC r) 39 false) := Tr.get_put_same _ _ _
  have hla := ld_all (t := 39) (by kernel_rfl) hb0
  obtain ⟨H1, nx1, t1, t2⟩ := told_cl r hF0.fr
  have hnil : AV.lit (.string (ByteArray.mk #[])) = strA [] := rfl
  by_cases ht : r.told
  · have hd : decide r.told = true := by simpa using ht
    rw [hd] at t1
    have hF1 := hF0.trans t2
    have hnx1 : nx < nx1 := by have := t2.le; omega
    have hb1 : H1.get nx = some (.cells (recC r) 39 false) := (t2.old nx (Nat.lt_succ_self _)).trans hb0
    have hn : ∀ n ∈ r.nums, -9223372036854775808 ≤ n ∧ n ≤ 9223372036854775807 := ho.n
    simp only [Rec.nums, List.mem_cons, List.not_mem_nil, or_false, forall_eq_or_imp, forall_eq] at hn
    obtain ⟨n1, n2, n3, n4, n5, n6, n7, n8, n9⟩ := hn
    have hF2 := Fr.put hF1.fr (some (.cells [strA wVerdict] 9 false))
    have hS2 : SL nx1 (H1.put nx1 (some (.cells [strA wVerdict] 9 false))) (nx1 + 1) (.slice nx1 0 1 (some 1) 1) [wVerdict] := SL.lit [wVerdict] (by simp) rfl
    obtain ⟨v3, H3, nx3, v4, H4, nx4, a1, a2, a3, a4, a5⟩ := app_nums (n := 2) (l := [r.err, r.at_]) hS2 (by omega) hF2.fr (by simp only [List.mem_cons, List.not_mem_nil, or_false, forall_eq_or_imp, forall_eq]; exact ⟨n1, n2⟩) rfl (by decide) (by simp)
    have hb2 : (H1.put nx1 (some (.cells [strA wVerdict] 9 false))).get nx = some (.cells (recC r) 39 false) := by rw [Tr.get_put_ne _ _ _ _ (by omega)]; exact hb1
    have hb4 : H4.get nx = some (.cells (recC r) 39 false) := (a4.old nx hnx1).trans hb2
    have g4 : nx1 ≤ nx4 := by have := a4.le; omega
    obtain ⟨H5, nx5, k1, k2⟩ := rKind_cl (H := H4) (nx := nx4) r.kind a4.fr
    obtain ⟨v6, H6, nx6, b1, b2, b3⟩ := app_word (kindW r.kind) (a3.mono k2) (by have := k2.le; omega) k2.fr (by simp)
    have hb6 : H6.get nx = some (.cells (recC r) 39 false) := by rw [b3.old nx hnx1, k2.old nx (by omega)]; exact hb4
    have g6 : nx1 ≤ nx6 := by have := b3.le; have := k2.le; omega
    obtain ⟨v7, H7, nx7, v8, H8, nx8, c1, c2, c3, c4, c5⟩ := app_nums (n := 2) (l := [r.degree, r.most]) b2 g6 b3.fr (by simp only [List.mem_cons, List.not_mem_nil, or_false, forall_eq_or_imp, forall_eq]; exact ⟨n3, n4⟩) rfl (by decide) (by simp)
    have hb8 : H8.get nx = some (.cells (recC r) 39 false) := (c4.old nx hnx1).trans hb6
    have g8 : nx1 ≤ nx8 := by have := c4.le; omega
    obtain ⟨w1, H9, nx9, d1, rfl, d2⟩ := write_cl (H := H8) (nx := nx8) (s := r.x) hs.x c4.fr
    obtain ⟨w2, H10, nx10, d3, rfl, d4⟩ := write_cl (H := H9) (nx := nx9) (s := r.y) hs.y d2.fr
    obtain ⟨w3, H11, nx11, d5, rfl, d6⟩ := write_cl (H := H10) (nx := nx10) (s := r.z) hs.z d4.fr
    have hF11 := (d2.trans d4).trans d6
    have hb9 : H9.get nx = some (.cells (recC r) 39 false) := (d2.old nx (by omega)).trans hb8
    have hb10 : H10.get nx = some (.cells (recC r) 39 false) := ((d2.trans d4).old nx (by omega)).trans hb8
    have hb11 : H11.get nx = some (.cells (recC r) 39 false) := (hF11.old nx (by omega)).trans hb8
    have g11 : nx1 ≤ nx11 := by have := hF11.le; omega
    obtain ⟨v12, H12, nx12, e1, e2, e3, e4⟩ := app_four (writeW r.x) (writeW r.y) (writeW r.z) (flagW r.stops) (c3.mono hF11) g11 hF11.fr (by simp)
    have hb12 : H12.get nx = some (.cells (recC r) 39 false) := by rw [e3.old nx hnx1]; exact hb11
    have g12 : nx1 ≤ nx12 := by have := e3.le; omega
    obtain ⟨v13, H13, nx13, v14, H14, nx14, f1, f2, f3, f4, f5⟩ := app_nums (n := 5) (l := [r.places, r.live, r.pairs, r.triples, r.vectors]) e2 g12 e3.fr (by simp only [List.mem_cons, List.not_mem_nil, or_false, forall_eq_or_imp, forall_eq]; exact ⟨n5, n6, n7, n8, n9⟩) rfl (by decide) (by simp)
    have hline : [wVerdict] ++ [r.err, r.at_].map num ++ [kindW r.kind] ++ [r.degree, r.most].map num ++ [writeW r.x, writeW r.y, writeW r.z, flagW r.stops] ++ [r.places, r.live, r.pairs, r.triples, r.vectors].map num = lineW r := rfl
    rw [hline] at f3
    obtain ⟨c, k, q1, q2, rfl, q3, q4, q5⟩ : ∃ c k, nx1 ≤ c ∧ c < nx14 ∧ v14 = .slice c 0 (lineW r).length k 1 ∧ (k = none ∨ k = some (lineW r).length) ∧ lineW r ≠ [] ∧ H14.get c = some (.cells ((lineW r).map strA) 9 false) := by
      rcases f3 with ⟨_, h⟩ | h
      · simp [lineW] at h
      · exact h
    have hll := line_len r ho
    have := hs.x; have := hs.y; have := hs.z
    obtain ⟨H15, nx15, p1, p2⟩ := words_cl q4 q5 q2 f4.fr (by simp [lineW]) q3 (by omega)
    simp only [List.map_cons, List.map_nil, intA] at a1 c1 f1
    obtain ⟨l0, l1, l2, l3, l4, l5, l6, l7, l8, l9, l10, l11, l12, l13⟩ := rec_lds hb2
    obtain ⟨_, _, m2, _, _, _, _, _, _, _, _, _, _, _⟩ := rec_lds hb4
    obtain ⟨_, _, _, o3, o4, _, _, _, _, _, _, _, _, _⟩ := rec_lds hb6
    obtain ⟨_, _, _, _, _, x5, x6, x7, x8, _, _, _, _, _⟩ := rec_lds hb8
    obtain ⟨_, _, _, _, _, y5, y6, y7, y8, _, _, _, _, _⟩ := rec_lds hb9
    obtain ⟨_, _, _, _, _, z5, z6, z7, z8, _, _, _, _, _⟩ := rec_lds hb10
    obtain ⟨_, _, _, _, _, u5, u6, u7, u8, _, _, _, _, _⟩ := rec_lds hb11
    obtain ⟨_, _, _, _, _, t5, t6, t7, t8, t9, t10, t11, t12, t13⟩ := rec_lds hb12
    simp only [↓aA, ↓aB, ↓aC, ↓aD, ↓aE, ↓aF, ↓aG, ↓aH, aI, ↓aJ, ↓aK, aL, stepA, opA, convA, isCall, put?, ev, aM, aN, builtinA, callA, argEnv, wantedS, aO, aP, aQ, aR, aS, aT, aU, aV, aW, undef, z_none, aX, aY, aZ, bA, bB, bC, bD, bE, bF, bG, extractOp, bH, bI, bJ, bK, Nat.reduceLT, Nat.reduceEqDiff, Nat.reduceAdd, bL, bM, bN, bO, bP, ↓reduceIte, bQ, bR, reduceCtorEq, resA, resOf, bS, bT, bU, bV, bW, bX, bY, bZ, cA, cB, cC, cD, cE, cF, cG, cH, cI, cJ, cK, cL, maxA, minA, cM, cN, cO, cP, cQ, cR, cS, cT, cU, cV, cW, cX, bx39, fa39_0, fa39_1, fa39_2, fa39_3, fa39_4, fa39_5, fa39_6, fa39_7, fa39_8, fa39_9, fa39_10, fa39_11, fa39_12, fa39_13, hla, x_none, t1, lit_verdict, partsA, bsl1, l0, l1, bsi2, a1, a2, m2, k1, b1, o3, o4, c1, c2]
    refine wpS_draw6 nx8 (Nat.le_refl _) (show s35_d0.toList.map (stripO s35_d0) = s35_d0s by kernel_rfl) ?_
    unfold s35_d0s
    have hb' : decide (nx < nx8) = true := by simp; omega
    simp only [↓aA, ↓aB, ↓aC, ↓aD, ↓aE, ↓aF, ↓aG, ↓aH, aI, ↓aJ, ↓aK, aL, stepA, opA, convA, isCall, put?, ev, aM, aN, builtinA, callA, argEnv, wantedS, aO, aP, aQ, aR, aS, aT, aU, aV, aW, undef, z_none, aX, aY, aZ, bA, bB, bC, bD, bE, bF, bG, extractOp, bH, bI, bJ, bK, Nat.reduceLT, Nat.reduceEqDiff, Nat.reduceAdd, bL, bM, bN, bO, bP, ↓reduceIte, bQ, bR, reduceCtorEq, resA, resOf, bS, bT, bU, bV, bW, bX, bY, bZ, cA, cB, cC, cD, cE, cF, cG, cH, cI, cJ, cK, cL, maxA, minA, cM, cN, cO, cP, cQ, cR, cS, cT, cU, cV, cW, cX, ↓cY, ↓cZ, txS, dA, dB, dC, dD, dE, dF, dG, dH, dI, dJ, dK, dL, dM, isEff, dN, dO, dP, dQ, dR, dS, AV.belowB, dT, dU, ↓dV, ↓dW, dX, dY, dZ, eA, eB, eC, eD, eF, eG, eH, eI, eJ, eK, eL, eM, eN, eO, eP, eQ, goodAt_eq, ldLow, eR, eS, fa39_0, fa39_1, fa39_2, fa39_3, fa39_4, fa39_5, fa39_6, fa39_7, fa39_8, fa39_9, fa39_10, fa39_11, fa39_12, fa39_13, x_none, x5, x6, x7, x8, y5, y6, y7, y8, z5, z6, z7, z8, u5, u6, u7, u8, t5, t6, t7, t8, d1, d3, d5, rflag_cl, partsA, bsl4, e1, eqB_strA, below_strA, show nx < nx8 by omega, hb', d2.le, d4.le, d6.le, e4]
    simp only [↓aA, ↓aB, ↓aC, ↓aD, ↓aE, ↓aF, ↓aG, ↓aH, aI, ↓aJ, ↓aK, aL, stepA, opA, convA, isCall, put?, ev, aM, aN, builtinA, callA, argEnv, wantedS, aO, aP, aQ, aR, aS, aT, aU, aV, aW, undef, z_none, aX, aY, aZ, bA, bB, bC, bD, bE, bF, bG, extractOp, bH, bI, bJ, bK, Nat.reduceLT, Nat.reduceEqDiff, Nat.reduceAdd, bL, bM, bN, bO, bP, ↓reduceIte, bQ, bR, reduceCtorEq, resA, resOf, bS, bT, bU, bV, bW, bX, bY, bZ, cA, cB, cC, cD, cE, cF, cG, cH, cI, cJ, cK, cL, maxA, minA, cM, cN, cO, cP, cQ, cR, cS, cT, cU, cV, cW, cX, x_none, t9, t10, t11, t12, t13, partsA, bsi5, f1, f2, p1, ht]
    exact hF1.trans (((((((((hF2.toO (Nat.le_refl _)).trans a4).trans (k2.toO g4)).trans b3).trans c4).trans (hF11.toO g8)).trans e3).trans f4).toFr.trans p2)
  · have hd : decide r.told = false := by simpa using ht
    rw [hd] at t1
    simp only [↓aA, ↓aB, ↓aC, ↓aD, ↓aE, ↓aF, ↓aG, ↓aH, aI, ↓aJ, ↓aK, aL, stepA, opA, convA, isCall, put?, ev, aM, aN, builtinA, callA, argEnv, wantedS, aO, aP, aQ, aR, aS, aT, aU, aV, aW, undef, z_none, aX, aY, aZ, bA, bB, bC, bD, bE, bF, bG, extractOp, bH, bI, bJ, bK, Nat.reduceLT, Nat.reduceEqDiff, Nat.reduceAdd, bL, bM, bN, bO, bP, ↓reduceIte, bQ, bR, reduceCtorEq, resA, resOf, bS, bT, bU, bV, bW, bX, bY, bZ, cA, cB, cC, cD, cE, cF, cG, cH, cI, cJ, cK, cL, maxA, minA, cM, cN, cO, cP, cQ, cR, cS, cT, cU, cV, cW, cX, bx39, hla, x_none, t1, hnil, ht]
    exact hF0.trans t2
end Seat
end CI
namespace CI
open Go
namespace Seat
open Rcd
def entC (e : Ent) : List AV := strA e.pat :: .lit (.int .i64 e.mode) :: recC e.rcd
end Seat
end CI
namespace CI
open Go
namespace Seat
open Quo Rcd Spl
variable {H : Heap} {nx : Nat}
end Seat
end CI
set_option maxHeartbeats 1000000
namespace CI
open Go
namespace Seat
open Quo Rcd Spl
variable {H : Heap} {nx : Nat}
end Seat
end CI
