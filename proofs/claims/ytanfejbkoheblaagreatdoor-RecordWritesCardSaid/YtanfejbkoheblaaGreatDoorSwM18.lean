/- Parts of the proof: Rg Rh. -/
import Derived.Test.YtanfejbkoheblaaGreatDoorSwM3
import Derived.Test.YtanfejbkoheblaaGreatDoorSwRd
import Derived.Test.YtanfejbkoheblaaGreatDoorSwM16
set_option linter.unusedVariables false
set_option linter.unusedSimpArgs false
set_option maxRecDepth 10000
namespace CI
open Go
namespace Seat
open Quo Rcd Spl
variable {H : Heap} {nx : Nat}
theorem eqB_rec (r : Rec) : AV.eqB (.agg (recC r)) (.agg (recC r)) = true := by
  simp [recC, AV.eqB, AV.eqBs, strA, valEqB]
theorem belows_rec (n : Nat) (r : Rec) : AV.belowBs n (recC r) = true := by
  simp [recC, AV.belowB, AV.belowBs, strA]
theorem nil_strA : AV.lit (.string (ByteArray.mk #[])) = strA [] := rfl
theorem law_rw (w0 : World) (r : Rec) (ho : r.ok) (hfr : ∀ b, nx ≤ b → H.get b = none) : ∃ v H' nx', Cl cx 7 [.agg (recC r)] H nx = some (v, H', nx') ∧ v = .lit (.bool true) := by
  refine wpP7 _ _ _ _ (by simp) ?_
  unfold s7
  have F0 := Fr.put hfr (some (.cells (recC r) 39 false))
  have hb0 : (H.put nx (some (.cells (recC r) 39 false))).get nx = some (.cells (recC r) 39 false) := Tr.get_put_same _ _ _
  have hla0 := ld_all (t := 39) (by kernel_rfl) hb0
  obtain ⟨H1, nx1, g1, g2⟩ := great_cl (H := H.put nx (some (.cells (recC r) 39 false))) (nx := nx + 1) r F0.fr
  by_cases hg : r.x.length > 100 ∨ r.y.length > 100 ∨ r.z.length > 100
  · rw [show decide (r.x.length > 100 ∨ r.y.length > 100 ∨ r.z.length > 100) = true by simpa using hg] at g1
    simp only [↓aA, ↓aB, ↓aC, ↓aD, ↓aE, ↓aF, ↓aG, ↓aH, aI, ↓aJ, ↓aK, aL, stepA, opA, convA, isCall, put?, ev, aM, aN, builtinA, callA, argEnv, wantedS, aO, aP, aQ, aR, aS, aT, aU, aV, aW, undef, z_none, aX, aY, aZ, bA, bB, bC, bD, bE, bF, bG, extractOp, bH, bI, bJ, bK, Nat.reduceLT, Nat.reduceEqDiff, Nat.reduceAdd, bL, bM, bN, bO, bP, ↓reduceIte, bQ, bR, reduceCtorEq, resA, resOf, bS, bT, bU, bV, bW, bX, bY, bZ, cA, cB, cC, cD, cE, cF, cG, cH, cI, cJ, cK, cL, maxA, minA, cM, cN, cO, cP, cQ, cR, cS, cT, cU, cV, cW, cX, bx39, hla0, x_caltroplaw22_awake, x_none, g1]
  · rw [show decide (r.x.length > 100 ∨ r.y.length > 100 ∨ r.z.length > 100) = false by simpa using hg] at g1
    have hs : Short r := ⟨by omega, by omega, by omega⟩
    have hb1 : H1.get nx = some (.cells (recC r) 39 false) := (g2.old nx (Nat.lt_succ_self _)).trans hb0
    have hla1 := ld_all (t := 39) (by kernel_rfl) hb1
    obtain ⟨v2, H2, nx2, w1, rfl, w2⟩ := write_rec (H := H1) (nx := nx1) r ho hs g2.fr
    have l12 : nx < nx1 := by have := g2.le; omega
    have hb2 : H2.get nx = some (.cells (recC r) 39 false) := (w2.old nx l12).trans hb1
    have hla2 := ld_all (t := 39) (by kernel_rfl) hb2
    obtain ⟨H3, nx3, t1, t2⟩ := to_cl (H := H2) (nx := nx2) r w2.fr
    obtain ⟨H4, nx4, d1, d2⟩ := refTold_cl (H := H3) (nx := nx3) r t2.fr
    by_cases ht : r.told
    · rw [show decide r.told = true by simpa using ht] at d1
      rw [if_pos ht, if_pos ht] at w1
      have l24 : nx2 ≤ nx4 := by have := t2.le; have := d2.le; omega
      have l14 : nx1 ≤ nx2 := w2.le
      have hb4 : H4.get nx = some (.cells (recC r) 39 false) := ((t2.trans d2).old nx (by omega)).trans hb2
      have hll := line_len r ho
      obtain ⟨v5, H5, nx5, r1, rfl, r2⟩ := read_rec (H := H4) (nx := nx4) w0 (joi (lineW r)) (by omega) d2.fr
      rw [readR_line ho ht] at r1
      simp only [Option.getD_some, Option.isSome_some, if_true] at r1
      have hb5 : H5.get nx = some (.cells (recC r) 39 false) := (r2.old nx (by omega)).trans hb4
      have hst := st_all (H := H5.put nx5 (some (.cells (recC Rec.zero) 39 false))) (t := 39) (p := nx5) (vs := recC r) (by kernel_rfl) (Tr.get_put_same _ _ _) rfl rfl
      obtain ⟨X1, hX1⟩ : ∃ X, X = (H5.put nx5 (some (.cells (recC Rec.zero) 39 false))).put nx5 (some (.cells (recC r) 39 false)) := ⟨_, rfl⟩
      rw [← hX1] at hst
      have FX : Fr H5 nx5 X1 (nx5 + 1) := by rw [hX1]; exact Fr.put2 r2.fr _ _
      have l5 : nx4 ≤ nx5 := r2.le
      have hx1 : X1.get nx5 = some (.cells (recC r) 39 false) := by rw [hX1]; exact Tr.get_put_same _ _ _
      have ha1 : X1.get nx = some (.cells (recC r) 39 false) := (FX.old nx (by omega)).trans hb5
      obtain ⟨X2, m2, e1, e2⟩ := to_cl (H := X1) (nx := nx5 + 1) r FX.fr
      obtain ⟨v6, X3, m3, e3, rfl, e4⟩ := refwrite_cl (H := X2) (nx := m2) r ho hs e2.fr
      obtain ⟨X4, m4, e5, e6⟩ := rKind_cl (H := X3) (nx := m3) r.kind e4.fr
      obtain ⟨X5, m5, e7, e8⟩ := refKind_cl (H := X4) (nx := m4) r.kind e6.fr
      have k2 := e2.le
      have k3 := e4.le
      have k4 := e6.le
      have k5 := e8.le
      have ha2 := (e2.old nx (by omega)).trans ha1
      have ha3 := (e4.old nx (by omega)).trans ha2
      have ha4 := (e6.old nx (by omega)).trans ha3
      have ha5 := (e8.old nx (by omega)).trans ha4
      have hx2 := (e2.old nx5 (by omega)).trans hx1
      have hx3 := (e4.old nx5 (by omega)).trans hx2
      have hx4 := (e6.old nx5 (by omega)).trans hx3
      have hx5 := (e8.old nx5 (by omega)).trans hx4
      have q1 := ld_all (t := 39) (by kernel_rfl) ha1
      have q2 := ld_all (t := 39) (by kernel_rfl) ha2
      have q3 := ld_all (t := 39) (by kernel_rfl) ha3
      have q4 := ld_all (t := 39) (by kernel_rfl) ha4
      have q5 := ld_all (t := 39) (by kernel_rfl) ha5
      have y1 := ld_all (t := 39) (by kernel_rfl) hx1
      have y2 := ld_all (t := 39) (by kernel_rfl) hx2
      have y3 := ld_all (t := 39) (by kernel_rfl) hx3
      have y4 := ld_all (t := 39) (by kernel_rfl) hx4
      have y5 := ld_all (t := 39) (by kernel_rfl) hx5
      simp only [↓aA, ↓aB, ↓aC, ↓aD, ↓aE, ↓aF, ↓aG, ↓aH, aI, ↓aJ, ↓aK, aL, stepA, opA, convA, isCall, put?, ev, aM, aN, builtinA, callA, argEnv, wantedS, aO, aP, aQ, aR, aS, aT, aU, aV, aW, undef, z_none, aX, aY, aZ, bA, bB, bC, bD, bE, bF, bG, extractOp, bH, bI, bJ, bK, Nat.reduceLT, Nat.reduceEqDiff, Nat.reduceAdd, bL, bM, bN, bO, bP, ↓reduceIte, bQ, bR, reduceCtorEq, resA, resOf, bS, bT, bU, bV, bW, bX, bY, bZ, cA, cB, cC, cD, cE, cF, cG, cH, cI, cJ, cK, cL, maxA, minA, cM, cN, cO, cP, cQ, cR, cS, cT, cU, cV, cW, cX, bx39, hla0, x_caltroplaw22_awake, x_none, g1, hla1, w1, hla2, t1, d1, r1, al39, hst]
      refine wpS_draw6 (nx5 + 1) (Nat.le_refl _) (show s7_d0.toList.map (stripO s7_d0) = s7_d0s by kernel_rfl) ?_
      unfold s7_d0s
      simp only [↓aA, ↓aB, ↓aC, ↓aD, ↓aE, ↓aF, ↓aG, ↓aH, aI, ↓aJ, ↓aK, aL, stepA, opA, convA, isCall, put?, ev, aM, aN, builtinA, callA, argEnv, wantedS, aO, aP, aQ, aR, aS, aT, aU, aV, aW, undef, z_none, aX, aY, aZ, bA, bB, bC, bD, bE, bF, bG, extractOp, bH, bI, bJ, bK, Nat.reduceLT, Nat.reduceEqDiff, Nat.reduceAdd, bL, bM, bN, bO, bP, ↓reduceIte, bQ, bR, reduceCtorEq, resA, resOf, bS, bT, bU, bV, bW, bX, bY, bZ, cA, cB, cC, cD, cE, cF, cG, cH, cI, cJ, cK, cL, maxA, minA, cM, cN, cO, cP, cQ, cR, cS, cT, cU, cV, cW, cX, ↓cY, ↓cZ, txS, dA, dB, dC, dD, dE, dF, dG, dH, dI, dJ, dK, dL, dM, isEff, dN, dO, dP, dQ, dR, dS, AV.belowB, dT, dU, ↓dV, ↓dW, dX, dY, dZ, eA, eB, eC, eD, eF, eG, eH, eI, eJ, eK, eL, eM, eN, eO, eP, eQ, goodAt_eq, ldLow, eR, eS, fa39_2, rec_lds ha1, rec_lds ha2, rec_lds ha3, rec_lds ha4, rec_lds ha5, q1, q2, q3, q4, q5, y1, y2, y3, y4, y5, x_none, e1, e3, e5, e7, eqB_rec, belows_rec, eqB_strA, below_strA, str_eql, eq_rec, k2, k3, k4, k5, show nx < nx5 + 1 by omega, Nat.lt_succ_self]
      try simp only [↓aA, ↓aB, ↓aC, ↓aD, ↓aE, ↓aF, ↓aG, ↓aH, aI, ↓aJ, ↓aK, aL, stepA, opA, convA, isCall, put?, ev, aM, aN, builtinA, callA, argEnv, wantedS, aO, aP, aQ, aR, aS, aT, aU, aV, aW, undef, z_none, aX, aY, aZ, bA, bB, bC, bD, bE, bF, bG, extractOp, bH, bI, bJ, bK, Nat.reduceLT, Nat.reduceEqDiff, Nat.reduceAdd, bL, bM, bN, bO, bP, ↓reduceIte, bQ, bR, reduceCtorEq, resA, resOf, bS, bT, bU, bV, bW, bX, bY, bZ, cA, cB, cC, cD, cE, cF, cG, cH, cI, cJ, cK, cL, maxA, minA, cM, cN, cO, cP, cQ, cR, cS, cT, cU, cV, cW, cX]
    · rw [show decide r.told = false by simpa using ht] at d1
      rw [if_neg ht, if_neg ht] at w1
      simp only [↓aA, ↓aB, ↓aC, ↓aD, ↓aE, ↓aF, ↓aG, ↓aH, aI, ↓aJ, ↓aK, aL, stepA, opA, convA, isCall, put?, ev, aM, aN, builtinA, callA, argEnv, wantedS, aO, aP, aQ, aR, aS, aT, aU, aV, aW, undef, z_none, aX, aY, aZ, bA, bB, bC, bD, bE, bF, bG, extractOp, bH, bI, bJ, bK, Nat.reduceLT, Nat.reduceEqDiff, Nat.reduceAdd, bL, bM, bN, bO, bP, ↓reduceIte, bQ, bR, reduceCtorEq, resA, resOf, bS, bT, bU, bV, bW, bX, bY, bZ, cA, cB, cC, cD, cE, cF, cG, cH, cI, cJ, cK, cL, maxA, minA, cM, cN, cO, cP, cQ, cR, cS, cT, cU, cV, cW, cX, bx39, hla0, x_caltroplaw22_awake, x_none, g1, hla1, w1, hla2, t1, d1, nil_strA, str_eql]
end Seat
end CI
namespace CI
open Go
namespace Seat
open Quo Rcd Spl
variable {H : Heap} {nx : Nat}
end Seat
end CI
