/- Parts of the proof: Rg Rh. -/
import Derived.Test.YtanfejbkoheblaaGreatDoorSrM3
import Derived.Test.YtanfejbkoheblaaGreatDoorSrRd
import Derived.Test.YtanfejbkoheblaaGreatDoorSrM16
set_option linter.unusedVariables false
set_option linter.unusedSimpArgs false
set_option maxRecDepth 10000
namespace CI
open Go
namespace Seat
open Quo Rcd Spl
variable {H : Heap} {nx : Nat}
end Seat
end CI
namespace CI
open Go
namespace Seat
open Quo Rcd Spl
variable {H : Heap} {nx : Nat}
theorem joi_word {w : W} {ws : List W} (h : w ∈ ws) : w.length ≤ (joi ws).length := by
  have := le_sum h
  rw [joi_len]
  omega
theorem write_ge (s : W) : s.length ≤ (writeW s).length := by
  unfold writeW
  split
  · rename_i h; subst h; simp
  · exact flat_len s
theorem line_short (r : Rec) (h : (joi (lineW r)).length ≤ 100000) : Short r := by
  have hx := joi_word (w := writeW r.x) (ws := lineW r) (by simp [lineW])
  have hy := joi_word (w := writeW r.y) (ws := lineW r) (by simp [lineW])
  have hz := joi_word (w := writeW r.z) (ws := lineW r) (by simp [lineW])
  have := write_ge r.x
  have := write_ge r.y
  have := write_ge r.z
  exact ⟨by omega, by omega, by omega⟩
theorem law_rr (w0 : World) (l : W) (k : Int) (hfr : ∀ b, nx ≤ b → H.get b = none) : ∃ v H' nx', Cl cx 8 [strA l, .lit (.int .i64 k)] H nx = some (v, H', nx') ∧ v = .lit (.bool true) := by
  refine wpP8 _ _ _ _ (by simp) ?_
  unfold s8
  by_cases hl : ((l.length : Nat) : Int) > 400
  · simp only [↓aA, ↓aB, ↓aC, ↓aD, ↓aE, ↓aF, ↓aG, ↓aH, aI, ↓aJ, ↓aK, aL, stepA, opA, convA, isCall, put?, ev, aM, aN, builtinA, callA, argEnv, wantedS, aO, aP, aQ, aR, aS, aT, aU, aV, aW, undef, z_none, aX, aY, aZ, bA, bB, bC, bD, bE, bF, bG, extractOp, bH, bI, bJ, bK, Nat.reduceLT, Nat.reduceEqDiff, Nat.reduceAdd, bL, bM, bN, bO, bP, ↓reduceIte, bQ, bR, reduceCtorEq, resA, resOf, bS, bT, bU, bV, bW, bX, bY, bZ, cA, cB, cC, cD, cE, cF, cG, cH, cI, cJ, cK, cL, maxA, minA, cM, cN, cO, cP, cQ, cR, cS, cT, cU, cV, cW, cX, str_len, hl, x_caltroplaw22_awake]
  · have hl2 : l.length ≤ 400 := by omega
    obtain ⟨v1, H1, nx1, r1, rfl, r2⟩ := read_rec (H := H) (nx := nx) w0 l (by omega) hfr
    obtain ⟨r, hr⟩ : ∃ r, r = (readR l).getD Rec.zero := ⟨_, rfl⟩
    rw [← hr] at r1
    have hst := st_all (H := H1.put nx1 (some (.cells (recC Rec.zero) 39 false))) (t := 39) (p := nx1) (vs := recC r) (by kernel_rfl) (Tr.get_put_same _ _ _) rfl rfl
    obtain ⟨X1, hX1⟩ : ∃ X, X = (H1.put nx1 (some (.cells (recC Rec.zero) 39 false))).put nx1 (some (.cells (recC r) 39 false)) := ⟨_, rfl⟩
    rw [← hX1] at hst
    have FX : Fr H1 nx1 X1 (nx1 + 1) := by rw [hX1]; exact Fr.put2 r2.fr _ _
    have hx1 : X1.get nx1 = some (.cells (recC r) 39 false) := by rw [hX1]; exact Tr.get_put_same _ _ _
    have q1 := ld_all (t := 39) (by kernel_rfl) hx1
    cases h : readR l with
    | none =>
      rw [h] at r1 hr
      simp only [Option.getD_none] at hr
      simp only [Option.isSome_none, Bool.false_eq_true, if_false] at r1
      obtain ⟨X2, m2, e1, e2⟩ := rKind_cl (H := X1) (nx := nx1 + 1) k FX.fr
      obtain ⟨X3, m3, e3, e4⟩ := refKind_cl (H := X2) (nx := m2) k e2.fr
      have z4 : ((4 : Int) = 0) = False := by simp
      subst hr
      simp only [↓aA, ↓aB, ↓aC, ↓aD, ↓aE, ↓aF, ↓aG, ↓aH, aI, ↓aJ, ↓aK, aL, stepA, opA, convA, isCall, put?, ev, aM, aN, builtinA, callA, argEnv, wantedS, aO, aP, aQ, aR, aS, aT, aU, aV, aW, undef, z_none, aX, aY, aZ, bA, bB, bC, bD, bE, bF, bG, extractOp, bH, bI, bJ, bK, Nat.reduceLT, Nat.reduceEqDiff, Nat.reduceAdd, bL, bM, bN, bO, bP, ↓reduceIte, bQ, bR, reduceCtorEq, resA, resOf, bS, bT, bU, bV, bW, bX, bY, bZ, cA, cB, cC, cD, cE, cF, cG, cH, cI, cJ, cK, cL, maxA, minA, cM, cN, cO, cP, cQ, cR, cS, cT, cU, cV, cW, cX, str_len, hl, x_caltroplaw22_awake, x_none, r1, al39, hst, q1, partsA, bd39, eq_rec, e1, e3, str_eql, z4]
      try rfl
    | some r' =>
      rw [h] at r1 hr
      simp only [Option.getD_some] at hr
      subst hr
      obtain ⟨hj, ht, ho⟩ := readR_back h
      have hs : Short r := line_short r (by rw [hj]; omega)
      simp only [Option.isSome_some, if_true] at r1
      obtain ⟨X2, m2, e1, e2⟩ := to_cl (H := X1) (nx := nx1 + 1) r FX.fr
      obtain ⟨X3, m3, e3, e4⟩ := refTold_cl (H := X2) (nx := m2) r e2.fr
      rw [show decide r.told = true by simpa using ht] at e3
      have hx3 := (e4.old nx1 (by have := e2.le; omega)).trans ((e2.old nx1 (by omega)).trans hx1)
      have q3 := ld_all (t := 39) (by kernel_rfl) hx3
      obtain ⟨X4, m4, e5, e6⟩ := to_cl (H := X3) (nx := m3) r e4.fr
      obtain ⟨v5, X5, m5, e7, rfl, e8⟩ := refwrite_cl (H := X4) (nx := m4) r ho hs e6.fr
      rw [hj] at e7
      obtain ⟨X6, m6, f1, f2⟩ := rKind_cl (H := X5) (nx := m5) k e8.fr
      obtain ⟨X7, m7, f3, f4⟩ := refKind_cl (H := X6) (nx := m6) k f2.fr
      simp only [↓aA, ↓aB, ↓aC, ↓aD, ↓aE, ↓aF, ↓aG, ↓aH, aI, ↓aJ, ↓aK, aL, stepA, opA, convA, isCall, put?, ev, aM, aN, builtinA, callA, argEnv, wantedS, aO, aP, aQ, aR, aS, aT, aU, aV, aW, undef, z_none, aX, aY, aZ, bA, bB, bC, bD, bE, bF, bG, extractOp, bH, bI, bJ, bK, Nat.reduceLT, Nat.reduceEqDiff, Nat.reduceAdd, bL, bM, bN, bO, bP, ↓reduceIte, bQ, bR, reduceCtorEq, resA, resOf, bS, bT, bU, bV, bW, bX, bY, bZ, cA, cB, cC, cD, cE, cF, cG, cH, cI, cJ, cK, cL, maxA, minA, cM, cN, cO, cP, cQ, cR, cS, cT, cU, cV, cW, cX, str_len, hl, x_caltroplaw22_awake, x_none, r1, al39, hst, q1, e1, e3, q3, e5, e7, f1, f3, str_eql]
      try rfl
end Seat
end CI
