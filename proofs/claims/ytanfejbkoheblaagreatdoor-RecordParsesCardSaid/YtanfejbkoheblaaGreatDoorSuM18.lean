/- Parts of the proof: Ri Rk Rm Rn Ro Rg Rp Rh Rq. -/
import Derived.Test.YtanfejbkoheblaaGreatDoorSuM3
import Derived.Test.YtanfejbkoheblaaGreatDoorSuRd
import Derived.Test.YtanfejbkoheblaaGreatDoorSuM16
set_option linter.unusedVariables false
set_option linter.unusedSimpArgs false
set_option maxRecDepth 10000
namespace CI
open Go
namespace Seat
open Quo Rcd Spl
variable {H : Heap} {nx : Nat}
def cutW (t : W) : W × W × Bool := if Lib.indexByte t 10 = -1 then (t, [], false) else (t.take (Lib.indexByte t 10).toNat, t.drop ((Lib.indexByte t 10).toNat + 1), true)
theorem six_cl (w0 : World) (l : List UInt8) (c : UInt8) : Cl cx 210 [strA l, strA [c]] H nx = some (.lit (.int .i64 (Lib.indexByte l c)), H, nx) := by
  have h60 : Cl cx 280 [strA l, byteA c] H nx = some (.lit (.int .i64 (Lib.indexByte l c)), H, nx) := by
    refine wp280 _ _ _ _ (by simp) ?_
    unfold s280
    simp only [↓aD, ↓aE, ↓aF, ↓aG, ↓aH, ↓aI, ↓aJ, ↓aK, aL, ↓aM, ↓aN, aO, stepA, opA, convA, isCall, put?, ev, aA, aQ, builtinA, callA, argEnv, wantedS, aR, aS, aT, aU, aV, aW, aX, aY, undef, z_none, bA, bB, bC, bD, bH, bI, extractOp, bK, bL, bM, bN, Nat.reduceLT, Nat.reduceEqDiff, Nat.reduceAdd, bR, bS, ↓reduceIte, reduceCtorEq, resA, resOf, cB, maxA, minA, x354 w0 l c]
  refine wp210 _ _ _ _ (by simp) ?_
  unfold s210
  have e1 : (((1 : Nat) : Int) = 0) = False := by simp
  have e2 : (((1 : Nat) : Int) = 1) = True := by simp
  have e3 : binOpA cx.P cx.T .eql 9 (.tmp 20) (.tmp 21) (strA [c]) (strA l) = some (.lit (.bool (decide ([c] = l)))) := str_eql _ _ [c] l
  by_cases h : [c] = l
  · subst h
    have e4 : Lib.indexByte [c] c = 0 := by simp [Lib.indexByte]
    simp only [↓aD, ↓aE, ↓aF, ↓aG, ↓aH, ↓aI, ↓aJ, ↓aK, aL, ↓aM, ↓aN, aO, stepA, opA, convA, isCall, put?, ev, aA, aQ, builtinA, callA, argEnv, wantedS, aR, aS, aT, aU, aV, aW, aX, aY, undef, z_none, bA, bB, bC, bD, bH, bI, extractOp, bK, bL, bM, bN, Nat.reduceLT, Nat.reduceEqDiff, Nat.reduceAdd, bR, bS, ↓reduceIte, reduceCtorEq, resA, resOf, cB, maxA, minA, sep_len c, sep_ix c, e1, e2, e3, e4, x_none, h60]
  · simp only [↓aD, ↓aE, ↓aF, ↓aG, ↓aH, ↓aI, ↓aJ, ↓aK, aL, ↓aM, ↓aN, aO, stepA, opA, convA, isCall, put?, ev, aA, aQ, builtinA, callA, argEnv, wantedS, aR, aS, aT, aU, aV, aW, aX, aY, undef, z_none, bA, bB, bC, bD, bH, bI, extractOp, bK, bL, bM, bN, Nat.reduceLT, Nat.reduceEqDiff, Nat.reduceAdd, bR, bS, ↓reduceIte, reduceCtorEq, resA, resOf, cB, maxA, minA, sep_len c, sep_ix c, e1, e2, e3, h, x_none, h60]
theorem cut_cl (w0 : World) (t : W) (ht : t.length ≤ 100000000) : Cl cx 87 [strA t, strA [10]] H nx = some (.tuple [strA (cutW t).1, strA (cutW t).2.1, .lit (.bool (cutW t).2.2)], H, nx) := by
  have h153 : Cl cx 153 [strA t, strA [10]] H nx = some (.tuple [strA (cutW t).1, strA (cutW t).2.1, .lit (.bool (cutW t).2.2)], H, nx) := by
    refine wp153 _ _ _ _ (by simp) ?_
    unfold s153
    rcases cut_lines (t := t) with ⟨h1, _⟩ | ⟨m, h1, h2, _⟩
    · have hc : cutW t = (t, [], false) := by unfold cutW; rw [if_pos h1]
      have hi := six_cl (H := H) (nx := nx) w0 t 10
      rw [h1] at hi
      have hge : ((-1 : Int) ≥ 0) = False := by simp
      rw [hc]
      simp only [↓aD, ↓aE, ↓aF, ↓aG, ↓aH, ↓aI, ↓aJ, ↓aK, aL, ↓aM, ↓aN, aO, stepA, opA, convA, isCall, put?, ev, aA, aQ, builtinA, callA, argEnv, wantedS, aR, aS, aT, aU, aV, aW, aX, aY, undef, z_none, bA, bB, bC, bD, bH, bI, extractOp, bK, bL, bM, bN, Nat.reduceLT, Nat.reduceEqDiff, Nat.reduceAdd, bR, bS, ↓reduceIte, reduceCtorEq, resA, resOf, cB, maxA, minA, x_none, hi, hge]
      rfl
    · have hc : cutW t = (t.take m, t.drop (m + 1), true) := by unfold cutW; rw [if_neg (by omega), h1, Int.toNat_natCast]
      have hi := six_cl (H := H) (nx := nx) w0 t 10
      rw [h1] at hi
      have hge : (((m : Nat) : Int) ≥ 0) = True := by simp
      have hw : IntKind.i64.wrap (((m : Nat) : Int) + ((1 : Nat) : Int)) = ((m + 1 : Nat) : Int) := wrapS (i := m) (by omega)
      rw [hc]
      simp only [↓aD, ↓aE, ↓aF, ↓aG, ↓aH, ↓aI, ↓aJ, ↓aK, aL, ↓aM, ↓aN, aO, stepA, opA, convA, isCall, put?, ev, aA, aQ, builtinA, callA, argEnv, wantedS, aR, aS, aT, aU, aV, aW, aX, aY, undef, z_none, bA, bB, bC, bD, bH, bI, extractOp, bK, bL, bM, bN, Nat.reduceLT, Nat.reduceEqDiff, Nat.reduceAdd, bR, bS, ↓reduceIte, reduceCtorEq, resA, resOf, cB, maxA, minA, x_none, hi, hge]
      refine wpS_draw6 nx (Nat.le_refl _) (show s153_d0.toList.map (stripO s153_d0) = s153_d0s by kernel_rfl) ?_
      unfold s153_d0s
      simp only [↓aD, ↓aE, ↓aF, ↓aG, ↓aH, ↓aI, ↓aJ, ↓aK, aL, ↓aM, ↓aN, aO, stepA, opA, convA, isCall, put?, ev, aA, aQ, builtinA, callA, argEnv, wantedS, aR, aS, aT, aU, aV, aW, aX, aY, undef, z_none, bA, bB, bC, bD, bH, bI, extractOp, bK, bL, bM, bN, Nat.reduceLT, Nat.reduceEqDiff, Nat.reduceAdd, bR, bS, ↓reduceIte, reduceCtorEq, resA, resOf, cB, maxA, minA, ↓dB, ↓dC, txS, dD, dE, dF, dG, dH, dI, dJ, dK, dL, dM, dN, aB, isEff, dV, AV.belowB, ↓dY, ↓dZ, eA, eB, eC, eD, eF, eG, eH, eI, eJ, eK, eL, eM, eN, eO, eP, eQ, eS, eT, eU, goodAt_eq, ldLow, aC, str_to t m (by omega), sep_len 10, hw, str_from t (m + 1) (by omega)]
      try simp only [↓aD, ↓aE, ↓aF, ↓aG, ↓aH, ↓aI, ↓aJ, ↓aK, aL, ↓aM, ↓aN, aO, stepA, opA, convA, isCall, put?, ev, aA, aQ, builtinA, callA, argEnv, wantedS, aR, aS, aT, aU, aV, aW, aX, aY, undef, z_none, bA, bB, bC, bD, bH, bI, extractOp, bK, bL, bM, bN, Nat.reduceLT, Nat.reduceEqDiff, Nat.reduceAdd, bR, bS, ↓reduceIte, reduceCtorEq, resA, resOf, cB, maxA, minA]
      try trivial
  refine wp87 _ _ _ _ (by simp) ?_
  unfold s87
  simp only [↓aD, ↓aE, ↓aF, ↓aG, ↓aH, ↓aI, ↓aJ, ↓aK, aL, ↓aM, ↓aN, aO, stepA, opA, convA, isCall, put?, ev, aA, aQ, builtinA, callA, argEnv, wantedS, aR, aS, aT, aU, aV, aW, aX, aY, undef, z_none, bA, bB, bC, bD, bH, bI, extractOp, bK, bL, bM, bN, Nat.reduceLT, Nat.reduceEqDiff, Nat.reduceAdd, bR, bS, ↓reduceIte, reduceCtorEq, resA, resOf, cB, maxA, minA, x_none, h153]
theorem fa150_0 (p o : Nat) : fieldAddrOp cx.T 150 (.ptr p o) 0 = some (.ptr p o) := by kernel_rfl
theorem fa150_1 (p o : Nat) : fieldAddrOp cx.T 150 (.ptr p o) 1 = some (.ptr p (o + 2)) := by kernel_rfl
theorem fa150_2 (p o : Nat) : fieldAddrOp cx.T 150 (.ptr p o) 2 = some (.ptr p (o + 3)) := by kernel_rfl
def Rdr (H : Heap) (p : Nat) (s b : AV) (rest : W) (n : Nat) : Prop := H.get p = some (.cells [s, b, strA rest, .lit (.int .i64 n)] 150 false)
theorem cutW_len (t : W) : (cutW t).1.length ≤ t.length ∧ (cutW t).2.1.length ≤ t.length := by
  unfold cutW
  split
  · simp
  · simp only [List.length_take, List.length_drop]; omega
theorem lit10 : AV.lit (.string (ByteArray.mk #[10])) = strA [10] := rfl
theorem take_cl (w0 : World) {p : Nat} {s b : AV} {rest : W} {n : Nat} (h : Rdr H p s b rest n) (hr : rest.length ≤ 100000000) (hn : n ≤ 1000000000) :
    ∃ H', Cl cx 154 [.ptr p 0] H nx = some (.tuple [strA (cutW rest).1, .lit (.bool (cutW rest).2.2)], H', nx) ∧ Rdr H' p s b (cutW rest).2.1 (n + 1) ∧ (∀ c, c ≠ p → H'.get c = H.get c) := by
  unfold Rdr at h
  have l3 : loadOp cx.T H 3 (.ptr p 3) = some (.lit (.int .i64 n)) := ld_at (by kernel_rfl) h rfl
  have hw : IntKind.i64.wrap (((n : Nat) : Int) + 1) = ((n + 1 : Nat) : Int) := wrapS (i := n) (by omega)
  have s3 := st_at (t := 3) (v := .lit (.int .i64 ((n + 1 : Nat) : Int))) (by kernel_rfl) h (o := 3) (by simp) rfl rfl
  obtain ⟨H1, hH1⟩ : ∃ X, X = H.put p (some (.cells ([s, b, strA rest, .lit (.int .i64 n)].set 3 (.lit (.int .i64 ((n + 1 : Nat) : Int)))) 150 false)) := ⟨_, rfl⟩
  rw [← hH1] at s3
  have h1 : H1.get p = _ := (congrArg (fun X => Tr.get X p) hH1).trans (Tr.get_put_same _ _ _)
  have l2 : loadOp cx.T H1 9 (.ptr p 2) = some (strA rest) := ld_at (by kernel_rfl) h1 rfl
  have s2 := st_at (t := 9) (v := strA (cutW rest).2.1) (by kernel_rfl) h1 (o := 2) (by simp) rfl rfl
  refine ⟨H1.put p (some (.cells ([s, b, strA rest, .lit (.int .i64 ((n + 1 : Nat) : Int))].set 2 (strA (cutW rest).2.1)) 150 false)), ?_, Tr.get_put_same _ _ _, fun c hc => ?_⟩
  rotate_left
  · rw [Tr.get_put_ne _ _ _ _ hc, hH1, Tr.get_put_ne _ _ _ _ hc]
  · refine wp154 _ _ _ _ (by simp) ?_
    unfold s154
    simp only [↓aD, ↓aE, ↓aF, ↓aG, ↓aH, ↓aI, ↓aJ, ↓aK, aL, ↓aM, ↓aN, aO, stepA, opA, convA, isCall, put?, ev, aA, aQ, builtinA, callA, argEnv, wantedS, aR, aS, aT, aU, aV, aW, aX, aY, undef, z_none, bA, bB, bC, bD, bH, bI, extractOp, bK, bL, bM, bN, Nat.reduceLT, Nat.reduceEqDiff, Nat.reduceAdd, bR, bS, ↓reduceIte, reduceCtorEq, resA, resOf, cB, maxA, minA, x_none, nc_ptr, fa150_1, fa150_2, l3, hw, s3, l2, lit10, cut_cl w0 rest hr, s2]
    try rfl
end Seat
end CI
set_option maxHeartbeats 1000000
namespace CI
open Go
namespace Seat
open Quo Rcd Spl
variable {H : Heap} {nx : Nat}
def entR (rest : W) (n : Nat) : Option Ent × W × Nat :=
  if (cutW rest).2.2 = false then (none, (cutW rest).2.1, n + 1) else
  match headQ (cutW rest).1 with
  | none => (none, (cutW rest).2.1, n + 1)
  | some (m, p) =>
    if (cutW (cutW rest).2.1).2.2 = false then (none, (cutW (cutW rest).2.1).2.1, n + 2) else
    match readR (cutW (cutW rest).2.1).1 with
    | none => (none, (cutW (cutW rest).2.1).2.1, n + 2)
    | some rc => (some ⟨p, m, rc⟩, (cutW (cutW rest).2.1).2.1, n + 2)
def Ent.zero : Ent := ⟨[], 0, Rec.zero⟩
theorem al75 : allocOp cx.T H nx 75 = some (.ptr nx 0, H.put nx (some (.cells (entC Ent.zero) 75 false)), nx + 1) := by kernel_rfl
theorem bde0 : buildOp cx.T 75 [] = some (.agg (entC Ent.zero)) := by kernel_rfl
theorem bde2 (m : Int) (p : W) : buildOp cx.T 75 [(1, .lit (.int .i64 m)), (0, strA p)] = some (.agg (entC ⟨p, m, Rec.zero⟩)) := by kernel_rfl
theorem fa75_0 (p o : Nat) : fieldAddrOp cx.T 75 (.ptr p o) 0 = some (.ptr p o) := by kernel_rfl
theorem fa75_1 (p o : Nat) : fieldAddrOp cx.T 75 (.ptr p o) 1 = some (.ptr p (o + 1)) := by kernel_rfl
theorem fa75_2 (p o : Nat) : fieldAddrOp cx.T 75 (.ptr p o) 2 = some (.ptr p (o + 2)) := by kernel_rfl
theorem st_off {t : TypeId} {p o : Nat} {cs vs : List AV} {tb : TypeId} (ht : (cx.T.get t).map (·.size) = some vs.length) (hp : H.get p = some (.cells cs tb false)) (hl : o + vs.length ≤ cs.length) (h1 : vs.all one = true) :
    storeOp cx.T H t (.ptr p o) (.agg vs) = some (H.put p (some (.cells (overA cs o vs) tb false))) := by
  unfold storeOp
  simp only [Option.map_eq_some_iff] at ht
  obtain ⟨i, e1, e2⟩ := ht
  simp only [e1, hp, cellsOf, e2]
  rw [if_pos ⟨trivial, hl, h1⟩]
theorem Ws.rdr {lim p n : Nat} {rest : W} {q : Q} (h : Ws H lim p [strA rest, .lit (.int .i64 n)] 150 q) : ∃ s b, Rdr H p s b rest n := by
  obtain ⟨_, b, o, all, h1, _⟩ := h
  exact ⟨_, _, h1⟩
theorem right_cl (m : Int) : Cl cx 91 [.lit (.int .i64 m)] H nx = some (.lit (.bool (decide (right m))), H, nx) := by
  by_cases h0 : m ≥ 0
  · have e : decide (right m) = decide (m ≤ 3) := by rw [decide_eq_decide]; show (0 ≤ m ∧ m ≤ 3) ↔ _; omega
    rw [e]
    refine wp91 _ _ _ _ (by simp) ?_
    unfold s91
    simp only [↓aD, ↓aE, ↓aF, ↓aG, ↓aH, ↓aI, ↓aJ, ↓aK, aL, ↓aM, ↓aN, aO, stepA, opA, convA, isCall, put?, ev, aA, aQ, builtinA, callA, argEnv, wantedS, aR, aS, aT, aU, aV, aW, aX, aY, undef, z_none, bA, bB, bC, bD, bH, bI, extractOp, bK, bL, bM, bN, Nat.reduceLT, Nat.reduceEqDiff, Nat.reduceAdd, bR, bS, ↓reduceIte, reduceCtorEq, resA, resOf, cB, maxA, minA, h0]
  · have e : decide (right m) = false := by rw [decide_eq_false_iff_not]; show ¬ (0 ≤ m ∧ m ≤ 3); omega
    rw [e]
    refine wp91 _ _ _ _ (by simp) ?_
    unfold s91
    simp only [↓aD, ↓aE, ↓aF, ↓aG, ↓aH, ↓aI, ↓aJ, ↓aK, aL, ↓aM, ↓aN, aO, stepA, opA, convA, isCall, put?, ev, aA, aQ, builtinA, callA, argEnv, wantedS, aR, aS, aT, aU, aV, aW, aX, aY, undef, z_none, bA, bB, bC, bD, bH, bI, extractOp, bK, bL, bM, bN, Nat.reduceLT, Nat.reduceEqDiff, Nat.reduceAdd, bR, bS, ↓reduceIte, reduceCtorEq, resA, resOf, cB, maxA, minA, h0]
theorem entry_cl (w0 : World) {p : Nat} {s b : AV} {rest : W} {n : Nat} (h : Rdr H p s b rest n) (hp : p < nx) (hr : rest.length ≤ 100000) (hn : n ≤ 1000000) (hfr : ∀ b, nx ≤ b → H.get b = none) :
    ∃ v H' nx', Cl cx 93 [.ptr p 0] H nx = some (v, H', nx') ∧ ∃ e s' b', v = .tuple [.agg (entC e), .lit (.bool (entR rest n).1.isSome)] ∧ (∀ e', (entR rest n).1 = some e' → e = e') ∧
      Rdr H' p s' b' (entR rest n).2.1 (entR rest n).2.2 ∧ FrP p H nx H' nx' := by
  refine wpP93 _ _ _ _ (by simp) ?_
  unfold s93
  have F0 := Fr.put hfr (some (.cells (entC Ent.zero) 75 false))
  obtain ⟨H0, hH0⟩ : ∃ X, X = H.put nx (some (.cells (entC Ent.zero) 75 false)) := ⟨_, rfl⟩
  rw [← hH0] at F0
  have hal : allocOp cx.T H nx 75 = some (.ptr nx 0, H0, nx + 1) := by rw [hH0]; exact al75
  have z0 : H0.get nx = some (.cells (entC Ent.zero) 75 false) := by rw [hH0]; exact Tr.get_put_same _ _ _
  have h0 : Rdr H0 p s b rest n := (F0.old p hp).trans h
  obtain ⟨H1, t1, t2, t3⟩ := take_cl (nx := nx + 1) w0 h0 (by omega) (by omega)
  have z1 : H1.get nx = _ := (t3 nx (by omega)).trans z0
  have fr1 : ∀ b, nx + 1 ≤ b → H1.get b = none := fun b hb => by rw [t3 b (by omega)]; exact F0.fr b hb
  have cl := cutW_len rest
  obtain ⟨l1, hl1⟩ : ∃ l, l = (cutW rest).1 := ⟨_, rfl⟩
  obtain ⟨r1, hr1⟩ : ∃ r, r = (cutW rest).2.1 := ⟨_, rfl⟩
  rw [← hl1, ← hr1] at cl
  rw [← hl1] at t1
  rw [← hr1] at t2
  have fin : ∀ (K : Heap) (m : Nat) (ob : Option AObj), nx + 1 ≤ m → (∀ c, c < nx + 1 → c ≠ p → K.get c = H1.get c) → (∀ b, m ≤ b → K.get b = none) → FrP p H nx (K.put nx ob) m := fun K m ob hm ho hf =>
    ⟨by omega, fun c hc hcp => by rw [Tr.get_put_ne _ _ _ _ (by omega), ho c (by omega) hcp, t3 c hcp, F0.old c hc], fun _ b hb => by rw [Tr.get_put_ne _ _ _ _ (by omega)]; exact hf b hb⟩
  by_cases he1 : (cutW rest).2.2 = false
  · have hent : entR rest n = (none, r1, n + 1) := by unfold entR; rw [if_pos he1, ← hr1]
    rw [hent]
    rw [he1] at t1
    have sz := st_all (t := 75) (vs := entC Ent.zero) (by kernel_rfl) z1 rfl rfl
    have lz := ld_all (H := H1.put nx (some (.cells (entC Ent.zero) 75 false))) (t := 75) (cs := entC Ent.zero) (by kernel_rfl) (Tr.get_put_same _ _ _)
    simp only [↓aD, ↓aE, ↓aF, ↓aG, ↓aH, ↓aI, ↓aJ, ↓aK, aL, ↓aM, ↓aN, aO, stepA, opA, convA, isCall, put?, ev, aA, aQ, builtinA, callA, argEnv, wantedS, aR, aS, aT, aU, aV, aW, aX, aY, undef, z_none, bA, bB, bC, bD, bH, bI, extractOp, bK, bL, bM, bN, Nat.reduceLT, Nat.reduceEqDiff, Nat.reduceAdd, bR, bS, ↓reduceIte, reduceCtorEq, resA, resOf, cB, maxA, minA, x_none, hal, t1, partsA, bde0, sz, lz, Option.bind_some]
    refine ⟨Ent.zero, s, b, rfl, fun e' h => h.elim, ?_, fin H1 (nx + 1) _ (Nat.le_refl _) (fun c _ _ => rfl) fr1⟩
    unfold Rdr
    rw [Tr.get_put_ne _ _ _ _ (by omega)]
    exact t2
  · have he1' : (cutW rest).2.2 = true := by simpa using he1
    rw [he1'] at t1
    obtain ⟨H2, a1, a2, a3⟩ := split_cl (H := H1) (nx := nx + 1) w0 l1 (by omega)
    have fr2 : ∀ b, nx + 2 ≤ b → H2.get b = none := fun b hb => by rw [a3 b (by omega)]; exact fr1 b (by omega)
    have p2 : H2.get p = _ := (a3 p (by omega)).trans t2
    have sw := st_off (t := 138) (o := 0) (vs := [.slice (nx + 1) 0 (spl l1).length (some (spl l1).length) 1, .lit (.bool false)]) (by kernel_rfl) p2 (by simp) rfl
    obtain ⟨H3, hH3⟩ : ∃ X, X = H2.put p (some (.cells (overA [s, b, strA r1, .lit (.int .i64 ((n + 1 : Nat) : Int))] 0 [.slice (nx + 1) 0 (spl l1).length (some (spl l1).length) 1, .lit (.bool false)]) 150 false)) := ⟨_, rfl⟩
    rw [← hH3] at sw
    have fr3 : ∀ b, nx + 2 ≤ b → H3.get b = none := fun b hb => by rw [hH3, Tr.get_put_ne _ _ _ _ (by omega)]; exact fr2 b hb
    have w3 : Ws H3 (nx + 2) p [strA r1, .lit (.int .i64 ((n + 1 : Nat) : Int))] 150 (spl l1, false) := by
      refine ⟨by omega, nx + 1, 0, spl l1, ?_, by omega, by omega, ?_, fun _ => rfl⟩
      · rw [hH3]; exact Tr.get_put_same _ _ _
      · rw [hH3, Tr.get_put_ne _ _ _ _ (by omega)]; exact a2
    have o3 : ∀ c, c < nx + 1 → c ≠ p → H3.get c = H1.get c := fun c hc hcp => by rw [hH3, Tr.get_put_ne _ _ _ _ hcp, a3 c (by omega)]
    have s3 : Sh (spl l1, false) := fun w hw => by have := spl_short l1 w hw; omega
    obtain ⟨H4, b1, b2, b3⟩ := is_cl (nx := nx + 2) w3 (Nat.le_refl _) wPattern
    obtain ⟨H5, m5, c1, c2, c3⟩ := number_cl (nx := nx + 2) b2 (Nat.le_refl _) (s3.is wPattern) (b3.fr fr3)
    have g5 := c3.le
    obtain ⟨H6, m6, d1, d2, d3⟩ := bytes_cl (nx := m5) c2 (by omega) (s3.is wPattern).num (c3.fr (b3.fr fr3))
    have g6 := d3.le
    have P6 := (b3.trans c3).trans d3
    have fr6 := P6.fr fr3
    obtain ⟨mo, hmo⟩ : ∃ m, m = (numQ (isQ wPattern (spl l1, false))).1 := ⟨_, rfl⟩
    obtain ⟨pa, hpa⟩ : ∃ m, m = (bytesQ (numQ (isQ wPattern (spl l1, false))).2).1 := ⟨_, rfl⟩
    obtain ⟨q6, hq6⟩ : ∃ m, m = (bytesQ (numQ (isQ wPattern (spl l1, false))).2).2 := ⟨_, rfl⟩
    rw [← hmo] at c1
    rw [← hpa] at d1
    rw [← hq6] at d2
    obtain ⟨H7, hH7⟩ : ∃ X, X = (H6.put m6 (some (.cells (entC Ent.zero) 75 false))).put m6 (some (.cells (entC ⟨pa, mo, Rec.zero⟩) 75 false)) := ⟨_, rfl⟩
    have hs7 := st_all (H := H6.put m6 (some (.cells (entC Ent.zero) 75 false))) (t := 75) (vs := entC ⟨pa, mo, Rec.zero⟩) (by kernel_rfl) (Tr.get_put_same _ _ _) rfl rfl
    rw [← hH7] at hs7
    have F7 : Fr H6 m6 H7 (m6 + 1) := by rw [hH7]; exact Fr.put2 fr6 _ _
    have w7 := d2.mono (H' := H7) (fun c hc => F7.old c (by omega))
    have e7 : H7.get m6 = some (.cells (entC ⟨pa, mo, Rec.zero⟩) 75 false) := by rw [hH7]; exact Tr.get_put_same _ _ _
    have lm7 : loadOp cx.T H7 3 (.ptr m6 1) = some (.lit (.int .i64 mo)) := ld_at (by kernel_rfl) e7 rfl
    have dn := done_cl (nx := m6 + 1) w7
    have o7 : ∀ c, c < nx + 1 → c ≠ p → H7.get c = H1.get c := fun c hc hcp => by rw [F7.old c (by omega), P6.old c (by omega) hcp, o3 c hc hcp]
    have z7 : H7.get nx = _ := (o7 nx (by omega) (by omega)).trans z1
    obtain ⟨s7, b7, rd7⟩ := w7.rdr
    have hq : headQ l1 = if doneQ q6 = true ∧ right mo then some (mo, pa) else none := by unfold headQ; rw [hq6, hmo, hpa]
    by_cases hh : doneQ q6 = true ∧ right mo
    · rw [if_pos hh] at hq
      have hrt : decide (right mo) = true := by simpa using hh.2
      have rt := right_cl (H := H7) (nx := m6 + 1) mo
      rw [hrt] at rt
      rw [hh.1] at dn
      obtain ⟨H8, t4, t5, t6⟩ := take_cl (nx := m6 + 1) w0 rd7 (by omega) (by omega)
      have fr8 : ∀ b, m6 + 1 ≤ b → H8.get b = none := fun b hb => by rw [t6 b (by omega)]; exact F7.fr b hb
      have z8 : H8.get nx = _ := (t6 nx (by omega)).trans z7
      have e8 : H8.get m6 = _ := (t6 m6 (by omega)).trans e7
      have cl2 := cutW_len r1
      by_cases he2 : (cutW r1).2.2 = false
      · have hent : entR rest n = (none, (cutW r1).2.1, n + 2) := by
          unfold entR
          rw [if_neg he1, ← hl1, hq, ← hr1]
          simp only
          rw [if_pos he2]
        rw [hent]
        rw [he2] at t4
        have sz := st_all (t := 75) (vs := entC Ent.zero) (by kernel_rfl) z8 rfl rfl
        have lz := ld_all (H := H8.put nx (some (.cells (entC Ent.zero) 75 false))) (t := 75) (cs := entC Ent.zero) (by kernel_rfl) (Tr.get_put_same _ _ _)
        simp only [↓aD, ↓aE, ↓aF, ↓aG, ↓aH, ↓aI, ↓aJ, ↓aK, aL, ↓aM, ↓aN, aO, stepA, opA, convA, isCall, put?, ev, aA, aQ, builtinA, callA, argEnv, wantedS, aR, aS, aT, aU, aV, aW, aX, aY, undef, z_none, bA, bB, bC, bD, bH, bI, extractOp, bK, bL, bM, bN, Nat.reduceLT, Nat.reduceEqDiff, Nat.reduceAdd, bR, bS, ↓reduceIte, reduceCtorEq, resA, resOf, cB, maxA, minA, x_none, hal, t1, nc_ptr, fa150_0, a1, partsA, bdw (.lit .nilIface), sw, lit_pattern, b1]
        refine wpS_draw6 (nx + 2) (Nat.le_refl _) (show s93_d0.toList.map (stripO s93_d0) = s93_d0s by kernel_rfl) ?_
        unfold s93_d0s
        simp only [↓aD, ↓aE, ↓aF, ↓aG, ↓aH, ↓aI, ↓aJ, ↓aK, aL, ↓aM, ↓aN, aO, stepA, opA, convA, isCall, put?, ev, aA, aQ, builtinA, callA, argEnv, wantedS, aR, aS, aT, aU, aV, aW, aX, aY, undef, z_none, bA, bB, bC, bD, bH, bI, extractOp, bK, bL, bM, bN, Nat.reduceLT, Nat.reduceEqDiff, Nat.reduceAdd, bR, bS, ↓reduceIte, reduceCtorEq, resA, resOf, cB, maxA, minA, ↓dB, ↓dC, txS, dD, dE, dF, dG, dH, dI, dJ, dK, dL, dM, dN, aB, isEff, dV, AV.belowB, ↓dY, ↓dZ, eA, eB, eC, eD, eF, eG, eH, eI, eJ, eK, eL, eM, eN, eO, eP, eQ, eS, eT, eU, goodAt_eq, ldLow, aC, x_none, nc_ptr, fa150_0, c1, d1, partsA, bde2, al75, hs7, g5, g6]
        simp only [↓aD, ↓aE, ↓aF, ↓aG, ↓aH, ↓aI, ↓aJ, ↓aK, aL, ↓aM, ↓aN, aO, stepA, opA, convA, isCall, put?, ev, aA, aQ, builtinA, callA, argEnv, wantedS, aR, aS, aT, aU, aV, aW, aX, aY, undef, z_none, bA, bB, bC, bD, bH, bI, extractOp, bK, bL, bM, bN, Nat.reduceLT, Nat.reduceEqDiff, Nat.reduceAdd, bR, bS, ↓reduceIte, reduceCtorEq, resA, resOf, cB, maxA, minA, x_none, nc_ptr, fa150_0, fa75_1, dn, lm7, rt, t4, partsA, bde0, sz, lz, Option.bind_some]
        refine ⟨Ent.zero, s7, b7, rfl, fun e' h => h.elim, ?_, fin H8 (m6 + 1) _ (by omega) (fun c hc hcp => by rw [t6 c hcp, o7 c hc hcp]) fr8⟩
        unfold Rdr
        rw [Tr.get_put_ne _ _ _ _ (by omega)]
        exact t5
      · have he2' : (cutW r1).2.2 = true := by simpa using he2
        rw [he2'] at t4
        obtain ⟨v9, H9, m9, r9, rfl, f9⟩ := read_rec (H := H8) (nx := m6 + 1) w0 (cutW r1).1 (by omega) fr8
        obtain ⟨rc, hrc⟩ : ∃ r, r = (readR (cutW r1).1).getD Rec.zero := ⟨_, rfl⟩
        obtain ⟨er, her⟩ : ∃ n : Int, n = if (readR (cutW r1).1).isSome = true then 0 else 4 := ⟨_, rfl⟩
        rw [← hrc, ← her] at r9
        have g9 := f9.le
        have hst := st_all (H := H9.put m9 (some (.cells (recC Rec.zero) 39 false))) (t := 39) (p := m9) (vs := recC rc) (by kernel_rfl) (Tr.get_put_same _ _ _) rfl rfl
        obtain ⟨X1, hX1⟩ : ∃ X, X = (H9.put m9 (some (.cells (recC Rec.zero) 39 false))).put m9 (some (.cells (recC rc) 39 false)) := ⟨_, rfl⟩
        rw [← hX1] at hst
        have FX : Fr H9 m9 X1 (m9 + 1) := by rw [hX1]; exact Fr.put2 f9.fr _ _
        have hx1 : X1.get m9 = some (.cells (recC rc) 39 false) := by rw [hX1]; exact Tr.get_put_same _ _ _
        have q1 := ld_all (t := 39) (by kernel_rfl) hx1
        have ex : X1.get m6 = some (.cells (entC ⟨pa, mo, Rec.zero⟩) 75 false) := (FX.old m6 (by omega)).trans ((f9.old m6 (by omega)).trans e8)
        have so := st_off (t := 39) (o := 2) (vs := recC rc) (by kernel_rfl) ex (by simp [entC, recC]) rfl
        have hov : overA (entC ⟨pa, mo, Rec.zero⟩) 2 (recC rc) = entC ⟨pa, mo, rc⟩ := rfl
        rw [hov] at so
        obtain ⟨X2, hX2⟩ : ∃ X, X = X1.put m6 (some (.cells (entC ⟨pa, mo, rc⟩) 75 false)) := ⟨_, rfl⟩
        rw [← hX2] at so
        have ex2 : X2.get m6 = some (.cells (entC ⟨pa, mo, rc⟩) 75 false) := by rw [hX2]; exact Tr.get_put_same _ _ _
        have q2 := ld_all (t := 75) (by kernel_rfl) ex2
        have oX : ∀ c, c < m6 → X2.get c = H8.get c := fun c hc => by rw [hX2, Tr.get_put_ne _ _ _ _ (by omega), FX.old c (by omega), f9.old c (by omega)]
        have frX : ∀ b, m9 + 1 ≤ b → X2.get b = none := fun b hb => by rw [hX2, Tr.get_put_ne _ _ _ _ (by omega)]; exact FX.fr b hb
        have zX : X2.get nx = _ := (oX nx (by omega)).trans z8
        have sz := st_all (t := 75) (vs := entC ⟨pa, mo, rc⟩) (by kernel_rfl) zX rfl rfl
        have lz := ld_all (H := X2.put nx (some (.cells (entC ⟨pa, mo, rc⟩) 75 false))) (t := 75) (cs := entC ⟨pa, mo, rc⟩) (by kernel_rfl) (Tr.get_put_same _ _ _)
        have rdX : Rdr (X2.put nx (some (.cells (entC ⟨pa, mo, rc⟩) 75 false))) p s7 b7 (cutW r1).2.1 (n + 1 + 1) := by
          unfold Rdr
          rw [Tr.get_put_ne _ _ _ _ (by omega), oX p (by omega)]
          exact t5
        have frm := fin X2 (m9 + 1) (some (.cells (entC ⟨pa, mo, rc⟩) 75 false)) (by omega) (fun c hc hcp => by rw [oX c (by omega), t6 c hcp, o7 c hc hcp]) frX
        simp only [↓aD, ↓aE, ↓aF, ↓aG, ↓aH, ↓aI, ↓aJ, ↓aK, aL, ↓aM, ↓aN, aO, stepA, opA, convA, isCall, put?, ev, aA, aQ, builtinA, callA, argEnv, wantedS, aR, aS, aT, aU, aV, aW, aX, aY, undef, z_none, bA, bB, bC, bD, bH, bI, extractOp, bK, bL, bM, bN, Nat.reduceLT, Nat.reduceEqDiff, Nat.reduceAdd, bR, bS, ↓reduceIte, reduceCtorEq, resA, resOf, cB, maxA, minA, x_none, hal, t1, nc_ptr, fa150_0, a1, partsA, bdw (.lit .nilIface), sw, lit_pattern, b1]
        refine wpS_draw6 (nx + 2) (Nat.le_refl _) (show s93_d0.toList.map (stripO s93_d0) = s93_d0s by kernel_rfl) ?_
        unfold s93_d0s
        simp only [↓aD, ↓aE, ↓aF, ↓aG, ↓aH, ↓aI, ↓aJ, ↓aK, aL, ↓aM, ↓aN, aO, stepA, opA, convA, isCall, put?, ev, aA, aQ, builtinA, callA, argEnv, wantedS, aR, aS, aT, aU, aV, aW, aX, aY, undef, z_none, bA, bB, bC, bD, bH, bI, extractOp, bK, bL, bM, bN, Nat.reduceLT, Nat.reduceEqDiff, Nat.reduceAdd, bR, bS, ↓reduceIte, reduceCtorEq, resA, resOf, cB, maxA, minA, ↓dB, ↓dC, txS, dD, dE, dF, dG, dH, dI, dJ, dK, dL, dM, dN, aB, isEff, dV, AV.belowB, ↓dY, ↓dZ, eA, eB, eC, eD, eF, eG, eH, eI, eJ, eK, eL, eM, eN, eO, eP, eQ, eS, eT, eU, goodAt_eq, ldLow, aC, x_none, nc_ptr, fa150_0, c1, d1, partsA, bde2, al75, hs7, g5, g6]
        simp only [↓aD, ↓aE, ↓aF, ↓aG, ↓aH, ↓aI, ↓aJ, ↓aK, aL, ↓aM, ↓aN, aO, stepA, opA, convA, isCall, put?, ev, aA, aQ, builtinA, callA, argEnv, wantedS, aR, aS, aT, aU, aV, aW, aX, aY, undef, z_none, bA, bB, bC, bD, bH, bI, extractOp, bK, bL, bM, bN, Nat.reduceLT, Nat.reduceEqDiff, Nat.reduceAdd, bR, bS, ↓reduceIte, reduceCtorEq, resA, resOf, cB, maxA, minA, x_none, nc_ptr, fa150_0, fa75_1, fa75_2, dn, lm7, rt, t4, r9, al39, hst, q1, so, q2, sz, lz, Option.bind_some]
        have hent0 : entR rest n = match readR (cutW r1).1 with
            | none => (none, (cutW r1).2.1, n + 2)
            | some rc => (some ⟨pa, mo, rc⟩, (cutW r1).2.1, n + 2) := by
          unfold entR
          rw [if_neg he1, ← hl1, hq, ← hr1]
          simp only
          rw [if_neg he2]
        cases hrd : readR (cutW r1).1 with
        | none =>
          rw [hrd] at hent0 her
          simp only at hent0
          rw [hent0]
          have he4 : er = 4 := by rw [her]; rfl
          refine ⟨⟨pa, mo, rc⟩, s7, b7, ?_, fun e' h => (by simp at h), rdX, frm⟩
          rw [he4]; rfl
        | some rc' =>
          rw [hrd] at hent0 her hrc
          simp only at hent0
          rw [hent0]
          have he4 : er = 0 := by rw [her]; rfl
          have hrc' : rc = rc' := hrc
          subst hrc'
          refine ⟨⟨pa, mo, rc⟩, s7, b7, ?_, fun e' h => (by injection h), rdX, frm⟩
          rw [he4]; rfl
    · rw [if_neg hh] at hq
      have hent : entR rest n = (none, r1, n + 1) := by
        unfold entR
        rw [if_neg he1, ← hl1, hq, ← hr1]
      rw [hent]
      have sz := st_all (t := 75) (vs := entC Ent.zero) (by kernel_rfl) z7 rfl rfl
      have lz := ld_all (H := H7.put nx (some (.cells (entC Ent.zero) 75 false))) (t := 75) (cs := entC Ent.zero) (by kernel_rfl) (Tr.get_put_same _ _ _)
      have rdX : Rdr (H7.put nx (some (.cells (entC Ent.zero) 75 false))) p s7 b7 r1 (n + 1) := by
        unfold Rdr
        rw [Tr.get_put_ne _ _ _ _ (by omega)]
        exact rd7
      have frm := fin H7 (m6 + 1) (some (.cells (entC Ent.zero) 75 false)) (by omega) o7 F7.fr
      by_cases hd : doneQ q6 = true
      · have hrt : decide (right mo) = false := by simpa using fun h => hh ⟨hd, h⟩
        have rt := right_cl (H := H7) (nx := m6 + 1) mo
        rw [hrt] at rt
        rw [hd] at dn
        simp only [↓aD, ↓aE, ↓aF, ↓aG, ↓aH, ↓aI, ↓aJ, ↓aK, aL, ↓aM, ↓aN, aO, stepA, opA, convA, isCall, put?, ev, aA, aQ, builtinA, callA, argEnv, wantedS, aR, aS, aT, aU, aV, aW, aX, aY, undef, z_none, bA, bB, bC, bD, bH, bI, extractOp, bK, bL, bM, bN, Nat.reduceLT, Nat.reduceEqDiff, Nat.reduceAdd, bR, bS, ↓reduceIte, reduceCtorEq, resA, resOf, cB, maxA, minA, x_none, hal, t1, nc_ptr, fa150_0, a1, partsA, bdw (.lit .nilIface), sw, lit_pattern, b1]
        refine wpS_draw6 (nx + 2) (Nat.le_refl _) (show s93_d0.toList.map (stripO s93_d0) = s93_d0s by kernel_rfl) ?_
        unfold s93_d0s
        simp only [↓aD, ↓aE, ↓aF, ↓aG, ↓aH, ↓aI, ↓aJ, ↓aK, aL, ↓aM, ↓aN, aO, stepA, opA, convA, isCall, put?, ev, aA, aQ, builtinA, callA, argEnv, wantedS, aR, aS, aT, aU, aV, aW, aX, aY, undef, z_none, bA, bB, bC, bD, bH, bI, extractOp, bK, bL, bM, bN, Nat.reduceLT, Nat.reduceEqDiff, Nat.reduceAdd, bR, bS, ↓reduceIte, reduceCtorEq, resA, resOf, cB, maxA, minA, ↓dB, ↓dC, txS, dD, dE, dF, dG, dH, dI, dJ, dK, dL, dM, dN, aB, isEff, dV, AV.belowB, ↓dY, ↓dZ, eA, eB, eC, eD, eF, eG, eH, eI, eJ, eK, eL, eM, eN, eO, eP, eQ, eS, eT, eU, goodAt_eq, ldLow, aC, x_none, nc_ptr, fa150_0, c1, d1, partsA, bde2, al75, hs7, g5, g6]
        simp only [↓aD, ↓aE, ↓aF, ↓aG, ↓aH, ↓aI, ↓aJ, ↓aK, aL, ↓aM, ↓aN, aO, stepA, opA, convA, isCall, put?, ev, aA, aQ, builtinA, callA, argEnv, wantedS, aR, aS, aT, aU, aV, aW, aX, aY, undef, z_none, bA, bB, bC, bD, bH, bI, extractOp, bK, bL, bM, bN, Nat.reduceLT, Nat.reduceEqDiff, Nat.reduceAdd, bR, bS, ↓reduceIte, reduceCtorEq, resA, resOf, cB, maxA, minA, x_none, nc_ptr, fa150_0, fa75_1, dn, lm7, rt, partsA, bde0, sz, lz, Option.bind_some]
        exact ⟨Ent.zero, s7, b7, rfl, fun e' h => h.elim, rdX, frm⟩
      · have hdf : doneQ q6 = false := by simpa using hd
        rw [hdf] at dn
        simp only [↓aD, ↓aE, ↓aF, ↓aG, ↓aH, ↓aI, ↓aJ, ↓aK, aL, ↓aM, ↓aN, aO, stepA, opA, convA, isCall, put?, ev, aA, aQ, builtinA, callA, argEnv, wantedS, aR, aS, aT, aU, aV, aW, aX, aY, undef, z_none, bA, bB, bC, bD, bH, bI, extractOp, bK, bL, bM, bN, Nat.reduceLT, Nat.reduceEqDiff, Nat.reduceAdd, bR, bS, ↓reduceIte, reduceCtorEq, resA, resOf, cB, maxA, minA, x_none, hal, t1, nc_ptr, fa150_0, a1, partsA, bdw (.lit .nilIface), sw, lit_pattern, b1]
        refine wpS_draw6 (nx + 2) (Nat.le_refl _) (show s93_d0.toList.map (stripO s93_d0) = s93_d0s by kernel_rfl) ?_
        unfold s93_d0s
        simp only [↓aD, ↓aE, ↓aF, ↓aG, ↓aH, ↓aI, ↓aJ, ↓aK, aL, ↓aM, ↓aN, aO, stepA, opA, convA, isCall, put?, ev, aA, aQ, builtinA, callA, argEnv, wantedS, aR, aS, aT, aU, aV, aW, aX, aY, undef, z_none, bA, bB, bC, bD, bH, bI, extractOp, bK, bL, bM, bN, Nat.reduceLT, Nat.reduceEqDiff, Nat.reduceAdd, bR, bS, ↓reduceIte, reduceCtorEq, resA, resOf, cB, maxA, minA, ↓dB, ↓dC, txS, dD, dE, dF, dG, dH, dI, dJ, dK, dL, dM, dN, aB, isEff, dV, AV.belowB, ↓dY, ↓dZ, eA, eB, eC, eD, eF, eG, eH, eI, eJ, eK, eL, eM, eN, eO, eP, eQ, eS, eT, eU, goodAt_eq, ldLow, aC, x_none, nc_ptr, fa150_0, c1, d1, partsA, bde2, al75, hs7, g5, g6]
        simp only [↓aD, ↓aE, ↓aF, ↓aG, ↓aH, ↓aI, ↓aJ, ↓aK, aL, ↓aM, ↓aN, aO, stepA, opA, convA, isCall, put?, ev, aA, aQ, builtinA, callA, argEnv, wantedS, aR, aS, aT, aU, aV, aW, aX, aY, undef, z_none, bA, bB, bC, bD, bH, bI, extractOp, bK, bL, bM, bN, Nat.reduceLT, Nat.reduceEqDiff, Nat.reduceAdd, bR, bS, ↓reduceIte, reduceCtorEq, resA, resOf, cB, maxA, minA, x_none, nc_ptr, fa150_0, fa75_1, dn, partsA, bde0, sz, lz, Option.bind_some]
        exact ⟨Ent.zero, s7, b7, rfl, fun e' h => h.elim, rdX, frm⟩
end Seat
end CI
namespace CI
open Go
namespace Rcd
open Quo Spl
theorem ent_parse (rest : W) (n : Nat) (h : rest ≠ []) :
    (∃ e r' n', Seat.entR rest n = (some e, r', n') ∧ n' = n + 2 ∧ r'.length + 2 ≤ rest.length ∧ parseG headQ readR (linesOf rest).1 (linesOf rest).2 n = match parseG headQ readR (linesOf r').1 (linesOf r').2 n' with
      | .ok es => .ok (e :: es)
      | .error k => .error k) ∨
    (∃ r' n', Seat.entR rest n = (none, r', n') ∧ parseG headQ readR (linesOf rest).1 (linesOf rest).2 n = .error n') := by
  unfold Seat.entR
  rcases cut_lines (t := rest) with ⟨h1, h2⟩ | ⟨m, h1, h2, h3⟩
  · right
    have hc : Seat.cutW rest = (rest, [], false) := by unfold Seat.cutW; rw [if_pos h1]
    rw [hc, h2]
    refine ⟨_, _, rfl, ?_⟩
    simp only [parseG, if_neg h]
  · have hc : Seat.cutW rest = (rest.take m, rest.drop (m + 1), true) := by unfold Seat.cutW; rw [if_neg (by omega), h1, Int.toNat_natCast]
    rw [hc, h3]
    simp only [Bool.true_eq_false, if_false]
    generalize hl1 : rest.take m = l1
    generalize hr1 : rest.drop (m + 1) = r1
    have hlen : r1.length + 1 ≤ rest.length := by rw [← hr1, List.length_drop]; omega
    cases hq : headQ l1 with
    | none =>
      right
      refine ⟨_, _, rfl, ?_⟩
      cases (linesOf r1).1 with
      | nil => simp only [parseG, hq]
      | cons b ls => simp only [parseG, hq]
    | some x =>
      obtain ⟨mo, p⟩ := x
      simp only
      rcases cut_lines (t := r1) with ⟨g1, g2⟩ | ⟨k, g1, g2, g3⟩
      · right
        have hc2 : Seat.cutW r1 = (r1, [], false) := by unfold Seat.cutW; rw [if_pos g1]
        rw [hc2, g2]
        refine ⟨_, _, rfl, ?_⟩
        simp only [parseG, hq]
      · have hc2 : Seat.cutW r1 = (r1.take k, r1.drop (k + 1), true) := by unfold Seat.cutW; rw [if_neg (by omega), g1, Int.toNat_natCast]
        rw [hc2, g3]
        simp only [Bool.true_eq_false, if_false]
        generalize hl2 : r1.take k = l2
        generalize hr2 : r1.drop (k + 1) = r2
        have hlen2 : r2.length + 1 ≤ r1.length := by rw [← hr2, List.length_drop]; omega
        cases hrd : readR l2 with
        | none =>
          right
          refine ⟨_, _, rfl, ?_⟩
          simp only [parseG, hq, hrd]
        | some rc =>
          left
          refine ⟨_, _, _, rfl, rfl, by omega, ?_⟩
          simp only [parseG, hq, hrd]
          cases parseG headQ readR (linesOf r2).1 (linesOf r2).2 (n + 2) <;> rfl
end Rcd
namespace Seat
open Quo Rcd Spl
variable {H : Heap} {nx : Nat}
def entsC (es : List Ent) : List AV := es.flatMap entC
theorem entC_len (e : Ent) : (entC e).length = 16 := rfl
theorem entsC_len (es : List Ent) : (entsC es).length = es.length * 16 := by
  induction es with
  | nil => rfl
  | cons e es ih =>
    show (entC e ++ entsC es).length = _
    rw [List.length_append, ih, entC_len, List.length_cons]; omega
theorem one_entC (e : Ent) : (entC e).all one = true := rfl
theorem entsC_app (a b : List Ent) : entsC (a ++ b) = entsC a ++ entsC b := by simp [entsC]
def EL (n0 : Nat) (H : Heap) (nx : Nat) (v : AV) (es : List Ent) : Prop :=
  (v = .lit (.slice none 0 0) ∧ es = []) ∨ ∃ c k, n0 ≤ c ∧ c < nx ∧ v = .slice c 0 es.length k 16 ∧ (k = none ∨ k = some es.length) ∧ es ≠ [] ∧ H.get c = some (.cells (entsC es) 75 false)
theorem EL.mono {n0 : Nat} {v : AV} {es : List Ent} (h : EL n0 H nx v es) {H' : Heap} {nx' : Nat} (hn : nx ≤ nx') (ho : ∀ c, n0 ≤ c → c < nx → H'.get c = H.get c) : EL n0 H' nx' v es := by
  rcases h with h | ⟨c, k, h1, h2, h3, h4, h5, h6⟩
  · exact .inl h
  · exact .inr ⟨c, k, h1, by omega, h3, h4, h5, (ho c h1 h2).trans h6⟩
theorem T73 : cx.T.get 73 = some ti73 := by kernel_rfl
theorem Te : cx.T.get 75 = some ti75 := by kernel_rfl
theorem el_app {n0 : Nat} {v : AV} {es : List Ent} (e : Ent) (h : EL n0 H nx v es) (hm : es.length ≤ 1000000) (hn0 : n0 ≤ nx) (hfr : ∀ b, nx ≤ b → H.get b = none) :
    ∃ v' H' nx', appendOp cx.T (H.put nx (some (.cells (entC e) 75 false))) (nx + 1) 73 v 73 (.slice nx 0 1 (some 1) 16) = some (v', H', nx') ∧ EL n0 H' nx' v' (es ++ [e]) ∧ FrO n0 H nx H' nx' := by
  have hs : srcCells (H.put nx (some (.cells (entC e) 75 false))) 16 (.slice nx 0 1 (some 1) 16) = some (1, entC e) := by
    simp only [srcCells, Tr.get_put_same, if_true]
    rw [cut_all (entC_len e)]
    rfl
  have e1 : entsC [e] = entC e := by simp [entsC]
  rcases h with ⟨rfl, rfl⟩ | ⟨c, k, c1, c2, rfl, hk, hne, hc⟩
  · refine ⟨.slice (nx + 1) 0 1 none 16, (H.put nx (some (.cells (entC e) 75 false))).put (nx + 1) (some (.cells (entC e) 75 false)), nx + 1 + 1, ?_, .inr ⟨nx + 1, none, by omega, by omega, rfl, .inl rfl, by simp, by rw [Tr.get_put_same, List.nil_append, e1]⟩,
      ⟨by omega, fun b hb => by rw [Tr.get_put_ne _ _ _ _ (by omega), Tr.get_put_ne _ _ _ _ (by omega)], fun b hb => by rw [Tr.get_put_ne _ _ _ _ (by omega), Tr.get_put_ne _ _ _ _ (by omega)]; exact hfr b (by omega)⟩⟩
    unfold appendOp
    simp only [T73, ti73, Te, ti75, isIntD, hs, Bool.false_eq_true, if_false]
    rfl
  · have hc' : (H.put nx (some (.cells (entC e) 75 false))).get c = some (.cells (entsC es) 75 false) := by rw [Tr.get_put_ne _ _ _ _ (by omega)]; exact hc
    have hal : appLim es.length 1 160 = true := by
      unfold appLim
      simp only [decide_eq_true_eq]
      omega
    have hcut : cut (entsC es) 0 (es.length * 16) = some (entsC es) := cut_all (entsC_len es)
    have hl : entsC (es ++ [e]) = entsC es ++ entC e := by rw [entsC_app, e1]
    have hlen := entsC_len es
    rcases hk with rfl | rfl
    · refine ⟨.slice (nx + 1) 0 (es.length + 1) none 16, ((H.put nx (some (.cells (entC e) 75 false))).put c none).put (nx + 1) (some (.cells (entsC es ++ entC e) 75 false)), nx + 1 + 1, ?_, .inr ⟨nx + 1, none, by omega, by omega, by simp, .inl rfl, by simp, by rw [Tr.get_put_same, hl]⟩,
        ⟨by omega, fun b hb => by rw [Tr.get_put_ne _ _ _ _ (by omega), Tr.get_put_ne _ _ _ _ (by omega), Tr.get_put_ne _ _ _ _ (by omega)], fun b hb => by rw [Tr.get_put_ne _ _ _ _ (by omega), Tr.get_put_ne _ _ _ _ (by omega), Tr.get_put_ne _ _ _ _ (by omega)]; exact hfr b (by omega)⟩⟩
      unfold appendOp
      simp only [T73, ti73, Te, ti75, isIntD, hs, Bool.false_eq_true, if_false, hc']
      rw [if_neg (by decide), if_neg (by decide), if_neg (by omega), hcut]
      simp only
      rw [if_pos ⟨hal, trivial, trivial, one_entC _, trivial⟩]
    · refine ⟨.slice (nx + 1) 0 (es.length + 1) none 16, (H.put nx (some (.cells (entC e) 75 false))).put (nx + 1) (some (.cells (entsC es ++ entC e) 75 false)), nx + 1 + 1, ?_, .inr ⟨nx + 1, none, by omega, by omega, by simp, .inl rfl, by simp, by rw [Tr.get_put_same, hl]⟩,
        ⟨by omega, fun b hb => by rw [Tr.get_put_ne _ _ _ _ (by omega), Tr.get_put_ne _ _ _ _ (by omega)], fun b hb => by rw [Tr.get_put_ne _ _ _ _ (by omega), Tr.get_put_ne _ _ _ _ (by omega)]; exact hfr b (by omega)⟩⟩
      unfold appendOp
      simp only [T73, ti73, Te, ti75, isIntD, hs, Bool.false_eq_true, if_false, hc']
      rw [if_neg (by decide), if_neg (by decide), if_neg (by omega), hcut]
      simp only
      rw [if_pos hal]
theorem bse (e : Ent) : buildSliceOp cx.T H nx 73 1 [(0, .agg (entC e))] = some (.slice nx 0 1 (some 1) 16, H.put nx (some (.cells (entC e) 75 false)), nx + 1) := by kernel_rfl
theorem ln_el {n0 : Nat} {v : AV} {es : List Ent} (h : EL n0 H nx v es) (H' : Heap) : lenOp cx.T H' 73 v = some es.length := by
  rcases h with ⟨rfl, rfl⟩ | ⟨c, k, _, _, rfl, _, _, _⟩ <;> kernel_rfl
end Seat
end CI
namespace CI
open Go
namespace Seat
open Quo Rcd Spl
variable {H : Heap} {nx : Nat}
theorem bdr (t : W) : buildOp cx.T 150 [(1, strA t)] = some (.agg [.lit (.slice none 0 0), .lit (.bool false), strA t, .lit (.int .i64 0)]) := by kernel_rfl
theorem bxr (t : W) : boxOp H nx 150 (.agg [.lit (.slice none 0 0), .lit (.bool false), strA t, .lit (.int .i64 0)]) = some (.ptr nx 0, H.put nx (some (.cells [.lit (.slice none 0 0), .lit (.bool false), strA t, .lit (.int .i64 0)] 150 false)), nx + 1) := by kernel_rfl
def ParseV (n0 : Nat) (H : Heap) (nx : Nat) (r : Except Nat (List Ent)) (v : AV) : Prop := match r with
  | .ok es => ∃ s, v = .tuple [s, .lit (.int .i64 es.length), .lit (.int .i64 0)] ∧ EL n0 H nx s es
  | .error k => v = .tuple [.lit (.slice none 0 0), .lit (.int .i64 k), .lit (.int .i64 4)]
theorem parse_cl' (w0 : World) (t : W) (ht : t.length ≤ 100000) (hfr : ∀ b, nx ≤ b → H.get b = none) :
    ∃ v H' nx', Cl cx 47 [strA t] H nx = some (v, H', nx') ∧ (ParseV nx H' nx' (parseT t) v ∧ Fr H nx H' nx') := by
  refine wpP47 _ _ _ _ (by simp) ?_
  unfold s47
  have hl : (((t.length : Nat) : Int) > 1048576) = False := by simp; omega
  simp only [↓aD, ↓aE, ↓aF, ↓aG, ↓aH, ↓aI, ↓aJ, ↓aK, aL, ↓aM, ↓aN, aO, stepA, opA, convA, isCall, put?, ev, aA, aQ, builtinA, callA, argEnv, wantedS, aR, aS, aT, aU, aV, aW, aX, aY, undef, z_none, bA, bB, bC, bD, bH, bI, extractOp, bK, bL, bM, bN, Nat.reduceLT, Nat.reduceEqDiff, Nat.reduceAdd, bR, bS, ↓reduceIte, reduceCtorEq, resA, resOf, cB, maxA, minA, str_len, hl, partsA, bdr, bxr]
  refine Wp_loop (fun m st => ∃ (rest : W) (n : Nat) (es : List Ent) (v s b : AV), m = rest.length ∧ Rdr st.H nx s b rest n ∧ EL (nx + 1) st.H st.nx v es ∧ es.length ≤ n ∧ n + rest.length ≤ t.length ∧ nx < st.nx ∧ (∀ c, c < nx → st.H.get c = H.get c) ∧ (∀ b, st.nx ≤ b → st.H.get b = none) ∧
    (parseT t = match parseG headQ readR (linesOf rest).1 (linesOf rest).2 n with
      | .ok es' => .ok (es ++ es')
      | .error k => .error k) ∧ st.env.get 5 = some (.ptr nx 0) ∧ st.env.get 6 = some v) ?_ t.length _
    ⟨t, 0, [], .lit (.slice none 0 0), .lit (.slice none 0 0), .lit (.bool false), rfl, Tr.get_put_same _ _ _, .inl ⟨rfl, rfl⟩, by simp, by omega, by simp, fun c hc => by rw [Tr.get_put_ne _ _ _ _ (by omega)], fun b hb => by rw [Tr.get_put_ne _ _ _ _ (by simp only at hb; omega)]; exact hfr b (by simp only at hb; omega), ?_, ?_⟩
  · rintro m ⟨E, H1, nx1⟩ ⟨rest, n, es, v, s, b, hm, hR, hE, hen, hnr, hp, hold, hf, hP, e5, e6⟩
    simp only at hR hE hp hold hf e5 e6
    refine Wp_of ?_
    unfold s47_l0
    have hR' := hR
    unfold Rdr at hR'
    have lr : loadOp cx.T H1 9 (.ptr nx 2) = some (strA rest) := ld_at (by kernel_rfl) hR' rfl
    have hnil : AV.lit (.string (ByteArray.mk #[])) = strA [] := rfl
    by_cases h0 : rest = []
    · have hd : decide (rest ≠ []) = false := by simpa using h0
      have h00 : ¬ rest ≠ [] := by simpa using h0
      simp only [↓aD, ↓aE, ↓aF, ↓aG, ↓aH, ↓aI, ↓aJ, ↓aK, aL, ↓aM, ↓aN, aO, stepA, opA, convA, isCall, put?, ev, aA, aQ, builtinA, callA, argEnv, wantedS, aR, aS, aT, aU, aV, aW, aX, aY, undef, z_none, bA, bB, bC, bD, bH, bI, extractOp, bK, bL, bM, bN, Nat.reduceLT, Nat.reduceEqDiff, Nat.reduceAdd, bR, bS, ↓reduceIte, reduceCtorEq, resA, resOf, cB, maxA, minA, e5, e6, nc_ptr, fa150_1, lr, hnil, str_neq, hd, h0, ln_el hE]
      subst h0
      have hok : parseT t = .ok es := by rw [hP]; simp [linesOf, parseG]
      rw [hok]
      have hE2 : EL nx H1 nx1 v es := by
        rcases hE with h | ⟨c, k, c1, c2, c3⟩
        · exact .inl h
        · exact .inr ⟨c, k, by omega, c2, c3⟩
      exact ⟨⟨v, rfl, hE2⟩, by omega, hold, hf⟩
    · have hd : decide (rest ≠ []) = true := by simpa using h0
      obtain ⟨v2, H2, nx2, k1, e, s', b', rfl, k2, k3, k4⟩ := entry_cl (H := H1) (nx := nx1) w0 hR hp (by omega) (by omega) hf
      have f2 := k4.fr hf
      have g2 := k4.le
      have hs3 := st_all (H := H2.put nx2 (some (.cells (entC Ent.zero) 75 false))) (t := 75) (vs := entC e) (by kernel_rfl) (Tr.get_put_same _ _ _) rfl rfl
      obtain ⟨H3, hH3⟩ : ∃ X, X = (H2.put nx2 (some (.cells (entC Ent.zero) 75 false))).put nx2 (some (.cells (entC e) 75 false)) := ⟨_, rfl⟩
      rw [← hH3] at hs3
      have F3 : Fr H2 nx2 H3 (nx2 + 1) := by rw [hH3]; exact Fr.put2 f2 _ _
      have le3 := ld_all (H := H3) (t := 75) (p := nx2) (cs := entC e) (by kernel_rfl) (by rw [hH3]; exact Tr.get_put_same _ _ _)
      rcases ent_parse rest n h0 with ⟨e', r', n', q1, q2, q3, q4⟩ | ⟨r', n', q1, q4⟩
      · rw [q1] at k1 k2 k3
        have he : e = e' := k2 e' rfl
        subst he
        have hE3 : EL (nx + 1) H3 (nx2 + 1) v es := hE.mono (by omega) (fun c h1 h2 => by rw [F3.old c (by omega), k4.old c h2 (by omega)])
        obtain ⟨v4, H4, nx4, a1, a2, a3⟩ := el_app e hE3 (by omega) (by omega) F3.fr
        simp only [Option.isSome_some] at k1
        simp only [↓aD, ↓aE, ↓aF, ↓aG, ↓aH, ↓aI, ↓aJ, ↓aK, aL, ↓aM, ↓aN, aO, stepA, opA, convA, isCall, put?, ev, aA, aQ, builtinA, callA, argEnv, wantedS, aR, aS, aT, aU, aV, aW, aX, aY, undef, z_none, bA, bB, bC, bD, bH, bI, extractOp, bK, bL, bM, bN, Nat.reduceLT, Nat.reduceEqDiff, Nat.reduceAdd, bR, bS, ↓reduceIte, reduceCtorEq, resA, resOf, cB, maxA, minA, e5, e6, nc_ptr, fa150_1, lr, hnil, str_neq, hd, h0, x_none, k1, al75, hs3, le3, partsA, bse, a1]
        have g4 := a3.le
        refine ⟨r'.length, by omega, r', n', es ++ [e], v4, s', b', rfl, ?_, a2, ?_, by omega, by omega, fun c hc => ?_, a3.fr, ?_, rfl⟩
        · unfold Rdr at k3 ⊢
          rw [a3.old nx (by omega), F3.old nx (by omega)]
          exact k3
        · simp; omega
        · rw [a3.old c (by omega), F3.old c (by omega), k4.old c (by omega) (by omega)]; exact hold c hc
        · rw [hP, q4]
          cases parseG headQ readR (linesOf r').1 (linesOf r').2 n' with
          | ok x => simp
          | error k => rfl
      · rw [q1] at k1 k3
        simp only [Option.isSome_none] at k1
        have k3' : H3.get nx = some (.cells [s', b', strA r', .lit (.int .i64 n')] 150 false) := (F3.old nx (by omega)).trans k3
        have ll : loadOp cx.T H3 3 (.ptr nx 3) = some (.lit (.int .i64 n')) := ld_at (by kernel_rfl) k3' rfl
        have herr : parseT t = .error n' := by rw [hP, q4]
        rw [herr]
        simp only [↓aD, ↓aE, ↓aF, ↓aG, ↓aH, ↓aI, ↓aJ, ↓aK, aL, ↓aM, ↓aN, aO, stepA, opA, convA, isCall, put?, ev, aA, aQ, builtinA, callA, argEnv, wantedS, aR, aS, aT, aU, aV, aW, aX, aY, undef, z_none, bA, bB, bC, bD, bH, bI, extractOp, bK, bL, bM, bN, Nat.reduceLT, Nat.reduceEqDiff, Nat.reduceAdd, bR, bS, ↓reduceIte, reduceCtorEq, resA, resOf, cB, maxA, minA, e5, e6, nc_ptr, fa150_1, lr, hnil, str_neq, hd, h0, x_none, k1, al75, hs3]
        refine wpS_draw6 (nx2 + 1) (Nat.le_refl _) (show s47_d0.toList.map (stripO s47_d0) = s47_d0s by kernel_rfl) ?_
        unfold s47_d0s
        simp only [↓aD, ↓aE, ↓aF, ↓aG, ↓aH, ↓aI, ↓aJ, ↓aK, aL, ↓aM, ↓aN, aO, stepA, opA, convA, isCall, put?, ev, aA, aQ, builtinA, callA, argEnv, wantedS, aR, aS, aT, aU, aV, aW, aX, aY, undef, z_none, bA, bB, bC, bD, bH, bI, extractOp, bK, bL, bM, bN, Nat.reduceLT, Nat.reduceEqDiff, Nat.reduceAdd, bR, bS, ↓reduceIte, reduceCtorEq, resA, resOf, cB, maxA, minA, ↓dB, ↓dC, txS, dD, dE, dF, dG, dH, dI, dJ, dK, dL, dM, dN, aB, isEff, dV, AV.belowB, ↓dY, ↓dZ, eA, eB, eC, eD, eF, eG, eH, eI, eJ, eK, eL, eM, eN, eO, eP, eQ, eS, eT, eU, goodAt_eq, ldLow, aC, nc_ptr, fa150_2, e5, ll, show nx < nx2 + 1 by omega]
        try simp only [↓aD, ↓aE, ↓aF, ↓aG, ↓aH, ↓aI, ↓aJ, ↓aK, aL, ↓aM, ↓aN, aO, stepA, opA, convA, isCall, put?, ev, aA, aQ, builtinA, callA, argEnv, wantedS, aR, aS, aT, aU, aV, aW, aX, aY, undef, z_none, bA, bB, bC, bD, bH, bI, extractOp, bK, bL, bM, bN, Nat.reduceLT, Nat.reduceEqDiff, Nat.reduceAdd, bR, bS, ↓reduceIte, reduceCtorEq, resA, resOf, cB, maxA, minA]
        exact ⟨rfl, by omega, fun c hc => by rw [F3.old c (by omega), k4.old c (by omega) (by omega)]; exact hold c hc, F3.fr⟩
  · show parseT t = _
    unfold parseT
    cases parseG headQ readR (linesOf t).1 (linesOf t).2 0 <;> simp
  · simp only [↓aD, ↓aE, ↓aF, ↓aG, ↓aH, ↓aI, ↓aJ, ↓aK, aL, ↓aM, ↓aN, aO, stepA, opA, convA, isCall, put?, ev, aA, aQ, builtinA, callA, argEnv, wantedS, aR, aS, aT, aU, aV, aW, aX, aY, undef, z_none, bA, bB, bC, bD, bH, bI, extractOp, bK, bL, bM, bN, Nat.reduceLT, Nat.reduceEqDiff, Nat.reduceAdd, bR, bS, ↓reduceIte, reduceCtorEq, resA, resOf, cB, maxA, minA]
end Seat
end CI
namespace CI
open Go
namespace Rcd
open Quo Spl
theorem textW_app (a b : List Ent) : textW (a ++ b) = textW a ++ textW b := by simp [textW]
theorem entW_ne (e : Ent) : entW e ≠ [] := by simp [entW]
def Ent.tell (e : Ent) : Prop := e.rcd.told ∧ right e.mode
instance (e : Ent) : Decidable e.tell := inferInstanceAs (Decidable (_ ∧ _))
def repR (es : List Ent) : W × Int :=
  if ∃ e ∈ es, ¬ e.tell then ([], 1) else if 1048576 < (textW es).length then ([], 3) else (textW es, 0)
end Rcd
namespace Seat
open Quo Rcd Spl
variable {H : Heap} {nx : Nat}
structure EntOK (e : Ent) : Prop where
  r : e.rcd.ok
  s : Short e.rcd
  m : -9223372036854775808 ≤ e.mode ∧ e.mode ≤ 9223372036854775807
  p : e.pat.length ≤ 1000000
structure RdE (H : Heap) (nx : Nat) (v : AV) (es : List Ent) : Prop where
  ln : ∀ H', lenOp cx.T H' 73 v = some es.length
  ix : ∀ i (h : i < es.length), ∃ q o, q < nx ∧ indexAddrOp cx.T 73 v (.lit (.int .i64 (i : Int))) = some (.ptr q o) ∧ ∀ H', H'.get q = H.get q → loadOp cx.T H' 75 (.ptr q o) = some (.agg (entC es[i]))
theorem ld_off {t : TypeId} {p o : Nat} {cs vs : List AV} {tb : TypeId} {ro : Bool} (ht : (cx.T.get t).map (fun i => (i.agg, i.size)) = some (true, vs.length)) (hp : H.get p = some (.cells cs tb ro)) (hc : cut cs o vs.length = some vs) :
    loadOp cx.T H t (.ptr p o) = some (.agg vs) := by
  unfold loadOp
  simp only [Option.map_eq_some_iff, Prod.mk.injEq] at ht
  obtain ⟨i, h1, h2, h3⟩ := ht
  simp only [h1, hp, h2, h3, if_true, hc, Option.map_some]
theorem Bld.mono {n0 p o : Nat} {cs : List AV} {t : TypeId} {bs : List UInt8} (h : Bld n0 H nx p o cs t bs) {H' : Heap} {nx' : Nat} (hF : Fr H nx H' nx') : Bld n0 H' nx' p o cs t bs :=
  ⟨(hF.old p h.p1).trans h.hp, h.p0, Nat.lt_of_lt_of_le h.p1 hF.le, h.lies, h.self,
   by
    rcases h.buf with h | ⟨c, c1, c2, c3, c4, c5⟩
    · exact .inl h
    · exact .inr ⟨c, c1, c2, Nat.lt_of_lt_of_le c3 hF.le, c4, (hF.old c c3).trans c5⟩, hF.fr⟩
theorem app_bld2 {n0 p o : Nat} {cs : List AV} {t t2 : TypeId} {bs more : List UInt8} {x bf : AV} (hb : Bld n0 H nx p o cs t bs) (hself : cs[o]? = some (.ptr p o)) (hbf : cs[o + 1]? = some bf)
    (h2 : t2 = 81 ∨ t2 = 9) (hs : srcCells H 1 x = some (more.length, more.map byteA)) (h0 : more ≠ []) (hm : bs.length + more.length ≤ 1000000000) :
    ∃ H3 bf' H4, appendOp cx.T H nx 81 bf t2 x = some (bf', H3, nx + 1) ∧ storeOp cx.T H3 81 (.ptr p (o + 1)) bf' = some H4 ∧ Bld n0 H4 (nx + 1) p o (cs.set (o + 1) bf') t (bs ++ more) ∧
      ∀ c, c < nx → c ≠ p → (∀ n k, cs[o + 1]? ≠ some (.slice c 0 n k 1)) → H4.get c = H.get c := by
  have ho : o + 1 < cs.length := (List.getElem?_eq_some_iff.1 hbf).1
  have hp1 := hb.p1
  have hp0 := hb.p0
  have hne : more.length ≠ 0 := by simpa using h0
  have fin : ∀ (H3 : Heap) (k : Nat), k = bs.length + more.length → H3.get p = H.get p → H3.get nx = some (.cells ((bs ++ more).map byteA) 5 false) → (∀ c, nx < c → H3.get c = none) →
      storeOp cx.T H3 81 (.ptr p (o + 1)) (.slice nx 0 k none 1) = some (H3.put p (some (.cells (cs.set (o + 1) (.slice nx 0 k none 1)) t false))) ∧
      Bld n0 (H3.put p (some (.cells (cs.set (o + 1) (.slice nx 0 k none 1)) t false))) (nx + 1) p o (cs.set (o + 1) (.slice nx 0 k none 1)) t (bs ++ more) := by
    intro H3 k hk hp hn hf3
    refine ⟨st_at (by kernel_rfl) (hp.trans hb.hp) ho rfl rfl, ?_⟩
    exact {
      hp := Tr.get_put_same _ _ _
      p0 := hp0
      p1 := by omega
      lies := by simpa using hb.lies
      self := .inr (by rw [set_get (by omega)]; exact hself)
      buf := .inr ⟨nx, by omega, by omega, by omega, by simp [List.getElem?_set, ho, hk], by rw [Tr.get_put_ne _ _ _ _ (by omega)]; exact hn⟩
      fr := fun b h => by rw [Tr.get_put_ne _ _ _ _ (by omega)]; exact hf3 b (by omega) }
  rcases hb.buf with ⟨rfl, h⟩ | ⟨c, c1, c2, c3, c5, c6⟩
  · rw [hbf] at h
    injection h with h
    subst h
    obtain ⟨f1, f2⟩ := fin (H.put nx (some (.cells (more.map byteA) 5 false))) more.length (by simp) (by rw [Tr.get_put_ne _ _ _ _ (by omega)]) (by rw [Tr.get_put_same]; simp)
      (fun c hc => by rw [Tr.get_put_ne _ _ _ _ (by omega)]; exact hb.fr _ (by omega))
    exact ⟨_, _, _, app_nil h2 hs hne (by simpa using hm), f1, f2, fun c h1 h2 _ => by rw [Tr.get_put_ne _ _ _ _ (by omega), Tr.get_put_ne _ _ _ _ (by omega)]⟩
  · rw [hbf] at c5
    injection c5 with c5
    subst c5
    obtain ⟨f1, f2⟩ := fin ((H.put c none).put nx (some (.cells (bs.map byteA ++ more.map byteA) 5 false))) (bs.length + more.length) rfl
      (by rw [Tr.get_put_ne _ _ _ _ (by omega), Tr.get_put_ne _ _ _ _ (Ne.symm c1)]) (by rw [Tr.get_put_same]; simp)
      (fun c' hc => by rw [Tr.get_put_ne _ _ _ _ (by omega), Tr.get_put_ne _ _ _ _ (by omega)]; exact hb.fr _ (by omega))
    have ha := app_open (nx := nx) h2 c6 hs hne (by simp) (by simpa using hm) (one_byteA more)
    simp only [List.length_map] at ha
    exact ⟨_, _, _, ha, f1, f2, fun c' h1 h2 h3 => by
      have hcc : c' ≠ c := fun e => h3 bs.length none (by rw [e]; exact hbf)
      rw [Tr.get_put_ne _ _ _ _ (by omega), Tr.get_put_ne _ _ _ _ (by omega), Tr.get_put_ne _ _ _ _ hcc]⟩
theorem ws_cl2 {n0 p o : Nat} {cs : List AV} {t : TypeId} {bs : List UInt8} (hb : Bld n0 H nx p o cs t bs) (more : List UInt8) (h0 : more ≠ []) (hlen : bs.length + more.length ≤ 100000000) :
    ∃ H' nx' cs', Cl cx 70 [.ptr p o, strA more] H nx = some (.tuple [.lit (.int .i64 more.length), .lit .nilIface], H', nx') ∧ Bld n0 H' nx' p o cs' t (bs ++ more) ∧ nx ≤ nx' ∧
      ∀ c, c < nx → c ≠ p → (∀ n k, cs[o + 1]? ≠ some (.slice c 0 n k 1)) → H'.get c = H.get c := by
  obtain ⟨H1, cs1, k1, k2, k3, k4, k5, k6⟩ := cc_cl hb
  obtain ⟨bf, hbf⟩ : ∃ bf, cs1[o + 1]? = some bf := by
    rcases k2.buf with ⟨_, h⟩ | ⟨c, _, _, _, h, _⟩ <;> exact ⟨_, h⟩
  have hsrc : srcCells H1 1 (strA more) = some (more.length, more.map byteA) := by
    simp only [srcCells, strA, if_true, B_size, B_data]
    rfl
  obtain ⟨H3, bf', H4, a1, a2, a3, a4⟩ := app_bld2 (t2 := 9) (x := strA more) (more := more) k2 k3 hbf (.inr rfl) hsrc h0 (by omega)
  refine ⟨H4, nx + 1, cs1.set (o + 1) bf', ?_, a3, by omega, fun c h1 h2 h3 => ?_⟩
  · refine wp70 _ _ _ _ (by simp) ?_
    unfold s70
    simp only [↓aD, ↓aE, ↓aF, ↓aG, ↓aH, ↓aI, ↓aJ, ↓aK, aL, ↓aM, ↓aN, aO, stepA, opA, convA, isCall, put?, ev, aA, aQ, builtinA, callA, argEnv, wantedS, aR, aS, aT, aU, aV, aW, aX, aY, undef, z_none, bA, bB, bC, bD, bH, bI, extractOp, bK, bL, bM, bN, Nat.reduceLT, Nat.reduceEqDiff, Nat.reduceAdd, bR, bS, ↓reduceIte, reduceCtorEq, resA, resOf, cB, maxA, minA, x_none, k1, nc_ptr, fa125_1, ld_at (t := 81) (by kernel_rfl) k2.hp hbf, a1, a2, str_len]
  · rw [a4 c h1 h2 (fun n k => by rw [k4 (o + 1) (by omega)]; exact h3 n k), k5 c h2]
theorem bsp (n : Int) (p : W) : buildSliceOp cx.T H nx 100 3 [(0, strA wPattern), (1, strA (Lib.itoa n)), (2, strA p)] = some (.slice nx 0 3 (some 3) 1, H.put nx (some (.cells [strA wPattern, strA (Lib.itoa n), strA p] 9 false)), nx + 1) := by kernel_rfl
theorem lit_nl : AV.lit (.string (ByteArray.mk #[10])) = strA [10] := rfl
theorem head_len {m : Int} {p : W} (hm : -9223372036854775808 ≤ m ∧ m ≤ 9223372036854775807) : (joi (headW m p)).length ≤ 4 * p.length + 40 := by
  have h1 := num_len m hm
  have h2 := writeW_len p
  have v : wPattern.length = 7 := rfl
  rw [joi_len]
  simp only [headW, List.map_cons, List.map_nil, List.sum_cons, List.sum_nil, List.length_cons, List.length_nil]
  omega
theorem rep_cl (es : List Ent) {v : AV} (hE : ∀ e ∈ es, EntOK e) (hR : RdE H nx v es) (hm : es.length ≤ 1000000) (hfr : ∀ b, nx ≤ b → H.get b = none) :
    ∃ v' H' nx', Cl cx 46 [v] H nx = some (v', H', nx') ∧ (v' = .tuple [strA (repR es).1, .lit (.int .i64 (repR es).2)] ∧ Fr H nx H' nx') := by
  refine wpP46 _ _ _ _ (by simp) ?_
  unfold s46
  simp only [↓aD, ↓aE, ↓aF, ↓aG, ↓aH, ↓aI, ↓aJ, ↓aK, aL, ↓aM, ↓aN, aO, stepA, opA, convA, isCall, put?, ev, aA, aQ, builtinA, callA, argEnv, wantedS, aR, aS, aT, aU, aV, aW, aX, aY, undef, z_none, bA, bB, bC, bD, bH, bI, extractOp, bK, bL, bM, bN, Nat.reduceLT, Nat.reduceEqDiff, Nat.reduceAdd, bR, bS, ↓reduceIte, reduceCtorEq, resA, resOf, cB, maxA, minA, al125, hR.ln]
  refine Wp_loop (fun m st => ∃ (i j : Nat) (lg : Bool) (cs : List AV), m = es.length - i ∧ i ≤ es.length ∧ j ≤ i ∧ (∀ e ∈ es.take i, e.tell) ∧ Bld nx st.H st.nx nx 0 cs 125 (textW (es.take j)) ∧ (∀ c, c < nx → st.H.get c = H.get c) ∧ (lg = false → j = i) ∧ (lg = true → 1048576 < (textW (es.take j)).length) ∧
    (textW (es.take j) ≠ [] ∨ cs[0 + 1]? = some (.lit (.slice none 0 0))) ∧ st.env.get 4 = some (.ptr nx 0) ∧ st.env.get 5 = some (.lit (.bool lg)) ∧ st.env.get 10 = some v ∧ st.env.get 11 = some (.lit (.int .i64 es.length)) ∧ st.env.get 12 = some (.lit (.int .i64 i))) ?_ es.length _
    ⟨0, 0, false, _, rfl, by omega, by omega, by simp, bld_new hfr, fun c hc => Tr.get_put_ne _ _ _ _ (by omega), fun _ => rfl, fun h => by simp at h, .inr rfl, rfl, rfl, rfl, rfl, rfl⟩
  rintro m ⟨E, H1, nx1⟩ ⟨i, j, lg, cs, hm1, hi, hj, hT, hB, hold, hl0, hl1, hz, e4, e5, e10, e11, e12⟩
  simp only at hB hold e4 e5 e10 e11 e12
  have hp1 := hB.p1
  refine Wp_of ?_
  unfold s46_l0
  by_cases hlt : i < es.length
  · have hii : ((i : Int) < (es.length : Int)) = True := by simp; omega
    have hmem : es[i] ∈ es := List.getElem_mem hlt
    obtain ⟨e, he⟩ : ∃ e, e = es[i] := ⟨_, rfl⟩
    have hts : es.take (i + 1) = es.take i ++ [e] := by rw [List.take_add_one, List.getElem?_eq_getElem hlt, he]; rfl
    have hk := hE _ hmem
    rw [← he] at hk hmem
    obtain ⟨q, o, q1, hix, hld⟩ := hR.ix i hlt
    have hld1 := hld H1 (hold q q1)
    rw [← he] at hld1
    obtain ⟨H2, hH2⟩ : ∃ X, X = (H1.put nx1 (some (.cells (entC Ent.zero) 75 false))).put nx1 (some (.cells (entC e) 75 false)) := ⟨_, rfl⟩
    have hst := st_all (H := H1.put nx1 (some (.cells (entC Ent.zero) 75 false))) (t := 75) (vs := entC e) (by kernel_rfl) (Tr.get_put_same _ _ _) rfl rfl
    rw [← hH2] at hst
    have F2 : Fr H1 nx1 H2 (nx1 + 1) := by rw [hH2]; exact Fr.put2 hB.fr _ _
    have x2 : H2.get nx1 = some (.cells (entC e) 75 false) := by rw [hH2]; exact Tr.get_put_same _ _ _
    have lr2 : loadOp cx.T H2 39 (.ptr nx1 2) = some (.agg (recC e.rcd)) := ld_off (by kernel_rfl) x2 rfl
    obtain ⟨v3, H3, nx3, w1, rfl, w2⟩ := write_rec (H := H2) (nx := nx1 + 1) e.rcd hk.r hk.s F2.fr
    have g3 := w2.le
    have x3 : H3.get nx1 = _ := (w2.old nx1 (by omega)).trans x2
    have F3 := F2.trans w2
    have B3 := hB.mono F3
    have lm3 : loadOp cx.T H3 3 (.ptr nx1 1) = some (.lit (.int .i64 e.mode)) := ld_at (by kernel_rfl) x3 rfl
    have lp3 : loadOp cx.T H3 9 (.ptr nx1 0) = some (strA e.pat) := ld_at (by kernel_rfl) x3 rfl
    have rt := right_cl (H := H3) (nx := nx3) e.mode
    have hw3 := wrapS (i := i) (by omega)
    have hold3 : ∀ c, c < nx → H3.get c = H.get c := fun c hc => (F3.old c (by omega)).trans (hold c hc)
    by_cases htl : e.tell
    · have hrt : decide (right e.mode) = true := by simpa using htl.2
      rw [hrt] at rt
      rw [if_pos htl.1, if_pos htl.1] at w1
      have hT' : ∀ x ∈ es.take (i + 1), x.tell := by
        intro x hx
        rw [hts, List.mem_append, List.mem_singleton] at hx
        rcases hx with h | rfl
        · exact hT x h
        · exact htl
      have hbl := blen_cl B3
      by_cases hlg : lg = true ∨ 1048576 < (textW (es.take j)).length
      · have hlong : 1048576 < (textW (es.take j)).length := hlg.elim (fun h => hl1 h) id
        have hgt : (((textW (es.take j)).length : Int) > 1048576) = True := by simp; omega
        cases lg with
        | true =>
          simp only [↓aD, ↓aE, ↓aF, ↓aG, ↓aH, ↓aI, ↓aJ, ↓aK, aL, ↓aM, ↓aN, aO, stepA, opA, convA, isCall, put?, ev, aA, aQ, builtinA, callA, argEnv, wantedS, aR, aS, aT, aU, aV, aW, aX, aY, undef, z_none, bA, bB, bC, bD, bH, bI, extractOp, bK, bL, bM, bN, Nat.reduceLT, Nat.reduceEqDiff, Nat.reduceAdd, bR, bS, ↓reduceIte, reduceCtorEq, resA, resOf, cB, maxA, minA, x_none, e4, e5, e10, e11, e12, hii, hix, hld1, al75, hst, fa75_2, lr2, w1, partsA, fa75_1, lm3, rt, hbl, hw3]
          exact ⟨es.length - (i + 1), by omega, i + 1, j, true, cs, rfl, by omega, by omega, hT', B3, hold3, (by simp), fun _ => hlong, hz, rfl, rfl⟩
        | false =>
          simp only [↓aD, ↓aE, ↓aF, ↓aG, ↓aH, ↓aI, ↓aJ, ↓aK, aL, ↓aM, ↓aN, aO, stepA, opA, convA, isCall, put?, ev, aA, aQ, builtinA, callA, argEnv, wantedS, aR, aS, aT, aU, aV, aW, aX, aY, undef, z_none, bA, bB, bC, bD, bH, bI, extractOp, bK, bL, bM, bN, Nat.reduceLT, Nat.reduceEqDiff, Nat.reduceAdd, bR, bS, ↓reduceIte, reduceCtorEq, resA, resOf, cB, maxA, minA, x_none, e4, e5, e10, e11, e12, hii, hix, hld1, al75, hst, fa75_2, lr2, w1, partsA, fa75_1, lm3, rt, hbl, hgt, hw3]
          exact ⟨es.length - (i + 1), by omega, i + 1, j, true, cs, rfl, by omega, by omega, hT', B3, hold3, (by simp), fun _ => hlong, hz, rfl, rfl⟩
      · have hlf : lg = false := by cases lg with
          | true => exact absurd (.inl rfl) hlg
          | false => rfl
        subst hlf
        have hsh : (textW (es.take j)).length ≤ 1048576 := by
          rcases Nat.lt_or_ge 1048576 (textW (es.take j)).length with h | h
          · exact absurd (.inr h) hlg
          · exact h
        have hji := hl0 rfl
        subst hji
        have hgt : (((textW (es.take j)).length : Int) > 1048576) = False := by simp; omega
        have hhl := head_len (p := e.pat) hk.m
        have hll := line_len e.rcd hk.r
        have := hk.s.x; have := hk.s.y; have := hk.s.z; have := hk.p
        have nm3 := num_cl (H := H3) (nx := nx3) e.mode hk.m
        obtain ⟨v4, H4, nx4, p1, rfl, p2⟩ := write_cl (H := H3) (nx := nx3) (s := e.pat) hk.p w2.fr
        have F5 := Fr.put p2.fr (some (.cells [strA wPattern, strA (Lib.itoa e.mode), strA (writeW e.pat)] 9 false))
        have bs5 := bsp (H := H4) (nx := nx4) e.mode (writeW e.pat)
        obtain ⟨H5, hH5⟩ : ∃ X, X = H4.put nx4 (some (.cells [strA wPattern, strA (Lib.itoa e.mode), strA (writeW e.pat)] 9 false)) := ⟨_, rfl⟩
        rw [← hH5] at F5 bs5
        have x5 : H5.get nx4 = some (.cells ((headW e.mode e.pat).map strA) 9 false) := by rw [hH5]; exact Tr.get_put_same _ _ _
        obtain ⟨H6, nx6, d1, d2⟩ := words_cl (H := H5) (nx := nx4 + 1) (k := some 3) (ws := headW e.mode e.pat) (by simp [headW]) x5 (by omega) F5.fr (by simp [headW]) (.inr rfl) (by omega)
        have d1' : Cl cx 71 [.slice nx4 0 3 (some 3) 1] H5 (nx4 + 1) = some (strA (joi (headW e.mode e.pat)), H6, nx6) := d1
        have F6 := (p2.trans F5).trans d2
        have B6 := B3.mono F6
        have c1 : binOpA cx.P cx.T .add 9 (.tmp 44) (.const (.string (ByteArray.mk #[10]))) (strA (joi (headW e.mode e.pat))) (strA [10]) = some (strA (joi (headW e.mode e.pat) ++ [10])) := str_add _ _ _ _ (by simp; omega)
        have c2 : binOpA cx.P cx.T .add 9 (.tmp 45) (.tmp 46) (strA (joi (headW e.mode e.pat) ++ [10])) (strA (joi (lineW e.rcd))) = some (strA (joi (headW e.mode e.pat) ++ [10] ++ joi (lineW e.rcd))) := str_add _ _ _ _ (by simp; omega)
        have hew : joi (headW e.mode e.pat) ++ [10] ++ joi (lineW e.rcd) ++ [10] = entW e := by simp [entW]
        have c3 : binOpA cx.P cx.T .add 9 (.tmp 47) (.const (.string (ByteArray.mk #[10]))) (strA (joi (headW e.mode e.pat) ++ [10] ++ joi (lineW e.rcd))) (strA [10]) = some (strA (entW e)) := by rw [← hew]; exact str_add _ _ _ _ (by simp; omega)
        have hel : (entW e).length ≤ 50000000 := by rw [← hew]; simp; omega
        obtain ⟨H7, nx7, cs7, a1, a2, a3, a4⟩ := ws_cl2 B6 (entW e) (entW_ne e) (by omega)
        have g4 := p2.le
        have g6 := d2.le
        have x4 : H4.get nx1 = _ := (p2.old nx1 (by omega)).trans x3
        have x5' : H5.get nx1 = some (.cells (entC e) 75 false) := (F5.old nx1 (by omega)).trans x4
        have x6 : H6.get nx1 = some (.cells (entC e) 75 false) := (d2.old nx1 (by omega)).trans x5'
        have hnb : ∀ c, c < nx ∨ c = nx1 → ∀ n k, cs[0 + 1]? ≠ some (.slice c 0 n k 1) := by
          intro c hc n k hcon
          rcases hB.buf with ⟨_, h⟩ | ⟨c', h1, h2, h3, h, _⟩
          · rw [h] at hcon; injection hcon with hcon; cases hcon
          · rw [h] at hcon
            injection hcon with hcon
            injection hcon with q1 _ _ _ _
            omega
        have x7 : H7.get nx1 = _ := (a4 nx1 (by omega) (by omega) (hnb nx1 (.inr rfl))).trans x6
        have lds : ∀ X : Heap, X.get nx1 = some (.cells (entC e) 75 false) → loadOp cx.T X 3 (.ptr nx1 1) = some (.lit (.int .i64 e.mode)) ∧ loadOp cx.T X 9 (.ptr nx1 0) = some (strA e.pat) :=
          fun X h => ⟨ld_at (by kernel_rfl) h rfl, ld_at (by kernel_rfl) h rfl⟩
        obtain ⟨lm4, lp4⟩ := lds H4 x4
        obtain ⟨lm5, lp5⟩ := lds H5 x5'
        obtain ⟨lm6, lp6⟩ := lds H6 x6
        obtain ⟨lm7, lp7⟩ := lds H7 x7
        have hb1 : nx1 < nx3 := by omega
        simp only [↓aD, ↓aE, ↓aF, ↓aG, ↓aH, ↓aI, ↓aJ, ↓aK, aL, ↓aM, ↓aN, aO, stepA, opA, convA, isCall, put?, ev, aA, aQ, builtinA, callA, argEnv, wantedS, aR, aS, aT, aU, aV, aW, aX, aY, undef, z_none, bA, bB, bC, bD, bH, bI, extractOp, bK, bL, bM, bN, Nat.reduceLT, Nat.reduceEqDiff, Nat.reduceAdd, bR, bS, ↓reduceIte, reduceCtorEq, resA, resOf, cB, maxA, minA, x_none, e4, e5, e10, e11, e12, hii, hix, hld1, al75, hst, fa75_2, lr2, w1, partsA, fa75_1, lm3, rt, hbl, hgt]
        refine wpS_draw6 nx3 (Nat.le_refl _) (show s46_d0.toList.map (stripO s46_d0) = s46_d0s by kernel_rfl) ?_
        unfold s46_d0s
        simp only [↓aD, ↓aE, ↓aF, ↓aG, ↓aH, ↓aI, ↓aJ, ↓aK, aL, ↓aM, ↓aN, aO, stepA, opA, convA, isCall, put?, ev, aA, aQ, builtinA, callA, argEnv, wantedS, aR, aS, aT, aU, aV, aW, aX, aY, undef, z_none, bA, bB, bC, bD, bH, bI, extractOp, bK, bL, bM, bN, Nat.reduceLT, Nat.reduceEqDiff, Nat.reduceAdd, bR, bS, ↓reduceIte, reduceCtorEq, resA, resOf, cB, maxA, minA, ↓dB, ↓dC, txS, dD, dE, dF, dG, dH, dI, dJ, dK, dL, dM, dN, aB, isEff, dV, AV.belowB, ↓dY, ↓dZ, eA, eB, eC, eD, eF, eG, eH, eI, eJ, eK, eL, eM, eN, eO, eP, eQ, eS, eT, eU, goodAt_eq, ldLow, aC, x_none, fa75_0, fa75_1, lm3, lm4, lm5, lm6, lm7, lp3, lp4, lp5, lp6, lp7, nm3, p1, partsA, lit_pattern, lit_nl, bsp, ← hH5, d1', c1, c2, c3, e4, a1, a3, g4, g6, hb1, eqB_strA, below_strA]
        try simp only [↓aD, ↓aE, ↓aF, ↓aG, ↓aH, ↓aI, ↓aJ, ↓aK, aL, ↓aM, ↓aN, aO, stepA, opA, convA, isCall, put?, ev, aA, aQ, builtinA, callA, argEnv, wantedS, aR, aS, aT, aU, aV, aW, aX, aY, undef, z_none, bA, bB, bC, bD, bH, bI, extractOp, bK, bL, bM, bN, Nat.reduceLT, Nat.reduceEqDiff, Nat.reduceAdd, bR, bS, ↓reduceIte, reduceCtorEq, resA, resOf, cB, maxA, minA, e10, e11, e12, hw3]
        have htw : textW (es.take (j + 1)) = textW (es.take j) ++ entW e := by rw [hts, textW_app]; simp [textW]
        refine ⟨es.length - (j + 1), by omega, j + 1, j + 1, false, cs7, rfl, by omega, by omega, hT', by rw [htw]; exact a2, ?_, fun _ => rfl, fun h => by simp at h, ?_, rfl, rfl⟩
        · intro c hc
          rw [a4 c (by omega) (by omega) (hnb c (.inl hc)), F6.old c (by omega)]
          exact hold3 c hc
        · left
          rw [htw]
          simp [entW]
    · have hrep : repR es = ([], 1) := by
        unfold repR
        rw [if_pos ⟨e, hmem, htl⟩]
      rw [hrep]
      have hF : Fr H nx H3 nx3 := ⟨by omega, hold3, w2.fr⟩
      by_cases htd : e.rcd.told
      · have hrt : decide (right e.mode) = false := by simpa using fun h => htl ⟨htd, h⟩
        rw [hrt] at rt
        rw [if_pos htd, if_pos htd] at w1
        simp only [↓aD, ↓aE, ↓aF, ↓aG, ↓aH, ↓aI, ↓aJ, ↓aK, aL, ↓aM, ↓aN, aO, stepA, opA, convA, isCall, put?, ev, aA, aQ, builtinA, callA, argEnv, wantedS, aR, aS, aT, aU, aV, aW, aX, aY, undef, z_none, bA, bB, bC, bD, bH, bI, extractOp, bK, bL, bM, bN, Nat.reduceLT, Nat.reduceEqDiff, Nat.reduceAdd, bR, bS, ↓reduceIte, reduceCtorEq, resA, resOf, cB, maxA, minA, x_none, e4, e5, e10, e11, e12, hii, hix, hld1, al75, hst, fa75_2, lr2, w1, partsA, fa75_1, lm3, rt]
        exact ⟨rfl, hF⟩
      · rw [if_neg htd, if_neg htd] at w1
        simp only [↓aD, ↓aE, ↓aF, ↓aG, ↓aH, ↓aI, ↓aJ, ↓aK, aL, ↓aM, ↓aN, aO, stepA, opA, convA, isCall, put?, ev, aA, aQ, builtinA, callA, argEnv, wantedS, aR, aS, aT, aU, aV, aW, aX, aY, undef, z_none, bA, bB, bC, bD, bH, bI, extractOp, bK, bL, bM, bN, Nat.reduceLT, Nat.reduceEqDiff, Nat.reduceAdd, bR, bS, ↓reduceIte, reduceCtorEq, resA, resOf, cB, maxA, minA, x_none, e4, e5, e10, e11, e12, hii, hix, hld1, al75, hst, fa75_2, lr2, w1, partsA]
        exact ⟨rfl, hF⟩
  · obtain rfl : i = es.length := by omega
    have hii : ((es.length : Int) < (es.length : Int)) = False := by simp
    rw [List.take_length] at hT
    have hno : ¬ ∃ e ∈ es, ¬ e.tell := fun ⟨e, h1, h2⟩ => h2 (hT e h1)
    have hF : ∀ X, (∀ c, c < nx → X.get c = H.get c) → (∀ b, nx1 ≤ b → X.get b = none) → Fr H nx X nx1 := fun X h1 h2 => ⟨by omega, h1, h2⟩
    by_cases hlg : lg = true ∨ 1048576 < (textW (es.take j)).length
    · have hlong : 1048576 < (textW (es.take j)).length := hlg.elim (fun h => hl1 h) id
      have hgt : (((textW (es.take j)).length : Int) > 1048576) = True := by simp; omega
      have hall : 1048576 < (textW es).length := by
        have h1 : textW es = textW (es.take j) ++ textW (es.drop j) := by rw [← textW_app, List.take_append_drop]
        rw [h1, List.length_append]; omega
      have hrep : repR es = ([], 3) := by
        unfold repR
        rw [if_neg hno, if_pos hall]
      rw [hrep]
      have hbl := blen_cl hB
      cases lg with
      | true =>
        simp only [↓aD, ↓aE, ↓aF, ↓aG, ↓aH, ↓aI, ↓aJ, ↓aK, aL, ↓aM, ↓aN, aO, stepA, opA, convA, isCall, put?, ev, aA, aQ, builtinA, callA, argEnv, wantedS, aR, aS, aT, aU, aV, aW, aX, aY, undef, z_none, bA, bB, bC, bD, bH, bI, extractOp, bK, bL, bM, bN, Nat.reduceLT, Nat.reduceEqDiff, Nat.reduceAdd, bR, bS, ↓reduceIte, reduceCtorEq, resA, resOf, cB, maxA, minA, x_none, e4, e5, e10, e11, e12, hii]
        exact ⟨rfl, hF H1 hold hB.fr⟩
      | false =>
        simp only [↓aD, ↓aE, ↓aF, ↓aG, ↓aH, ↓aI, ↓aJ, ↓aK, aL, ↓aM, ↓aN, aO, stepA, opA, convA, isCall, put?, ev, aA, aQ, builtinA, callA, argEnv, wantedS, aR, aS, aT, aU, aV, aW, aX, aY, undef, z_none, bA, bB, bC, bD, bH, bI, extractOp, bK, bL, bM, bN, Nat.reduceLT, Nat.reduceEqDiff, Nat.reduceAdd, bR, bS, ↓reduceIte, reduceCtorEq, resA, resOf, cB, maxA, minA, x_none, e4, e5, e10, e11, e12, hii, hbl, hgt]
        exact ⟨rfl, hF H1 hold hB.fr⟩
    · have hlf : lg = false := by cases lg with
        | true => exact absurd (.inl rfl) hlg
        | false => rfl
      subst hlf
      have hji := hl0 rfl
      subst hji
      rw [List.take_length] at hB hz hlg
      have hsh : (textW es).length ≤ 1048576 := by
        rcases Nat.lt_or_ge 1048576 (textW es).length with h | h
        · exact absurd (.inr h) hlg
        · exact h
      have hgt : (((textW es).length : Int) > 1048576) = False := by simp; omega
      have hrep : repR es = (textW es, 0) := by
        unfold repR
        rw [if_neg hno, if_neg (by omega)]
      rw [hrep]
      have hbl := blen_cl hB
      obtain ⟨H9, s1, s2, s3⟩ := bstr_cl hB (by omega) hz
      simp only [↓aD, ↓aE, ↓aF, ↓aG, ↓aH, ↓aI, ↓aJ, ↓aK, aL, ↓aM, ↓aN, aO, stepA, opA, convA, isCall, put?, ev, aA, aQ, builtinA, callA, argEnv, wantedS, aR, aS, aT, aU, aV, aW, aX, aY, undef, z_none, bA, bB, bC, bD, bH, bI, extractOp, bK, bL, bM, bN, Nat.reduceLT, Nat.reduceEqDiff, Nat.reduceAdd, bR, bS, ↓reduceIte, reduceCtorEq, resA, resOf, cB, maxA, minA, x_none, e4, e5, e10, e11, e12, hii, hbl, hgt, s1]
      exact hF H9 (fun c hc => (s2 c hc).trans (hold c hc)) s3
end Seat
end CI
namespace CI
open Go
namespace Seat
open Quo Rcd Spl
variable {H : Heap} {nx : Nat}
end Seat
end CI
namespace CI
open Go
namespace Seat
open Quo Rcd Spl
variable {H : Heap} {nx : Nat}
end Seat
end CI
namespace CI
open Go
namespace Seat
open Quo Rcd Spl
variable {H : Heap} {nx : Nat}
theorem joi_word {w : W} {ws : List W} (h : w ∈ ws) : w.length ≤ (joi ws).length := by
  have := le_sum h
  rw [joi_len]
  omega
theorem write_ge (s : W) : s.length ≤ (writeW s).length := by
  unfold writeW
  split
  · rename_i h; subst h; simp
  · exact flat_len s
theorem line_short (r : Rec) (h : (joi (lineW r)).length ≤ 100000) : Short r := by
  have hx := joi_word (w := writeW r.x) (ws := lineW r) (by simp [lineW])
  have hy := joi_word (w := writeW r.y) (ws := lineW r) (by simp [lineW])
  have hz := joi_word (w := writeW r.z) (ws := lineW r) (by simp [lineW])
  have := write_ge r.x
  have := write_ge r.y
  have := write_ge r.z
  exact ⟨by omega, by omega, by omega⟩
end Seat
end CI
namespace CI
open Go
namespace Rcd
open Quo Spl
theorem step_nl {t : W} {a i n : Nat} (ha : a ≤ i) (hi : t[i]? = some 10) (hno : (10 : UInt8) ∉ (t.drop a).take (i - a)) (hL : linesOf (t.drop a) = ((linesOf t).1.drop n, (linesOf t).2)) :
    (linesOf t).1[n]? = some ((t.drop a).take (i - a)) ∧ linesOf (t.drop (i + 1)) = ((linesOf t).1.drop (n + 1), (linesOf t).2) ∧ (t.take (i + 1)).drop a = (t.drop a).take (i - a) ++ [10] := by
  have hlt : i < t.length := (List.getElem?_eq_some_iff.1 hi).1
  have hget : t[i] = 10 := (List.getElem?_eq_some_iff.1 hi).2
  have h1 : t.drop a = (t.drop a).take (i - a) ++ 10 :: t.drop (i + 1) := by
    have e1 : (t.drop a).drop (i - a) = t.drop i := by rw [List.drop_drop]; congr 1; omega
    have e2 : t.drop i = 10 :: t.drop (i + 1) := by rw [List.drop_eq_getElem_cons hlt, hget]
    calc t.drop a = (t.drop a).take (i - a) ++ (t.drop a).drop (i - a) := (List.take_append_drop _ _).symm
      _ = _ := by rw [e1, e2]
  have h2 : linesOf (t.drop a) = ((t.drop a).take (i - a) :: (linesOf (t.drop (i + 1))).1, (linesOf (t.drop (i + 1))).2) := by
    have := lines_app hno (t.drop (i + 1))
    rw [← h1] at this
    exact this
  rw [hL] at h2
  injection h2 with h3 h4
  refine ⟨?_, ?_, ?_⟩
  · have : ((linesOf t).1.drop n)[0]? = some ((t.drop a).take (i - a)) := by rw [h3]; rfl
    rw [List.getElem?_drop] at this
    simpa using this
  · have h5 : (linesOf t).1.drop (n + 1) = (linesOf (t.drop (i + 1))).1 := by
      have : ((linesOf t).1.drop n).drop 1 = (linesOf (t.drop (i + 1))).1 := by rw [h3]; rfl
      rw [List.drop_drop] at this
      exact this
    rw [h5, h4]
  · have e3 : (t.take (i + 1)).drop a = (t.drop a).take (i + 1 - a) := by rw [List.drop_take]
    have e4 : i + 1 - a = (i - a) + 1 := by omega
    have e5 : (t.drop a)[i - a]? = some 10 := by rw [List.getElem?_drop]; rw [show a + (i - a) = i by omega]; exact hi
    rw [e3, e4, List.take_add_one, e5]
    rfl
theorem end_nl {t : W} {a n : Nat} (hno : (10 : UInt8) ∉ t.drop a) (hL : linesOf (t.drop a) = ((linesOf t).1.drop n, (linesOf t).2)) : (linesOf t).1.length ≤ n ∧ (linesOf t).2 = t.drop a := by
  rw [lines_free hno] at hL
  injection hL with h1 h2
  exact ⟨by simpa using h1.symm, h2.symm⟩
theorem err_line {t : W} {k n : Nat} (h : parseT t = .error k) (hg : ∀ j l, j < n → (linesOf t).1[j]? = some l → goodG headQ readR j l = true) :
    (∀ l, (linesOf t).1[n]? = some l → goodG headQ readR n l = false → k = n + 1) ∧ ((linesOf t).1.length = n → k = n + 1 ∧ ((linesOf t).2 ≠ [] ∨ n % 2 = 1)) := by
  rcases parseG_err _ _ _ _ h with ⟨i, l, h1, h2, h3, h4⟩ | ⟨h1, h2, h3⟩
  · refine ⟨fun l' hl hb => ?_, fun hn => ?_⟩
    · rcases Nat.lt_trichotomy i n with hc | hc | hc
      · rw [hg i l hc h1] at h3; cases h3
      · omega
      · rw [h2 n l' hc hl] at hb; cases hb
    · have : i < (linesOf t).1.length := (List.getElem?_eq_some_iff.1 h1).1
      rw [hg i l (by omega) h1] at h3; cases h3
  · refine ⟨fun l' hl hb => ?_, fun hn => ?_⟩
    · rw [h1 n l' hl] at hb; cases hb
    · exact ⟨by omega, by rw [← hn]; exact h3⟩
theorem text_mem {es : List Ent} {e : Ent} (h : e ∈ es) : (entW e).length ≤ (textW es).length := by
  induction es with
  | nil => cases h
  | cons x es ih =>
    simp only [textW, List.flatMap_cons, List.length_append]
    rcases List.mem_cons.1 h with rfl | h
    · omega
    · have := ih h
      simp only [textW] at this
      omega
theorem text_len (es : List Ent) : es.length ≤ (textW es).length := by
  induction es with
  | nil => simp
  | cons x es ih =>
    simp only [textW, List.flatMap_cons, List.length_append, List.length_cons] at ih ⊢
    have : 1 ≤ (entW x).length := List.length_pos_iff.2 (entW_ne x)
    omega
end Rcd
namespace Seat
open Quo Rcd Spl
variable {H : Heap} {nx : Nat}
theorem ents_drop : ∀ (es : List Ent) (i : Nat), (entsC es).drop (i * 16) = entsC (es.drop i)
  | es, 0 => by simp
  | [], i + 1 => by simp [entsC]
  | e :: es, i + 1 => by
    have h1 : entsC (e :: es) = entC e ++ entsC es := rfl
    have h2 : (i + 1) * 16 = (entC e).length + i * 16 := by rw [entC_len]; omega
    rw [h1, h2, ← List.drop_drop, List.drop_left]
    exact ents_drop es i
theorem ents_cut {es : List Ent} {i : Nat} (h : i < es.length) : cut (entsC es) (i * 16) 16 = some (entC es[i]) := by
  have h1 : (entsC es).drop (i * 16) = entC es[i] ++ entsC (es.drop (i + 1)) := by
    rw [ents_drop, List.drop_eq_getElem_cons h]; rfl
  have h2 := entsC_len es
  unfold cut
  rw [if_pos (by omega), h1, List.take_left' (entC_len _)]
theorem EL.rd {n0 : Nat} {v : AV} {es : List Ent} (h : EL n0 H nx v es) : RdE H nx v es where
  ln := ln_el h
  ix := by
    intro i hi
    rcases h with ⟨rfl, rfl⟩ | ⟨c, k, c1, c2, rfl, c3, c4, c5⟩
    · simp at hi
    · refine ⟨c, i * 16, c2, ?_, fun H' hq => ?_⟩
      · unfold indexAddrOp
        simp only [T73, ti73, Te, ti75]
        rw [if_pos ⟨by omega, by omega, trivial⟩]
        simp
      · rw [c5] at hq
        exact ld_off (by kernel_rfl) hq (ents_cut hi)
theorem entOK_text {es : List Ent} (hl : (textW es).length ≤ 100000) (hg : ∀ e ∈ es, e.good) : ∀ e ∈ es, EntOK e := by
  intro e he
  have h1 := text_mem he
  obtain ⟨g1, g2, g3⟩ := hg e he
  have h2 : (entW e).length = (joi (headW e.mode e.pat)).length + 1 + ((joi (lineW e.rcd)).length + 1) := by simp [entW]; omega
  have h3 := joi_word (w := writeW e.pat) (ws := headW e.mode e.pat) (by simp [headW])
  have h4 := write_ge e.pat
  have h5 : 0 ≤ e.mode ∧ e.mode ≤ 3 := g3
  exact ⟨g2, line_short e.rcd (by omega), by omega, by omega⟩
theorem rep_text {es : List Ent} (hl : (textW es).length ≤ 100000) (hg : ∀ e ∈ es, e.good) : repR es = (textW es, 0) := by
  unfold repR
  rw [if_neg, if_neg (by omega)]
  rintro ⟨e, h1, h2⟩
  exact h2 ⟨(hg e h1).1, (hg e h1).2.2⟩
theorem str_slice (w : List UInt8) (a k : Nat) (ha : a ≤ k) (hk : k ≤ w.length) : sliceOp cx.P cx.T H 9 (strA w) (some (.lit (.int .i64 (a : Nat)))) (some (.lit (.int .i64 (k : Nat)))) none = some (strA ((w.take k).drop a)) := by
  have e : sliceOp cx.P cx.T H 9 (strA w) (some (.lit (.int .i64 (a : Nat)))) (some (.lit (.int .i64 (k : Nat)))) none = (pureRun cx.P (do
      let (l, h, _) ← Instr.sliceBounds false (B w).size (B w).size (some (.int .i64 (a : Nat))) (some (.int .i64 (k : Nat))) none
      pure (.string ((B w).extract l h)))).map abs := by kernel_rfl
  rw [e, pureRun_bind]
  have hb : pureRun cx.P (Instr.sliceBounds false (B w).size (B w).size (some (.int .i64 (a : Nat))) (some (.int .i64 (k : Nat))) none) = some (a, k, (B w).size) := by
    unfold Instr.sliceBounds
    simp only [pureRun_bind, pb_pure, Option.bind_some]
    rw [pb_bound (by rw [B_size]; exact hk)]
    simp only [Option.bind_some]
    rw [pb_bound ha]
    rfl
  rw [hb]
  simp only [Option.bind_some, pb_pure, Option.map_some, B_extract]
  rfl
theorem rem2 (x y : Operand) (n : Nat) : binOpA cx.P cx.T .rem 3 x y (.lit (.int .i64 (n : Int))) (.lit (.int .i64 2)) = some (.lit (.int .i64 ((n % 2 : Nat) : Int))) := by
  rw [bin_rem _ _ _ _ _ _ _ _ (by decide), Int.tmod_eq_emod_of_nonneg (by omega)]; rfl
theorem bd0 : buildOp cx.T 60 [] = some (.agg (recC Rec.zero)) := by kernel_rfl
theorem zero_short : Short Rec.zero := ⟨Nat.zero_le _, Nat.zero_le _, Nat.zero_le _⟩
theorem law_rp (w0 : World) (t : W) (hfr : ∀ b, nx ≤ b → H.get b = none) : ∃ v H' nx', Cl cx 11 [strA t] H nx = some (v, H', nx') ∧ v = .lit (.bool true) := by
  refine wpP11 _ _ _ _ (by simp) ?_
  unfold s11
  by_cases hl : ((t.length : Nat) : Int) > 1000
  · simp only [↓aD, ↓aE, ↓aF, ↓aG, ↓aH, ↓aI, ↓aJ, ↓aK, aL, ↓aM, ↓aN, aO, stepA, opA, convA, isCall, put?, ev, aA, aQ, builtinA, callA, argEnv, wantedS, aR, aS, aT, aU, aV, aW, aX, aY, undef, z_none, bA, bB, bC, bD, bH, bI, extractOp, bK, bL, bM, bN, Nat.reduceLT, Nat.reduceEqDiff, Nat.reduceAdd, bR, bS, ↓reduceIte, reduceCtorEq, resA, resOf, cB, maxA, minA, str_len, hl, x_caltroplaw22_awake]
  · have hl2 : t.length ≤ 1000 := by omega
    obtain ⟨v1, H1, nx1, p1, p2, p3⟩ := parse_cl' (H := H) (nx := nx) w0 t (by omega) hfr
    have hln0 : ∀ H', lenOp cx.T H' 73 (.lit (.slice none 0 0)) = some 0 := fun _ => by kernel_rfl
    cases hP : parseT t with
    | ok es =>
      rw [hP] at p2
      obtain ⟨s, rfl, hE⟩ := p2
      obtain ⟨ht, hg⟩ := parseT_back hP
      have htl : (textW es).length ≤ 100000 := by rw [ht]; omega
      have hel := text_len es
      obtain ⟨v2, H2, nx2, r1, rfl, r2⟩ := rep_cl (H := H1) (nx := nx1) es (entOK_text htl hg) hE.rd (by omega) p3.fr
      rw [rep_text htl hg, ht] at r1
      have hln := ln_el hE
      simp only [↓aD, ↓aE, ↓aF, ↓aG, ↓aH, ↓aI, ↓aJ, ↓aK, aL, ↓aM, ↓aN, aO, stepA, opA, convA, isCall, put?, ev, aA, aQ, builtinA, callA, argEnv, wantedS, aR, aS, aT, aU, aV, aW, aX, aY, undef, z_none, bA, bB, bC, bD, bH, bI, extractOp, bK, bL, bM, bN, Nat.reduceLT, Nat.reduceEqDiff, Nat.reduceAdd, bR, bS, ↓reduceIte, reduceCtorEq, resA, resOf, cB, maxA, minA, str_len, hl, x_caltroplaw22_awake, x_none, p1, r1, hln, str_eql, eq_self]
      try simp
    | error k =>
      rw [hP] at p2
      have p2' : v1 = .tuple [.lit (.slice none 0 0), .lit (.int .i64 k), .lit (.int .i64 4)] := p2
      subst p2'
      have hb4 : ((4 : Int) = 0) = False := by simp
      simp only [↓aD, ↓aE, ↓aF, ↓aG, ↓aH, ↓aI, ↓aJ, ↓aK, aL, ↓aM, ↓aN, aO, stepA, opA, convA, isCall, put?, ev, aA, aQ, builtinA, callA, argEnv, wantedS, aR, aS, aT, aU, aV, aW, aX, aY, undef, z_none, bA, bB, bC, bD, bH, bI, extractOp, bK, bL, bM, bN, Nat.reduceLT, Nat.reduceEqDiff, Nat.reduceAdd, bR, bS, ↓reduceIte, reduceCtorEq, resA, resOf, cB, maxA, minA, str_len, hl, x_caltroplaw22_awake, x_none, p1, hb4]
      refine Wp_loop (fun m st => ∃ (i a n : Nat), m = t.length - i ∧ i ≤ t.length ∧ a ≤ i ∧ n ≤ (linesOf t).1.length ∧ n ≤ a ∧ linesOf (t.drop a) = ((linesOf t).1.drop n, (linesOf t).2) ∧ (10 : UInt8) ∉ (t.drop a).take (i - a) ∧ (∀ j l, j < n → (linesOf t).1[j]? = some l → goodG headQ readR j l = true) ∧ (∀ b, st.nx ≤ b → st.H.get b = none) ∧
        st.env.get 0 = some (strA t) ∧ st.env.get 3 = some (.lit (.slice none 0 0)) ∧ st.env.get 4 = some (.lit (.int .i64 k)) ∧ st.env.get 5 = some (.lit (.int .i64 4)) ∧ st.env.get 8 = some (.lit (.int .i64 a)) ∧ st.env.get 9 = some (.lit (.int .i64 n)) ∧ st.env.get 10 = some (.lit (.int .i64 i))) ?_ t.length _
        ⟨0, 0, 0, rfl, by omega, by omega, by omega, by omega, rfl, by simp, fun j l h => by omega, p3.fr, rfl, rfl, rfl, rfl, rfl, rfl, rfl⟩
      rintro m ⟨E, H2, nx2⟩ ⟨i, a, n, hm, hi, hai, hn, hna, hL, hno, hgd, hf, e0, e3, e4, e5, e8, e9, e10⟩
      simp only at hf e0 e3 e4 e5 e8 e9 e10
      refine Wp_of ?_
      unfold s11_l0
      have hwi := wrapS (i := i) (by omega)
      have hwn := wrapS (i := n) (by omega)
      by_cases hlt : i < t.length
      · have hii : ((i : Int) < (t.length : Int)) = True := by simp; omega
        have hix := fun k => str_ix (l := t) i t[i] k (List.getElem?_eq_getElem hlt)
        by_cases hc : t[i] = 10
        · have hi10 : t[i]? = some 10 := by rw [List.getElem?_eq_getElem hlt, hc]
          obtain ⟨s1, s2, s3⟩ := step_nl hai hi10 hno hL
          obtain ⟨l, hll⟩ : ∃ l, l = (t.drop a).take (i - a) := ⟨_, rfl⟩
          rw [← hll] at s1 s3 hno
          have hn' : n < (linesOf t).1.length := (List.getElem?_eq_some_iff.1 s1).1
          have hlen : l.length ≤ 1000 := by rw [hll]; simp; omega
          have hne : byteA t[i] = .lit (.int .u8 10) := by rw [hc]; rfl
          have hsl := str_slice (H := H2) t a (i + 1) (by omega) (by omega)
          rw [s3] at hsl
          have hgd' : ∀ (g : goodG headQ readR n l = true), ∀ j l', j < n + 1 → (linesOf t).1[j]? = some l' → goodG headQ readR j l' = true := by
            intro g j l' hj hl'
            rcases Nat.lt_or_ge j n with h | h
            · exact hgd j l' h hl'
            · obtain rfl : j = n := by omega
              rw [s1] at hl'
              injection hl' with hl'
              subst hl'
              exact g
          have hkn : goodG headQ readR n l = false → k = n + 1 := (err_line hP hgd).1 l s1
          have next : ∀ (g : goodG headQ readR n l = true) (H3 : Heap) (nx3 : Nat), (∀ b, nx3 ≤ b → H3.get b = none) → ∃ m', m' < m ∧ (m' = t.length - (i + 1) ∧ i + 1 ≤ t.length ∧ i + 1 ≤ i + 1 ∧ n + 1 ≤ (linesOf t).1.length ∧ n + 1 ≤ i + 1 ∧ linesOf (t.drop (i + 1)) = ((linesOf t).1.drop (n + 1), (linesOf t).2) ∧ (10 : UInt8) ∉ (t.drop (i + 1)).take (i + 1 - (i + 1)) ∧ (∀ j l, j < n + 1 → (linesOf t).1[j]? = some l → goodG headQ readR j l = true) ∧ (∀ b, nx3 ≤ b → H3.get b = none)) :=
            fun g H3 nx3 h3 => ⟨t.length - (i + 1), by omega, rfl, by omega, by omega, by omega, by omega, s2, by simp, hgd' g, h3⟩
          by_cases hpar : (n + 1) % 2 = 1
          · have hp1 : ((((n + 1) % 2 : Nat) : Int) = 1) = True := by simp; omega
            have hgo : goodG headQ readR n l = (headQ l).isSome := by unfold goodG; rw [if_pos (by omega)]
            have hzl := line_len Rec.zero zero_ok
            obtain ⟨v3, H3, nx3, w1, rfl, w2⟩ := refwrite_cl (H := H2) (nx := nx2) Rec.zero zero_ok zero_short hf
            obtain ⟨z, hz⟩ : ∃ z, z = joi (lineW Rec.zero) := ⟨_, rfl⟩
            have hzl2 : z.length ≤ 300 := by rw [hz]; exact hzl
            rw [← hz] at w1
            have c2 : binOpA cx.P cx.T .add 9 (.tmp 75) (.tmp 77) (strA (l ++ [10])) (strA z) = some (strA (l ++ [10] ++ z)) := str_add _ _ _ _ (by simp; omega)
            have c3 : binOpA cx.P cx.T .add 9 (.tmp 78) (.const (.string (ByteArray.mk #[10]))) (strA (l ++ [10] ++ z)) (strA [10]) = some (strA (l ++ [10] ++ z ++ [10])) := str_add _ _ _ _ (by simp; omega)
            obtain ⟨v4, H4, nx4, y1, y2, y3⟩ := parse_cl' (H := H3) (nx := nx3) w0 (l ++ [10] ++ z ++ [10]) (by simp; omega) w2.fr
            have one := parseT_one hno
            have e12 : l ++ 10 :: (joi (lineW Rec.zero) ++ [10]) = l ++ [10] ++ z ++ [10] := by rw [hz]; simp
            rw [e12] at one
            cases hP4 : parseT (l ++ [10] ++ z ++ [10]) with
            | ok es =>
              rw [hP4] at y2
              obtain ⟨s, rfl, _⟩ := y2
              have g : goodG headQ readR n l = true := by rw [hgo]; exact one.1 ⟨es, hP4⟩
              simp only [↓aD, ↓aE, ↓aF, ↓aG, ↓aH, ↓aI, ↓aJ, ↓aK, aL, ↓aM, ↓aN, aO, stepA, opA, convA, isCall, put?, ev, aA, aQ, builtinA, callA, argEnv, wantedS, aR, aS, aT, aU, aV, aW, aX, aY, undef, z_none, bA, bB, bC, bD, bH, bI, extractOp, bK, bL, bM, bN, Nat.reduceLT, Nat.reduceEqDiff, Nat.reduceAdd, bR, bS, ↓reduceIte, reduceCtorEq, resA, resOf, cB, maxA, minA, x_none, e0, e3, e4, e5, e8, e9, e10, str_len, hii, hix, hne, hwi, hwn, hsl, rem2, hp1, partsA, bd0, w1, lit_nl, c2, c3, y1]
              obtain ⟨m', q1, q2, q3, q4, q5, q6, q7, q8, q9, q10⟩ := next g H4 nx4 y3.fr
              exact ⟨m', q1, i + 1, i + 1, n + 1, q2, q3, q4, q5, q6, q7, q8, q9, q10, rfl, rfl, rfl⟩
            | error k2 =>
              rw [hP4] at y2
              have y2' : v4 = .tuple [.lit (.slice none 0 0), .lit (.int .i64 k2), .lit (.int .i64 4)] := y2
              subst y2'
              have g : goodG headQ readR n l = false := by
                rw [hgo]
                cases hh : (headQ l).isSome with
                | false => rfl
                | true => obtain ⟨es, he⟩ := one.2 hh; rw [he] at hP4; cases hP4
              have hk := hkn g
              subst hk
              simp only [↓aD, ↓aE, ↓aF, ↓aG, ↓aH, ↓aI, ↓aJ, ↓aK, aL, ↓aM, ↓aN, aO, stepA, opA, convA, isCall, put?, ev, aA, aQ, builtinA, callA, argEnv, wantedS, aR, aS, aT, aU, aV, aW, aX, aY, undef, z_none, bA, bB, bC, bD, bH, bI, extractOp, bK, bL, bM, bN, Nat.reduceLT, Nat.reduceEqDiff, Nat.reduceAdd, bR, bS, ↓reduceIte, reduceCtorEq, resA, resOf, cB, maxA, minA, x_none, e0, e3, e4, e5, e8, e9, e10, str_len, hii, hix, hne, hwi, hwn, hsl, rem2, hp1, partsA, bd0, w1, lit_nl, c2, c3, y1, hb4, hln0, eq_self]
              try simp
          · have hp1 : ((((n + 1) % 2 : Nat) : Int) = 1) = False := by simp; omega
            have hgo : goodG headQ readR n l = (readR l).isSome := by unfold goodG; rw [if_neg (by omega)]
            have hsz : (l ++ [10]).length = l.length + 1 := by simp
            have hw1 := wrapP (i := l.length) (by omega)
            have hst := str_to (H := H2) (l ++ [10]) l.length (by simp)
            rw [List.take_left' rfl] at hst
            obtain ⟨v4, H4, nx4, y1, rfl, y3⟩ := read_rec (H := H2) (nx := nx2) w0 l (by omega) hf
            obtain ⟨r, hr⟩ : ∃ r, r = (readR l).getD Rec.zero := ⟨_, rfl⟩
            rw [← hr] at y1
            have hs5 := st_all (H := H4.put nx4 (some (.cells (recC Rec.zero) 39 false))) (t := 39) (p := nx4) (vs := recC r) (by kernel_rfl) (Tr.get_put_same _ _ _) rfl rfl
            have F5 := Fr.put2 y3.fr (some (.cells (recC Rec.zero) 39 false)) (some (.cells (recC r) 39 false))
            obtain ⟨H5, hH5⟩ : ∃ X, X = (H4.put nx4 (some (.cells (recC Rec.zero) 39 false))).put nx4 (some (.cells (recC r) 39 false)) := ⟨_, rfl⟩
            rw [← hH5] at hs5 F5
            cases hrd : (readR l).isSome with
            | true =>
              rw [hrd] at y1
              have g : goodG headQ readR n l = true := by rw [hgo]; exact hrd
              simp only [↓aD, ↓aE, ↓aF, ↓aG, ↓aH, ↓aI, ↓aJ, ↓aK, aL, ↓aM, ↓aN, aO, stepA, opA, convA, isCall, put?, ev, aA, aQ, builtinA, callA, argEnv, wantedS, aR, aS, aT, aU, aV, aW, aX, aY, undef, z_none, bA, bB, bC, bD, bH, bI, extractOp, bK, bL, bM, bN, Nat.reduceLT, Nat.reduceEqDiff, Nat.reduceAdd, bR, bS, ↓reduceIte, reduceCtorEq, resA, resOf, cB, maxA, minA, x_none, e0, e3, e4, e5, e8, e9, e10, str_len, hii, hix, hne, hwi, hwn, hsl, rem2, hp1, hsz, hw1, hst, y1, al39, hs5]
              obtain ⟨m', q1, q2, q3, q4, q5, q6, q7, q8, q9, q10⟩ := next g _ _ F5.fr
              exact ⟨m', q1, i + 1, i + 1, n + 1, q2, q3, q4, q5, q6, q7, q8, q9, q10, rfl, rfl, rfl⟩
            | false =>
              rw [hrd] at y1
              have g : goodG headQ readR n l = false := by rw [hgo]; exact hrd
              have hk := hkn g
              subst hk
              simp only [↓aD, ↓aE, ↓aF, ↓aG, ↓aH, ↓aI, ↓aJ, ↓aK, aL, ↓aM, ↓aN, aO, stepA, opA, convA, isCall, put?, ev, aA, aQ, builtinA, callA, argEnv, wantedS, aR, aS, aT, aU, aV, aW, aX, aY, undef, z_none, bA, bB, bC, bD, bH, bI, extractOp, bK, bL, bM, bN, Nat.reduceLT, Nat.reduceEqDiff, Nat.reduceAdd, bR, bS, ↓reduceIte, reduceCtorEq, resA, resOf, cB, maxA, minA, x_none, e0, e3, e4, e5, e8, e9, e10, str_len, hii, hix, hne, hwi, hwn, hsl, rem2, hp1, hsz, hw1, hst, y1, al39, hs5, hb4, hln0, eq_self]
              try simp
        · have hne : ∃ z : Int, byteA t[i] = .lit (.int .u8 z) ∧ (z = 10) = False := ⟨t[i].toNat, rfl, by
            simp only [eq_iff_iff, iff_false]
            intro h
            have h' : t[i].toNat = 10 := by omega
            exact hc (UInt8.toNat_inj.1 (h'.trans (rfl : 10 = (10 : UInt8).toNat)))⟩
          obtain ⟨z, z1, z2⟩ := hne
          have hno' : (10 : UInt8) ∉ (t.drop a).take (i + 1 - a) := by
            have e4' : i + 1 - a = (i - a) + 1 := by omega
            have e5' : (t.drop a)[i - a]? = some t[i] := by rw [List.getElem?_drop]; rw [show a + (i - a) = i by omega]; exact List.getElem?_eq_getElem hlt
            rw [e4', List.take_add_one, e5', List.mem_append]
            rintro (h | h)
            · exact hno h
            · simp at h; exact hc h.symm
          simp only [↓aD, ↓aE, ↓aF, ↓aG, ↓aH, ↓aI, ↓aJ, ↓aK, aL, ↓aM, ↓aN, aO, stepA, opA, convA, isCall, put?, ev, aA, aQ, builtinA, callA, argEnv, wantedS, aR, aS, aT, aU, aV, aW, aX, aY, undef, z_none, bA, bB, bC, bD, bH, bI, extractOp, bK, bL, bM, bN, Nat.reduceLT, Nat.reduceEqDiff, Nat.reduceAdd, bR, bS, ↓reduceIte, reduceCtorEq, resA, resOf, cB, maxA, minA, x_none, e0, e3, e4, e5, e8, e9, e10, str_len, hii, hix, z1, z2, hwi]
          exact ⟨t.length - (i + 1), by omega, i + 1, a, n, rfl, by omega, by omega, hn, hna, hL, hno', hgd, hf, rfl, rfl, rfl⟩
      · obtain rfl : i = t.length := by omega
        have hii : ((t.length : Int) < (t.length : Int)) = False := by simp
        have hno2 : (10 : UInt8) ∉ t.drop a := by
          rw [List.take_of_length_le (by simp)] at hno
          exact hno
        obtain ⟨f1, f2⟩ := end_nl hno2 hL
        have hnl : (linesOf t).1.length = n := by omega
        obtain ⟨hk, hor⟩ := (err_line hP hgd).2 hnl
        have h00 : (((0 : Nat) : Int) = 0) = True := by simp
        subst hk
        by_cases hat : a < t.length
        · have ha2 : ((a : Int) < (t.length : Int)) = True := by simp; omega
          simp only [↓aD, ↓aE, ↓aF, ↓aG, ↓aH, ↓aI, ↓aJ, ↓aK, aL, ↓aM, ↓aN, aO, stepA, opA, convA, isCall, put?, ev, aA, aQ, builtinA, callA, argEnv, wantedS, aR, aS, aT, aU, aV, aW, aX, aY, undef, z_none, bA, bB, bC, bD, bH, bI, extractOp, bK, bL, bM, bN, Nat.reduceLT, Nat.reduceEqDiff, Nat.reduceAdd, bR, bS, ↓reduceIte, reduceCtorEq, resA, resOf, cB, maxA, minA, x_none, e0, e3, e4, e5, e8, e9, e10, str_len, hii, hwn, ha2, hln0, eq_self, h00]
          try simp
        · have ha2 : ((a : Int) < (t.length : Int)) = False := by simp; omega
          have hemp : t.drop a = [] := List.drop_eq_nil_of_le (by omega)
          have hodd : n % 2 = 1 := by
            rcases hor with h | h
            · exact absurd (f2.trans hemp) h
            · exact h
          have hp1 : (((n % 2 : Nat) : Int) = 1) = True := by simp; omega
          simp only [↓aD, ↓aE, ↓aF, ↓aG, ↓aH, ↓aI, ↓aJ, ↓aK, aL, ↓aM, ↓aN, aO, stepA, opA, convA, isCall, put?, ev, aA, aQ, builtinA, callA, argEnv, wantedS, aR, aS, aT, aU, aV, aW, aX, aY, undef, z_none, bA, bB, bC, bD, bH, bI, extractOp, bK, bL, bM, bN, Nat.reduceLT, Nat.reduceEqDiff, Nat.reduceAdd, bR, bS, ↓reduceIte, reduceCtorEq, resA, resOf, cB, maxA, minA, x_none, e0, e3, e4, e5, e8, e9, e10, str_len, hii, hwn, ha2, hln0, rem2, hp1, eq_self, h00]
          try simp
end Seat
end CI
