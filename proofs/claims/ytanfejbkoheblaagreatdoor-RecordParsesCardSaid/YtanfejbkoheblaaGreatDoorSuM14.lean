/- Parts of the proof: Bs Bt Bl Bm Bn Bo. -/
import Derived.Test.YtanfejbkoheblaaGreatDoorSuM3
import Derived.Test.YtanfejbkoheblaaGreatDoorSuM13
import Derived.Test.YtanfejbkoheblaaGreatDoorSuM8
import Derived.Test.YtanfejbkoheblaaGreatDoorSuM5
set_option linter.unusedVariables false
set_option linter.unusedSimpArgs false
set_option maxRecDepth 10000
namespace CI
open Go
namespace Seat
variable {H : Heap} {nx : Nat}
theorem cl204 {args : List AV} {r : AV × Heap × Nat} (h : atoiY args H nx = some r) : Cl cx 204 args H nx = some r := by
  refine Cl_of (n := 1) ?_
  have hF : cx.F.get 204 = none := by kernel_rfl
  unfold callN callS
  rw [hF]
  have hy : cx.Y 204 args H nx = atoiY args H nx := by kernel_rfl
  show cx.Y 204 args H nx = some r
  rw [hy]
  exact h
theorem x139 (n : Int) (h : -9223372036854775808 ≤ n ∧ n ≤ 9223372036854775807) : cx.X 139 [.lit (.int .i64 n)] = some (.lit (.string ⟨(Lib.itoa n).toArray⟩)) := by
  have e1 : cx.X 139 [.lit (.int .i64 n)] = (itoaC [.int .i64 n]).map abs := by kernel_rfl
  rw [e1]
  unfold itoaC
  simp only
  rw [if_pos h]
  rfl
theorem x139b (n : Int) (h : -9223372036854775808 ≤ n ∧ n ≤ 9223372036854775807) : cx.X 139 [.lit (.int .i64 n)] = some (strA (Lib.itoa n)) := x139 n h
theorem num_cl (n : Int) (h : -9223372036854775808 ≤ n ∧ n ≤ 9223372036854775807) : Cl cx 69 [.lit (.int .i64 n)] H nx = some (strA (Lib.itoa n), H, nx) := by
  refine wp69 _ _ _ _ (by simp) ?_
  unfold s69
  simp only [↓aD, ↓aE, ↓aF, ↓aG, ↓aH, ↓aI, ↓aJ, ↓aK, aL, ↓aM, ↓aN, aO, stepA, opA, convA, isCall, put?, ev, aP, aQ, builtinA, callA, argEnv, wantedS, aR, aS, aT, aU, aV, aW, aX, aY, aZ, undef, z_none, bA, bB, bC, bD, bE, bF, bG, bH, bI, bJ, extractOp, bK, bL, bM, bN, Nat.reduceLT, Nat.reduceEqDiff, Nat.reduceAdd, bO, bP, bQ, bR, bS, ↓reduceIte, bT, bU, reduceCtorEq, resA, resOf, bV, bW, bX, bY, bZ, cA, cB, cC, cD, cE, cF, cG, cH, cI, cJ, cK, cL, cM, cN, cO, maxA, minA, cP, cQ, cR, cS, cT, cU, cV, cW, cX, cY, cZ, dA, x139b n h]
theorem neqE (b o : Nat) : binOpA cx.P cx.T .neq 128 (.tmp 11) (.const .nilIface) (.iface 463 (.ptr b o)) (.lit .nilIface) = some (.lit (.bool true)) := by kernel_rfl
theorem neqN : binOpA cx.P cx.T .neq 128 (.tmp 11) (.const .nilIface) (.lit .nilIface) (.lit .nilIface) = some (.lit (.bool false)) := by kernel_rfl
theorem str_neq (x y : Operand) (l m : List UInt8) : binOpA cx.P cx.T .neq 9 x y (strA l) (strA m) = some (.lit (.bool (decide (l ≠ m)))) := by
  have e : plain2 cx.P (fun p q => do eqGuard .neq 9 x y p q; binOp .neq 9 p q) (strA l) (strA m) = (pureRun cx.P (Op.stringOp .neq (B l) (B m))).map abs := rfl
  unfold binOpA
  rw [e]
  simp only [Op.stringOp, B_toList]
  rw [show (!(l == m)) = decide (l ≠ m) from by by_cases h : l = m <;> simp [h]]
  rfl
theorem parse_cl (w : List UInt8) (hw : w.length ≤ 1000000) (hfr : ∀ b, nx ≤ b → H.get b = none) :
    ∃ H' nx', Cl cx 146 [strA w] H nx = some (.tuple [.lit (.int .i64 (parseQ w).1), .lit (.int .i64 (parseQ w).2)], H', nx') ∧ Fr H nx H' nx' := by
  have hs : (B w).size ≤ 1000000 := by rw [B_size]; exact hw
  have hd : (B w).data.toList = w := B_data w
  cases h : Lib.atoiAll w with
  | ok m =>
    have hr := ok_range h
    have h16 : Cl cx 204 [strA w] H nx = some (.tuple [.lit (.int .i64 m), .lit .nilIface], H, nx) := by
      refine cl204 ?_
      unfold atoiY strA
      simp only
      rw [if_pos hs, hd, h]
    refine ⟨H, nx, ?_, Fr.refl hfr⟩
    refine wp146 _ _ _ _ (by simp) ?_
    unfold s146 parseQ
    by_cases he : Lib.itoa m = w
    · simp only [↓aD, ↓aE, ↓aF, ↓aG, ↓aH, ↓aI, ↓aJ, ↓aK, aL, ↓aM, ↓aN, aO, stepA, opA, convA, isCall, put?, ev, aP, aQ, builtinA, callA, argEnv, wantedS, aR, aS, aT, aU, aV, aW, aX, aY, aZ, undef, z_none, bA, bB, bC, bD, bE, bF, bG, bH, bI, bJ, extractOp, bK, bL, bM, bN, Nat.reduceLT, Nat.reduceEqDiff, Nat.reduceAdd, bO, bP, bQ, bR, bS, ↓reduceIte, bT, bU, reduceCtorEq, resA, resOf, bV, bW, bX, bY, bZ, cA, cB, cC, cD, cE, cF, cG, cH, cI, cJ, cK, cL, cM, cN, cO, maxA, minA, cP, cQ, cR, cS, cT, cU, cV, cW, cX, cY, cZ, dA, x_none, h16, neqN, x139b m hr, str_neq, he, h]
    · simp only [↓aD, ↓aE, ↓aF, ↓aG, ↓aH, ↓aI, ↓aJ, ↓aK, aL, ↓aM, ↓aN, aO, stepA, opA, convA, isCall, put?, ev, aP, aQ, builtinA, callA, argEnv, wantedS, aR, aS, aT, aU, aV, aW, aX, aY, aZ, undef, z_none, bA, bB, bC, bD, bE, bF, bG, bH, bI, bJ, extractOp, bK, bL, bM, bN, Nat.reduceLT, Nat.reduceEqDiff, Nat.reduceAdd, bO, bP, bQ, bR, bS, ↓reduceIte, bT, bU, reduceCtorEq, resA, resOf, bV, bW, bX, bY, bZ, cA, cB, cC, cD, cE, cF, cG, cH, cI, cJ, cK, cL, cM, cN, cO, maxA, minA, cP, cQ, cR, cS, cT, cU, cV, cW, cX, cY, cZ, dA, x_none, h16, neqN, x139b m hr, str_neq, he, h]
  | range =>
    have h16 : Cl cx 204 [strA w] H nx = some (.tuple [.lit (.int .i64 (Lib.atoiSat w)), .iface 463 (.ptr nx 0)], H.put nx (some (.cells [] 499 false)), nx + 1) := by
      refine cl204 ?_
      unfold atoiY strA
      simp only
      rw [if_pos hs, hd, h]
    refine ⟨H.put nx (some (.cells [] 499 false)), nx + 1, ?_, Fr.put hfr _⟩
    refine wp146 _ _ _ _ (by simp) ?_
    unfold s146 parseQ
    simp only [↓aD, ↓aE, ↓aF, ↓aG, ↓aH, ↓aI, ↓aJ, ↓aK, aL, ↓aM, ↓aN, aO, stepA, opA, convA, isCall, put?, ev, aP, aQ, builtinA, callA, argEnv, wantedS, aR, aS, aT, aU, aV, aW, aX, aY, aZ, undef, z_none, bA, bB, bC, bD, bE, bF, bG, bH, bI, bJ, extractOp, bK, bL, bM, bN, Nat.reduceLT, Nat.reduceEqDiff, Nat.reduceAdd, bO, bP, bQ, bR, bS, ↓reduceIte, bT, bU, reduceCtorEq, resA, resOf, bV, bW, bX, bY, bZ, cA, cB, cC, cD, cE, cF, cG, cH, cI, cJ, cK, cL, cM, cN, cO, maxA, minA, cP, cQ, cR, cS, cT, cU, cV, cW, cX, cY, cZ, dA, x_none, h16, neqE, h]
  | _ =>
    have h16 : Cl cx 204 [strA w] H nx = some (.tuple [.lit (.int .i64 0), .iface 463 (.ptr nx 0)], H.put nx (some (.cells [] 499 false)), nx + 1) := by
      refine cl204 ?_
      unfold atoiY strA
      simp only
      rw [if_pos hs, hd, h]
    refine ⟨H.put nx (some (.cells [] 499 false)), nx + 1, ?_, Fr.put hfr _⟩
    refine wp146 _ _ _ _ (by simp) ?_
    unfold s146 parseQ
    simp only [↓aD, ↓aE, ↓aF, ↓aG, ↓aH, ↓aI, ↓aJ, ↓aK, aL, ↓aM, ↓aN, aO, stepA, opA, convA, isCall, put?, ev, aP, aQ, builtinA, callA, argEnv, wantedS, aR, aS, aT, aU, aV, aW, aX, aY, aZ, undef, z_none, bA, bB, bC, bD, bE, bF, bG, bH, bI, bJ, extractOp, bK, bL, bM, bN, Nat.reduceLT, Nat.reduceEqDiff, Nat.reduceAdd, bO, bP, bQ, bR, bS, ↓reduceIte, bT, bU, reduceCtorEq, resA, resOf, bV, bW, bX, bY, bZ, cA, cB, cC, cD, cE, cF, cG, cH, cI, cJ, cK, cL, cM, cN, cO, maxA, minA, cP, cQ, cR, cS, cT, cU, cV, cW, cX, cY, cZ, dA, x_none, h16, neqE, h]
end Seat
end CI
namespace CI
open Go
namespace Seat
variable {H : Heap} {nx : Nat}
def decS (n : Nat) (acc : List UInt8) : List UInt8 := if n = 0 then acc else Lib.decDigits n ++ acc
theorem decS_step (n : Nat) (acc : List UInt8) : decS (n / 10) (UInt8.ofNat (48 + n % 10) :: acc) = Lib.decDigits n ++ acc := by
  unfold decS
  by_cases h : n < 10
  · rw [if_pos (by omega)]
    rw [Lib.decDigits, dif_pos h, Nat.mod_eq_of_lt h]
    rfl
  · rw [if_neg (by omega)]
    conv => rhs; rw [Lib.decDigits, dif_neg h]
    simp
theorem dec_len : ∀ (k u : Nat), 1 ≤ k → u < 10 ^ k → (Lib.decDigits u).length ≤ k
  | 0, _, h, _ => by omega
  | 1, u, _, h => by rw [Lib.decDigits, dif_pos (by simpa using h)]; simp
  | k + 2, u, _, h => by
    by_cases hu : u < 10
    · rw [Lib.decDigits, dif_pos hu]; simp
    · have h2 : u / 10 < 10 ^ (k + 1) := by rw [Nat.pow_succ] at h; omega
      have := dec_len (k + 1) (u / 10) (by omega) h2
      rw [Lib.decDigits, dif_neg hu, List.length_append]
      simp only [List.length_singleton]
      omega
theorem ref_loop {E : Tr AV} {QQ : Ex → St → Prop} {u : Nat} (hu : u ≤ 9223372036854775807) (e0 : E.get 0 = some (.lit (.int .i64 u))) (e3 : E.get 3 = some (strA []))
    (hfr : ∀ b, nx ≤ b → H.get b = none)
    (hQ : ∀ E' H' nx', E'.get 3 = some (strA (Lib.decDigits u)) → Fr H nx H' nx' → QQ (.exit 0) ⟨E', H', nx'⟩) : Wp cx 29 (.loop s29_l0) ⟨E, H, nx⟩ QQ := by
  refine Wp_loop (fun k st => ∃ (n : Nat) (acc : List UInt8), k = n + (if acc = [] then 1 else 0) ∧ n ≤ u ∧ (acc = [] → n = u) ∧ (acc ≠ [] → decS n acc = Lib.decDigits u) ∧ acc.length + n ≤ u + 1 ∧ Fr H nx st.H st.nx ∧
    st.env.get 0 = some (.lit (.int .i64 n)) ∧ st.env.get 3 = some (strA acc)) ?_ (u + 1) _ ⟨u, [], by simp, by omega, fun _ => rfl, fun h => absurd rfl h, by simp, Fr.refl hfr, e0, e3⟩
  rintro k ⟨E, H1, nx1⟩ ⟨n, acc, hk, hn, ha0, ha, hlen, hF, e0, e3⟩
  simp only at hF e0 e3
  refine Wp_of ?_
  unfold s29_l0
  have hw1 : IntKind.i64.wrap (48 + ((n % 10 : Nat) : Int)) = ((48 + n % 10 : Nat) : Int) := by rw [wrapI (by constructor <;> omega)]; omega
  have hrem : binOpA cx.P cx.T .rem 3 (.tmp 18) (.const (.int .i64 10)) (.lit (.int .i64 n)) (.lit (.int .i64 10)) = some (.lit (.int .i64 ((n % 10 : Nat) : Int))) := by
    rw [bin_rem _ _ _ _ _ _ _ _ (by decide), Int.tmod_eq_emod_of_nonneg (by omega)]; rfl
  have hquo : binOpA cx.P cx.T .quo 3 (.tmp 26) (.const (.int .i64 10)) (.lit (.int .i64 n)) (.lit (.int .i64 10)) = some (.lit (.int .i64 ((n / 10 : Nat) : Int))) := by
    rw [bin_quo _ _ _ _ _ _ _ _ (by decide), Int.tdiv_eq_ediv_of_nonneg (by omega), wrapI]
    · rfl
    · constructor <;> omega
  have hcv := cv_bytes (X := H1.put nx1 (some (.cells [byteA (UInt8.ofNat (48 + n % 10))] 5 false))) (n := nx1 + 1) (k := some 1) (l := [UInt8.ofNat (48 + n % 10)]) (t := 5) (ro := false) (Tr.get_put_same _ _ _) (m := 1) rfl
  have heq := str_eql (.tmp 12) (.const (.string (ByteArray.mk #[]))) acc []
  have heq' : binOpA cx.P cx.T .eql 9 (.tmp 12) (.const (.string (ByteArray.mk #[]))) (strA acc) (.lit (.string (ByteArray.mk #[]))) = some (.lit (.bool (decide (acc = [])))) := heq
  have hacc : acc.length ≤ 20 := by
    by_cases h : acc = []
    · rw [h]; simp
    · have h1 := dec_len 20 u (by omega) (by omega)
      rw [← ha h] at h1
      unfold decS at h1
      split at h1
      · exact h1
      · rw [List.length_append] at h1; omega
  have hadd := str_add (.tmp 23) (.tmp 24) [UInt8.ofNat (48 + n % 10)] acc (by simp only [List.length_singleton]; omega)
  by_cases h0 : acc = []
  · subst h0
    have hnu : n = u := ha0 rfl
    have hstep : decS (n / 10) [UInt8.ofNat (48 + n % 10)] = Lib.decDigits u := by
      rw [← hnu]
      have := decS_step n []
      simpa using this
    have ht : (([] : List UInt8) = []) = True := by simp
    simp only [↓aD, ↓aE, ↓aF, ↓aG, ↓aH, ↓aI, ↓aJ, ↓aK, aL, ↓aM, ↓aN, aO, stepA, opA, convA, isCall, put?, ev, aP, aQ, builtinA, callA, argEnv, wantedS, aR, aS, aT, aU, aV, aW, aX, aY, aZ, undef, z_none, bA, bB, bC, bD, bE, bF, bG, bH, bI, bJ, extractOp, bK, bL, bM, bN, Nat.reduceLT, Nat.reduceEqDiff, Nat.reduceAdd, bO, bP, bQ, bR, bS, ↓reduceIte, bT, bU, reduceCtorEq, resA, resOf, bV, bW, bX, bY, bZ, cA, cB, cC, cD, cE, cF, cG, cH, cI, cJ, cK, cL, cM, cN, cO, maxA, minA, cP, cQ, cR, cS, cT, cU, cV, cW, cX, cY, cZ, dA, e0, e3, heq', ht, hrem, hw1, cv_3_5 (48 + n % 10) (by omega), partsA, bs_one, hcv, hquo, hadd]
    refine ⟨n / 10 + 0, by simp at hk ⊢; omega, n / 10, [UInt8.ofNat (48 + n % 10)], by simp, by omega, by simp, fun _ => hstep, by simp at hlen ⊢; omega, hF.trans (Fr.put hF.fr _), rfl, rfl⟩
  · by_cases hn0 : n = 0
    · subst hn0
      have hd := ha h0
      unfold decS at hd
      rw [if_pos rfl] at hd
      have e1 : (((0 : Nat) : Int) > 0) = False := by simp
      simp only [↓aD, ↓aE, ↓aF, ↓aG, ↓aH, ↓aI, ↓aJ, ↓aK, aL, ↓aM, ↓aN, aO, stepA, opA, convA, isCall, put?, ev, aP, aQ, builtinA, callA, argEnv, wantedS, aR, aS, aT, aU, aV, aW, aX, aY, aZ, undef, z_none, bA, bB, bC, bD, bE, bF, bG, bH, bI, bJ, extractOp, bK, bL, bM, bN, Nat.reduceLT, Nat.reduceEqDiff, Nat.reduceAdd, bO, bP, bQ, bR, bS, ↓reduceIte, bT, bU, reduceCtorEq, resA, resOf, bV, bW, bX, bY, bZ, cA, cB, cC, cD, cE, cF, cG, cH, cI, cJ, cK, cL, cM, cN, cO, maxA, minA, cP, cQ, cR, cS, cT, cU, cV, cW, cX, cY, cZ, dA, e0, e3, heq', h0, e1]
      refine hQ _ _ _ ?_ hF
      rw [← hd]
      simp only [↓aD, ↓aE, ↓aF, ↓aG, ↓aH, ↓aI, ↓aJ, ↓aK, aL, ↓aM, ↓aN, aO, stepA, opA, convA, isCall, put?, ev, aP, aQ, builtinA, callA, argEnv, wantedS, aR, aS, aT, aU, aV, aW, aX, aY, aZ, undef, z_none, bA, bB, bC, bD, bE, bF, bG, bH, bI, bJ, extractOp, bK, bL, bM, bN, Nat.reduceLT, Nat.reduceEqDiff, Nat.reduceAdd, bO, bP, bQ, bR, bS, ↓reduceIte, bT, bU, reduceCtorEq, resA, resOf, bV, bW, bX, bY, bZ, cA, cB, cC, cD, cE, cF, cG, cH, cI, cJ, cK, cL, cM, cN, cO, maxA, minA, cP, cQ, cR, cS, cT, cU, cV, cW, cX, cY, cZ, dA, e3]
    · have e1 : ((n : Int) > 0) = True := by simp; omega
      have hstep : decS (n / 10) ([UInt8.ofNat (48 + n % 10)] ++ acc) = Lib.decDigits u := by
        rw [← ha h0]
        have := decS_step n acc
        unfold decS at this ⊢
        rw [if_neg hn0]
        simpa using this
      simp only [↓aD, ↓aE, ↓aF, ↓aG, ↓aH, ↓aI, ↓aJ, ↓aK, aL, ↓aM, ↓aN, aO, stepA, opA, convA, isCall, put?, ev, aP, aQ, builtinA, callA, argEnv, wantedS, aR, aS, aT, aU, aV, aW, aX, aY, aZ, undef, z_none, bA, bB, bC, bD, bE, bF, bG, bH, bI, bJ, extractOp, bK, bL, bM, bN, Nat.reduceLT, Nat.reduceEqDiff, Nat.reduceAdd, bO, bP, bQ, bR, bS, ↓reduceIte, bT, bU, reduceCtorEq, resA, resOf, bV, bW, bX, bY, bZ, cA, cB, cC, cD, cE, cF, cG, cH, cI, cJ, cK, cL, cM, cN, cO, maxA, minA, cP, cQ, cR, cS, cT, cU, cV, cW, cX, cY, cZ, dA, e0, e3, heq', h0, e1, hrem, hw1, cv_3_5 (48 + n % 10) (by omega), partsA, bs_one, hcv, hquo, hadd]
      refine ⟨n / 10 + 0, by simp [h0] at hk ⊢; omega, n / 10, [UInt8.ofNat (48 + n % 10)] ++ acc, by simp, by omega, by simp, fun _ => hstep, by simp at hlen ⊢; omega, hF.trans (Fr.put hF.fr _), rfl, rfl⟩
theorem ref_pos (u : Nat) (hu : u ≤ 9223372036854775807) (hfr : ∀ b, nx ≤ b → H.get b = none) :
    ∃ v H' nx', Cl cx 29 [.lit (.int .i64 u)] H nx = some (v, H', nx') ∧ (v = strA (Lib.decDigits u) ∧ Fr H nx H' nx') := by
  refine wpP29 _ _ _ _ (by simp) ?_
  unfold s29
  have e1 : ((u : Int) < 0) = False := by simp
  simp only [↓aD, ↓aE, ↓aF, ↓aG, ↓aH, ↓aI, ↓aJ, ↓aK, aL, ↓aM, ↓aN, aO, stepA, opA, convA, isCall, put?, ev, aP, aQ, builtinA, callA, argEnv, wantedS, aR, aS, aT, aU, aV, aW, aX, aY, aZ, undef, z_none, bA, bB, bC, bD, bE, bF, bG, bH, bI, bJ, extractOp, bK, bL, bM, bN, Nat.reduceLT, Nat.reduceEqDiff, Nat.reduceAdd, bO, bP, bQ, bR, bS, ↓reduceIte, bT, bU, reduceCtorEq, resA, resOf, bV, bW, bX, bY, bZ, cA, cB, cC, cD, cE, cF, cG, cH, cI, cJ, cK, cL, cM, cN, cO, maxA, minA, cP, cQ, cR, cS, cT, cU, cV, cW, cX, cY, cZ, dA, e1]
  refine ref_loop (u := u) hu ?_ ?_ hfr ?_
  · simp only [↓aD, ↓aE, ↓aF, ↓aG, ↓aH, ↓aI, ↓aJ, ↓aK, aL, ↓aM, ↓aN, aO, stepA, opA, convA, isCall, put?, ev, aP, aQ, builtinA, callA, argEnv, wantedS, aR, aS, aT, aU, aV, aW, aX, aY, aZ, undef, z_none, bA, bB, bC, bD, bE, bF, bG, bH, bI, bJ, extractOp, bK, bL, bM, bN, Nat.reduceLT, Nat.reduceEqDiff, Nat.reduceAdd, bO, bP, bQ, bR, bS, ↓reduceIte, bT, bU, reduceCtorEq, resA, resOf, bV, bW, bX, bY, bZ, cA, cB, cC, cD, cE, cF, cG, cH, cI, cJ, cK, cL, cM, cN, cO, maxA, minA, cP, cQ, cR, cS, cT, cU, cV, cW, cX, cY, cZ, dA]
  · simp only [↓aD, ↓aE, ↓aF, ↓aG, ↓aH, ↓aI, ↓aJ, ↓aK, aL, ↓aM, ↓aN, aO, stepA, opA, convA, isCall, put?, ev, aP, aQ, builtinA, callA, argEnv, wantedS, aR, aS, aT, aU, aV, aW, aX, aY, aZ, undef, z_none, bA, bB, bC, bD, bE, bF, bG, bH, bI, bJ, extractOp, bK, bL, bM, bN, Nat.reduceLT, Nat.reduceEqDiff, Nat.reduceAdd, bO, bP, bQ, bR, bS, ↓reduceIte, bT, bU, reduceCtorEq, resA, resOf, bV, bW, bX, bY, bZ, cA, cB, cC, cD, cE, cF, cG, cH, cI, cJ, cK, cL, cM, cN, cO, maxA, minA, cP, cQ, cR, cS, cT, cU, cV, cW, cX, cY, cZ, dA]; rfl
  · intro E' H' nx' f3 h1
    simp only [↓aD, ↓aE, ↓aF, ↓aG, ↓aH, ↓aI, ↓aJ, ↓aK, aL, ↓aM, ↓aN, aO, stepA, opA, convA, isCall, put?, ev, aP, aQ, builtinA, callA, argEnv, wantedS, aR, aS, aT, aU, aV, aW, aX, aY, aZ, undef, z_none, bA, bB, bC, bD, bE, bF, bG, bH, bI, bJ, extractOp, bK, bL, bM, bN, Nat.reduceLT, Nat.reduceEqDiff, Nat.reduceAdd, bO, bP, bQ, bR, bS, ↓reduceIte, bT, bU, reduceCtorEq, resA, resOf, bV, bW, bX, bY, bZ, cA, cB, cC, cD, cE, cF, cG, cH, cI, cJ, cK, cL, cM, cN, cO, maxA, minA, cP, cQ, cR, cS, cT, cU, cV, cW, cX, cY, cZ, dA, f3]
    exact h1
theorem ref_cl (n : Int) (hn : -9223372036854775808 ≤ n ∧ n ≤ 9223372036854775807) (hfr : ∀ b, nx ≤ b → H.get b = none) :
    ∃ v H' nx', Cl cx 29 [.lit (.int .i64 n)] H nx = some (v, H', nx') ∧ (v = strA (Lib.itoa n) ∧ Fr H nx H' nx') := by
  by_cases h0 : n < 0
  · have e1 : (n < 0) = True := by simp [h0]
    unfold Lib.itoa
    rw [if_pos h0]
    by_cases hm : n = -9223372036854775808
    · subst hm
      refine wpP29 _ _ _ _ (by simp) ?_
      unfold s29
      have e2 : ((-9223372036854775808 : Int) = -9223372036854775808) = True := by simp
      simp only [↓aD, ↓aE, ↓aF, ↓aG, ↓aH, ↓aI, ↓aJ, ↓aK, aL, ↓aM, ↓aN, aO, stepA, opA, convA, isCall, put?, ev, aP, aQ, builtinA, callA, argEnv, wantedS, aR, aS, aT, aU, aV, aW, aX, aY, aZ, undef, z_none, bA, bB, bC, bD, bE, bF, bG, bH, bI, bJ, extractOp, bK, bL, bM, bN, Nat.reduceLT, Nat.reduceEqDiff, Nat.reduceAdd, bO, bP, bQ, bR, bS, ↓reduceIte, bT, bU, reduceCtorEq, resA, resOf, bV, bW, bX, bY, bZ, cA, cB, cC, cD, cE, cF, cG, cH, cI, cJ, cK, cL, cM, cN, cO, maxA, minA, cP, cQ, cR, cS, cT, cU, cV, cW, cX, cY, cZ, dA, e1, e2]
      refine ⟨?_, Fr.refl hfr⟩
      have : (45 :: Lib.decDigits 9223372036854775808) = [45, 57, 50, 50, 51, 51, 55, 50, 48, 51, 54, 56, 53, 52, 55, 55, 53, 56, 48, 56] := by
        simp [Lib.decDigits]
      show _ = strA (45 :: Lib.decDigits 9223372036854775808)
      rw [this]
      rfl
    · obtain ⟨v, H', nx', p1, rfl, p2⟩ := ref_pos (H := H) (nx := nx) n.natAbs (by omega) hfr
      have hna : ((n.natAbs : Nat) : Int) = -n := by omega
      rw [hna] at p1
      refine wpP29 _ _ _ _ (by simp) ?_
      unfold s29
      have e2 : (n = -9223372036854775808) = False := by simp [hm]
      have hw : IntKind.i64.wrap (-n) = -n := wrapI (by constructor <;> omega)
      have hneg : plain1 cx.P (Op.unary .neg) (.lit (.int .i64 n)) = some (.lit (.int .i64 (-n))) := by
        have : plain1 cx.P (Op.unary .neg) (.lit (.int .i64 n)) = some (.lit (.int .i64 (IntKind.i64.wrap (0 - n)))) := by kernel_rfl
        rw [this, Int.zero_sub, hw]
      have hl := dec_len 20 n.natAbs (by omega) (by omega)
      have hadd : binOpA cx.P cx.T .add 9 (.const (.string (ByteArray.mk #[45]))) (.tmp 10) (.lit (.string (ByteArray.mk #[45]))) (strA (Lib.decDigits n.natAbs)) = some (strA (45 :: Lib.decDigits n.natAbs)) := str_add _ _ [45] _ (by simp only [List.length_singleton]; omega)
      simp only [↓aD, ↓aE, ↓aF, ↓aG, ↓aH, ↓aI, ↓aJ, ↓aK, aL, ↓aM, ↓aN, aO, stepA, opA, convA, isCall, put?, ev, aP, aQ, builtinA, callA, argEnv, wantedS, aR, aS, aT, aU, aV, aW, aX, aY, aZ, undef, z_none, bA, bB, bC, bD, bE, bF, bG, bH, bI, bJ, extractOp, bK, bL, bM, bN, Nat.reduceLT, Nat.reduceEqDiff, Nat.reduceAdd, bO, bP, bQ, bR, bS, ↓reduceIte, bT, bU, reduceCtorEq, resA, resOf, bV, bW, bX, bY, bZ, cA, cB, cC, cD, cE, cF, cG, cH, cI, cJ, cK, cL, cM, cN, cO, maxA, minA, cP, cQ, cR, cS, cT, cU, cV, cW, cX, cY, cZ, dA, e1, e2, hneg, x_none, p1, hadd]
      exact p2
  · obtain ⟨u, rfl⟩ : ∃ u : Nat, n = u := ⟨n.toNat, by omega⟩
    have := ref_pos (H := H) (nx := nx) u (by omega) hfr
    unfold Lib.itoa
    rw [if_neg h0]
    exact this
end Seat
end CI
namespace CI
open Go
namespace Seat
open Quo
variable {H : Heap} {nx : Nat}
structure Rd (n0 : Nat) (H : Heap) (nx r : Nat) (w : List UInt8) (at_ : Nat) (bs : List UInt8) (cs : List AV) : Prop where
  bld : Bld n0 H nx r 2 cs 321 bs
  s : cs[0]? = some (strA w)
  at1 : cs[1]? = some (.lit (.int .i64 at_))
  len : cs.length = 4
theorem Bld.set {n0 p o j : Nat} {cs : List AV} {t : TypeId} {bs : List UInt8} (hb : Bld n0 H nx p o cs t bs) (v : AV) (h1 : j ≠ o) (h2 : j ≠ o + 1) : Bld n0 (H.put p (some (.cells (cs.set j v) t false))) nx p o (cs.set j v) t bs where
  hp := Tr.get_put_same _ _ _
  p0 := hb.p0
  p1 := hb.p1
  lies := by simpa using hb.lies
  self := by rw [set_get (by omega)]; exact hb.self
  buf := by
    rw [set_get (by omega)]
    rcases hb.buf with h | ⟨c, h1, h2, h3, h5, h6⟩
    · exact .inl h
    · exact .inr ⟨c, h1, h2, h3, h5, by rw [Tr.get_put_ne _ _ _ _ h1]; exact h6⟩
  fr := fun b h => by rw [Tr.get_put_ne _ _ _ _ (by have := hb.p1; omega)]; exact hb.fr b h
theorem fa321_0 (p o : Nat) : fieldAddrOp cx.T 321 (.ptr p o) 0 = some (.ptr p o) := by kernel_rfl
theorem fa321_1 (p o : Nat) : fieldAddrOp cx.T 321 (.ptr p o) 1 = some (.ptr p (o + 2)) := by kernel_rfl
theorem fa319_0 (p o : Nat) : fieldAddrOp cx.T 319 (.ptr p o) 0 = some (.ptr p o) := by kernel_rfl
theorem fa319_1 (p o : Nat) : fieldAddrOp cx.T 319 (.ptr p o) 1 = some (.ptr p (o + 1)) := by kernel_rfl
section
variable {n0 r at_ : Nat} {w bs : List UInt8} {cs : List AV}
theorem Rd.ld_s (h : Rd n0 H nx r w at_ bs cs) : loadOp cx.T H 9 (.ptr r 0) = some (strA w) := ld_at (by kernel_rfl) h.bld.hp h.s
theorem Rd.ld_at (h : Rd n0 H nx r w at_ bs cs) : loadOp cx.T H 3 (.ptr r 1) = some (.lit (.int .i64 at_)) := CI.Seat.ld_at (by kernel_rfl) h.bld.hp h.at1
theorem Rd.st (h : Rd n0 H nx r w at_ bs cs) (k : Nat) : ∃ H' cs', storeOp cx.T H 3 (.ptr r 1) (.lit (.int .i64 k)) = some H' ∧ Rd n0 H' nx r w k bs cs' ∧ ∀ c, c < n0 → H'.get c = H.get c := by
  refine ⟨H.put r (some (.cells (cs.set 1 (.lit (.int .i64 k))) 321 false)), cs.set 1 (.lit (.int .i64 k)), st_at (by kernel_rfl) h.bld.hp (by have := h.len; omega) rfl rfl, ⟨h.bld.set _ (by omega) (by omega), ?_, ?_, by simp [h.len]⟩, fun c hc => Tr.get_put_ne _ _ _ _ (by have := h.bld.p0; omega)⟩
  · rw [set_get (by omega)]; exact h.s
  · simp [List.getElem?_set, h.len]
theorem next_cl (h : Rd n0 H nx r w at_ bs cs) : Cl cx 275 [.ptr r 0] H nx = some (.tuple [byteA (w.getD at_ 0), .lit (.bool (decide (at_ < w.length)))], H, nx) := by
  refine wp275 _ _ _ _ (by simp) ?_
  unfold s275
  have hl : lenOp cx.T .nil 9 (strA w) = some w.length := str_len w
  simp only [↓aD, ↓aE, ↓aF, ↓aG, ↓aH, ↓aI, ↓aJ, ↓aK, aL, ↓aM, ↓aN, aO, stepA, opA, convA, isCall, put?, ev, aA, aQ, builtinA, callA, argEnv, wantedS, aR, aS, aT, aU, aV, aW, aX, aY, undef, z_none, bA, bB, bC, bD, bH, bI, extractOp, bK, bL, bM, bN, Nat.reduceLT, Nat.reduceEqDiff, Nat.reduceAdd, bR, bS, ↓reduceIte, reduceCtorEq, resA, resOf, cB, maxA, minA]
  refine s275_d0_wq ?_
  unfold s275_d0s
  by_cases hlt : at_ < w.length
  · have e1 : (((at_ : Nat) : Int) ≥ (w.length : Nat)) = False := by simp; omega
    simp only [↓aD, ↓aE, ↓aF, ↓aG, ↓aH, ↓aI, ↓aJ, ↓aK, aL, ↓aM, ↓aN, aO, stepA, opA, convA, isCall, put?, ev, aA, aQ, builtinA, callA, argEnv, wantedS, aR, aS, aT, aU, aV, aW, aX, aY, undef, z_none, bA, bB, bC, bD, bH, bI, extractOp, bK, bL, bM, bN, Nat.reduceLT, Nat.reduceEqDiff, Nat.reduceAdd, bR, bS, ↓reduceIte, reduceCtorEq, resA, resOf, cB, maxA, minA, ↓dB, ↓dC, txS, dD, dE, dF, dG, dH, dI, dJ, dK, dL, dM, dN, aB, isEff, dV, AV.belowB, nc_ptr, fa319_0, fa319_1, h.ld_s, h.ld_at, hl, e1, eqB_strA, below_strA]
    refine s275_d1_wq ?_
    unfold s275_d1s
    have hix := str_ix w at_ w[at_] .i64 (List.getElem?_eq_getElem hlt)
    have hg : w.getD at_ 0 = w[at_] := by simp [List.getD_eq_getElem?_getD, hlt]
    simp only [↓aD, ↓aE, ↓aF, ↓aG, ↓aH, ↓aI, ↓aJ, ↓aK, aL, ↓aM, ↓aN, aO, stepA, opA, convA, isCall, put?, ev, aA, aQ, builtinA, callA, argEnv, wantedS, aR, aS, aT, aU, aV, aW, aX, aY, undef, z_none, bA, bB, bC, bD, bH, bI, extractOp, bK, bL, bM, bN, Nat.reduceLT, Nat.reduceEqDiff, Nat.reduceAdd, bR, bS, ↓reduceIte, reduceCtorEq, resA, resOf, cB, maxA, minA, ↓dB, ↓dC, txS, dD, dE, dF, dG, dH, dI, dJ, dK, dL, dM, dN, aB, isEff, dV, AV.belowB, nc_ptr, fa319_0, fa319_1, h.ld_s, h.ld_at, hix, eqB_strA, below_strA, hg, hlt]
  · have e1 : (((at_ : Nat) : Int) ≥ (w.length : Nat)) = True := by simp; omega
    have hg : w.getD at_ 0 = 0 := by simp [List.getD_eq_getElem?_getD, List.getElem?_eq_none (show w.length ≤ at_ by omega)]
    simp only [↓aD, ↓aE, ↓aF, ↓aG, ↓aH, ↓aI, ↓aJ, ↓aK, aL, ↓aM, ↓aN, aO, stepA, opA, convA, isCall, put?, ev, aA, aQ, builtinA, callA, argEnv, wantedS, aR, aS, aT, aU, aV, aW, aX, aY, undef, z_none, bA, bB, bC, bD, bH, bI, extractOp, bK, bL, bM, bN, Nat.reduceLT, Nat.reduceEqDiff, Nat.reduceAdd, bR, bS, ↓reduceIte, reduceCtorEq, resA, resOf, cB, maxA, minA, ↓dB, ↓dC, txS, dD, dE, dF, dG, dH, dI, dJ, dK, dL, dM, dN, aB, isEff, dV, AV.belowB, nc_ptr, fa319_0, fa319_1, h.ld_s, h.ld_at, hl, e1, eqB_strA, below_strA, hg, hlt]
    rfl
def idxOf (n : Nat) : Int := if 48 ≤ n ∧ n ≤ 57 then n - 48 else if 97 ≤ n ∧ n ≤ 102 then n - 87 else -1
theorem xh354_all : ((List.range 256).all fun n => match cx.X 354 [.lit (.string (ByteArray.mk #[48, 49, 50, 51, 52, 53, 54, 55, 56, 57, 97, 98, 99, 100, 101, 102])), .lit (.int .u8 n)] with
    | some (.lit (.int .i64 k)) => decide (k = idxOf n)
    | _ => false) = true := by kernel_rfl
theorem xh354 (b : UInt8) : cx.X 354 [.lit (.string (ByteArray.mk #[48, 49, 50, 51, 52, 53, 54, 55, 56, 57, 97, 98, 99, 100, 101, 102])), byteA b] = some (.lit (.int .i64 (idxOf b.toNat))) := by
  have := List.all_eq_true.1 xh354_all b.toNat (List.mem_range.2 b.toNat_lt)
  unfold byteA
  split at this
  · rename_i k hk
    rw [hk, of_decide_eq_true this]
  · cases this
theorem ixb_cl (b : UInt8) : Cl cx 305 [.lit (.string (ByteArray.mk #[48, 49, 50, 51, 52, 53, 54, 55, 56, 57, 97, 98, 99, 100, 101, 102])), byteA b] H nx = some (.lit (.int .i64 (idxOf b.toNat)), H, nx) := by
  have h2 : Cl cx 280 [.lit (.string (ByteArray.mk #[48, 49, 50, 51, 52, 53, 54, 55, 56, 57, 97, 98, 99, 100, 101, 102])), byteA b] H nx = some (.lit (.int .i64 (idxOf b.toNat)), H, nx) := by
    refine wp280 _ _ _ _ (by simp) ?_
    unfold s280
    simp only [↓aD, ↓aE, ↓aF, ↓aG, ↓aH, ↓aI, ↓aJ, ↓aK, aL, ↓aM, ↓aN, aO, stepA, opA, convA, isCall, put?, ev, aA, aQ, builtinA, callA, argEnv, wantedS, aR, aS, aT, aU, aV, aW, aX, aY, undef, z_none, bA, bB, bC, bD, bH, bI, extractOp, bK, bL, bM, bN, Nat.reduceLT, Nat.reduceEqDiff, Nat.reduceAdd, bR, bS, ↓reduceIte, reduceCtorEq, resA, resOf, cB, maxA, minA, xh354]
  refine wp305 _ _ _ _ (by simp) ?_
  unfold s305
  simp only [↓aD, ↓aE, ↓aF, ↓aG, ↓aH, ↓aI, ↓aJ, ↓aK, aL, ↓aM, ↓aN, aO, stepA, opA, convA, isCall, put?, ev, aA, aQ, builtinA, callA, argEnv, wantedS, aR, aS, aT, aU, aV, aW, aX, aY, undef, z_none, bA, bB, bC, bD, bH, bI, extractOp, bK, bL, bM, bN, Nat.reduceLT, Nat.reduceEqDiff, Nat.reduceAdd, bR, bS, ↓reduceIte, reduceCtorEq, resA, resOf, cB, maxA, minA, x_none, h2]
theorem idxOf_un (b : UInt8) : (∀ n, unhex b = some n → idxOf b.toNat = (n : Int) ∧ n < 16) ∧ (unhex b = none → idxOf b.toNat = -1) := by
  unfold idxOf unhex
  constructor
  · intro n h
    split at h
    · injection h with h; subst h; rw [if_pos ‹_›]; omega
    · split at h
      · injection h with h; subst h; rw [if_neg ‹_›, if_pos ‹_›]; omega
      · cases h
  · intro h
    split at h
    · cases h
    · split at h
      · cases h
      · rw [if_neg ‹_›, if_neg ‹_›]
theorem digit_cl (h : Rd n0 H nx r w at_ bs cs) (hw : w.length ≤ 1000000) (ha : at_ ≤ w.length) : ∃ v H' cs', Cl cx 389 [.ptr r 0] H nx = some (v, H', nx) ∧ (∀ c, c < n0 → H'.get c = H.get c) ∧
    ((∃ b n, w[at_]? = some b ∧ unhex b = some n ∧ n < 16 ∧ v = .tuple [byteA (UInt8.ofNat n), .lit (.bool true)] ∧ Rd n0 H' nx r w (at_ + 1) bs cs') ∨
     ((∀ b, w[at_]? = some b → unhex b = none) ∧ v = .tuple [.lit (.int .u8 0), .lit (.bool false)] ∧ Rd n0 H' nx r w at_ bs cs')) := by
  have hn := next_cl h
  by_cases hlt : at_ < w.length
  · have hg : w.getD at_ 0 = w[at_] := by simp [List.getD_eq_getElem?_getD, hlt]
    rw [hg] at hn
    simp only [hlt, decide_true] at hn
    have hix := ixb_cl (H := H) (nx := nx) w[at_]
    cases hu : unhex w[at_] with
    | none =>
      rw [(idxOf_un w[at_]).2 hu] at hix
      refine ⟨_, H, cs, ?_, fun _ _ => rfl, .inr ⟨fun b hb => ?_, rfl, h⟩⟩
      · refine wp389 _ _ _ _ (by simp) ?_
        unfold s389
        have : ((-1 : Int) < 0) = True := by simp
        simp only [↓aD, ↓aE, ↓aF, ↓aG, ↓aH, ↓aI, ↓aJ, ↓aK, aL, ↓aM, ↓aN, aO, stepA, opA, convA, isCall, put?, ev, aA, aQ, builtinA, callA, argEnv, wantedS, aR, aS, aT, aU, aV, aW, aX, aY, undef, z_none, bA, bB, bC, bD, bH, bI, extractOp, bK, bL, bM, bN, Nat.reduceLT, Nat.reduceEqDiff, Nat.reduceAdd, bR, bS, ↓reduceIte, reduceCtorEq, resA, resOf, cB, maxA, minA, x_none, nc_ptr, fa321_0, fa319_1, hn, hix, this]
      · rw [List.getElem?_eq_getElem hlt] at hb; injection hb with hb; subst hb; exact hu
    | some n =>
      obtain ⟨e1, e2⟩ := (idxOf_un w[at_]).1 n hu
      rw [e1] at hix
      obtain ⟨H', cs', s1, s2, s3⟩ := h.st (at_ + 1)
      refine ⟨_, H', cs', ?_, s3, .inl ⟨w[at_], n, List.getElem?_eq_getElem hlt, hu, e2, rfl, s2⟩⟩
      refine wp389 _ _ _ _ (by simp) ?_
      unfold s389
      have hne : (((n : Nat) : Int) < 0) = False := by simp
      have hwr : IntKind.i64.wrap ((at_ : Int) + 1) = ((at_ + 1 : Nat) : Int) := by rw [wrapI (by constructor <;> omega)]; rfl
      simp only [↓aD, ↓aE, ↓aF, ↓aG, ↓aH, ↓aI, ↓aJ, ↓aK, aL, ↓aM, ↓aN, aO, stepA, opA, convA, isCall, put?, ev, aA, aQ, builtinA, callA, argEnv, wantedS, aR, aS, aT, aU, aV, aW, aX, aY, undef, z_none, bA, bB, bC, bD, bH, bI, extractOp, bK, bL, bM, bN, Nat.reduceLT, Nat.reduceEqDiff, Nat.reduceAdd, bR, bS, ↓reduceIte, reduceCtorEq, resA, resOf, cB, maxA, minA, x_none, nc_ptr, fa321_0, fa319_1, hn, hix, hne, h.ld_at, hwr, s1, cv_3_5 n (by omega)]
  · have hg : w.getD at_ 0 = 0 := by simp [List.getD_eq_getElem?_getD, List.getElem?_eq_none (show w.length ≤ at_ by omega)]
    rw [hg] at hn
    simp only [hlt, decide_false] at hn
    have hix := ixb_cl (H := H) (nx := nx) 0
    refine ⟨_, H, cs, ?_, fun _ _ => rfl, .inr ⟨fun b hb => ?_, rfl, h⟩⟩
    · refine wp389 _ _ _ _ (by simp) ?_
      unfold s389
      simp only [↓aD, ↓aE, ↓aF, ↓aG, ↓aH, ↓aI, ↓aJ, ↓aK, aL, ↓aM, ↓aN, aO, stepA, opA, convA, isCall, put?, ev, aA, aQ, builtinA, callA, argEnv, wantedS, aR, aS, aT, aU, aV, aW, aX, aY, undef, z_none, bA, bB, bC, bD, bH, bI, extractOp, bK, bL, bM, bN, Nat.reduceLT, Nat.reduceEqDiff, Nat.reduceAdd, bR, bS, ↓reduceIte, reduceCtorEq, resA, resOf, cB, maxA, minA, x_none, nc_ptr, fa321_0, fa319_1, hn, hix]
    · rw [List.getElem?_eq_none (by omega)] at hb; cases hb
theorem codes_0 (H : Heap) (nx : Nat) : callN cx 300 390 [.lit (.int .u8 ((0 : Nat) : Int))] H nx = some (.lit (.bool (codesB 0)), H, nx) := by kernel_rfl
theorem codes_1 (H : Heap) (nx : Nat) : callN cx 300 390 [.lit (.int .u8 ((1 : Nat) : Int))] H nx = some (.lit (.bool (codesB 1)), H, nx) := by kernel_rfl
theorem codes_2 (H : Heap) (nx : Nat) : callN cx 300 390 [.lit (.int .u8 ((2 : Nat) : Int))] H nx = some (.lit (.bool (codesB 2)), H, nx) := by kernel_rfl
theorem codes_3 (H : Heap) (nx : Nat) : callN cx 300 390 [.lit (.int .u8 ((3 : Nat) : Int))] H nx = some (.lit (.bool (codesB 3)), H, nx) := by kernel_rfl
theorem codes_4 (H : Heap) (nx : Nat) : callN cx 300 390 [.lit (.int .u8 ((4 : Nat) : Int))] H nx = some (.lit (.bool (codesB 4)), H, nx) := by kernel_rfl
theorem codes_5 (H : Heap) (nx : Nat) : callN cx 300 390 [.lit (.int .u8 ((5 : Nat) : Int))] H nx = some (.lit (.bool (codesB 5)), H, nx) := by kernel_rfl
theorem codes_6 (H : Heap) (nx : Nat) : callN cx 300 390 [.lit (.int .u8 ((6 : Nat) : Int))] H nx = some (.lit (.bool (codesB 6)), H, nx) := by kernel_rfl
theorem codes_7 (H : Heap) (nx : Nat) : callN cx 300 390 [.lit (.int .u8 ((7 : Nat) : Int))] H nx = some (.lit (.bool (codesB 7)), H, nx) := by kernel_rfl
theorem codes_8 (H : Heap) (nx : Nat) : callN cx 300 390 [.lit (.int .u8 ((8 : Nat) : Int))] H nx = some (.lit (.bool (codesB 8)), H, nx) := by kernel_rfl
theorem codes_9 (H : Heap) (nx : Nat) : callN cx 300 390 [.lit (.int .u8 ((9 : Nat) : Int))] H nx = some (.lit (.bool (codesB 9)), H, nx) := by kernel_rfl
theorem codes_10 (H : Heap) (nx : Nat) : callN cx 300 390 [.lit (.int .u8 ((10 : Nat) : Int))] H nx = some (.lit (.bool (codesB 10)), H, nx) := by kernel_rfl
theorem codes_11 (H : Heap) (nx : Nat) : callN cx 300 390 [.lit (.int .u8 ((11 : Nat) : Int))] H nx = some (.lit (.bool (codesB 11)), H, nx) := by kernel_rfl
theorem codes_12 (H : Heap) (nx : Nat) : callN cx 300 390 [.lit (.int .u8 ((12 : Nat) : Int))] H nx = some (.lit (.bool (codesB 12)), H, nx) := by kernel_rfl
theorem codes_13 (H : Heap) (nx : Nat) : callN cx 300 390 [.lit (.int .u8 ((13 : Nat) : Int))] H nx = some (.lit (.bool (codesB 13)), H, nx) := by kernel_rfl
theorem codes_14 (H : Heap) (nx : Nat) : callN cx 300 390 [.lit (.int .u8 ((14 : Nat) : Int))] H nx = some (.lit (.bool (codesB 14)), H, nx) := by kernel_rfl
theorem codes_15 (H : Heap) (nx : Nat) : callN cx 300 390 [.lit (.int .u8 ((15 : Nat) : Int))] H nx = some (.lit (.bool (codesB 15)), H, nx) := by kernel_rfl
theorem codes_n (H : Heap) (nx : Nat) (n : Nat) (h : n < 16) : callN cx 300 390 [.lit (.int .u8 (n : Nat))] H nx = some (.lit (.bool (codesB n)), H, nx) := by
  rcases (show n = 0 ∨ n = 1 ∨ n = 2 ∨ n = 3 ∨ n = 4 ∨ n = 5 ∨ n = 6 ∨ n = 7 ∨ n = 8 ∨ n = 9 ∨ n = 10 ∨ n = 11 ∨ n = 12 ∨ n = 13 ∨ n = 14 ∨ n = 15 by omega) with rfl | rfl | rfl | rfl | rfl | rfl | rfl | rfl | rfl | rfl | rfl | rfl | rfl | rfl | rfl | rfl
  · exact codes_0 H nx
  · exact codes_1 H nx
  · exact codes_2 H nx
  · exact codes_3 H nx
  · exact codes_4 H nx
  · exact codes_5 H nx
  · exact codes_6 H nx
  · exact codes_7 H nx
  · exact codes_8 H nx
  · exact codes_9 H nx
  · exact codes_10 H nx
  · exact codes_11 H nx
  · exact codes_12 H nx
  · exact codes_13 H nx
  · exact codes_14 H nx
  · exact codes_15 H nx
theorem codes_cl (n : Nat) (h : n < 16) : Cl cx 390 [byteA (UInt8.ofNat n)] H nx = some (.lit (.bool (codesB n)), H, nx) := by
  have := Cl_of (codes_n H nx n h)
  have e : byteA (UInt8.ofNat n) = .lit (.int .u8 (n : Nat)) := by
    unfold byteA
    have : (UInt8.ofNat n).toNat = n := by simp; omega
    rw [this]
  rw [e]; exact this
end
end Seat
end CI
namespace CI
open Go
namespace Seat
open Quo
variable {H : Heap} {nx : Nat}
section
variable {n0 r at_ : Nat} {w bs : List UInt8} {cs : List AV}
theorem byteA_of {n : Nat} (h : n < 256) : byteA (UInt8.ofNat n) = .lit (.int .u8 (n : Nat)) := by
  unfold byteA
  have : (UInt8.ofNat n).toNat = n := by simp; omega
  rw [this]
theorem Rd.wb (h : Rd n0 H nx r w at_ bs cs) (hlen : bs.length ≤ 100000000) (b : UInt8) :
    ∃ H' nx' cs', Cl cx 143 [.ptr r 2, byteA b] H nx = some (.lit .nilIface, H', nx') ∧ Rd n0 H' nx' r w at_ (bs ++ [b]) cs' ∧ nx ≤ nx' ∧ ∀ c, c < n0 → H'.get c = H.get c := by
  obtain ⟨H', nx', cs', w1, w2, w3, w4, w5, w6⟩ := wb_cl h.bld hlen b
  exact ⟨H', nx', cs', w1, ⟨w2, by rw [w4 0 (by omega) (by omega)]; exact h.s, by rw [w4 1 (by omega) (by omega)]; exact h.at1, by rw [w5]; exact h.len⟩, w3, w6⟩
def After (n0 : Nat) (H : Heap) (nx r : Nat) (w : List UInt8) (at_ : Nat) (bs : List UInt8) (used : Nat) (x : Except Nat UInt8) (ok : Bool) (H' : Heap) (nx' : Nat) (cs' : List AV) : Prop :=
  match x with
  | .ok b => ok = true ∧ at_ + used ≤ w.length ∧ Rd n0 H' nx' r w (at_ + used) (bs ++ [b]) cs'
  | .error k => ok = false ∧ at_ + k ≤ w.length ∧ Rd n0 H' nx' r w (at_ + k) bs cs'
theorem code_cl (h : Rd n0 H nx r w at_ bs cs) (hw : w.length ≤ 1000000) (ha : at_ ≤ w.length) (hbs : bs.length ≤ 1000000) :
    ∃ ok H' nx' cs', Cl cx 352 [.ptr r 0] H nx = some (.lit (.bool ok), H', nx') ∧ nx ≤ nx' ∧ (∀ c, c < n0 → H'.get c = H.get c) ∧ After n0 H nx r w at_ bs 2 (codeR (w.drop at_)) ok H' nx' cs' := by
  obtain ⟨v, H1, cs1, d1, d2, d3⟩ := digit_cl h hw ha
  rcases d3 with ⟨b, n, q1, q2, q3, rfl, q4⟩ | ⟨q1, rfl, q2⟩
  · rw [byteA_of (by omega)] at d1
    have hlt : at_ < w.length := (List.getElem?_eq_some_iff.1 q1).1
    have hco := codes_cl (H := H1) (nx := nx) n q3
    rw [byteA_of (by omega)] at hco
    cases hc : codesB n with
    | false =>
      rw [hc] at hco
      obtain ⟨H2, cs2, s1, s2, s3⟩ := q4.st at_
      have hwr : IntKind.i64.wrap (((at_ + 1 : Nat) : Int) - 1) = ((at_ : Nat) : Int) := by rw [wrapI (by constructor <;> omega)]; omega
      refine ⟨false, H2, nx, cs2, ?_, Nat.le_refl _, fun c hc => (s3 c hc).trans (d2 c hc), ?_⟩
      · refine wp352 _ _ _ _ (by simp) ?_
        unfold s352
        simp only [↓aD, ↓aE, ↓aF, ↓aG, ↓aH, ↓aI, ↓aJ, ↓aK, aL, ↓aM, ↓aN, aO, stepA, opA, convA, isCall, put?, ev, aA, aQ, builtinA, callA, argEnv, wantedS, aR, aS, aT, aU, aV, aW, aX, aY, undef, z_none, bA, bB, bC, bD, bH, bI, extractOp, bK, bL, bM, bN, Nat.reduceLT, Nat.reduceEqDiff, Nat.reduceAdd, bR, bS, ↓reduceIte, reduceCtorEq, resA, resOf, cB, maxA, minA, x_none, nc_ptr, fa321_0, fa319_1, d1, hco, q4.ld_at, hwr, s1]
      · rw [codeR_hi q1 q2 hc]; exact ⟨rfl, by omega, s2⟩
    | true =>
      rw [hc] at hco
      obtain ⟨v2, H2, cs2, d4, d5, d6⟩ := digit_cl q4 hw hlt
      rcases d6 with ⟨b2, m, p1, p2, p3, rfl, p4⟩ | ⟨p1, rfl, p2⟩
      · rw [byteA_of (by omega)] at d4
        have hlt2 : at_ + 1 < w.length := (List.getElem?_eq_some_iff.1 p1).1
        have hw1 : IntKind.u8.wrap (16 * (n : Int)) = ((16 * n : Nat) : Int) := by
          simp only [IntKind.wrap, IntKind.signed, IntKind.bits, Bool.false_and, Bool.false_eq_true, if_false]; omega
        have hw2 : IntKind.u8.wrap (((16 * n : Nat) : Int) + (m : Int)) = ((16 * n + m : Nat) : Int) := by
          simp only [IntKind.wrap, IntKind.signed, IntKind.bits, Bool.false_and, Bool.false_eq_true, if_false]; omega
        have hpl := plain_cl (H := H2) (nx := nx) (UInt8.ofNat (16 * n + m))
        rw [byteA_of (by omega)] at hpl
        have htn : (UInt8.ofNat (16 * n + m)).toNat = 16 * n + m := by simp; omega
        rw [htn] at hpl
        have hcr := codeR_lo q1 q2 hc p1 p2
        have hwr : IntKind.i64.wrap (((at_ + 1 + 1 : Nat) : Int) - 1) = ((at_ + 1 : Nat) : Int) := by rw [wrapI (by constructor <;> omega)]; omega
        cases hp : plainN (16 * n + m) with
        | true =>
          rw [hp] at hpl
          rw [if_pos (.inl hp)] at hcr
          obtain ⟨H3, cs3, s1, s2, s3⟩ := p4.st (at_ + 1)
          refine ⟨false, H3, nx, cs3, ?_, Nat.le_refl _, fun c hc => (s3 c hc).trans ((d5 c hc).trans (d2 c hc)), ?_⟩
          · refine wp352 _ _ _ _ (by simp) ?_
            unfold s352
            simp only [↓aD, ↓aE, ↓aF, ↓aG, ↓aH, ↓aI, ↓aJ, ↓aK, aL, ↓aM, ↓aN, aO, stepA, opA, convA, isCall, put?, ev, aA, aQ, builtinA, callA, argEnv, wantedS, aR, aS, aT, aU, aV, aW, aX, aY, undef, z_none, bA, bB, bC, bD, bH, bI, extractOp, bK, bL, bM, bN, Nat.reduceLT, Nat.reduceEqDiff, Nat.reduceAdd, bR, bS, ↓reduceIte, reduceCtorEq, resA, resOf, cB, maxA, minA, x_none, nc_ptr, fa321_0, fa319_1, d1, hco, d4, hw1, hw2, hpl, p4.ld_at, hwr, s1]
          · rw [hcr]; exact ⟨rfl, by omega, s2⟩
        | false =>
          rw [hp] at hpl
          by_cases h92 : 16 * n + m = 92
          · rw [if_pos (.inr h92)] at hcr
            have e92 : (((16 * n + m : Nat) : Int) = 92) = True := by simp; omega
            obtain ⟨H3, cs3, s1, s2, s3⟩ := p4.st (at_ + 1)
            refine ⟨false, H3, nx, cs3, ?_, Nat.le_refl _, fun c hc => (s3 c hc).trans ((d5 c hc).trans (d2 c hc)), ?_⟩
            · refine wp352 _ _ _ _ (by simp) ?_
              unfold s352
              simp only [↓aD, ↓aE, ↓aF, ↓aG, ↓aH, ↓aI, ↓aJ, ↓aK, aL, ↓aM, ↓aN, aO, stepA, opA, convA, isCall, put?, ev, aA, aQ, builtinA, callA, argEnv, wantedS, aR, aS, aT, aU, aV, aW, aX, aY, undef, z_none, bA, bB, bC, bD, bH, bI, extractOp, bK, bL, bM, bN, Nat.reduceLT, Nat.reduceEqDiff, Nat.reduceAdd, bR, bS, ↓reduceIte, reduceCtorEq, resA, resOf, cB, maxA, minA, x_none, nc_ptr, fa321_0, fa319_1, d1, hco, d4, hw1, hw2, hpl, e92, p4.ld_at, hwr, s1]
            · rw [hcr]; exact ⟨rfl, by omega, s2⟩
          · rw [if_neg (by rw [hp]; simp [h92])] at hcr
            have e92 : (((16 * n + m : Nat) : Int) = 92) = False := by simp; omega
            obtain ⟨H3, nx3, cs3, w1, w2, w3, w4⟩ := p4.wb (by omega) (UInt8.ofNat (16 * n + m))
            rw [byteA_of (by omega)] at w1
            refine ⟨true, H3, nx3, cs3, ?_, w3, fun c hc => (w4 c hc).trans ((d5 c hc).trans (d2 c hc)), ?_⟩
            · refine wp352 _ _ _ _ (by simp) ?_
              unfold s352
              simp only [↓aD, ↓aE, ↓aF, ↓aG, ↓aH, ↓aI, ↓aJ, ↓aK, aL, ↓aM, ↓aN, aO, stepA, opA, convA, isCall, put?, ev, aA, aQ, builtinA, callA, argEnv, wantedS, aR, aS, aT, aU, aV, aW, aX, aY, undef, z_none, bA, bB, bC, bD, bH, bI, extractOp, bK, bL, bM, bN, Nat.reduceLT, Nat.reduceEqDiff, Nat.reduceAdd, bR, bS, ↓reduceIte, reduceCtorEq, resA, resOf, cB, maxA, minA, x_none, nc_ptr, fa321_0, fa321_1, fa319_1, d1, hco, d4, hw1, hw2, hpl, e92, w1]
            · rw [hcr]; exact ⟨rfl, by omega, w2⟩
      · refine ⟨false, H2, nx, cs2, ?_, Nat.le_refl _, fun c hc => (d5 c hc).trans (d2 c hc), ?_⟩
        · refine wp352 _ _ _ _ (by simp) ?_
          unfold s352
          simp only [↓aD, ↓aE, ↓aF, ↓aG, ↓aH, ↓aI, ↓aJ, ↓aK, aL, ↓aM, ↓aN, aO, stepA, opA, convA, isCall, put?, ev, aA, aQ, builtinA, callA, argEnv, wantedS, aR, aS, aT, aU, aV, aW, aX, aY, undef, z_none, bA, bB, bC, bD, bH, bI, extractOp, bK, bL, bM, bN, Nat.reduceLT, Nat.reduceEqDiff, Nat.reduceAdd, bR, bS, ↓reduceIte, reduceCtorEq, resA, resOf, cB, maxA, minA, x_none, nc_ptr, fa321_0, fa319_1, d1, hco, d4]
        · rw [codeR_lo0 q1 q2 hc p1]; exact ⟨rfl, by omega, p2⟩
  · refine ⟨false, H1, nx, cs1, ?_, Nat.le_refl _, d2, ?_⟩
    · refine wp352 _ _ _ _ (by simp) ?_
      unfold s352
      simp only [↓aD, ↓aE, ↓aF, ↓aG, ↓aH, ↓aI, ↓aJ, ↓aK, aL, ↓aM, ↓aN, aO, stepA, opA, convA, isCall, put?, ev, aA, aQ, builtinA, callA, argEnv, wantedS, aR, aS, aT, aU, aV, aW, aX, aY, undef, z_none, bA, bB, bC, bD, bH, bI, extractOp, bK, bL, bM, bN, Nat.reduceLT, Nat.reduceEqDiff, Nat.reduceAdd, bR, bS, ↓reduceIte, reduceCtorEq, resA, resOf, cB, maxA, minA, x_none, nc_ptr, fa321_0, fa319_1, d1]
    · rw [codeR_none q1]; exact ⟨rfl, by omega, q2⟩
end
end Seat
end CI
namespace CI
open Go
namespace Seat
open Quo
variable {H : Heap} {nx : Nat}
section
variable {n0 r at_ : Nat} {w bs : List UInt8} {cs : List AV}
def AfterS (n0 : Nat) (r : Nat) (w : List UInt8) (at_ : Nat) (bs : List UInt8) (x : Except Nat (UInt8 × Nat)) (ok : Bool) (H' : Heap) (nx' : Nat) (cs' : List AV) : Prop :=
  match x with
  | .ok (b, k) => ok = true ∧ at_ + k ≤ w.length ∧ Rd n0 H' nx' r w (at_ + k) (bs ++ [b]) cs'
  | .error k => ok = false ∧ at_ + k ≤ w.length ∧ Rd n0 H' nx' r w (at_ + k) bs cs'
theorem esc_cl (h : Rd n0 H nx r w at_ bs cs) (hw : w.length ≤ 1000000) (ha : at_ ≤ w.length) (hbs : bs.length ≤ 1000000) :
    ∃ ok H' nx' cs', Cl cx 276 [.ptr r 0] H nx = some (.lit (.bool ok), H', nx') ∧ nx ≤ nx' ∧ (∀ c, c < n0 → H'.get c = H.get c) ∧ AfterS n0 r w at_ bs (escR (w.drop at_)) ok H' nx' cs' := by
  have hn := next_cl h
  by_cases hlt : at_ < w.length
  · have hg : w.getD at_ 0 = w[at_] := by simp [List.getD_eq_getElem?_getD, hlt]
    rw [hg] at hn
    simp only [hlt, decide_true] at hn
    have hd := drop_of (List.getElem?_eq_getElem hlt)
    have hwr : IntKind.i64.wrap ((at_ : Int) + 1) = ((at_ + 1 : Nat) : Int) := by rw [wrapI (by constructor <;> omega)]; rfl
    obtain ⟨H1, cs1, s1, s2, s3⟩ := h.st (at_ + 1)
    have hb5 : byteA w[at_] = .lit (.int .u8 w[at_].toNat) := rfl
    rw [hb5] at hn
    by_cases h92 : w[at_].toNat = 92
    · have e1 : (((w[at_].toNat : Nat) : Int) = 92) = True := by simp; omega
      obtain ⟨H2, nx2, cs2, w1, w2, w3, w4⟩ := s2.wb (by omega) 92
      have hb92 : byteA 92 = .lit (.int .u8 92) := rfl
      rw [hb92] at w1
      refine ⟨true, H2, nx2, cs2, ?_, w3, fun c hc => (w4 c hc).trans (s3 c hc), ?_⟩
      · refine wp276 _ _ _ _ (by simp) ?_
        unfold s276
        simp only [↓aD, ↓aE, ↓aF, ↓aG, ↓aH, ↓aI, ↓aJ, ↓aK, aL, ↓aM, ↓aN, aO, stepA, opA, convA, isCall, put?, ev, aA, aQ, builtinA, callA, argEnv, wantedS, aR, aS, aT, aU, aV, aW, aX, aY, undef, z_none, bA, bB, bC, bD, bH, bI, extractOp, bK, bL, bM, bN, Nat.reduceLT, Nat.reduceEqDiff, Nat.reduceAdd, bR, bS, ↓reduceIte, reduceCtorEq, resA, resOf, cB, maxA, minA, x_none, nc_ptr, fa321_0, fa321_1, fa319_1, hn, e1, h.ld_at, hwr, s1, w1]
      · rw [hd]
        simp only [escR, if_pos h92]
        exact ⟨rfl, by omega, w2⟩
    · have e1 : (((w[at_].toNat : Nat) : Int) = 92) = False := by simp; omega
      by_cases h120 : w[at_].toNat = 120
      · have e2 : (((w[at_].toNat : Nat) : Int) = 120) = True := by simp; omega
        obtain ⟨ok, H2, nx2, cs2, c1, c2, c3, c4⟩ := code_cl s2 hw (by omega) hbs
        refine ⟨ok, H2, nx2, cs2, ?_, c2, fun c hc => (c3 c hc).trans (s3 c hc), ?_⟩
        · refine wp276 _ _ _ _ (by simp) ?_
          unfold s276
          simp only [↓aD, ↓aE, ↓aF, ↓aG, ↓aH, ↓aI, ↓aJ, ↓aK, aL, ↓aM, ↓aN, aO, stepA, opA, convA, isCall, put?, ev, aA, aQ, builtinA, callA, argEnv, wantedS, aR, aS, aT, aU, aV, aW, aX, aY, undef, z_none, bA, bB, bC, bD, bH, bI, extractOp, bK, bL, bM, bN, Nat.reduceLT, Nat.reduceEqDiff, Nat.reduceAdd, bR, bS, ↓reduceIte, reduceCtorEq, resA, resOf, cB, maxA, minA, x_none, nc_ptr, fa321_0, fa321_1, fa319_1, hn, e1, e2, h.ld_at, hwr, s1, c1]
        · rw [hd]
          simp only [escR, if_neg h92, if_pos h120]
          unfold After at c4
          unfold AfterS
          cases hc : codeR (w.drop (at_ + 1)) with
          | error k => rw [hc] at c4; simp only at c4 ⊢; rw [← Nat.add_assoc]; exact c4
          | ok b => rw [hc] at c4; simp only at c4 ⊢; rw [show at_ + 3 = at_ + 1 + 2 from rfl]; exact c4
      · have e2 : (((w[at_].toNat : Nat) : Int) = 120) = False := by simp; omega
        refine ⟨false, H, nx, cs, ?_, Nat.le_refl _, fun _ _ => rfl, ?_⟩
        · refine wp276 _ _ _ _ (by simp) ?_
          unfold s276
          simp only [↓aD, ↓aE, ↓aF, ↓aG, ↓aH, ↓aI, ↓aJ, ↓aK, aL, ↓aM, ↓aN, aO, stepA, opA, convA, isCall, put?, ev, aA, aQ, builtinA, callA, argEnv, wantedS, aR, aS, aT, aU, aV, aW, aX, aY, undef, z_none, bA, bB, bC, bD, bH, bI, extractOp, bK, bL, bM, bN, Nat.reduceLT, Nat.reduceEqDiff, Nat.reduceAdd, bR, bS, ↓reduceIte, reduceCtorEq, resA, resOf, cB, maxA, minA, x_none, nc_ptr, fa321_0, fa321_1, fa319_1, hn, e1, e2]
        · rw [hd]
          simp only [escR, if_neg h92, if_neg h120]
          exact ⟨rfl, by omega, h⟩
  · simp only [hlt, decide_false] at hn
    refine ⟨false, H, nx, cs, ?_, Nat.le_refl _, fun _ _ => rfl, ?_⟩
    · refine wp276 _ _ _ _ (by simp) ?_
      unfold s276
      simp only [↓aD, ↓aE, ↓aF, ↓aG, ↓aH, ↓aI, ↓aJ, ↓aK, aL, ↓aM, ↓aN, aO, stepA, opA, convA, isCall, put?, ev, aA, aQ, builtinA, callA, argEnv, wantedS, aR, aS, aT, aU, aV, aW, aX, aY, undef, z_none, bA, bB, bC, bD, bH, bI, extractOp, bK, bL, bM, bN, Nat.reduceLT, Nat.reduceEqDiff, Nat.reduceAdd, bR, bS, ↓reduceIte, reduceCtorEq, resA, resOf, cB, maxA, minA, x_none, nc_ptr, fa321_0, fa321_1, fa319_1, hn]
    · rw [List.drop_eq_nil_of_le (by omega)]
      exact ⟨rfl, by omega, h⟩
theorem oneR_cl (h : Rd n0 H nx r w at_ bs cs) (hw : w.length ≤ 1000000) (hlt : at_ < w.length) (hbs : bs.length ≤ 1000000) :
    ∃ ok H' nx' cs', Cl cx 205 [.ptr r 0] H nx = some (.lit (.bool ok), H', nx') ∧ nx ≤ nx' ∧ (∀ c, c < n0 → H'.get c = H.get c) ∧ AfterS n0 r w at_ bs (stepR (w.drop at_)) ok H' nx' cs' := by
  have hn := next_cl h
  have hg : w.getD at_ 0 = w[at_] := by simp [List.getD_eq_getElem?_getD, hlt]
  rw [hg] at hn
  simp only [hlt, decide_true] at hn
  have hd := drop_of (List.getElem?_eq_getElem hlt)
  have hwr : IntKind.i64.wrap ((at_ : Int) + 1) = ((at_ + 1 : Nat) : Int) := by rw [wrapI (by constructor <;> omega)]; rfl
  obtain ⟨H1, cs1, s1, s2, s3⟩ := h.st (at_ + 1)
  have hb5 : byteA w[at_] = .lit (.int .u8 w[at_].toNat) := rfl
  have hpl := plain_cl (H := H) (nx := nx) w[at_]
  rw [hb5] at hn hpl
  by_cases h92 : w[at_].toNat = 92
  · have e1 : (((w[at_].toNat : Nat) : Int) = 92) = True := by simp; omega
    obtain ⟨ok, H2, nx2, cs2, c1, c2, c3, c4⟩ := esc_cl s2 hw (by omega) hbs
    refine ⟨ok, H2, nx2, cs2, ?_, c2, fun c hc => (c3 c hc).trans (s3 c hc), ?_⟩
    · refine wp205 _ _ _ _ (by simp) ?_
      unfold s205
      simp only [↓aD, ↓aE, ↓aF, ↓aG, ↓aH, ↓aI, ↓aJ, ↓aK, aL, ↓aM, ↓aN, aO, stepA, opA, convA, isCall, put?, ev, aA, aQ, builtinA, callA, argEnv, wantedS, aR, aS, aT, aU, aV, aW, aX, aY, undef, z_none, bA, bB, bC, bD, bH, bI, extractOp, bK, bL, bM, bN, Nat.reduceLT, Nat.reduceEqDiff, Nat.reduceAdd, bR, bS, ↓reduceIte, reduceCtorEq, resA, resOf, cB, maxA, minA, x_none, nc_ptr, fa321_0, fa321_1, fa319_1, hn, e1, h.ld_at, hwr, s1, c1]
    · rw [hd, stepR_esc h92]
      unfold AfterS at c4 ⊢
      cases hc : escR (w.drop (at_ + 1)) with
      | error k => rw [hc] at c4; simp only at c4 ⊢; rw [← Nat.add_assoc]; exact c4
      | ok p =>
        obtain ⟨b, k⟩ := p
        rw [hc] at c4; simp only at c4 ⊢
        rw [show at_ + (k + 1) = at_ + 1 + k by omega]; exact c4
  · have e1 : (((w[at_].toNat : Nat) : Int) = 92) = False := by simp; omega
    cases hp : plainN w[at_].toNat with
    | true =>
      rw [hp] at hpl
      obtain ⟨H2, nx2, cs2, w1, w2, w3, w4⟩ := s2.wb (by omega) w[at_]
      rw [hb5] at w1
      refine ⟨true, H2, nx2, cs2, ?_, w3, fun c hc => (w4 c hc).trans (s3 c hc), ?_⟩
      · refine wp205 _ _ _ _ (by simp) ?_
        unfold s205
        simp only [↓aD, ↓aE, ↓aF, ↓aG, ↓aH, ↓aI, ↓aJ, ↓aK, aL, ↓aM, ↓aN, aO, stepA, opA, convA, isCall, put?, ev, aA, aQ, builtinA, callA, argEnv, wantedS, aR, aS, aT, aU, aV, aW, aX, aY, undef, z_none, bA, bB, bC, bD, bH, bI, extractOp, bK, bL, bM, bN, Nat.reduceLT, Nat.reduceEqDiff, Nat.reduceAdd, bR, bS, ↓reduceIte, reduceCtorEq, resA, resOf, cB, maxA, minA, x_none, nc_ptr, fa321_0, fa321_1, fa319_1, hn, e1, hpl, h.ld_at, hwr, s1, w1]
      · rw [hd]
        simp only [stepR, if_neg h92, hp, if_true]
        exact ⟨rfl, by omega, w2⟩
    | false =>
      rw [hp] at hpl
      refine ⟨false, H, nx, cs, ?_, Nat.le_refl _, fun _ _ => rfl, ?_⟩
      · refine wp205 _ _ _ _ (by simp) ?_
        unfold s205
        simp only [↓aD, ↓aE, ↓aF, ↓aG, ↓aH, ↓aI, ↓aJ, ↓aK, aL, ↓aM, ↓aN, aO, stepA, opA, convA, isCall, put?, ev, aA, aQ, builtinA, callA, argEnv, wantedS, aR, aS, aT, aU, aV, aW, aX, aY, undef, z_none, bA, bB, bC, bD, bH, bI, extractOp, bK, bL, bM, bN, Nat.reduceLT, Nat.reduceEqDiff, Nat.reduceAdd, bR, bS, ↓reduceIte, reduceCtorEq, resA, resOf, cB, maxA, minA, x_none, nc_ptr, fa321_0, fa321_1, fa319_1, hn, e1, hpl]
      · rw [hd]
        simp only [stepR, if_neg h92, hp, Bool.false_eq_true, if_false]
        exact ⟨rfl, by omega, h⟩
theorem pre_cl (w : List UInt8) (hw : w.length ≤ 1000000) : Cl cx 259 [strA w, strA [92, 101]] H nx = some (.lit (.bool (decide (w.take 2 = [92, 101]))), H, nx) := by
  have h48 : Cl cx 335 [strA w, strA [92, 101]] H nx = some (.lit (.bool (decide (w.take 2 = [92, 101]))), H, nx) := by
    refine wp335 _ _ _ _ (by simp) ?_
    unfold s335
    by_cases h2 : 2 ≤ w.length
    · have e1 : (((w.length : Nat) : Int) ≥ (([92, 101] : List UInt8).length : Nat)) = True := by simp; omega
      have hsl : sliceOp cx.P cx.T H 9 (strA w) none (some (.lit (.int .i64 (([92, 101] : List UInt8).length : Nat)))) none = some (strA (w.take 2)) := by
        exact str_to w 2 h2
      have he := str_eql (.tmp 14) (.tmp 15) (w.take 2) [92, 101]
      simp only [↓aD, ↓aE, ↓aF, ↓aG, ↓aH, ↓aI, ↓aJ, ↓aK, aL, ↓aM, ↓aN, aO, stepA, opA, convA, isCall, put?, ev, aA, aQ, builtinA, callA, argEnv, wantedS, aR, aS, aT, aU, aV, aW, aX, aY, undef, z_none, bA, bB, bC, bD, bH, bI, extractOp, bK, bL, bM, bN, Nat.reduceLT, Nat.reduceEqDiff, Nat.reduceAdd, bR, bS, ↓reduceIte, reduceCtorEq, resA, resOf, cB, maxA, minA, str_len, e1, hsl, he]
    · have e1 : (((w.length : Nat) : Int) ≥ (([92, 101] : List UInt8).length : Nat)) = False := by simp; omega
      have hne : (w.take 2 = [92, 101]) = False := by
        simp only [eq_iff_iff, iff_false]
        intro h
        have := congrArg List.length h
        rw [List.length_take] at this
        simp at this; omega
      simp only [↓aD, ↓aE, ↓aF, ↓aG, ↓aH, ↓aI, ↓aJ, ↓aK, aL, ↓aM, ↓aN, aO, stepA, opA, convA, isCall, put?, ev, aA, aQ, builtinA, callA, argEnv, wantedS, aR, aS, aT, aU, aV, aW, aX, aY, undef, z_none, bA, bB, bC, bD, bH, bI, extractOp, bK, bL, bM, bN, Nat.reduceLT, Nat.reduceEqDiff, Nat.reduceAdd, bR, bS, ↓reduceIte, reduceCtorEq, resA, resOf, cB, maxA, minA, str_len, e1, hne]
  refine wp259 _ _ _ _ (by simp) ?_
  unfold s259
  simp only [↓aD, ↓aE, ↓aF, ↓aG, ↓aH, ↓aI, ↓aJ, ↓aK, aL, ↓aM, ↓aN, aO, stepA, opA, convA, isCall, put?, ev, aA, aQ, builtinA, callA, argEnv, wantedS, aR, aS, aT, aU, aV, aW, aX, aY, undef, z_none, bA, bB, bC, bD, bH, bI, extractOp, bK, bL, bM, bN, Nat.reduceLT, Nat.reduceEqDiff, Nat.reduceAdd, bR, bS, ↓reduceIte, reduceCtorEq, resA, resOf, cB, maxA, minA, x_none, h48]
theorem failed_cl (h : Rd n0 H nx r w at_ bs cs) (hw : w.length ≤ 1000000) : Cl cx 206 [.ptr r 0] H nx = some (.lit (.int .i64 ((if at_ = 1 ∧ w.take 2 = [92, 101] then 2 else at_ : Nat) : Int)), H, nx) := by
  refine wp206 _ _ _ _ (by simp) ?_
  unfold s206
  by_cases h1 : at_ = 1
  · have e1 : (((at_ : Nat) : Int) = 1) = True := by simp; omega
    by_cases h2 : w.take 2 = [92, 101]
    · rw [if_pos ⟨h1, h2⟩]
      simp only [↓aD, ↓aE, ↓aF, ↓aG, ↓aH, ↓aI, ↓aJ, ↓aK, aL, ↓aM, ↓aN, aO, stepA, opA, convA, isCall, put?, ev, aA, aQ, builtinA, callA, argEnv, wantedS, aR, aS, aT, aU, aV, aW, aX, aY, undef, z_none, bA, bB, bC, bD, bH, bI, extractOp, bK, bL, bM, bN, Nat.reduceLT, Nat.reduceEqDiff, Nat.reduceAdd, bR, bS, ↓reduceIte, reduceCtorEq, resA, resOf, cB, maxA, minA, x_none, nc_ptr, fa321_0, fa319_0, fa319_1, h.ld_at, h.ld_s, e1, lit_e, pre_cl w hw, h2]
      rfl
    · rw [if_neg (fun h => h2 h.2)]
      simp only [↓aD, ↓aE, ↓aF, ↓aG, ↓aH, ↓aI, ↓aJ, ↓aK, aL, ↓aM, ↓aN, aO, stepA, opA, convA, isCall, put?, ev, aA, aQ, builtinA, callA, argEnv, wantedS, aR, aS, aT, aU, aV, aW, aX, aY, undef, z_none, bA, bB, bC, bD, bH, bI, extractOp, bK, bL, bM, bN, Nat.reduceLT, Nat.reduceEqDiff, Nat.reduceAdd, bR, bS, ↓reduceIte, reduceCtorEq, resA, resOf, cB, maxA, minA, x_none, nc_ptr, fa321_0, fa319_0, fa319_1, h.ld_at, h.ld_s, e1, lit_e, pre_cl w hw, h2]
  · have e1 : (((at_ : Nat) : Int) = 1) = False := by simp; omega
    rw [if_neg (fun h => h1 h.1)]
    simp only [↓aD, ↓aE, ↓aF, ↓aG, ↓aH, ↓aI, ↓aJ, ↓aK, aL, ↓aM, ↓aN, aO, stepA, opA, convA, isCall, put?, ev, aA, aQ, builtinA, callA, argEnv, wantedS, aR, aS, aT, aU, aV, aW, aX, aY, undef, z_none, bA, bB, bC, bD, bH, bI, extractOp, bK, bL, bM, bN, Nat.reduceLT, Nat.reduceEqDiff, Nat.reduceAdd, bR, bS, ↓reduceIte, reduceCtorEq, resA, resOf, cB, maxA, minA, x_none, nc_ptr, fa321_0, fa319_0, fa319_1, h.ld_at, h.ld_s, e1]
end
end Seat
end CI
namespace CI
open Go
namespace Seat
open Quo
variable {H : Heap} {nx : Nat}
theorem read_l0 {n0 r : Nat} {w : List UInt8} {cs : List AV} {E : Tr AV} {QQ : Ex → St → Prop} (h : Rd n0 H nx r w 0 [] cs) (hw : w.length ≤ 1000000) (e0 : E.get 0 = some (strA w)) (e5 : E.get 5 = some (.ptr r 0))
    (hQ : ∀ E' H' nx' cs' s, readW (w.length + 1) w 0 [] = .ok s → s.length ≤ w.length → Rd n0 H' nx' r w w.length s cs' → nx ≤ nx' → (∀ c, c < n0 → H'.get c = H.get c) → E'.get 0 = some (strA w) → E'.get 5 = some (.ptr r 0) → QQ (.exit 0) ⟨E', H', nx'⟩)
    (hR : ∀ E' H' nx' k, readW (w.length + 1) w 0 [] = .error k → nx ≤ nx' → (∀ c, c < n0 → H'.get c = H.get c) → (∀ b, nx' ≤ b → H'.get b = none) → E'.get 2 = some (strA []) →
      E'.get 3 = some (.lit (.int .i64 ((if k = 1 ∧ w.take 2 = [92, 101] then 2 else k : Nat) : Int))) → E'.get 4 = some (.lit (.int .i64 4)) → QQ .ret ⟨E', H', nx'⟩) :
    Wp cx 35 (.loop s148_l0) ⟨E, H, nx⟩ QQ := by
  refine Wp_loop (fun n st => ∃ (a : Nat) (bs : List UInt8) (cs' : List AV) (f : Nat), n = w.length - a ∧ a ≤ w.length ∧ bs.length ≤ a ∧ w.length - a < f ∧ readW f w a bs = readW (w.length + 1) w 0 [] ∧ Rd n0 st.H st.nx r w a bs cs' ∧ nx ≤ st.nx ∧
    (∀ c, c < n0 → st.H.get c = H.get c) ∧ st.env.get 0 = some (strA w) ∧ st.env.get 5 = some (.ptr r 0)) ?_ w.length _ ⟨0, [], cs, w.length + 1, by omega, by omega, by simp, by omega, rfl, h, Nat.le_refl _, fun _ _ => rfl, e0, e5⟩
  rintro n ⟨E, H1, nx1⟩ ⟨a, bs, cs1, f, hn, ha, hbs, hf, hrd, h, hnx, hold, e0, e5⟩
  simp only at h hnx hold e0 e5
  refine Wp_of ?_
  unfold s148_l0
  obtain ⟨f, rfl⟩ : ∃ g, f = g + 1 := ⟨f - 1, by omega⟩
  by_cases hlt : a < w.length
  · have e1 : (((a : Nat) : Int) < (w.length : Nat)) = True := by simp; omega
    obtain ⟨ok, H2, nx2, cs2, c1, c2, c3, c4⟩ := oneR_cl h hw hlt (by omega)
    simp only [readW, if_neg (show ¬ w.length ≤ a by omega)] at hrd
    unfold AfterS at c4
    cases hs : stepR (w.drop a) with
    | error k =>
      rw [hs] at c4 hrd
      simp only at c4 hrd
      obtain ⟨rfl, hk, hR2⟩ := c4
      have hfl := failed_cl hR2 hw
      simp only [↓aD, ↓aE, ↓aF, ↓aG, ↓aH, ↓aI, ↓aJ, ↓aK, aL, ↓aM, ↓aN, aO, stepA, opA, convA, isCall, put?, ev, aA, aQ, builtinA, callA, argEnv, wantedS, aR, aS, aT, aU, aV, aW, aX, aY, undef, z_none, bA, bB, bC, bD, bH, bI, extractOp, bK, bL, bM, bN, Nat.reduceLT, Nat.reduceEqDiff, Nat.reduceAdd, bR, bS, ↓reduceIte, reduceCtorEq, resA, resOf, cB, maxA, minA, x_none, nc_ptr, fa321_0, fa319_1, e0, e5, h.ld_at, str_len, e1, c1, lit_nil, hfl]
      refine hR _ _ _ (a + k) hrd.symm (by omega) (fun c hc => (c3 c hc).trans (hold c hc)) hR2.bld.fr ?_ ?_ ?_
      · simp only [↓aD, ↓aE, ↓aF, ↓aG, ↓aH, ↓aI, ↓aJ, ↓aK, aL, ↓aM, ↓aN, aO, stepA, opA, convA, isCall, put?, ev, aA, aQ, builtinA, callA, argEnv, wantedS, aR, aS, aT, aU, aV, aW, aX, aY, undef, z_none, bA, bB, bC, bD, bH, bI, extractOp, bK, bL, bM, bN, Nat.reduceLT, Nat.reduceEqDiff, Nat.reduceAdd, bR, bS, ↓reduceIte, reduceCtorEq, resA, resOf, cB, maxA, minA]
      · simp only [↓aD, ↓aE, ↓aF, ↓aG, ↓aH, ↓aI, ↓aJ, ↓aK, aL, ↓aM, ↓aN, aO, stepA, opA, convA, isCall, put?, ev, aA, aQ, builtinA, callA, argEnv, wantedS, aR, aS, aT, aU, aV, aW, aX, aY, undef, z_none, bA, bB, bC, bD, bH, bI, extractOp, bK, bL, bM, bN, Nat.reduceLT, Nat.reduceEqDiff, Nat.reduceAdd, bR, bS, ↓reduceIte, reduceCtorEq, resA, resOf, cB, maxA, minA]
      · simp only [↓aD, ↓aE, ↓aF, ↓aG, ↓aH, ↓aI, ↓aJ, ↓aK, aL, ↓aM, ↓aN, aO, stepA, opA, convA, isCall, put?, ev, aA, aQ, builtinA, callA, argEnv, wantedS, aR, aS, aT, aU, aV, aW, aX, aY, undef, z_none, bA, bB, bC, bD, bH, bI, extractOp, bK, bL, bM, bN, Nat.reduceLT, Nat.reduceEqDiff, Nat.reduceAdd, bR, bS, ↓reduceIte, reduceCtorEq, resA, resOf, cB, maxA, minA]
    | ok p =>
      obtain ⟨b, k⟩ := p
      rw [hs] at c4 hrd
      simp only at c4 hrd
      obtain ⟨rfl, hk, hR2⟩ := c4
      have hkp := stepR_pos hs
      simp only [↓aD, ↓aE, ↓aF, ↓aG, ↓aH, ↓aI, ↓aJ, ↓aK, aL, ↓aM, ↓aN, aO, stepA, opA, convA, isCall, put?, ev, aA, aQ, builtinA, callA, argEnv, wantedS, aR, aS, aT, aU, aV, aW, aX, aY, undef, z_none, bA, bB, bC, bD, bH, bI, extractOp, bK, bL, bM, bN, Nat.reduceLT, Nat.reduceEqDiff, Nat.reduceAdd, bR, bS, ↓reduceIte, reduceCtorEq, resA, resOf, cB, maxA, minA, x_none, nc_ptr, fa321_0, fa319_1, e0, e5, h.ld_at, str_len, e1, c1]
      exact ⟨w.length - (a + k), by omega, a + k, bs ++ [b], cs2, f, rfl, by omega, by simp; omega, by omega, hrd, hR2, by omega, fun c hc => (c3 c hc).trans (hold c hc)⟩
  · have e1 : (((a : Nat) : Int) < (w.length : Nat)) = False := by simp; omega
    have haw : a = w.length := by omega
    subst haw
    simp only [readW, Nat.le_refl, if_true] at hrd
    simp only [↓aD, ↓aE, ↓aF, ↓aG, ↓aH, ↓aI, ↓aJ, ↓aK, aL, ↓aM, ↓aN, aO, stepA, opA, convA, isCall, put?, ev, aA, aQ, builtinA, callA, argEnv, wantedS, aR, aS, aT, aU, aV, aW, aX, aY, undef, z_none, bA, bB, bC, bD, bH, bI, extractOp, bK, bL, bM, bN, Nat.reduceLT, Nat.reduceEqDiff, Nat.reduceAdd, bR, bS, ↓reduceIte, reduceCtorEq, resA, resOf, cB, maxA, minA, x_none, nc_ptr, fa321_0, fa319_1, e0, e5, h.ld_at, str_len, e1]
    refine hQ _ _ _ cs1 bs hrd.symm hbs h hnx hold ?_ ?_
    · simp only [↓aD, ↓aE, ↓aF, ↓aG, ↓aH, ↓aI, ↓aJ, ↓aK, aL, ↓aM, ↓aN, aO, stepA, opA, convA, isCall, put?, ev, aA, aQ, builtinA, callA, argEnv, wantedS, aR, aS, aT, aU, aV, aW, aX, aY, undef, z_none, bA, bB, bC, bD, bH, bI, extractOp, bK, bL, bM, bN, Nat.reduceLT, Nat.reduceEqDiff, Nat.reduceAdd, bR, bS, ↓reduceIte, reduceCtorEq, resA, resOf, cB, maxA, minA, e0]
    · simp only [↓aD, ↓aE, ↓aF, ↓aG, ↓aH, ↓aI, ↓aJ, ↓aK, aL, ↓aM, ↓aN, aO, stepA, opA, convA, isCall, put?, ev, aA, aQ, builtinA, callA, argEnv, wantedS, aR, aS, aT, aU, aV, aW, aX, aY, undef, z_none, bA, bB, bC, bD, bH, bI, extractOp, bK, bL, bM, bN, Nat.reduceLT, Nat.reduceEqDiff, Nat.reduceAdd, bR, bS, ↓reduceIte, reduceCtorEq, resA, resOf, cB, maxA, minA, e5]
theorem bd319 (w : List UInt8) : buildOp cx.T 319 [(0, strA w)] = some (.agg [strA w, .lit (.int .i64 0)]) := by kernel_rfl
theorem bd321 (w : List UInt8) : buildOp cx.T 321 [(0, .agg [strA w, .lit (.int .i64 0)])] = some (.agg [strA w, .lit (.int .i64 0), .lit (.pointer none), .lit (.slice none 0 0)]) := by kernel_rfl
theorem bx321 (w : List UInt8) : boxOp H nx 321 (.agg [strA w, .lit (.int .i64 0), .lit (.pointer none), .lit (.slice none 0 0)]) =
    some (.ptr nx 0, H.put nx (some (.cells [strA w, .lit (.int .i64 0), .lit (.pointer none), .lit (.slice none 0 0)] 321 false)), nx + 1) := rfl
theorem rd_new (h : ∀ b, nx ≤ b → H.get b = none) (w : List UInt8) : Rd nx (H.put nx (some (.cells [strA w, .lit (.int .i64 0), .lit (.pointer none), .lit (.slice none 0 0)] 321 false))) (nx + 1) nx w 0 [] [strA w, .lit (.int .i64 0), .lit (.pointer none), .lit (.slice none 0 0)] where
  bld := {
    hp := Tr.get_put_same _ _ _
    p0 := Nat.le_refl _
    p1 := by omega
    lies := by kernel_rfl
    self := .inl rfl
    buf := .inl ⟨rfl, rfl⟩
    fr := (Fr.put h _).fr }
  s := rfl
  at1 := rfl
  len := rfl
theorem read_cl {w : List UInt8} (hw : w.length ≤ 1000000) (hfr : ∀ b, nx ≤ b → H.get b = none) :
    ∃ v H' nx', Cl cx 148 [strA w] H nx = some (v, H', nx') ∧ v = .tuple [strA (readI w).1, .lit (.int .i64 ((readI w).2.1 : Nat)), .lit (.int .i64 ((readI w).2.2 : Nat))] ∧ Fr H nx H' nx' := by
  refine wpP148 _ _ _ _ (by simp) ?_
  unfold s148 readI
  have he := str_eql (.tmp 7) (.const (.string (ByteArray.mk #[92, 101]))) w [92, 101]
  by_cases h0 : w = [92, 101]
  · subst h0
    rw [if_pos rfl]
    simp only [↓aD, ↓aE, ↓aF, ↓aG, ↓aH, ↓aI, ↓aJ, ↓aK, aL, ↓aM, ↓aN, aO, stepA, opA, convA, isCall, put?, ev, aA, aQ, builtinA, callA, argEnv, wantedS, aR, aS, aT, aU, aV, aW, aX, aY, undef, z_none, bA, bB, bC, bD, bH, bI, extractOp, bK, bL, bM, bN, Nat.reduceLT, Nat.reduceEqDiff, Nat.reduceAdd, bR, bS, ↓reduceIte, reduceCtorEq, resA, resOf, cB, maxA, minA, lit_nil, lit_e, he]
    exact ⟨rfl, Fr.refl hfr⟩
  · rw [if_neg h0]
    simp only [↓aD, ↓aE, ↓aF, ↓aG, ↓aH, ↓aI, ↓aJ, ↓aK, aL, ↓aM, ↓aN, aO, stepA, opA, convA, isCall, put?, ev, aA, aQ, builtinA, callA, argEnv, wantedS, aR, aS, aT, aU, aV, aW, aX, aY, undef, z_none, bA, bB, bC, bD, bH, bI, extractOp, bK, bL, bM, bN, Nat.reduceLT, Nat.reduceEqDiff, Nat.reduceAdd, bR, bS, ↓reduceIte, reduceCtorEq, resA, resOf, cB, maxA, minA, lit_nil, lit_e, he, h0, partsA, bd319, bd321, bx321]
    refine read_l0 (rd_new hfr w) hw ?_ ?_ ?_ ?_
    · simp only [↓aD, ↓aE, ↓aF, ↓aG, ↓aH, ↓aI, ↓aJ, ↓aK, aL, ↓aM, ↓aN, aO, stepA, opA, convA, isCall, put?, ev, aA, aQ, builtinA, callA, argEnv, wantedS, aR, aS, aT, aU, aV, aW, aX, aY, undef, z_none, bA, bB, bC, bD, bH, bI, extractOp, bK, bL, bM, bN, Nat.reduceLT, Nat.reduceEqDiff, Nat.reduceAdd, bR, bS, ↓reduceIte, reduceCtorEq, resA, resOf, cB, maxA, minA]
    · simp only [↓aD, ↓aE, ↓aF, ↓aG, ↓aH, ↓aI, ↓aJ, ↓aK, aL, ↓aM, ↓aN, aO, stepA, opA, convA, isCall, put?, ev, aA, aQ, builtinA, callA, argEnv, wantedS, aR, aS, aT, aU, aV, aW, aX, aY, undef, z_none, bA, bB, bC, bD, bH, bI, extractOp, bK, bL, bM, bN, Nat.reduceLT, Nat.reduceEqDiff, Nat.reduceAdd, bR, bS, ↓reduceIte, reduceCtorEq, resA, resOf, cB, maxA, minA]
    · intro E' H' nx' cs' s hs hsl hR hnx hold e0 e5
      have he2 := str_eql (.tmp 26) (.const (.string (ByteArray.mk #[]))) w []
      by_cases hn : w = []
      · subst hn
        simp only [↓aD, ↓aE, ↓aF, ↓aG, ↓aH, ↓aI, ↓aJ, ↓aK, aL, ↓aM, ↓aN, aO, stepA, opA, convA, isCall, put?, ev, aA, aQ, builtinA, callA, argEnv, wantedS, aR, aS, aT, aU, aV, aW, aX, aY, undef, z_none, bA, bB, bC, bD, bH, bI, extractOp, bK, bL, bM, bN, Nat.reduceLT, Nat.reduceEqDiff, Nat.reduceAdd, bR, bS, ↓reduceIte, reduceCtorEq, resA, resOf, cB, maxA, minA, lit_nil, e0, he2]
        rw [hs]
        simp only [if_true]
        refine ⟨rfl, by omega, fun c hc => ?_, hR.bld.fr⟩
        rw [hold c hc, Tr.get_put_ne _ _ _ _ (by omega)]
      · have hs0 : s ≠ [] := by
          rintro rfl
          obtain ⟨t, h3, h4⟩ := readW_ok _ w 0 [] [] (by omega) hs
          simp only [List.nil_append, List.drop_zero] at h3 h4
          subst h3
          exact hn h4
        obtain ⟨H2, k1, k2, k3⟩ := bstr_cl hR.bld (by omega) (.inl hs0)
        simp only [↓aD, ↓aE, ↓aF, ↓aG, ↓aH, ↓aI, ↓aJ, ↓aK, aL, ↓aM, ↓aN, aO, stepA, opA, convA, isCall, put?, ev, aA, aQ, builtinA, callA, argEnv, wantedS, aR, aS, aT, aU, aV, aW, aX, aY, undef, z_none, bA, bB, bC, bD, bH, bI, extractOp, bK, bL, bM, bN, Nat.reduceLT, Nat.reduceEqDiff, Nat.reduceAdd, bR, bS, ↓reduceIte, reduceCtorEq, resA, resOf, cB, maxA, minA, x_none, lit_nil, e0, e5, he2, hn, nc_ptr, fa321_1, k1, str_len]
        rw [hs]
        simp only [if_neg hn]
        refine ⟨rfl, by omega, fun c hc => ?_, k3⟩
        rw [k2 c hc, hold c hc, Tr.get_put_ne _ _ _ _ (by omega)]
    · intro E' H' nx' k hs hnx hold hf e2 e3 e4
      simp only [↓aD, ↓aE, ↓aF, ↓aG, ↓aH, ↓aI, ↓aJ, ↓aK, aL, ↓aM, ↓aN, aO, stepA, opA, convA, isCall, put?, ev, aA, aQ, builtinA, callA, argEnv, wantedS, aR, aS, aT, aU, aV, aW, aX, aY, undef, z_none, bA, bB, bC, bD, bH, bI, extractOp, bK, bL, bM, bN, Nat.reduceLT, Nat.reduceEqDiff, Nat.reduceAdd, bR, bS, ↓reduceIte, reduceCtorEq, resA, resOf, cB, maxA, minA, e2, e3, e4]
      rw [hs]
      refine ⟨rfl, by omega, fun c hc => ?_, hf⟩
      rw [hold c hc, Tr.get_put_ne _ _ _ _ (by omega)]
end Seat
end CI
