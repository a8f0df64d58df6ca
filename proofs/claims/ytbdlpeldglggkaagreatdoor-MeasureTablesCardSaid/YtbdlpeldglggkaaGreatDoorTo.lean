/- Merged: Td Te Tf. -/
import Derived.Test.YtbdlpeldglggkaaGreatDoorTm
/- Doubles, walked. -/
set_option linter.unusedVariables false
set_option linter.unusedSimpArgs false
set_option maxRecDepth 10000
namespace CI
open Go
/-- Whether a series doubles at a step. -/
def Dbl (X : List Int) (k : Int) : Prop := 1 ≤ k ∧ k < X.length ∧ ∀ i : Nat, k.toNat ≤ i → i < X.length → 1 ≤ X.getD (i - k.toNat) 0 ∧ 2 * X.getD (i - k.toNat) 0 ≤ X.getD i 0
namespace Seat
variable {H : Heap} {nx : Nat}
theorem bs2i (a b : Int) : buildSliceOp cx.T H nx 22 2 [(0, .lit (.int .i64 a)), (1, .lit (.int .i64 b))] = some (.slice nx 0 2 (some 2) 1, H.put nx (some (.cells [intA a, intA b] 3 false)), nx + 1) := by kernel_rfl
theorem mul2 (x : Int) (h1 : 1 ≤ x) (h2 : x ≤ 1000000) : Cl cx 24 [.slice nx 0 2 (some 2) 1] (H.put nx (some (.cells [intA 2, intA x] 3 false))) (nx + 1) = some (.lit (.int .i64 (2 * x)), H.put nx (some (.cells [intA 2, intA x] 3 false)), nx + 1) := by
  have hib : IB (nx + 1) (H.put nx (some (.cells [intA 2, intA x] 3 false))) (.slice nx 0 2 (some 2) 1) [2, x] := by
    refine ⟨fun y hy => ?_, by simp, .inl ⟨nx, 0, some 2, _, 3, false, rfl, by omega, Tr.get_put_same _ _ _, fun i y hy => ?_⟩⟩
    · rcases List.mem_cons.1 hy with rfl | hy
      · constructor <;> decide
      · rw [List.mem_singleton] at hy; subst hy; constructor <;> omega
    · match i, hy with
      | 0, hy => simp at hy; subst hy; rfl
      | 1, hy => simp at hy; subst hy; rfl
      | i + 2, hy => simp at hy
  rw [mulv_cl hib]
  have hno : ¬ ∃ y ∈ [2, x], y ≤ 0 := by
    rintro ⟨y, hy, hy0⟩
    simp only [List.mem_cons, List.not_mem_nil, or_false] at hy
    omega
  rw [if_neg hno]
  have e : [2, x].foldl satMul 1 = 2 * x := by
    simp only [List.foldl_cons, List.foldl_nil, satMul]
    have h0 : min (max (1 : Int) 0 * max 2 0) 9223372036854775807 = 2 := by decide
    rw [h0]
    have h3 : max (2 : Int) 0 = 2 := by decide
    rw [h3]
    omega
  rw [e]
theorem doubles_cl {s : AV} {X : List Int} (h : IB nx H s X) (hX : X.length ≤ 60) (hB : ∀ j, (X.getD j 0).natAbs ≤ 1000000) (hfh : ∀ c, nx ≤ c → H.get c = none) (k : Int) (hk : k ≤ 100) :
    ∃ v H' nx', Cl cx 14 [s, .lit (.int .i64 k)] H nx = some (v, H', nx') ∧ (Fr nx H H' ∧ nx ≤ nx' ∧ (∀ c, nx' ≤ c → H'.get c = none) ∧ ∃ b : Bool, v = .lit (.bool b) ∧ (b = true ↔ Dbl X k)) := by
  refine wpP14 _ _ _ _ (by simp) ?_
  unfold s14
  by_cases h1 : k < 1
  · have e1 : (k < 1) = True := by simp; omega
    simp only [↓wpS_skip, ↓wpS_ops, ↓wpS_seq, ↓wpS_cond, ↓wpS_block, ↓wpS_loop, ↓wpS_exit, ↓wpS_ret, condW_bool, ↓WOps_go, ↓WOps_skip, WOps_nil, stepA, opA, convA, isCall, put?, ev, Tr.get_put, Tr.get_nil, builtinA, callA, argEnv, wantedS, abs_int, abs_bool, abs_string, abs_nilp, abs_nili, abs_nilf, abs_nilm, abs_nils, un_not, undef, z_none, List.zipIdx_cons, List.zipIdx_nil, List.foldl_cons, List.foldl_nil, List.map_cons, List.map_nil, List.map_toArray, List.nil_append, List.cons_append, List.append_nil, extractOp, List.getElem?_cons_zero, List.getElem?_cons_succ,
    Option.map_some, Option.map_none, Nat.reduceLT, Nat.reduceEqDiff, Nat.reduceAdd, Nat.zero_add, if_true, if_false, Option.getD_some, Option.getD_none, ↓reduceIte, Bool.false_eq_true, Bool.true_eq_false, reduceCtorEq, resA, resOf, Option.some.injEq, exists_eq_left', beq_self_eq_true, decide_true, decide_false, decide_eq_true_eq, ne_eq, not_true_eq_false, not_false_eq_true, Bool.not_eq_true, beq_iff_eq, bin_add, bin_sub, bin_mul, bin_eql, bin_neq, bin_lss, bin_leq, bin_gtr, bin_geq, maxA, minA, Prod.mk.injEq, and_true, true_and, beq_eq_false_iff_ne, decide_eq_false_iff_not, Bool.true_beq, Bool.false_beq, beq_true, beq_false, Bool.not_true, Bool.not_false, List.getElem?_toArray, e1]
    exact ⟨Fr.refl _ _, Nat.le_refl _, hfh, false, rfl, (fun h => by cases h), fun h => by have := h.1; omega⟩
  · have e1 : (k < 1) = False := by simp; omega
    by_cases h2 : k ≥ X.length
    · have e2 : (k ≥ (X.length : Int)) = True := by simp; omega
      simp only [↓wpS_skip, ↓wpS_ops, ↓wpS_seq, ↓wpS_cond, ↓wpS_block, ↓wpS_loop, ↓wpS_exit, ↓wpS_ret, condW_bool, ↓WOps_go, ↓WOps_skip, WOps_nil, stepA, opA, convA, isCall, put?, ev, Tr.get_put, Tr.get_nil, builtinA, callA, argEnv, wantedS, abs_int, abs_bool, abs_string, abs_nilp, abs_nili, abs_nilf, abs_nilm, abs_nils, un_not, undef, z_none, List.zipIdx_cons, List.zipIdx_nil, List.foldl_cons, List.foldl_nil, List.map_cons, List.map_nil, List.map_toArray, List.nil_append, List.cons_append, List.append_nil, extractOp, List.getElem?_cons_zero, List.getElem?_cons_succ,
    Option.map_some, Option.map_none, Nat.reduceLT, Nat.reduceEqDiff, Nat.reduceAdd, Nat.zero_add, if_true, if_false, Option.getD_some, Option.getD_none, ↓reduceIte, Bool.false_eq_true, Bool.true_eq_false, reduceCtorEq, resA, resOf, Option.some.injEq, exists_eq_left', beq_self_eq_true, decide_true, decide_false, decide_eq_true_eq, ne_eq, not_true_eq_false, not_false_eq_true, Bool.not_eq_true, beq_iff_eq, bin_add, bin_sub, bin_mul, bin_eql, bin_neq, bin_lss, bin_leq, bin_gtr, bin_geq, maxA, minA, Prod.mk.injEq, and_true, true_and, beq_eq_false_iff_ne, decide_eq_false_iff_not, Bool.true_beq, Bool.false_beq, beq_true, beq_false, Bool.not_true, Bool.not_false, List.getElem?_toArray, e1, e2, ib_len h]
      exact ⟨Fr.refl _ _, Nat.le_refl _, hfh, false, rfl, (fun h => by cases h), fun h => by have := h.2.1; omega⟩
    · have e2 : (k ≥ (X.length : Int)) = False := by simp; omega
      obtain ⟨u, rfl⟩ : ∃ u : Nat, k = u := ⟨k.toNat, by omega⟩
      simp only [↓wpS_skip, ↓wpS_ops, ↓wpS_seq, ↓wpS_cond, ↓wpS_block, ↓wpS_loop, ↓wpS_exit, ↓wpS_ret, condW_bool, ↓WOps_go, ↓WOps_skip, WOps_nil, stepA, opA, convA, isCall, put?, ev, Tr.get_put, Tr.get_nil, builtinA, callA, argEnv, wantedS, abs_int, abs_bool, abs_string, abs_nilp, abs_nili, abs_nilf, abs_nilm, abs_nils, un_not, undef, z_none, List.zipIdx_cons, List.zipIdx_nil, List.foldl_cons, List.foldl_nil, List.map_cons, List.map_nil, List.map_toArray, List.nil_append, List.cons_append, List.append_nil, extractOp, List.getElem?_cons_zero, List.getElem?_cons_succ,
    Option.map_some, Option.map_none, Nat.reduceLT, Nat.reduceEqDiff, Nat.reduceAdd, Nat.zero_add, if_true, if_false, Option.getD_some, Option.getD_none, ↓reduceIte, Bool.false_eq_true, Bool.true_eq_false, reduceCtorEq, resA, resOf, Option.some.injEq, exists_eq_left', beq_self_eq_true, decide_true, decide_false, decide_eq_true_eq, ne_eq, not_true_eq_false, not_false_eq_true, Bool.not_eq_true, beq_iff_eq, bin_add, bin_sub, bin_mul, bin_eql, bin_neq, bin_lss, bin_leq, bin_gtr, bin_geq, maxA, minA, Prod.mk.injEq, and_true, true_and, beq_eq_false_iff_ne, decide_eq_false_iff_not, Bool.true_beq, Bool.false_beq, beq_true, beq_false, Bool.not_true, Bool.not_false, List.getElem?_toArray, e1, e2, ib_len h]
      refine Wp_loop (fun n st => ∃ i : Nat, n = X.length - i ∧ u ≤ i ∧ i ≤ X.length ∧ nx ≤ st.nx ∧ Fr nx H st.H ∧ (∀ c, st.nx ≤ c → st.H.get c = none) ∧ st.env.get 0 = some s ∧ st.env.get 1 = some (.lit (.int .i64 u)) ∧ st.env.get 5 = some (.lit (.int .i64 i)) ∧
        ∀ j : Nat, u ≤ j → j < i → 1 ≤ X.getD (j - u) 0 ∧ 2 * X.getD (j - u) 0 ≤ X.getD j 0) ?_ (X.length - u) _ ⟨u, ?_⟩
      · rintro n ⟨E, H1, nx1⟩ ⟨i, hn, hui, hi, hnx, hfr, hf, e0, e1, e5, hall⟩
        simp only at hnx hfr hf e0 e1 e5
        refine Wp_of ?_
        unfold s14_l0
        by_cases hlt : i < X.length
        · have hm : X.length - (i + 1) < n := by omega
          have h3 : ((i : Int) < (X.length : Int)) = True := by simp; omega
          have hil : i - u < X.length := by omega
          obtain ⟨p, hp1, hp2, hp3⟩ := ib_at h (List.getElem?_eq_getElem hlt)
          obtain ⟨q, hq1, hq2, hq3⟩ := ib_at h (List.getElem?_eq_getElem hil)
          have g1 : X.getD i 0 = X[i] := getD_lt hlt
          have g2 : X.getD (i - u) 0 = X[i - u] := getD_lt hil
          have b1 := hB i
          have b2 := hB (i - u)
          rw [g1] at b1; rw [g2] at b2
          have k0 : Dbl X u → 1 ≤ X[i - u] ∧ 2 * X[i - u] ≤ X[i] := by
            intro hd
            have := hd.2.2 i (by simpa using hui) hlt
            rw [Int.toNat_natCast, g1, g2] at this
            exact this
          have k1 : X[i - u] < 1 → ¬ Dbl X u := fun hx hd => by have := (k0 hd).1; omega
          have k2 : X[i] < 2 * X[i - u] → ¬ Dbl X u := fun hx hd => by have := (k0 hd).2; omega
          have k3 : ¬ X[i - u] < 1 → ¬ X[i] < 2 * X[i - u] → 1 ≤ X[i - u] ∧ 2 * X[i - u] ≤ X[i] := fun h1 h2 => by omega
          have k4 : ¬ X[i - u] < 1 → 1 ≤ X[i - u] := fun h => by omega
          have k5 : X[i - u] ≤ 1000000 := by omega
          have k6 : ∀ c, nx1 + 1 ≤ c → c ≠ nx1 ∧ nx1 ≤ c := fun c hc => by omega
          have k7 : ∀ j, j < i + 1 → j ≠ i → j < i := fun j h1 h2 => by omega
          have hw2 : IntKind.i64.wrap ((i : Int) - (u : Int)) = ((i - u : Nat) : Int) := by rw [wrapI (by constructor <;> omega)]; omega
          have hw := wrapS (i := i) (by omega)
          simp only [↓wpS_skip, ↓wpS_ops, ↓wpS_seq, ↓wpS_cond, ↓wpS_block, ↓wpS_loop, ↓wpS_exit, ↓wpS_ret, condW_bool, ↓WOps_go, ↓WOps_skip, WOps_nil, stepA, opA, convA, isCall, put?, ev, Tr.get_put, Tr.get_nil, builtinA, callA, argEnv, wantedS, abs_int, abs_bool, abs_string, abs_nilp, abs_nili, abs_nilf, abs_nilm, abs_nils, un_not, undef, z_none, List.zipIdx_cons, List.zipIdx_nil, List.foldl_cons, List.foldl_nil, List.map_cons, List.map_nil, List.map_toArray, List.nil_append, List.cons_append, List.append_nil, extractOp, List.getElem?_cons_zero, List.getElem?_cons_succ,
    Option.map_some, Option.map_none, Nat.reduceLT, Nat.reduceEqDiff, Nat.reduceAdd, Nat.zero_add, if_true, if_false, Option.getD_some, Option.getD_none, ↓reduceIte, Bool.false_eq_true, Bool.true_eq_false, reduceCtorEq, resA, resOf, Option.some.injEq, exists_eq_left', beq_self_eq_true, decide_true, decide_false, decide_eq_true_eq, ne_eq, not_true_eq_false, not_false_eq_true, Bool.not_eq_true, beq_iff_eq, bin_add, bin_sub, bin_mul, bin_eql, bin_neq, bin_lss, bin_leq, bin_gtr, bin_geq, maxA, minA, Prod.mk.injEq, and_true, true_and, beq_eq_false_iff_ne, decide_eq_false_iff_not, Bool.true_beq, Bool.false_beq, beq_true, beq_false, Bool.not_true, Bool.not_false, List.getElem?_toArray, e0, e1, e5, ib_len h, h3]
          by_cases hx : X[i - u] < 1
          · have h4 : (X[i - u] < 1) = True := eq_true hx
            refine wpS_draw5 H1 (show s14_d0.toList.map (stripO s14_d0) = s14_d0s by kernel_rfl) ?_
            unfold s14_d0s
            simp only [↓wpS_skip, ↓wpS_ops, ↓wpS_seq, ↓wpS_cond, ↓wpS_block, ↓wpS_loop, ↓wpS_exit, ↓wpS_ret, condW_bool, ↓WOps_go, ↓WOps_skip, WOps_nil, stepA, opA, convA, isCall, put?, ev, Tr.get_put, Tr.get_nil, builtinA, callA, argEnv, wantedS, abs_int, abs_bool, abs_string, abs_nilp, abs_nili, abs_nilf, abs_nilm, abs_nils, un_not, undef, z_none, List.zipIdx_cons, List.zipIdx_nil, List.foldl_cons, List.foldl_nil, List.map_cons, List.map_nil, List.map_toArray, List.nil_append, List.cons_append, List.append_nil, extractOp, List.getElem?_cons_zero, List.getElem?_cons_succ,
    Option.map_some, Option.map_none, Nat.reduceLT, Nat.reduceEqDiff, Nat.reduceAdd, Nat.zero_add, if_true, if_false, Option.getD_some, Option.getD_none, ↓reduceIte, Bool.false_eq_true, Bool.true_eq_false, reduceCtorEq, resA, resOf, Option.some.injEq, exists_eq_left', beq_self_eq_true, decide_true, decide_false, decide_eq_true_eq, ne_eq, not_true_eq_false, not_false_eq_true, Bool.not_eq_true, beq_iff_eq, bin_add, bin_sub, bin_mul, bin_eql, bin_neq, bin_lss, bin_leq, bin_gtr, bin_geq, maxA, minA, Prod.mk.injEq, and_true, true_and, beq_eq_false_iff_ne, decide_eq_false_iff_not, Bool.true_beq, Bool.false_beq, beq_true, beq_false, Bool.not_true, Bool.not_false, List.getElem?_toArray, ↓WQ_cons, ↓WQ_nil, txS, ph0_still, ph0_skip, ph0_new, ph0_read, ph0_eff, ph1_still, ph1_skip, ph1_read, ph1_eff, ph2_still, ph2_skip, loadOp_ro, loadOp_nil, isEff, eqB_int, eqB_str, eqB_bool, eqB_ptr, eqB_slice, eqB_nils, AV.belowB, Nat.le_refl, nx_succ, ↓WG_cons2, ↓WG_nil, phC_eff, phC_read, phC_new, phC_still, phC_skip, phS_eff, phS_read, phS_new, phS_still, phS_skip, phH_eff, phH_read, phH_new, phH_still, phH_skip, phR_eff, phR_read, phR_new, phR_still, phR_skip, allG_cons, allG_nil, allR_cons, allR_nil, goodAt_eq, implies_true, e0, e1, e5, hw2, hq1, hq2 H1 hfr, hq3, h4]
            exact ⟨hfr, hnx, hf, false, rfl, (fun h => by cases h), fun hd => absurd hd (k1 hx)⟩
          · have h4 : (X[i - u] < 1) = False := eq_false hx
            have hmul := mul2 (H := H1) (nx := nx1) X[i - u] (k4 hx) k5
            have hfr2 : Fr nx H (H1.put nx1 (some (.cells [intA 2, intA X[i - u]] 3 false))) := hfr.put hnx _
            have hf2 : ∀ c, nx1 + 1 ≤ c → (H1.put nx1 (some (.cells [intA 2, intA X[i - u]] 3 false))).get c = none := fun c hc => by
              rw [Tr.get_put_ne _ _ _ _ (k6 c hc).1]; exact hf c (k6 c hc).2
            refine wpS_draw5 (H1.put nx1 (some (.cells [intA 2, intA X[i - u]] 3 false))) (show s14_d0.toList.map (stripO s14_d0) = s14_d0s by kernel_rfl) ?_
            unfold s14_d0s
            by_cases hy : X[i] < 2 * X[i - u]
            · have h5 : (X[i] < 2 * X[i - u]) = True := eq_true hy
              simp only [↓wpS_skip, ↓wpS_ops, ↓wpS_seq, ↓wpS_cond, ↓wpS_block, ↓wpS_loop, ↓wpS_exit, ↓wpS_ret, condW_bool, ↓WOps_go, ↓WOps_skip, WOps_nil, stepA, opA, convA, isCall, put?, ev, Tr.get_put, Tr.get_nil, builtinA, callA, argEnv, wantedS, abs_int, abs_bool, abs_string, abs_nilp, abs_nili, abs_nilf, abs_nilm, abs_nils, un_not, undef, z_none, List.zipIdx_cons, List.zipIdx_nil, List.foldl_cons, List.foldl_nil, List.map_cons, List.map_nil, List.map_toArray, List.nil_append, List.cons_append, List.append_nil, extractOp, List.getElem?_cons_zero, List.getElem?_cons_succ,
    Option.map_some, Option.map_none, Nat.reduceLT, Nat.reduceEqDiff, Nat.reduceAdd, Nat.zero_add, if_true, if_false, Option.getD_some, Option.getD_none, ↓reduceIte, Bool.false_eq_true, Bool.true_eq_false, reduceCtorEq, resA, resOf, Option.some.injEq, exists_eq_left', beq_self_eq_true, decide_true, decide_false, decide_eq_true_eq, ne_eq, not_true_eq_false, not_false_eq_true, Bool.not_eq_true, beq_iff_eq, bin_add, bin_sub, bin_mul, bin_eql, bin_neq, bin_lss, bin_leq, bin_gtr, bin_geq, maxA, minA, Prod.mk.injEq, and_true, true_and, beq_eq_false_iff_ne, decide_eq_false_iff_not, Bool.true_beq, Bool.false_beq, beq_true, beq_false, Bool.not_true, Bool.not_false, List.getElem?_toArray, ↓WQ_cons, ↓WQ_nil, txS, ph0_still, ph0_skip, ph0_new, ph0_read, ph0_eff, ph1_still, ph1_skip, ph1_read, ph1_eff, ph2_still, ph2_skip, loadOp_ro, loadOp_nil, isEff, eqB_int, eqB_str, eqB_bool, eqB_ptr, eqB_slice, eqB_nils, AV.belowB, Nat.le_refl, nx_succ, ↓WG_cons2, ↓WG_nil, phC_eff, phC_read, phC_new, phC_still, phC_skip, phS_eff, phS_read, phS_new, phS_still, phS_skip, phH_eff, phH_read, phH_new, phH_still, phH_skip, phR_eff, phR_read, phR_new, phR_still, phR_skip, allG_cons, allG_nil, allR_cons, allR_nil, goodAt_eq, implies_true, x_none, e0, e1, e5, hw2, hp1, hq1, hp2 H1 hfr, hq2 H1 hfr, hp2 _ hfr2, hq2 _ hfr2, hp3, hq3, h4, partsA, bs2i, hmul, h5]
              exact ⟨hfr2, Nat.le_succ_of_le hnx, (fun c hc => by rw [if_neg (k6 c hc).1]; exact hf c (k6 c hc).2), false, rfl, (fun h => by cases h), fun hd => absurd hd (k2 hy)⟩
            · have h5 : (X[i] < 2 * X[i - u]) = False := eq_false hy
              simp only [↓wpS_skip, ↓wpS_ops, ↓wpS_seq, ↓wpS_cond, ↓wpS_block, ↓wpS_loop, ↓wpS_exit, ↓wpS_ret, condW_bool, ↓WOps_go, ↓WOps_skip, WOps_nil, stepA, opA, convA, isCall, put?, ev, Tr.get_put, Tr.get_nil, builtinA, callA, argEnv, wantedS, abs_int, abs_bool, abs_string, abs_nilp, abs_nili, abs_nilf, abs_nilm, abs_nils, un_not, undef, z_none, List.zipIdx_cons, List.zipIdx_nil, List.foldl_cons, List.foldl_nil, List.map_cons, List.map_nil, List.map_toArray, List.nil_append, List.cons_append, List.append_nil, extractOp, List.getElem?_cons_zero, List.getElem?_cons_succ,
    Option.map_some, Option.map_none, Nat.reduceLT, Nat.reduceEqDiff, Nat.reduceAdd, Nat.zero_add, if_true, if_false, Option.getD_some, Option.getD_none, ↓reduceIte, Bool.false_eq_true, Bool.true_eq_false, reduceCtorEq, resA, resOf, Option.some.injEq, exists_eq_left', beq_self_eq_true, decide_true, decide_false, decide_eq_true_eq, ne_eq, not_true_eq_false, not_false_eq_true, Bool.not_eq_true, beq_iff_eq, bin_add, bin_sub, bin_mul, bin_eql, bin_neq, bin_lss, bin_leq, bin_gtr, bin_geq, maxA, minA, Prod.mk.injEq, and_true, true_and, beq_eq_false_iff_ne, decide_eq_false_iff_not, Bool.true_beq, Bool.false_beq, beq_true, beq_false, Bool.not_true, Bool.not_false, List.getElem?_toArray, ↓WQ_cons, ↓WQ_nil, txS, ph0_still, ph0_skip, ph0_new, ph0_read, ph0_eff, ph1_still, ph1_skip, ph1_read, ph1_eff, ph2_still, ph2_skip, loadOp_ro, loadOp_nil, isEff, eqB_int, eqB_str, eqB_bool, eqB_ptr, eqB_slice, eqB_nils, AV.belowB, Nat.le_refl, nx_succ, ↓WG_cons2, ↓WG_nil, phC_eff, phC_read, phC_new, phC_still, phC_skip, phS_eff, phS_read, phS_new, phS_still, phS_skip, phH_eff, phH_read, phH_new, phH_still, phH_skip, phR_eff, phR_read, phR_new, phR_still, phR_skip, allG_cons, allG_nil, allR_cons, allR_nil, goodAt_eq, implies_true, x_none, e0, e1, e5, hw2, hp1, hq1, hp2 H1 hfr, hq2 H1 hfr, hp2 _ hfr2, hq2 _ hfr2, hp3, hq3, h4, partsA, bs2i, hmul, h5, hw]
              refine ⟨X.length - (i + 1), hm, i + 1, rfl, Nat.le_succ_of_le hui, hlt, Nat.le_succ_of_le hnx, hfr2, (fun c hc => by rw [if_neg (k6 c hc).1]; exact hf c (k6 c hc).2), rfl, fun j hj1 hj2 => ?_⟩
              by_cases hji : j = i
              · subst hji; rw [g1, g2]; exact k3 hx hy
              · exact hall j hj1 (k7 j hj2 hji)
        · obtain rfl : i = X.length := by omega
          have h3 : ((X.length : Int) < (X.length : Int)) = False := by simp
          simp only [↓wpS_skip, ↓wpS_ops, ↓wpS_seq, ↓wpS_cond, ↓wpS_block, ↓wpS_loop, ↓wpS_exit, ↓wpS_ret, condW_bool, ↓WOps_go, ↓WOps_skip, WOps_nil, stepA, opA, convA, isCall, put?, ev, Tr.get_put, Tr.get_nil, builtinA, callA, argEnv, wantedS, abs_int, abs_bool, abs_string, abs_nilp, abs_nili, abs_nilf, abs_nilm, abs_nils, un_not, undef, z_none, List.zipIdx_cons, List.zipIdx_nil, List.foldl_cons, List.foldl_nil, List.map_cons, List.map_nil, List.map_toArray, List.nil_append, List.cons_append, List.append_nil, extractOp, List.getElem?_cons_zero, List.getElem?_cons_succ,
    Option.map_some, Option.map_none, Nat.reduceLT, Nat.reduceEqDiff, Nat.reduceAdd, Nat.zero_add, if_true, if_false, Option.getD_some, Option.getD_none, ↓reduceIte, Bool.false_eq_true, Bool.true_eq_false, reduceCtorEq, resA, resOf, Option.some.injEq, exists_eq_left', beq_self_eq_true, decide_true, decide_false, decide_eq_true_eq, ne_eq, not_true_eq_false, not_false_eq_true, Bool.not_eq_true, beq_iff_eq, bin_add, bin_sub, bin_mul, bin_eql, bin_neq, bin_lss, bin_leq, bin_gtr, bin_geq, maxA, minA, Prod.mk.injEq, and_true, true_and, beq_eq_false_iff_ne, decide_eq_false_iff_not, Bool.true_beq, Bool.false_beq, beq_true, beq_false, Bool.not_true, Bool.not_false, List.getElem?_toArray, e0, e1, e5, ib_len h, h3]
          exact ⟨hfr, hnx, hf, true, rfl, fun _ => ⟨by omega, by omega, fun i hi1 hi2 => by rw [Int.toNat_natCast] at hi1 ⊢; exact hall i hi1 hi2⟩, fun _ => rfl⟩
      · simp only [↓wpS_skip, ↓wpS_ops, ↓wpS_seq, ↓wpS_cond, ↓wpS_block, ↓wpS_loop, ↓wpS_exit, ↓wpS_ret, condW_bool, ↓WOps_go, ↓WOps_skip, WOps_nil, stepA, opA, convA, isCall, put?, ev, Tr.get_put, Tr.get_nil, builtinA, callA, argEnv, wantedS, abs_int, abs_bool, abs_string, abs_nilp, abs_nili, abs_nilf, abs_nilm, abs_nils, un_not, undef, z_none, List.zipIdx_cons, List.zipIdx_nil, List.foldl_cons, List.foldl_nil, List.map_cons, List.map_nil, List.map_toArray, List.nil_append, List.cons_append, List.append_nil, extractOp, List.getElem?_cons_zero, List.getElem?_cons_succ,
    Option.map_some, Option.map_none, Nat.reduceLT, Nat.reduceEqDiff, Nat.reduceAdd, Nat.zero_add, if_true, if_false, Option.getD_some, Option.getD_none, ↓reduceIte, Bool.false_eq_true, Bool.true_eq_false, reduceCtorEq, resA, resOf, Option.some.injEq, exists_eq_left', beq_self_eq_true, decide_true, decide_false, decide_eq_true_eq, ne_eq, not_true_eq_false, not_false_eq_true, Bool.not_eq_true, beq_iff_eq, bin_add, bin_sub, bin_mul, bin_eql, bin_neq, bin_lss, bin_leq, bin_gtr, bin_geq, maxA, minA, Prod.mk.injEq, and_true, true_and, beq_eq_false_iff_ne, decide_eq_false_iff_not, Bool.true_beq, Bool.false_beq, beq_true, beq_false, Bool.not_true, Bool.not_false, List.getElem?_toArray]
        exact ⟨by omega, by omega, Nat.le_refl _, Fr.refl _ _, hfh, fun j h3 h4 => by omega⟩
end Seat
end CI
/- Table, walked. -/
set_option linter.unusedVariables false
set_option linter.unusedSimpArgs false
set_option maxRecDepth 10000
namespace CI
open Go
/-- One row of a table. -/
def rowT (i : Nat) (x : Int) : List UInt8 := Lib.itoa ((i + 1 : Nat) : Int) ++ (32 :: (Lib.itoa x ++ [10]))
def tabT (X : List Int) : Nat → List UInt8
  | 0 => []
  | i + 1 => tabT X i ++ rowT i (X.getD i 0)
namespace Seat
variable {H : Heap} {nx : Nat}
theorem itoa_len (n : Int) (hn : n.natAbs ≤ 1000000) : (Lib.itoa n).length ≤ 21 := by
  unfold Lib.itoa
  split
  · have := dec_len 20 n.natAbs (by omega) (by omega)
    rw [List.length_cons]; omega
  · have := dec_len 20 n.toNat (by omega) (by omega)
    omega
theorem rowT_len (i : Nat) (hi : i ≤ 1000) (x : Int) (hx : x.natAbs ≤ 1000000) : (rowT i x).length ≤ 50 := by
  have h1 := itoa_len ((i + 1 : Nat) : Int) (by omega)
  have h2 := itoa_len x hx
  unfold rowT
  simp only [List.length_append, List.length_cons, List.length_nil]
  omega
theorem tabT_len {X : List Int} (hB : ∀ j, (X.getD j 0).natAbs ≤ 1000000) : ∀ i, i ≤ 1000 → (tabT X i).length ≤ 50 * i
  | 0, _ => by simp [tabT]
  | i + 1, h => by
    have h1 := tabT_len hB i (by omega)
    have h2 := rowT_len i (by omega) (X.getD i 0) (hB i)
    rw [tabT, List.length_append]; omega
theorem x32b (n : Int) (h : n.natAbs ≤ 1000000) : cx.X 32 [.lit (.int .i64 n)] = some (strA (Lib.itoa n)) := x32 n (by constructor <;> omega)
theorem num_cl (n : Int) (h : n.natAbs ≤ 1000000) : Cl cx 22 [.lit (.int .i64 n)] H nx = some (strA (Lib.itoa n), H, nx) := by
  refine wp22 _ _ _ _ (by simp) ?_
  unfold s22
  simp only [↓wpS_skip, ↓wpS_ops, ↓wpS_seq, ↓wpS_cond, ↓wpS_block, ↓wpS_loop, ↓wpS_exit, ↓wpS_ret, condW_bool, ↓WOps_go, ↓WOps_skip, WOps_nil, stepA, opA, convA, isCall, put?, ev, Tr.get_put, Tr.get_nil, builtinA, callA, argEnv, wantedS, abs_int, abs_bool, abs_string, abs_nilp, abs_nili, abs_nilf, abs_nilm, abs_nils, un_not, undef, z_none, List.zipIdx_cons, List.zipIdx_nil, List.foldl_cons, List.foldl_nil, List.map_cons, List.map_nil, List.map_toArray, List.nil_append, List.cons_append, List.append_nil, extractOp, List.getElem?_cons_zero, List.getElem?_cons_succ,
    Option.map_some, Option.map_none, Nat.reduceLT, Nat.reduceEqDiff, Nat.reduceAdd, Nat.zero_add, if_true, if_false, Option.getD_some, Option.getD_none, ↓reduceIte, Bool.false_eq_true, Bool.true_eq_false, reduceCtorEq, resA, resOf, Option.some.injEq, exists_eq_left', beq_self_eq_true, decide_true, decide_false, decide_eq_true_eq, ne_eq, not_true_eq_false, not_false_eq_true, Bool.not_eq_true, beq_iff_eq, bin_add, bin_sub, bin_mul, bin_eql, bin_neq, bin_lss, bin_leq, bin_gtr, bin_geq, maxA, minA, Prod.mk.injEq, and_true, true_and, beq_eq_false_iff_ne, decide_eq_false_iff_not, Bool.true_beq, Bool.false_beq, beq_true, beq_false, Bool.not_true, Bool.not_false, List.getElem?_toArray, x32b n h]
theorem Bld.frame {n0 nx' p o : Nat} {H' : Heap} {cs : List AV} {t : TypeId} {bs : List UInt8} (h : Bld n0 H nx p o cs t bs) (hf : ∀ c, c < nx → H'.get c = H.get c) (hn : nx ≤ nx') (hfr : ∀ b, nx' ≤ b → H'.get b = none) : Bld n0 H' nx' p o cs t bs where
  hp := by rw [hf p h.p1]; exact h.hp
  p0 := h.p0
  p1 := by have := h.p1; omega
  lies := h.lies
  self := h.self
  buf := by
    rcases h.buf with h1 | ⟨c, h1, h2, h3, h4, h5⟩
    · exact .inl h1
    · exact .inr ⟨c, h1, h2, by omega, h4, by rw [hf c h3]; exact h5⟩
  fr := hfr
theorem bs62 (a b : List UInt8) : buildSliceOp cx.T H nx 62 2 [(0, strA a), (1, strA b)] = some (.slice nx 0 2 (some 2) 1, H.put nx (some (.cells [strA a, strA b] 9 false)), nx + 1) := by kernel_rfl
theorem tab_loop {n0 p : Nat} {s : AV} {X : List Int} {QQ : Ex → St → Prop} {E : Tr AV} {cs : List AV} (h : IB n0 H s X) (hX : X.length ≤ 60) (hB : ∀ j, (X.getD j 0).natAbs ≤ 1000000) (hb : Bld n0 H nx p 0 cs 46 [])
    (e3 : E.get 3 = some (.ptr p 0)) (e6 : E.get 6 = some s) (e7 : E.get 7 = some (.lit (.int .i64 X.length))) (e8 : E.get 8 = some (.lit (.int .i64 ((0 : Nat) : Int))))
    (hQ : ∀ E' H' nx' cs', E'.get 3 = some (.ptr p 0) → Bld n0 H' nx' p 0 cs' 46 (tabT X X.length) → (∀ c, c < n0 → H'.get c = H.get c) → nx ≤ nx' → QQ (.exit 0) ⟨E', H', nx'⟩) : Wp cx 24 (.loop s13_l0) ⟨E, H, nx⟩ QQ := by
  refine Wp_loop (fun n st => ∃ (i : Nat) (cs' : List AV), n = X.length - i ∧ i ≤ X.length ∧ Bld n0 st.H st.nx p 0 cs' 46 (tabT X i) ∧ (∀ c, c < n0 → st.H.get c = H.get c) ∧ nx ≤ st.nx ∧ st.env.get 3 = some (.ptr p 0) ∧ st.env.get 6 = some s ∧ st.env.get 7 = some (.lit (.int .i64 X.length)) ∧ st.env.get 8 = some (.lit (.int .i64 i))) ?_ X.length _
    ⟨0, cs, by omega, by omega, hb, fun _ _ => rfl, Nat.le_refl _, e3, e6, e7, e8⟩
  rintro n ⟨E, H1, nx1⟩ ⟨i, cs1, hn, hi, hb, hold, hnx, e3, e6, e7, e8⟩
  simp only at hb hold hnx e3 e6 e7 e8
  refine Wp_of ?_
  unfold s13_l0
  by_cases hlt : i < X.length
  · have hm : X.length - (i + 1) < n := by omega
    have h1 : ((i : Int) < (X.length : Int)) = True := by simp; omega
    obtain ⟨q, hq1, hq2, hq3⟩ := ib_at h (List.getElem?_eq_getElem hlt)
    have hg : X.getD i 0 = X[i] := getD_lt hlt
    have hbx := hB i
    rw [hg] at hbx
    have hp1 := hb.p1
    have hn01 : n0 ≤ nx1 := by have := hb.p0; omega
    have hn1 := num_cl (H := H1) (nx := nx1) ((i + 1 : Nat) : Int) (by omega)
    have hn2 := num_cl (H := H1) (nx := nx1) X[i] hbx
    have hl1 := itoa_len ((i + 1 : Nat) : Int) (by omega)
    have hl2 := itoa_len X[i] hbx
    have hjoi : Spl.joi [Lib.itoa ((i + 1 : Nat) : Int), Lib.itoa X[i]] = Lib.itoa ((i + 1 : Nat) : Int) ++ (32 :: (Lib.itoa X[i] ++ [])) := rfl
    have hjl : (Spl.joi [Lib.itoa ((i + 1 : Nat) : Int), Lib.itoa X[i]]).length ≤ 43 := by
      rw [hjoi]; simp only [List.length_append, List.length_cons, List.length_nil]; omega
    obtain ⟨H2, nx2, w1, w2, w3, w4⟩ := words_cl (H := H1.put nx1 (some (.cells [strA (Lib.itoa ((i + 1 : Nat) : Int)), strA (Lib.itoa X[i])] 9 false))) (nx := nx1 + 1) (b := nx1) (ws := [Lib.itoa ((i + 1 : Nat) : Int), Lib.itoa X[i]]) (by simp) (Tr.get_put_same _ _ _) (by omega)
      (fun c hc => by rw [Tr.get_put_ne _ _ _ _ (by omega)]; exact hb.fr c (by omega)) (by simp) (by omega)
    have hb2 : Bld n0 H2 nx2 p 0 cs1 46 (tabT X i) := hb.frame (fun c hc => by rw [w2 c (by omega), Tr.get_put_ne _ _ _ _ (by omega)]) (by omega) w4
    have htl := tabT_len hB i (by omega)
    obtain ⟨H3, nx3, cs3, v1, v2, v3, v4, v5, v6⟩ := ws_cl hb2 (Spl.joi [Lib.itoa ((i + 1 : Nat) : Int), Lib.itoa X[i]] ++ [10]) (by simp only [List.length_append, List.length_cons, List.length_nil]; omega)
    have ha := str_add (.tmp 19) (.const (.string (ByteArray.mk #[10]))) (Spl.joi [Lib.itoa ((i + 1 : Nat) : Int), Lib.itoa X[i]]) [10] (by simp only [List.length_cons, List.length_nil]; omega)
    have ha' : binOpA cx.P cx.T .add 9 (.tmp 19) (.const (.string (ByteArray.mk #[10]))) (strA (Spl.joi [Lib.itoa ((i + 1 : Nat) : Int), Lib.itoa X[i]])) (.lit (.string (ByteArray.mk #[10]))) = some (strA (Spl.joi [Lib.itoa ((i + 1 : Nat) : Int), Lib.itoa X[i]] ++ [10])) := ha
    have w1' : Cl cx 21 [.slice nx1 0 2 (some 2) 1] (H1.put nx1 (some (.cells [strA (Lib.itoa ((i + 1 : Nat) : Int)), strA (Lib.itoa X[i])] 9 false))) (nx1 + 1) = some (strA (Spl.joi [Lib.itoa ((i + 1 : Nat) : Int), Lib.itoa X[i]]), H2, nx2) := w1
    have hrow : tabT X (i + 1) = tabT X i ++ (Spl.joi [Lib.itoa ((i + 1 : Nat) : Int), Lib.itoa X[i]] ++ [10]) := by
      rw [tabT, hg, hjoi]; unfold rowT; simp
    have hold3 : ∀ c, c < n0 → H3.get c = H.get c := fun c hc => by
      rw [v6 c hc, w2 c (by omega), Tr.get_put_ne _ _ _ _ (by omega), hold c hc]
    have hnx3 : nx ≤ nx3 := by omega
    have hw := wrapS (i := i) (by omega)
    simp only [↓wpS_skip, ↓wpS_ops, ↓wpS_seq, ↓wpS_cond, ↓wpS_block, ↓wpS_loop, ↓wpS_exit, ↓wpS_ret, condW_bool, ↓WOps_go, ↓WOps_skip, WOps_nil, stepA, opA, convA, isCall, put?, ev, Tr.get_put, Tr.get_nil, builtinA, callA, argEnv, wantedS, abs_int, abs_bool, abs_string, abs_nilp, abs_nili, abs_nilf, abs_nilm, abs_nils, un_not, undef, z_none, List.zipIdx_cons, List.zipIdx_nil, List.foldl_cons, List.foldl_nil, List.map_cons, List.map_nil, List.map_toArray, List.nil_append, List.cons_append, List.append_nil, extractOp, List.getElem?_cons_zero, List.getElem?_cons_succ,
    Option.map_some, Option.map_none, Nat.reduceLT, Nat.reduceEqDiff, Nat.reduceAdd, Nat.zero_add, if_true, if_false, Option.getD_some, Option.getD_none, ↓reduceIte, Bool.false_eq_true, Bool.true_eq_false, reduceCtorEq, resA, resOf, Option.some.injEq, exists_eq_left', beq_self_eq_true, decide_true, decide_false, decide_eq_true_eq, ne_eq, not_true_eq_false, not_false_eq_true, Bool.not_eq_true, beq_iff_eq, bin_add, bin_sub, bin_mul, bin_eql, bin_neq, bin_lss, bin_leq, bin_gtr, bin_geq, maxA, minA, Prod.mk.injEq, and_true, true_and, beq_eq_false_iff_ne, decide_eq_false_iff_not, Bool.true_beq, Bool.false_beq, beq_true, beq_false, Bool.not_true, Bool.not_false, List.getElem?_toArray, x_none, e3, e6, e7, e8, h1, hq1, hq2 H1 hold, hw, hn1, hn2, partsA, bs62, w1', ha', v1]
    refine ⟨X.length - (i + 1), hm, i + 1, cs3, rfl, hlt, ?_, hold3, hnx3, rfl⟩
    rw [hrow]; exact v2
  · obtain rfl : i = X.length := by omega
    have h1 : ((X.length : Int) < (X.length : Int)) = False := by simp
    simp only [↓wpS_skip, ↓wpS_ops, ↓wpS_seq, ↓wpS_cond, ↓wpS_block, ↓wpS_loop, ↓wpS_exit, ↓wpS_ret, condW_bool, ↓WOps_go, ↓WOps_skip, WOps_nil, stepA, opA, convA, isCall, put?, ev, Tr.get_put, Tr.get_nil, builtinA, callA, argEnv, wantedS, abs_int, abs_bool, abs_string, abs_nilp, abs_nili, abs_nilf, abs_nilm, abs_nils, un_not, undef, z_none, List.zipIdx_cons, List.zipIdx_nil, List.foldl_cons, List.foldl_nil, List.map_cons, List.map_nil, List.map_toArray, List.nil_append, List.cons_append, List.append_nil, extractOp, List.getElem?_cons_zero, List.getElem?_cons_succ,
    Option.map_some, Option.map_none, Nat.reduceLT, Nat.reduceEqDiff, Nat.reduceAdd, Nat.zero_add, if_true, if_false, Option.getD_some, Option.getD_none, ↓reduceIte, Bool.false_eq_true, Bool.true_eq_false, reduceCtorEq, resA, resOf, Option.some.injEq, exists_eq_left', beq_self_eq_true, decide_true, decide_false, decide_eq_true_eq, ne_eq, not_true_eq_false, not_false_eq_true, Bool.not_eq_true, beq_iff_eq, bin_add, bin_sub, bin_mul, bin_eql, bin_neq, bin_lss, bin_leq, bin_gtr, bin_geq, maxA, minA, Prod.mk.injEq, and_true, true_and, beq_eq_false_iff_ne, decide_eq_false_iff_not, Bool.true_beq, Bool.false_beq, beq_true, beq_false, Bool.not_true, Bool.not_false, List.getElem?_toArray, e3, e6, e7, e8, h1]
    refine hQ _ _ _ cs1 ?_ hb hold hnx
    simp only [↓wpS_skip, ↓wpS_ops, ↓wpS_seq, ↓wpS_cond, ↓wpS_block, ↓wpS_loop, ↓wpS_exit, ↓wpS_ret, condW_bool, ↓WOps_go, ↓WOps_skip, WOps_nil, stepA, opA, convA, isCall, put?, ev, Tr.get_put, Tr.get_nil, builtinA, callA, argEnv, wantedS, abs_int, abs_bool, abs_string, abs_nilp, abs_nili, abs_nilf, abs_nilm, abs_nils, un_not, undef, z_none, List.zipIdx_cons, List.zipIdx_nil, List.foldl_cons, List.foldl_nil, List.map_cons, List.map_nil, List.map_toArray, List.nil_append, List.cons_append, List.append_nil, extractOp, List.getElem?_cons_zero, List.getElem?_cons_succ,
    Option.map_some, Option.map_none, Nat.reduceLT, Nat.reduceEqDiff, Nat.reduceAdd, Nat.zero_add, if_true, if_false, Option.getD_some, Option.getD_none, ↓reduceIte, Bool.false_eq_true, Bool.true_eq_false, reduceCtorEq, resA, resOf, Option.some.injEq, exists_eq_left', beq_self_eq_true, decide_true, decide_false, decide_eq_true_eq, ne_eq, not_true_eq_false, not_false_eq_true, Bool.not_eq_true, beq_iff_eq, bin_add, bin_sub, bin_mul, bin_eql, bin_neq, bin_lss, bin_leq, bin_gtr, bin_geq, maxA, minA, Prod.mk.injEq, and_true, true_and, beq_eq_false_iff_ne, decide_eq_false_iff_not, Bool.true_beq, Bool.false_beq, beq_true, beq_false, Bool.not_true, Bool.not_false, List.getElem?_toArray, e3]
end Seat
end CI
/- Table, Ratio and the law MeasureTables' loops, walked. -/
set_option linter.unusedVariables false
set_option linter.unusedSimpArgs false
set_option maxRecDepth 10000
namespace CI
open Go
namespace Seat
variable {H : Heap} {nx : Nat}
theorem rowT_ne (i : Nat) (x : Int) : rowT i x ≠ [] := by unfold rowT; simp
theorem tabT_ne {X : List Int} {i : Nat} (h : 1 ≤ i) : tabT X i ≠ [] := by
  obtain ⟨j, rfl⟩ : ∃ j, i = j + 1 := ⟨i - 1, by omega⟩
  rw [tabT]
  intro hh
  exact rowT_ne _ _ (List.append_eq_nil_iff.1 hh).2
theorem table_cl {s : AV} {X : List Int} (h : IB nx H s X) (hX : X.length ≤ 60) (hpos : 1 ≤ X.length) (hB : ∀ j, (X.getD j 0).natAbs ≤ 1000000) (hfh : ∀ c, nx ≤ c → H.get c = none) :
    ∃ v H' nx', Cl cx 13 [s] H nx = some (v, H', nx') ∧ (v = strA (tabT X X.length) ∧ Fr nx H H') := by
  refine wpP13 _ _ _ _ (by simp) ?_
  unfold s13
  have hb := bld_new (H := H) (nx := nx) hfh
  have hn : IB nx (H.put nx (some (.cells [.lit (.pointer none), .lit (.slice none 0 0)] 46 false))) s X := h.fr (fun c hc => Tr.get_put_ne _ _ _ _ (by omega))
  simp only [↓wpS_skip, ↓wpS_ops, ↓wpS_seq, ↓wpS_cond, ↓wpS_block, ↓wpS_loop, ↓wpS_exit, ↓wpS_ret, condW_bool, ↓WOps_go, ↓WOps_skip, WOps_nil, stepA, opA, convA, isCall, put?, ev, Tr.get_put, Tr.get_nil, builtinA, callA, argEnv, wantedS, abs_int, abs_bool, abs_string, abs_nilp, abs_nili, abs_nilf, abs_nilm, abs_nils, un_not, undef, z_none, List.zipIdx_cons, List.zipIdx_nil, List.foldl_cons, List.foldl_nil, List.map_cons, List.map_nil, List.map_toArray, List.nil_append, List.cons_append, List.append_nil, extractOp, List.getElem?_cons_zero, List.getElem?_cons_succ,
    Option.map_some, Option.map_none, Nat.reduceLT, Nat.reduceEqDiff, Nat.reduceAdd, Nat.zero_add, if_true, if_false, Option.getD_some, Option.getD_none, ↓reduceIte, Bool.false_eq_true, Bool.true_eq_false, reduceCtorEq, resA, resOf, Option.some.injEq, exists_eq_left', beq_self_eq_true, decide_true, decide_false, decide_eq_true_eq, ne_eq, not_true_eq_false, not_false_eq_true, Bool.not_eq_true, beq_iff_eq, bin_add, bin_sub, bin_mul, bin_eql, bin_neq, bin_lss, bin_leq, bin_gtr, bin_geq, maxA, minA, Prod.mk.injEq, and_true, true_and, beq_eq_false_iff_ne, decide_eq_false_iff_not, Bool.true_beq, Bool.false_beq, beq_true, beq_false, Bool.not_true, Bool.not_false, List.getElem?_toArray, al47, ib_len h]
  refine tab_loop (n0 := nx) (p := nx) (s := s) hn hX hB hb ?_ ?_ ?_ ?_ ?_
  · simp only [↓wpS_skip, ↓wpS_ops, ↓wpS_seq, ↓wpS_cond, ↓wpS_block, ↓wpS_loop, ↓wpS_exit, ↓wpS_ret, condW_bool, ↓WOps_go, ↓WOps_skip, WOps_nil, stepA, opA, convA, isCall, put?, ev, Tr.get_put, Tr.get_nil, builtinA, callA, argEnv, wantedS, abs_int, abs_bool, abs_string, abs_nilp, abs_nili, abs_nilf, abs_nilm, abs_nils, un_not, undef, z_none, List.zipIdx_cons, List.zipIdx_nil, List.foldl_cons, List.foldl_nil, List.map_cons, List.map_nil, List.map_toArray, List.nil_append, List.cons_append, List.append_nil, extractOp, List.getElem?_cons_zero, List.getElem?_cons_succ,
    Option.map_some, Option.map_none, Nat.reduceLT, Nat.reduceEqDiff, Nat.reduceAdd, Nat.zero_add, if_true, if_false, Option.getD_some, Option.getD_none, ↓reduceIte, Bool.false_eq_true, Bool.true_eq_false, reduceCtorEq, resA, resOf, Option.some.injEq, exists_eq_left', beq_self_eq_true, decide_true, decide_false, decide_eq_true_eq, ne_eq, not_true_eq_false, not_false_eq_true, Bool.not_eq_true, beq_iff_eq, bin_add, bin_sub, bin_mul, bin_eql, bin_neq, bin_lss, bin_leq, bin_gtr, bin_geq, maxA, minA, Prod.mk.injEq, and_true, true_and, beq_eq_false_iff_ne, decide_eq_false_iff_not, Bool.true_beq, Bool.false_beq, beq_true, beq_false, Bool.not_true, Bool.not_false, List.getElem?_toArray]
  · simp only [↓wpS_skip, ↓wpS_ops, ↓wpS_seq, ↓wpS_cond, ↓wpS_block, ↓wpS_loop, ↓wpS_exit, ↓wpS_ret, condW_bool, ↓WOps_go, ↓WOps_skip, WOps_nil, stepA, opA, convA, isCall, put?, ev, Tr.get_put, Tr.get_nil, builtinA, callA, argEnv, wantedS, abs_int, abs_bool, abs_string, abs_nilp, abs_nili, abs_nilf, abs_nilm, abs_nils, un_not, undef, z_none, List.zipIdx_cons, List.zipIdx_nil, List.foldl_cons, List.foldl_nil, List.map_cons, List.map_nil, List.map_toArray, List.nil_append, List.cons_append, List.append_nil, extractOp, List.getElem?_cons_zero, List.getElem?_cons_succ,
    Option.map_some, Option.map_none, Nat.reduceLT, Nat.reduceEqDiff, Nat.reduceAdd, Nat.zero_add, if_true, if_false, Option.getD_some, Option.getD_none, ↓reduceIte, Bool.false_eq_true, Bool.true_eq_false, reduceCtorEq, resA, resOf, Option.some.injEq, exists_eq_left', beq_self_eq_true, decide_true, decide_false, decide_eq_true_eq, ne_eq, not_true_eq_false, not_false_eq_true, Bool.not_eq_true, beq_iff_eq, bin_add, bin_sub, bin_mul, bin_eql, bin_neq, bin_lss, bin_leq, bin_gtr, bin_geq, maxA, minA, Prod.mk.injEq, and_true, true_and, beq_eq_false_iff_ne, decide_eq_false_iff_not, Bool.true_beq, Bool.false_beq, beq_true, beq_false, Bool.not_true, Bool.not_false, List.getElem?_toArray]
  · simp only [↓wpS_skip, ↓wpS_ops, ↓wpS_seq, ↓wpS_cond, ↓wpS_block, ↓wpS_loop, ↓wpS_exit, ↓wpS_ret, condW_bool, ↓WOps_go, ↓WOps_skip, WOps_nil, stepA, opA, convA, isCall, put?, ev, Tr.get_put, Tr.get_nil, builtinA, callA, argEnv, wantedS, abs_int, abs_bool, abs_string, abs_nilp, abs_nili, abs_nilf, abs_nilm, abs_nils, un_not, undef, z_none, List.zipIdx_cons, List.zipIdx_nil, List.foldl_cons, List.foldl_nil, List.map_cons, List.map_nil, List.map_toArray, List.nil_append, List.cons_append, List.append_nil, extractOp, List.getElem?_cons_zero, List.getElem?_cons_succ,
    Option.map_some, Option.map_none, Nat.reduceLT, Nat.reduceEqDiff, Nat.reduceAdd, Nat.zero_add, if_true, if_false, Option.getD_some, Option.getD_none, ↓reduceIte, Bool.false_eq_true, Bool.true_eq_false, reduceCtorEq, resA, resOf, Option.some.injEq, exists_eq_left', beq_self_eq_true, decide_true, decide_false, decide_eq_true_eq, ne_eq, not_true_eq_false, not_false_eq_true, Bool.not_eq_true, beq_iff_eq, bin_add, bin_sub, bin_mul, bin_eql, bin_neq, bin_lss, bin_leq, bin_gtr, bin_geq, maxA, minA, Prod.mk.injEq, and_true, true_and, beq_eq_false_iff_ne, decide_eq_false_iff_not, Bool.true_beq, Bool.false_beq, beq_true, beq_false, Bool.not_true, Bool.not_false, List.getElem?_toArray] <;> rfl
  · simp only [↓wpS_skip, ↓wpS_ops, ↓wpS_seq, ↓wpS_cond, ↓wpS_block, ↓wpS_loop, ↓wpS_exit, ↓wpS_ret, condW_bool, ↓WOps_go, ↓WOps_skip, WOps_nil, stepA, opA, convA, isCall, put?, ev, Tr.get_put, Tr.get_nil, builtinA, callA, argEnv, wantedS, abs_int, abs_bool, abs_string, abs_nilp, abs_nili, abs_nilf, abs_nilm, abs_nils, un_not, undef, z_none, List.zipIdx_cons, List.zipIdx_nil, List.foldl_cons, List.foldl_nil, List.map_cons, List.map_nil, List.map_toArray, List.nil_append, List.cons_append, List.append_nil, extractOp, List.getElem?_cons_zero, List.getElem?_cons_succ,
    Option.map_some, Option.map_none, Nat.reduceLT, Nat.reduceEqDiff, Nat.reduceAdd, Nat.zero_add, if_true, if_false, Option.getD_some, Option.getD_none, ↓reduceIte, Bool.false_eq_true, Bool.true_eq_false, reduceCtorEq, resA, resOf, Option.some.injEq, exists_eq_left', beq_self_eq_true, decide_true, decide_false, decide_eq_true_eq, ne_eq, not_true_eq_false, not_false_eq_true, Bool.not_eq_true, beq_iff_eq, bin_add, bin_sub, bin_mul, bin_eql, bin_neq, bin_lss, bin_leq, bin_gtr, bin_geq, maxA, minA, Prod.mk.injEq, and_true, true_and, beq_eq_false_iff_ne, decide_eq_false_iff_not, Bool.true_beq, Bool.false_beq, beq_true, beq_false, Bool.not_true, Bool.not_false, List.getElem?_toArray] <;> rfl
  · intro E' H2 nx2 cs2 f3 hb2 hold hnx
    have htl := tabT_len hB X.length (by omega)
    obtain ⟨H3, s1, s2, s3⟩ := bstr_cl hb2 (by omega) (tabT_ne hpos)
    simp only [↓wpS_skip, ↓wpS_ops, ↓wpS_seq, ↓wpS_cond, ↓wpS_block, ↓wpS_loop, ↓wpS_exit, ↓wpS_ret, condW_bool, ↓WOps_go, ↓WOps_skip, WOps_nil, stepA, opA, convA, isCall, put?, ev, Tr.get_put, Tr.get_nil, builtinA, callA, argEnv, wantedS, abs_int, abs_bool, abs_string, abs_nilp, abs_nili, abs_nilf, abs_nilm, abs_nils, un_not, undef, z_none, List.zipIdx_cons, List.zipIdx_nil, List.foldl_cons, List.foldl_nil, List.map_cons, List.map_nil, List.map_toArray, List.nil_append, List.cons_append, List.append_nil, extractOp, List.getElem?_cons_zero, List.getElem?_cons_succ,
    Option.map_some, Option.map_none, Nat.reduceLT, Nat.reduceEqDiff, Nat.reduceAdd, Nat.zero_add, if_true, if_false, Option.getD_some, Option.getD_none, ↓reduceIte, Bool.false_eq_true, Bool.true_eq_false, reduceCtorEq, resA, resOf, Option.some.injEq, exists_eq_left', beq_self_eq_true, decide_true, decide_false, decide_eq_true_eq, ne_eq, not_true_eq_false, not_false_eq_true, Bool.not_eq_true, beq_iff_eq, bin_add, bin_sub, bin_mul, bin_eql, bin_neq, bin_lss, bin_leq, bin_gtr, bin_geq, maxA, minA, Prod.mk.injEq, and_true, true_and, beq_eq_false_iff_ne, decide_eq_false_iff_not, Bool.true_beq, Bool.false_beq, beq_true, beq_false, Bool.not_true, Bool.not_false, List.getElem?_toArray, x_none, f3, s1]
    intro c hc
    rw [s2 c hc, hold c hc, Tr.get_put_ne _ _ _ _ (by omega)]
theorem half {X : List Int} (hX : X.length ≤ 60) (x : Operand) : binOpA cx.P cx.T .quo 3 x (.const (.int .i64 2)) (.lit (.int .i64 X.length)) (.lit (.int .i64 2)) = some (.lit (.int .i64 ((X.length / 2 : Nat) : Int))) := by
  rw [bin_quo _ _ _ _ _ _ _ _ (by decide), Int.tdiv_eq_ediv_of_nonneg (by omega), wrapI (by constructor <;> omega)]
  rfl
theorem ratio_cl {s : AV} {X : List Int} (h : IB nx H s X) (hX : X.length ≤ 60) :
    Cl cx 12 [s] H nx = some (.tuple [.lit (.int .i64 (X.getD (X.length - 1) 0)), .lit (.int .i64 (X.getD (X.length / 2) 0))], H, nx) := by
  refine wp12 _ _ _ _ (by simp) ?_
  unfold s12
  by_cases h0 : X = []
  · subst h0
    have e1 : (((([] : List Int).length : Nat) : Int) = 0) = True := by simp
    simp only [↓wpS_skip, ↓wpS_ops, ↓wpS_seq, ↓wpS_cond, ↓wpS_block, ↓wpS_loop, ↓wpS_exit, ↓wpS_ret, condW_bool, ↓WOps_go, ↓WOps_skip, WOps_nil, stepA, opA, convA, isCall, put?, ev, Tr.get_put, Tr.get_nil, builtinA, callA, argEnv, wantedS, abs_int, abs_bool, abs_string, abs_nilp, abs_nili, abs_nilf, abs_nilm, abs_nils, un_not, undef, z_none, List.zipIdx_cons, List.zipIdx_nil, List.foldl_cons, List.foldl_nil, List.map_cons, List.map_nil, List.map_toArray, List.nil_append, List.cons_append, List.append_nil, extractOp, List.getElem?_cons_zero, List.getElem?_cons_succ,
    Option.map_some, Option.map_none, Nat.reduceLT, Nat.reduceEqDiff, Nat.reduceAdd, Nat.zero_add, if_true, if_false, Option.getD_some, Option.getD_none, ↓reduceIte, Bool.false_eq_true, Bool.true_eq_false, reduceCtorEq, resA, resOf, Option.some.injEq, exists_eq_left', beq_self_eq_true, decide_true, decide_false, decide_eq_true_eq, ne_eq, not_true_eq_false, not_false_eq_true, Bool.not_eq_true, beq_iff_eq, bin_add, bin_sub, bin_mul, bin_eql, bin_neq, bin_lss, bin_leq, bin_gtr, bin_geq, maxA, minA, Prod.mk.injEq, and_true, true_and, beq_eq_false_iff_ne, decide_eq_false_iff_not, Bool.true_beq, Bool.false_beq, beq_true, beq_false, Bool.not_true, Bool.not_false, List.getElem?_toArray, ib_len h, e1]
    rfl
  · have hpos := List.length_pos_iff.2 h0
    have e1 : ((X.length : Int) = 0) = False := by simp; omega
    have hl1 : X.length - 1 < X.length := by omega
    have hl2 : X.length / 2 < X.length := by omega
    obtain ⟨p, hp1, hp2, hp3⟩ := ib_at h (List.getElem?_eq_getElem hl1)
    obtain ⟨q, hq1, hq2, hq3⟩ := ib_at h (List.getElem?_eq_getElem hl2)
    have g1 : X.getD (X.length - 1) 0 = X[X.length - 1] := getD_lt hl1
    have g2 : X.getD (X.length / 2) 0 = X[X.length / 2] := getD_lt hl2
    have hw : IntKind.i64.wrap ((X.length : Int) - 1) = ((X.length - 1 : Nat) : Int) := by rw [wrapI (by constructor <;> omega)]; omega
    have hh := half hX (.tmp 15)
    simp only [↓wpS_skip, ↓wpS_ops, ↓wpS_seq, ↓wpS_cond, ↓wpS_block, ↓wpS_loop, ↓wpS_exit, ↓wpS_ret, condW_bool, ↓WOps_go, ↓WOps_skip, WOps_nil, stepA, opA, convA, isCall, put?, ev, Tr.get_put, Tr.get_nil, builtinA, callA, argEnv, wantedS, abs_int, abs_bool, abs_string, abs_nilp, abs_nili, abs_nilf, abs_nilm, abs_nils, un_not, undef, z_none, List.zipIdx_cons, List.zipIdx_nil, List.foldl_cons, List.foldl_nil, List.map_cons, List.map_nil, List.map_toArray, List.nil_append, List.cons_append, List.append_nil, extractOp, List.getElem?_cons_zero, List.getElem?_cons_succ,
    Option.map_some, Option.map_none, Nat.reduceLT, Nat.reduceEqDiff, Nat.reduceAdd, Nat.zero_add, if_true, if_false, Option.getD_some, Option.getD_none, ↓reduceIte, Bool.false_eq_true, Bool.true_eq_false, reduceCtorEq, resA, resOf, Option.some.injEq, exists_eq_left', beq_self_eq_true, decide_true, decide_false, decide_eq_true_eq, ne_eq, not_true_eq_false, not_false_eq_true, Bool.not_eq_true, beq_iff_eq, bin_add, bin_sub, bin_mul, bin_eql, bin_neq, bin_lss, bin_leq, bin_gtr, bin_geq, maxA, minA, Prod.mk.injEq, and_true, true_and, beq_eq_false_iff_ne, decide_eq_false_iff_not, Bool.true_beq, Bool.false_beq, beq_true, beq_false, Bool.not_true, Bool.not_false, List.getElem?_toArray, ib_len h, e1]
    refine wpS_draw5 H (show s12_d0.toList.map (stripO s12_d0) = s12_d0s by kernel_rfl) ?_
    unfold s12_d0s
    simp only [↓wpS_skip, ↓wpS_ops, ↓wpS_seq, ↓wpS_cond, ↓wpS_block, ↓wpS_loop, ↓wpS_exit, ↓wpS_ret, condW_bool, ↓WOps_go, ↓WOps_skip, WOps_nil, stepA, opA, convA, isCall, put?, ev, Tr.get_put, Tr.get_nil, builtinA, callA, argEnv, wantedS, abs_int, abs_bool, abs_string, abs_nilp, abs_nili, abs_nilf, abs_nilm, abs_nils, un_not, undef, z_none, List.zipIdx_cons, List.zipIdx_nil, List.foldl_cons, List.foldl_nil, List.map_cons, List.map_nil, List.map_toArray, List.nil_append, List.cons_append, List.append_nil, extractOp, List.getElem?_cons_zero, List.getElem?_cons_succ,
    Option.map_some, Option.map_none, Nat.reduceLT, Nat.reduceEqDiff, Nat.reduceAdd, Nat.zero_add, if_true, if_false, Option.getD_some, Option.getD_none, ↓reduceIte, Bool.false_eq_true, Bool.true_eq_false, reduceCtorEq, resA, resOf, Option.some.injEq, exists_eq_left', beq_self_eq_true, decide_true, decide_false, decide_eq_true_eq, ne_eq, not_true_eq_false, not_false_eq_true, Bool.not_eq_true, beq_iff_eq, bin_add, bin_sub, bin_mul, bin_eql, bin_neq, bin_lss, bin_leq, bin_gtr, bin_geq, maxA, minA, Prod.mk.injEq, and_true, true_and, beq_eq_false_iff_ne, decide_eq_false_iff_not, Bool.true_beq, Bool.false_beq, beq_true, beq_false, Bool.not_true, Bool.not_false, List.getElem?_toArray, ↓WQ_cons, ↓WQ_nil, txS, ph0_still, ph0_skip, ph0_new, ph0_read, ph0_eff, ph1_still, ph1_skip, ph1_read, ph1_eff, ph2_still, ph2_skip, loadOp_ro, loadOp_nil, isEff, eqB_int, eqB_str, eqB_bool, eqB_ptr, eqB_slice, eqB_nils, AV.belowB, Nat.le_refl, nx_succ, ↓WG_cons2, ↓WG_nil, phC_eff, phC_read, phC_new, phC_still, phC_skip, phS_eff, phS_read, phS_new, phS_still, phS_skip, phH_eff, phH_read, phH_new, phH_still, phH_skip, phR_eff, phR_read, phR_new, phR_still, phR_skip, allG_cons, allG_nil, allR_cons, allR_nil, goodAt_eq, implies_true, ib_len h, hw, hh, hp1, hp2 H (Fr.refl _ _), hp3, hq1, hq2 H (Fr.refl _ _), hq3, g1, g2]
section
variable {x : AV} {X : List Int} {QQ : Ex → St → Prop} {k : Int}
structure LT (x : AV) (k : Int) (E : Tr AV) : Prop where
  t1 : E.get 1 = some (.lit (.int .i64 k))
  t5 : E.get 5 = some x
theorem dbl_loop {E : Tr AV} {n0 : Nat} (h : IB n0 H x X) (hX : X.length ≤ 60) (hB : ∀ j, (X.getD j 0).natAbs ≤ 1000000) (hk : k ≤ 100) (oe : LT x k E) (d0 : Bool) (hd0 : d0 = true ↔ 1 ≤ k ∧ k < X.length) (o6 : E.get 6 = some (.lit (.bool d0))) (o7 : E.get 7 = some (.lit (.int .i64 (max k 1))))
    (hQ : ∀ E' b, LT x k E' → E'.get 6 = some (.lit (.bool b)) → (b = true ↔ Dbl X k) → QQ (.exit 0) ⟨E', H, nx⟩) : Wp cx 141 (.loop s4_l0) ⟨E, H, nx⟩ QQ := by
  refine Wp_loop (fun n st => ∃ (i : Nat) (d : Bool), n = X.length + 100 - i ∧ i ≤ X.length + 100 ∧ max k 1 ≤ i ∧ st.H = H ∧ st.nx = nx ∧ LT x k st.env ∧ st.env.get 6 = some (.lit (.bool d)) ∧ st.env.get 7 = some (.lit (.int .i64 i)) ∧
    (d = true ↔ 1 ≤ k ∧ k < X.length ∧ ∀ j : Nat, k.toNat ≤ j → j < i → j < X.length → 1 ≤ X.getD (j - k.toNat) 0 ∧ 2 * X.getD (j - k.toNat) 0 ≤ X.getD j 0)) ?_ (X.length + 100 - (max k 1).toNat) _
    ⟨(max k 1).toNat, d0, rfl, by omega, by omega, rfl, rfl, oe, o6, by rw [o7]; congr 3; omega, by
      rw [hd0]
      constructor
      · rintro ⟨h1, h2⟩; exact ⟨h1, h2, fun j h3 h4 => by omega⟩
      · rintro ⟨h1, h2, _⟩; exact ⟨h1, h2⟩⟩
  rintro n ⟨E, H1, nx1⟩ ⟨i, d, hn, hi, hmi, q1, q2, ⟨e1, e5⟩, e6, e7, hd⟩
  simp only at q1 q2 e1 e5 e6 e7; subst q1; subst q2
  refine Wp_of ?_
  unfold s4_l0
  by_cases hlt : i < X.length
  · have h1 : ((i : Int) < (X.length : Int)) = True := by simp; omega
    by_cases hk1 : 1 ≤ k
    · obtain ⟨u, rfl⟩ : ∃ u : Nat, k = u := ⟨k.toNat, by omega⟩
      have h2 : ((u : Int) ≥ 1) = True := by simp; omega
      have hui : u ≤ i := by omega
      have hm : X.length + 100 - (i + 1) < n := by omega
      have hil : i - u < X.length := by omega
      obtain ⟨p, hp1, hp2, hp3⟩ := ib_at h (List.getElem?_eq_getElem hlt)
      obtain ⟨q, hq1, hq2, hq3⟩ := ib_at h (List.getElem?_eq_getElem hil)
      have g1 : X.getD i 0 = X[i] := getD_lt hlt
      have g2 : X.getD (i - u) 0 = X[i - u] := getD_lt hil
      have b2 := hB (i - u)
      rw [g2] at b2
      have hi2 : i + 1 ≤ X.length + 100 := by omega
      have hmi2 : max (u : Int) 1 ≤ ((i + 1 : Nat) : Int) := by omega
      have hstep : ∀ b : Bool, (b = true ↔ d = true ∧ 1 ≤ X[i - u] ∧ 2 * X[i - u] ≤ X[i]) → (b = true ↔ (u : Int) < X.length ∧ ∀ j : Nat, (u : Int).toNat ≤ j → j < i + 1 → j < X.length → 1 ≤ X.getD (j - (u : Int).toNat) 0 ∧ 2 * X.getD (j - (u : Int).toNat) 0 ≤ X.getD j 0) := by
        intro b hb
        rw [hb, hd]
        simp only [Int.toNat_natCast]
        constructor
        · rintro ⟨⟨h3, h4, h5⟩, h6⟩
          refine ⟨h4, fun j hj1 hj2 hj3 => ?_⟩
          by_cases hji : j = i
          · subst hji; rw [g1, g2]; exact h6
          · exact h5 j hj1 (by omega) hj3
        · rintro ⟨h4, h5⟩
          refine ⟨⟨hk1, h4, fun j hj1 hj2 hj3 => h5 j hj1 (by omega) hj3⟩, ?_⟩
          have := h5 i hui (by omega) hlt
          rw [g1, g2] at this; exact this
      have hx2w : 2 * X[i - u] ≤ 2000000 ∧ -2000000 ≤ 2 * X[i - u] := by omega
      have hw2 : IntKind.i64.wrap ((i : Int) - (u : Int)) = ((i - u : Nat) : Int) := by rw [wrapI (by constructor <;> omega)]; omega
      have hw3 : IntKind.i64.wrap (2 * X[i - u]) = 2 * X[i - u] := wrapI (by constructor <;> omega)
      have hw := wrapS (i := i) (by omega)
      simp only [↓wpS_skip, ↓wpS_ops, ↓wpS_seq, ↓wpS_cond, ↓wpS_block, ↓wpS_loop, ↓wpS_exit, ↓wpS_ret, condW_bool, ↓WOps_go, ↓WOps_skip, WOps_nil, stepA, opA, convA, isCall, put?, ev, Tr.get_put, Tr.get_nil, builtinA, callA, argEnv, wantedS, abs_int, abs_bool, abs_string, abs_nilp, abs_nili, abs_nilf, abs_nilm, abs_nils, un_not, undef, z_none, List.zipIdx_cons, List.zipIdx_nil, List.foldl_cons, List.foldl_nil, List.map_cons, List.map_nil, List.map_toArray, List.nil_append, List.cons_append, List.append_nil, extractOp, List.getElem?_cons_zero, List.getElem?_cons_succ,
    Option.map_some, Option.map_none, Nat.reduceLT, Nat.reduceEqDiff, Nat.reduceAdd, Nat.zero_add, if_true, if_false, Option.getD_some, Option.getD_none, ↓reduceIte, Bool.false_eq_true, Bool.true_eq_false, reduceCtorEq, resA, resOf, Option.some.injEq, exists_eq_left', beq_self_eq_true, decide_true, decide_false, decide_eq_true_eq, ne_eq, not_true_eq_false, not_false_eq_true, Bool.not_eq_true, beq_iff_eq, bin_add, bin_sub, bin_mul, bin_eql, bin_neq, bin_lss, bin_leq, bin_gtr, bin_geq, maxA, minA, Prod.mk.injEq, and_true, true_and, beq_eq_false_iff_ne, decide_eq_false_iff_not, Bool.true_beq, Bool.false_beq, beq_true, beq_false, Bool.not_true, Bool.not_false, List.getElem?_toArray, e1, e5, e6, e7, ib_len h, h1, h2]
      refine wpS_draw5 H1 (show s4_d0.toList.map (stripO s4_d0) = s4_d0s by kernel_rfl) ?_
      unfold s4_d0s
      cases d with
      | false =>
        simp only [↓wpS_skip, ↓wpS_ops, ↓wpS_seq, ↓wpS_cond, ↓wpS_block, ↓wpS_loop, ↓wpS_exit, ↓wpS_ret, condW_bool, ↓WOps_go, ↓WOps_skip, WOps_nil, stepA, opA, convA, isCall, put?, ev, Tr.get_put, Tr.get_nil, builtinA, callA, argEnv, wantedS, abs_int, abs_bool, abs_string, abs_nilp, abs_nili, abs_nilf, abs_nilm, abs_nils, un_not, undef, z_none, List.zipIdx_cons, List.zipIdx_nil, List.foldl_cons, List.foldl_nil, List.map_cons, List.map_nil, List.map_toArray, List.nil_append, List.cons_append, List.append_nil, extractOp, List.getElem?_cons_zero, List.getElem?_cons_succ,
    Option.map_some, Option.map_none, Nat.reduceLT, Nat.reduceEqDiff, Nat.reduceAdd, Nat.zero_add, if_true, if_false, Option.getD_some, Option.getD_none, ↓reduceIte, Bool.false_eq_true, Bool.true_eq_false, reduceCtorEq, resA, resOf, Option.some.injEq, exists_eq_left', beq_self_eq_true, decide_true, decide_false, decide_eq_true_eq, ne_eq, not_true_eq_false, not_false_eq_true, Bool.not_eq_true, beq_iff_eq, bin_add, bin_sub, bin_mul, bin_eql, bin_neq, bin_lss, bin_leq, bin_gtr, bin_geq, maxA, minA, Prod.mk.injEq, and_true, true_and, beq_eq_false_iff_ne, decide_eq_false_iff_not, Bool.true_beq, Bool.false_beq, beq_true, beq_false, Bool.not_true, Bool.not_false, List.getElem?_toArray, ↓WQ_cons, ↓WQ_nil, txS, ph0_still, ph0_skip, ph0_new, ph0_read, ph0_eff, ph1_still, ph1_skip, ph1_read, ph1_eff, ph2_still, ph2_skip, loadOp_ro, loadOp_nil, isEff, eqB_int, eqB_str, eqB_bool, eqB_ptr, eqB_slice, eqB_nils, AV.belowB, Nat.le_refl, nx_succ, ↓WG_cons2, ↓WG_nil, phC_eff, phC_read, phC_new, phC_still, phC_skip, phS_eff, phS_read, phS_new, phS_still, phS_skip, phH_eff, phH_read, phH_new, phH_still, phH_skip, phR_eff, phR_read, phR_new, phR_still, phR_skip, allG_cons, allG_nil, allR_cons, allR_nil, goodAt_eq, implies_true, e1, e5, e6, e7, hw]
        refine ⟨X.length + 100 - (i + 1), hm, i + 1, false, rfl, hi2, hmi2, ?_, rfl, rfl, hstep false (by simp)⟩
        constructor <;> simp only [↓wpS_skip, ↓wpS_ops, ↓wpS_seq, ↓wpS_cond, ↓wpS_block, ↓wpS_loop, ↓wpS_exit, ↓wpS_ret, condW_bool, ↓WOps_go, ↓WOps_skip, WOps_nil, stepA, opA, convA, isCall, put?, ev, Tr.get_put, Tr.get_nil, builtinA, callA, argEnv, wantedS, abs_int, abs_bool, abs_string, abs_nilp, abs_nili, abs_nilf, abs_nilm, abs_nils, un_not, undef, z_none, List.zipIdx_cons, List.zipIdx_nil, List.foldl_cons, List.foldl_nil, List.map_cons, List.map_nil, List.map_toArray, List.nil_append, List.cons_append, List.append_nil, extractOp, List.getElem?_cons_zero, List.getElem?_cons_succ,
    Option.map_some, Option.map_none, Nat.reduceLT, Nat.reduceEqDiff, Nat.reduceAdd, Nat.zero_add, if_true, if_false, Option.getD_some, Option.getD_none, ↓reduceIte, Bool.false_eq_true, Bool.true_eq_false, reduceCtorEq, resA, resOf, Option.some.injEq, exists_eq_left', beq_self_eq_true, decide_true, decide_false, decide_eq_true_eq, ne_eq, not_true_eq_false, not_false_eq_true, Bool.not_eq_true, beq_iff_eq, bin_add, bin_sub, bin_mul, bin_eql, bin_neq, bin_lss, bin_leq, bin_gtr, bin_geq, maxA, minA, Prod.mk.injEq, and_true, true_and, beq_eq_false_iff_ne, decide_eq_false_iff_not, Bool.true_beq, Bool.false_beq, beq_true, beq_false, Bool.not_true, Bool.not_false, List.getElem?_toArray, e1, e5]
      | true =>
        by_cases hx : X[i - u] ≥ 1
        · have h3 : (X[i - u] ≥ 1) = True := eq_true hx
          by_cases hy : X[i] ≥ 2 * X[i - u]
          · have h4 : (X[i] ≥ 2 * X[i - u]) = True := eq_true hy
            simp only [↓wpS_skip, ↓wpS_ops, ↓wpS_seq, ↓wpS_cond, ↓wpS_block, ↓wpS_loop, ↓wpS_exit, ↓wpS_ret, condW_bool, ↓WOps_go, ↓WOps_skip, WOps_nil, stepA, opA, convA, isCall, put?, ev, Tr.get_put, Tr.get_nil, builtinA, callA, argEnv, wantedS, abs_int, abs_bool, abs_string, abs_nilp, abs_nili, abs_nilf, abs_nilm, abs_nils, un_not, undef, z_none, List.zipIdx_cons, List.zipIdx_nil, List.foldl_cons, List.foldl_nil, List.map_cons, List.map_nil, List.map_toArray, List.nil_append, List.cons_append, List.append_nil, extractOp, List.getElem?_cons_zero, List.getElem?_cons_succ,
    Option.map_some, Option.map_none, Nat.reduceLT, Nat.reduceEqDiff, Nat.reduceAdd, Nat.zero_add, if_true, if_false, Option.getD_some, Option.getD_none, ↓reduceIte, Bool.false_eq_true, Bool.true_eq_false, reduceCtorEq, resA, resOf, Option.some.injEq, exists_eq_left', beq_self_eq_true, decide_true, decide_false, decide_eq_true_eq, ne_eq, not_true_eq_false, not_false_eq_true, Bool.not_eq_true, beq_iff_eq, bin_add, bin_sub, bin_mul, bin_eql, bin_neq, bin_lss, bin_leq, bin_gtr, bin_geq, maxA, minA, Prod.mk.injEq, and_true, true_and, beq_eq_false_iff_ne, decide_eq_false_iff_not, Bool.true_beq, Bool.false_beq, beq_true, beq_false, Bool.not_true, Bool.not_false, List.getElem?_toArray, ↓WQ_cons, ↓WQ_nil, txS, ph0_still, ph0_skip, ph0_new, ph0_read, ph0_eff, ph1_still, ph1_skip, ph1_read, ph1_eff, ph2_still, ph2_skip, loadOp_ro, loadOp_nil, isEff, eqB_int, eqB_str, eqB_bool, eqB_ptr, eqB_slice, eqB_nils, AV.belowB, Nat.le_refl, nx_succ, ↓WG_cons2, ↓WG_nil, phC_eff, phC_read, phC_new, phC_still, phC_skip, phS_eff, phS_read, phS_new, phS_still, phS_skip, phH_eff, phH_read, phH_new, phH_still, phH_skip, phR_eff, phR_read, phR_new, phR_still, phR_skip, allG_cons, allG_nil, allR_cons, allR_nil, goodAt_eq, implies_true, e1, e5, e6, e7, hw2, hw3, hp1, hq1, hp2 H1 (Fr.refl _ _), hq2 H1 (Fr.refl _ _), hp3, hq3, h3, h4, hw]
            refine ⟨X.length + 100 - (i + 1), hm, i + 1, true, rfl, hi2, hmi2, ?_, rfl, rfl, hstep true ⟨fun _ => ⟨rfl, hx, hy⟩, fun _ => rfl⟩⟩
            constructor <;> simp only [↓wpS_skip, ↓wpS_ops, ↓wpS_seq, ↓wpS_cond, ↓wpS_block, ↓wpS_loop, ↓wpS_exit, ↓wpS_ret, condW_bool, ↓WOps_go, ↓WOps_skip, WOps_nil, stepA, opA, convA, isCall, put?, ev, Tr.get_put, Tr.get_nil, builtinA, callA, argEnv, wantedS, abs_int, abs_bool, abs_string, abs_nilp, abs_nili, abs_nilf, abs_nilm, abs_nils, un_not, undef, z_none, List.zipIdx_cons, List.zipIdx_nil, List.foldl_cons, List.foldl_nil, List.map_cons, List.map_nil, List.map_toArray, List.nil_append, List.cons_append, List.append_nil, extractOp, List.getElem?_cons_zero, List.getElem?_cons_succ,
    Option.map_some, Option.map_none, Nat.reduceLT, Nat.reduceEqDiff, Nat.reduceAdd, Nat.zero_add, if_true, if_false, Option.getD_some, Option.getD_none, ↓reduceIte, Bool.false_eq_true, Bool.true_eq_false, reduceCtorEq, resA, resOf, Option.some.injEq, exists_eq_left', beq_self_eq_true, decide_true, decide_false, decide_eq_true_eq, ne_eq, not_true_eq_false, not_false_eq_true, Bool.not_eq_true, beq_iff_eq, bin_add, bin_sub, bin_mul, bin_eql, bin_neq, bin_lss, bin_leq, bin_gtr, bin_geq, maxA, minA, Prod.mk.injEq, and_true, true_and, beq_eq_false_iff_ne, decide_eq_false_iff_not, Bool.true_beq, Bool.false_beq, beq_true, beq_false, Bool.not_true, Bool.not_false, List.getElem?_toArray, e1, e5]
          · have h4 : (X[i] ≥ 2 * X[i - u]) = False := eq_false hy
            simp only [↓wpS_skip, ↓wpS_ops, ↓wpS_seq, ↓wpS_cond, ↓wpS_block, ↓wpS_loop, ↓wpS_exit, ↓wpS_ret, condW_bool, ↓WOps_go, ↓WOps_skip, WOps_nil, stepA, opA, convA, isCall, put?, ev, Tr.get_put, Tr.get_nil, builtinA, callA, argEnv, wantedS, abs_int, abs_bool, abs_string, abs_nilp, abs_nili, abs_nilf, abs_nilm, abs_nils, un_not, undef, z_none, List.zipIdx_cons, List.zipIdx_nil, List.foldl_cons, List.foldl_nil, List.map_cons, List.map_nil, List.map_toArray, List.nil_append, List.cons_append, List.append_nil, extractOp, List.getElem?_cons_zero, List.getElem?_cons_succ,
    Option.map_some, Option.map_none, Nat.reduceLT, Nat.reduceEqDiff, Nat.reduceAdd, Nat.zero_add, if_true, if_false, Option.getD_some, Option.getD_none, ↓reduceIte, Bool.false_eq_true, Bool.true_eq_false, reduceCtorEq, resA, resOf, Option.some.injEq, exists_eq_left', beq_self_eq_true, decide_true, decide_false, decide_eq_true_eq, ne_eq, not_true_eq_false, not_false_eq_true, Bool.not_eq_true, beq_iff_eq, bin_add, bin_sub, bin_mul, bin_eql, bin_neq, bin_lss, bin_leq, bin_gtr, bin_geq, maxA, minA, Prod.mk.injEq, and_true, true_and, beq_eq_false_iff_ne, decide_eq_false_iff_not, Bool.true_beq, Bool.false_beq, beq_true, beq_false, Bool.not_true, Bool.not_false, List.getElem?_toArray, ↓WQ_cons, ↓WQ_nil, txS, ph0_still, ph0_skip, ph0_new, ph0_read, ph0_eff, ph1_still, ph1_skip, ph1_read, ph1_eff, ph2_still, ph2_skip, loadOp_ro, loadOp_nil, isEff, eqB_int, eqB_str, eqB_bool, eqB_ptr, eqB_slice, eqB_nils, AV.belowB, Nat.le_refl, nx_succ, ↓WG_cons2, ↓WG_nil, phC_eff, phC_read, phC_new, phC_still, phC_skip, phS_eff, phS_read, phS_new, phS_still, phS_skip, phH_eff, phH_read, phH_new, phH_still, phH_skip, phR_eff, phR_read, phR_new, phR_still, phR_skip, allG_cons, allG_nil, allR_cons, allR_nil, goodAt_eq, implies_true, e1, e5, e6, e7, hw2, hw3, hp1, hq1, hp2 H1 (Fr.refl _ _), hq2 H1 (Fr.refl _ _), hp3, hq3, h3, h4, hw]
            refine ⟨X.length + 100 - (i + 1), hm, i + 1, false, rfl, hi2, hmi2, ?_, rfl, rfl, hstep false ⟨(fun h => by cases h), fun h => absurd h.2.2 hy⟩⟩
            constructor <;> simp only [↓wpS_skip, ↓wpS_ops, ↓wpS_seq, ↓wpS_cond, ↓wpS_block, ↓wpS_loop, ↓wpS_exit, ↓wpS_ret, condW_bool, ↓WOps_go, ↓WOps_skip, WOps_nil, stepA, opA, convA, isCall, put?, ev, Tr.get_put, Tr.get_nil, builtinA, callA, argEnv, wantedS, abs_int, abs_bool, abs_string, abs_nilp, abs_nili, abs_nilf, abs_nilm, abs_nils, un_not, undef, z_none, List.zipIdx_cons, List.zipIdx_nil, List.foldl_cons, List.foldl_nil, List.map_cons, List.map_nil, List.map_toArray, List.nil_append, List.cons_append, List.append_nil, extractOp, List.getElem?_cons_zero, List.getElem?_cons_succ,
    Option.map_some, Option.map_none, Nat.reduceLT, Nat.reduceEqDiff, Nat.reduceAdd, Nat.zero_add, if_true, if_false, Option.getD_some, Option.getD_none, ↓reduceIte, Bool.false_eq_true, Bool.true_eq_false, reduceCtorEq, resA, resOf, Option.some.injEq, exists_eq_left', beq_self_eq_true, decide_true, decide_false, decide_eq_true_eq, ne_eq, not_true_eq_false, not_false_eq_true, Bool.not_eq_true, beq_iff_eq, bin_add, bin_sub, bin_mul, bin_eql, bin_neq, bin_lss, bin_leq, bin_gtr, bin_geq, maxA, minA, Prod.mk.injEq, and_true, true_and, beq_eq_false_iff_ne, decide_eq_false_iff_not, Bool.true_beq, Bool.false_beq, beq_true, beq_false, Bool.not_true, Bool.not_false, List.getElem?_toArray, e1, e5]
        · have h3 : (X[i - u] ≥ 1) = False := eq_false hx
          simp only [↓wpS_skip, ↓wpS_ops, ↓wpS_seq, ↓wpS_cond, ↓wpS_block, ↓wpS_loop, ↓wpS_exit, ↓wpS_ret, condW_bool, ↓WOps_go, ↓WOps_skip, WOps_nil, stepA, opA, convA, isCall, put?, ev, Tr.get_put, Tr.get_nil, builtinA, callA, argEnv, wantedS, abs_int, abs_bool, abs_string, abs_nilp, abs_nili, abs_nilf, abs_nilm, abs_nils, un_not, undef, z_none, List.zipIdx_cons, List.zipIdx_nil, List.foldl_cons, List.foldl_nil, List.map_cons, List.map_nil, List.map_toArray, List.nil_append, List.cons_append, List.append_nil, extractOp, List.getElem?_cons_zero, List.getElem?_cons_succ,
    Option.map_some, Option.map_none, Nat.reduceLT, Nat.reduceEqDiff, Nat.reduceAdd, Nat.zero_add, if_true, if_false, Option.getD_some, Option.getD_none, ↓reduceIte, Bool.false_eq_true, Bool.true_eq_false, reduceCtorEq, resA, resOf, Option.some.injEq, exists_eq_left', beq_self_eq_true, decide_true, decide_false, decide_eq_true_eq, ne_eq, not_true_eq_false, not_false_eq_true, Bool.not_eq_true, beq_iff_eq, bin_add, bin_sub, bin_mul, bin_eql, bin_neq, bin_lss, bin_leq, bin_gtr, bin_geq, maxA, minA, Prod.mk.injEq, and_true, true_and, beq_eq_false_iff_ne, decide_eq_false_iff_not, Bool.true_beq, Bool.false_beq, beq_true, beq_false, Bool.not_true, Bool.not_false, List.getElem?_toArray, ↓WQ_cons, ↓WQ_nil, txS, ph0_still, ph0_skip, ph0_new, ph0_read, ph0_eff, ph1_still, ph1_skip, ph1_read, ph1_eff, ph2_still, ph2_skip, loadOp_ro, loadOp_nil, isEff, eqB_int, eqB_str, eqB_bool, eqB_ptr, eqB_slice, eqB_nils, AV.belowB, Nat.le_refl, nx_succ, ↓WG_cons2, ↓WG_nil, phC_eff, phC_read, phC_new, phC_still, phC_skip, phS_eff, phS_read, phS_new, phS_still, phS_skip, phH_eff, phH_read, phH_new, phH_still, phH_skip, phR_eff, phR_read, phR_new, phR_still, phR_skip, allG_cons, allG_nil, allR_cons, allR_nil, goodAt_eq, implies_true, e1, e5, e6, e7, hw2, hw3, hp1, hq1, hp2 H1 (Fr.refl _ _), hq2 H1 (Fr.refl _ _), hp3, hq3, h3, hw]
          refine ⟨X.length + 100 - (i + 1), hm, i + 1, false, rfl, hi2, hmi2, ?_, rfl, rfl, hstep false ⟨(fun h => by cases h), fun h => absurd h.2.1 hx⟩⟩
          constructor <;> simp only [↓wpS_skip, ↓wpS_ops, ↓wpS_seq, ↓wpS_cond, ↓wpS_block, ↓wpS_loop, ↓wpS_exit, ↓wpS_ret, condW_bool, ↓WOps_go, ↓WOps_skip, WOps_nil, stepA, opA, convA, isCall, put?, ev, Tr.get_put, Tr.get_nil, builtinA, callA, argEnv, wantedS, abs_int, abs_bool, abs_string, abs_nilp, abs_nili, abs_nilf, abs_nilm, abs_nils, un_not, undef, z_none, List.zipIdx_cons, List.zipIdx_nil, List.foldl_cons, List.foldl_nil, List.map_cons, List.map_nil, List.map_toArray, List.nil_append, List.cons_append, List.append_nil, extractOp, List.getElem?_cons_zero, List.getElem?_cons_succ,
    Option.map_some, Option.map_none, Nat.reduceLT, Nat.reduceEqDiff, Nat.reduceAdd, Nat.zero_add, if_true, if_false, Option.getD_some, Option.getD_none, ↓reduceIte, Bool.false_eq_true, Bool.true_eq_false, reduceCtorEq, resA, resOf, Option.some.injEq, exists_eq_left', beq_self_eq_true, decide_true, decide_false, decide_eq_true_eq, ne_eq, not_true_eq_false, not_false_eq_true, Bool.not_eq_true, beq_iff_eq, bin_add, bin_sub, bin_mul, bin_eql, bin_neq, bin_lss, bin_leq, bin_gtr, bin_geq, maxA, minA, Prod.mk.injEq, and_true, true_and, beq_eq_false_iff_ne, decide_eq_false_iff_not, Bool.true_beq, Bool.false_beq, beq_true, beq_false, Bool.not_true, Bool.not_false, List.getElem?_toArray, e1, e5]
    · have h2 : (k ≥ 1) = False := by simp; omega
      simp only [↓wpS_skip, ↓wpS_ops, ↓wpS_seq, ↓wpS_cond, ↓wpS_block, ↓wpS_loop, ↓wpS_exit, ↓wpS_ret, condW_bool, ↓WOps_go, ↓WOps_skip, WOps_nil, stepA, opA, convA, isCall, put?, ev, Tr.get_put, Tr.get_nil, builtinA, callA, argEnv, wantedS, abs_int, abs_bool, abs_string, abs_nilp, abs_nili, abs_nilf, abs_nilm, abs_nils, un_not, undef, z_none, List.zipIdx_cons, List.zipIdx_nil, List.foldl_cons, List.foldl_nil, List.map_cons, List.map_nil, List.map_toArray, List.nil_append, List.cons_append, List.append_nil, extractOp, List.getElem?_cons_zero, List.getElem?_cons_succ,
    Option.map_some, Option.map_none, Nat.reduceLT, Nat.reduceEqDiff, Nat.reduceAdd, Nat.zero_add, if_true, if_false, Option.getD_some, Option.getD_none, ↓reduceIte, Bool.false_eq_true, Bool.true_eq_false, reduceCtorEq, resA, resOf, Option.some.injEq, exists_eq_left', beq_self_eq_true, decide_true, decide_false, decide_eq_true_eq, ne_eq, not_true_eq_false, not_false_eq_true, Bool.not_eq_true, beq_iff_eq, bin_add, bin_sub, bin_mul, bin_eql, bin_neq, bin_lss, bin_leq, bin_gtr, bin_geq, maxA, minA, Prod.mk.injEq, and_true, true_and, beq_eq_false_iff_ne, decide_eq_false_iff_not, Bool.true_beq, Bool.false_beq, beq_true, beq_false, Bool.not_true, Bool.not_false, List.getElem?_toArray, e1, e5, e6, e7, ib_len h, h1, h2]
      refine hQ _ d ?_ ?_ ?_
      · constructor <;> simp only [↓wpS_skip, ↓wpS_ops, ↓wpS_seq, ↓wpS_cond, ↓wpS_block, ↓wpS_loop, ↓wpS_exit, ↓wpS_ret, condW_bool, ↓WOps_go, ↓WOps_skip, WOps_nil, stepA, opA, convA, isCall, put?, ev, Tr.get_put, Tr.get_nil, builtinA, callA, argEnv, wantedS, abs_int, abs_bool, abs_string, abs_nilp, abs_nili, abs_nilf, abs_nilm, abs_nils, un_not, undef, z_none, List.zipIdx_cons, List.zipIdx_nil, List.foldl_cons, List.foldl_nil, List.map_cons, List.map_nil, List.map_toArray, List.nil_append, List.cons_append, List.append_nil, extractOp, List.getElem?_cons_zero, List.getElem?_cons_succ,
    Option.map_some, Option.map_none, Nat.reduceLT, Nat.reduceEqDiff, Nat.reduceAdd, Nat.zero_add, if_true, if_false, Option.getD_some, Option.getD_none, ↓reduceIte, Bool.false_eq_true, Bool.true_eq_false, reduceCtorEq, resA, resOf, Option.some.injEq, exists_eq_left', beq_self_eq_true, decide_true, decide_false, decide_eq_true_eq, ne_eq, not_true_eq_false, not_false_eq_true, Bool.not_eq_true, beq_iff_eq, bin_add, bin_sub, bin_mul, bin_eql, bin_neq, bin_lss, bin_leq, bin_gtr, bin_geq, maxA, minA, Prod.mk.injEq, and_true, true_and, beq_eq_false_iff_ne, decide_eq_false_iff_not, Bool.true_beq, Bool.false_beq, beq_true, beq_false, Bool.not_true, Bool.not_false, List.getElem?_toArray, e1, e5]
      · simp only [↓wpS_skip, ↓wpS_ops, ↓wpS_seq, ↓wpS_cond, ↓wpS_block, ↓wpS_loop, ↓wpS_exit, ↓wpS_ret, condW_bool, ↓WOps_go, ↓WOps_skip, WOps_nil, stepA, opA, convA, isCall, put?, ev, Tr.get_put, Tr.get_nil, builtinA, callA, argEnv, wantedS, abs_int, abs_bool, abs_string, abs_nilp, abs_nili, abs_nilf, abs_nilm, abs_nils, un_not, undef, z_none, List.zipIdx_cons, List.zipIdx_nil, List.foldl_cons, List.foldl_nil, List.map_cons, List.map_nil, List.map_toArray, List.nil_append, List.cons_append, List.append_nil, extractOp, List.getElem?_cons_zero, List.getElem?_cons_succ,
    Option.map_some, Option.map_none, Nat.reduceLT, Nat.reduceEqDiff, Nat.reduceAdd, Nat.zero_add, if_true, if_false, Option.getD_some, Option.getD_none, ↓reduceIte, Bool.false_eq_true, Bool.true_eq_false, reduceCtorEq, resA, resOf, Option.some.injEq, exists_eq_left', beq_self_eq_true, decide_true, decide_false, decide_eq_true_eq, ne_eq, not_true_eq_false, not_false_eq_true, Bool.not_eq_true, beq_iff_eq, bin_add, bin_sub, bin_mul, bin_eql, bin_neq, bin_lss, bin_leq, bin_gtr, bin_geq, maxA, minA, Prod.mk.injEq, and_true, true_and, beq_eq_false_iff_ne, decide_eq_false_iff_not, Bool.true_beq, Bool.false_beq, beq_true, beq_false, Bool.not_true, Bool.not_false, List.getElem?_toArray, e6]
      · rw [hd]
        constructor
        · rintro ⟨h3, _⟩; exact absurd h3 hk1
        · intro h3; exact absurd h3.1 hk1
  · have h1 : ((i : Int) < (X.length : Int)) = False := by simp; omega
    simp only [↓wpS_skip, ↓wpS_ops, ↓wpS_seq, ↓wpS_cond, ↓wpS_block, ↓wpS_loop, ↓wpS_exit, ↓wpS_ret, condW_bool, ↓WOps_go, ↓WOps_skip, WOps_nil, stepA, opA, convA, isCall, put?, ev, Tr.get_put, Tr.get_nil, builtinA, callA, argEnv, wantedS, abs_int, abs_bool, abs_string, abs_nilp, abs_nili, abs_nilf, abs_nilm, abs_nils, un_not, undef, z_none, List.zipIdx_cons, List.zipIdx_nil, List.foldl_cons, List.foldl_nil, List.map_cons, List.map_nil, List.map_toArray, List.nil_append, List.cons_append, List.append_nil, extractOp, List.getElem?_cons_zero, List.getElem?_cons_succ,
    Option.map_some, Option.map_none, Nat.reduceLT, Nat.reduceEqDiff, Nat.reduceAdd, Nat.zero_add, if_true, if_false, Option.getD_some, Option.getD_none, ↓reduceIte, Bool.false_eq_true, Bool.true_eq_false, reduceCtorEq, resA, resOf, Option.some.injEq, exists_eq_left', beq_self_eq_true, decide_true, decide_false, decide_eq_true_eq, ne_eq, not_true_eq_false, not_false_eq_true, Bool.not_eq_true, beq_iff_eq, bin_add, bin_sub, bin_mul, bin_eql, bin_neq, bin_lss, bin_leq, bin_gtr, bin_geq, maxA, minA, Prod.mk.injEq, and_true, true_and, beq_eq_false_iff_ne, decide_eq_false_iff_not, Bool.true_beq, Bool.false_beq, beq_true, beq_false, Bool.not_true, Bool.not_false, List.getElem?_toArray, e1, e5, e6, e7, ib_len h, h1]
    refine hQ _ d ?_ ?_ ?_
    · constructor <;> simp only [↓wpS_skip, ↓wpS_ops, ↓wpS_seq, ↓wpS_cond, ↓wpS_block, ↓wpS_loop, ↓wpS_exit, ↓wpS_ret, condW_bool, ↓WOps_go, ↓WOps_skip, WOps_nil, stepA, opA, convA, isCall, put?, ev, Tr.get_put, Tr.get_nil, builtinA, callA, argEnv, wantedS, abs_int, abs_bool, abs_string, abs_nilp, abs_nili, abs_nilf, abs_nilm, abs_nils, un_not, undef, z_none, List.zipIdx_cons, List.zipIdx_nil, List.foldl_cons, List.foldl_nil, List.map_cons, List.map_nil, List.map_toArray, List.nil_append, List.cons_append, List.append_nil, extractOp, List.getElem?_cons_zero, List.getElem?_cons_succ,
    Option.map_some, Option.map_none, Nat.reduceLT, Nat.reduceEqDiff, Nat.reduceAdd, Nat.zero_add, if_true, if_false, Option.getD_some, Option.getD_none, ↓reduceIte, Bool.false_eq_true, Bool.true_eq_false, reduceCtorEq, resA, resOf, Option.some.injEq, exists_eq_left', beq_self_eq_true, decide_true, decide_false, decide_eq_true_eq, ne_eq, not_true_eq_false, not_false_eq_true, Bool.not_eq_true, beq_iff_eq, bin_add, bin_sub, bin_mul, bin_eql, bin_neq, bin_lss, bin_leq, bin_gtr, bin_geq, maxA, minA, Prod.mk.injEq, and_true, true_and, beq_eq_false_iff_ne, decide_eq_false_iff_not, Bool.true_beq, Bool.false_beq, beq_true, beq_false, Bool.not_true, Bool.not_false, List.getElem?_toArray, e1, e5]
    · simp only [↓wpS_skip, ↓wpS_ops, ↓wpS_seq, ↓wpS_cond, ↓wpS_block, ↓wpS_loop, ↓wpS_exit, ↓wpS_ret, condW_bool, ↓WOps_go, ↓WOps_skip, WOps_nil, stepA, opA, convA, isCall, put?, ev, Tr.get_put, Tr.get_nil, builtinA, callA, argEnv, wantedS, abs_int, abs_bool, abs_string, abs_nilp, abs_nili, abs_nilf, abs_nilm, abs_nils, un_not, undef, z_none, List.zipIdx_cons, List.zipIdx_nil, List.foldl_cons, List.foldl_nil, List.map_cons, List.map_nil, List.map_toArray, List.nil_append, List.cons_append, List.append_nil, extractOp, List.getElem?_cons_zero, List.getElem?_cons_succ,
    Option.map_some, Option.map_none, Nat.reduceLT, Nat.reduceEqDiff, Nat.reduceAdd, Nat.zero_add, if_true, if_false, Option.getD_some, Option.getD_none, ↓reduceIte, Bool.false_eq_true, Bool.true_eq_false, reduceCtorEq, resA, resOf, Option.some.injEq, exists_eq_left', beq_self_eq_true, decide_true, decide_false, decide_eq_true_eq, ne_eq, not_true_eq_false, not_false_eq_true, Bool.not_eq_true, beq_iff_eq, bin_add, bin_sub, bin_mul, bin_eql, bin_neq, bin_lss, bin_leq, bin_gtr, bin_geq, maxA, minA, Prod.mk.injEq, and_true, true_and, beq_eq_false_iff_ne, decide_eq_false_iff_not, Bool.true_beq, Bool.false_beq, beq_true, beq_false, Bool.not_true, Bool.not_false, List.getElem?_toArray, e6]
    · rw [hd]
      constructor
      · rintro ⟨h3, h4, h5⟩; exact ⟨h3, h4, fun j hj1 hj2 => h5 j hj1 (by omega) hj2⟩
      · rintro ⟨h3, h4, h5⟩; exact ⟨h3, h4, fun j hj1 hj2 hj3 => h5 j hj1 hj3⟩
end
end Seat
end CI
