/- Builders, walked: Grow, of one into which nothing was written. -/
import Derived.Test.YtlejcpkedahphaaDoorWb
import Derived.Test.YtlejcpkedahphaaDoorCr
set_option linter.unusedVariables false
set_option linter.unusedSimpArgs false
namespace CI
open Go
namespace Seat
variable {H : Heap} {nx : Nat}
theorem z49 (n : Nat) (h : n ≤ 281474976710656) : cx.Z 49 [.lit (.int .i64 n)] H nx = some (.slice nx 0 n none 1, H.put nx (some (.cells [] 5 false)), nx + 1) := by
  show mzA 49 5 49 [.lit (.int .i64 (.ofNat n))] H nx = _
  unfold mzA
  rw [if_pos rfl]
  simp only
  rw [if_pos h]
theorem x49 (args : List AV) : cx.X 49 args = none := x_none 49 rfl rfl rfl rfl rfl args
theorem sl_open (b n : Nat) (h : 1 ≤ n) : sliceOp cx.P cx.T H 41 (.slice b 0 n none 1) none (some (.lit (.int .i64 ((0 : Nat) : Int)))) none = some (.slice b 0 0 none 1) := by
  unfold sliceOp
  simp only [T41, T5, ti41, ti5]
  have e1 : bnd (some (.lit (.int .i64 ((0 : Nat) : Int)))) n = some 0 := rfl
  have e2 : bnd none 0 = some 0 := rfl
  rw [if_neg (by simp)]
  simp only [e1, e2]
  rw [if_pos ⟨by omega, by omega⟩, if_pos (by omega)]
/-- grow. -/
theorem grow_cl {n0 p o : Nat} {cs : List AV} {t : TypeId} (hb : Bld n0 H nx p o cs t []) (hbf : cs[o + 1]? = some (.lit (.slice none 0 0))) (n : Nat) (h1 : 1 ≤ n) (hn : n ≤ 1000000000) :
    ∃ H' cs', Cl cx 35 [.ptr p o, .lit (.int .i64 n)] H nx = some (.tuple [], H', nx + 1) ∧ Bld n0 H' (nx + 1) p o cs' t [] ∧ (∀ j, j ≠ o + 1 → cs'[j]? = cs[j]?) ∧ cs'.length = cs.length ∧ ∀ c, c < n0 → H'.get c = H.get c := by
  have ho : o + 1 < cs.length := (List.getElem?_eq_some_iff.1 hbf).1
  have hp1 := hb.p1
  have hp0 := hb.p0
  have hp2 : (H.put nx (some (.cells [] 5 false))).get p = some (.cells cs t false) := by rw [Tr.get_put_ne _ _ _ _ (by omega)]; exact hb.hp
  have hp3 : ((H.put nx (some (.cells [] 5 false))).put nx (some (.cells [] 5 false))).get p = some (.cells cs t false) := by rw [Tr.get_put_ne _ _ _ _ (by omega)]; exact hp2
  refine ⟨((H.put nx (some (.cells [] 5 false))).put nx (some (.cells [] 5 false))).put p (some (.cells (cs.set (o + 1) (.slice nx 0 0 none 1)) t false)), cs.set (o + 1) (.slice nx 0 0 none 1), ?_, ?_, fun j hj => set_get hj, by simp, fun c hc => ?_⟩
  · refine wp35 _ _ _ _ (by simp) ?_
    unfold s35
    simp only [↓wpS_skip, ↓wpS_ops, ↓wpS_seq, ↓wpS_cond, ↓wpS_block, ↓wpS_loop, ↓wpS_exit, ↓wpS_ret, condW_bool, ↓WOps_go, ↓WOps_skip, WOps_nil, stepA, opA, convA, isCall, put?, ev, Tr.get_put, Tr.get_nil, builtinA, callA, argEnv, wantedS, abs_int, abs_bool, abs_string, abs_nilp, abs_nili, abs_nilf, abs_nilm, abs_nils, un_not, z_none, List.zipIdx_cons, List.zipIdx_nil, List.foldl_cons, List.foldl_nil, List.map_cons, List.map_nil, List.map_toArray, List.nil_append, List.cons_append, List.append_nil, extractOp, List.getElem?_cons_zero, List.getElem?_cons_succ,
    Option.map_some, Option.map_none, Nat.reduceLT, Nat.reduceEqDiff, Nat.reduceAdd, Nat.zero_add, if_true, if_false, Option.getD_some, Option.getD_none, ↓reduceIte, Bool.false_eq_true, Bool.true_eq_false, reduceCtorEq, resA, resOf, Option.some.injEq, exists_eq_left', beq_self_eq_true, decide_true, decide_false, decide_eq_true_eq, ne_eq, not_true_eq_false, not_false_eq_true, Bool.not_eq_true, beq_iff_eq, bin_add, bin_sub, bin_mul, bin_eql, bin_neq, bin_lss, bin_leq, bin_gtr, bin_geq, maxA, minA, Prod.mk.injEq, and_true, true_and, beq_eq_false_iff_ne, decide_eq_false_iff_not, Bool.true_beq, Bool.false_beq, beq_true, beq_false, Bool.not_true, Bool.not_false, List.getElem?_toArray]
    refine wpS_draw3 (show effOK s35_d0 = true by kernel_rfl) (show s35_d0.toList.map (stripO s35_d0) = s35_d0s by kernel_rfl) ?_
    unfold s35_d0s
    have hcap : capOp cx.T 41 (.lit (.slice none 0 0)) = some 0 := by kernel_rfl
    have hln : lenOp cx.T .nil 41 (.lit (.slice none 0 0)) = some 0 := by kernel_rfl
    have hw : IntKind.i64.wrap (IntKind.i64.wrap (2 * ((0 : Nat) : Int)) + (n : Int)) = (n : Int) := by
      rw [show IntKind.i64.wrap (2 * ((0 : Nat) : Int)) = 0 by decide, Int.zero_add, wrapI (by constructor <;> omega)]
    have hcp : copyOp cx.T (H.put nx (some (.cells [] 5 false))) 41 (.slice nx 0 0 none 1) (.lit (.slice none 0 0)) = some (0, (H.put nx (some (.cells [] 5 false))).put nx (some (.cells [] 5 false))) := by
      unfold copyOp
      simp only [T41, T5, ti41, ti5, Option.bind_some, lenS, firstA, Tr.get_put, if_true, Nat.min_self, overA]
      rw [if_pos ⟨by simp, by simp⟩]
      rfl
    simp only [↓wpS_skip, ↓wpS_ops, ↓wpS_seq, ↓wpS_cond, ↓wpS_block, ↓wpS_loop, ↓wpS_exit, ↓wpS_ret, condW_bool, ↓WOps_go, ↓WOps_skip, WOps_nil, stepA, opA, convA, isCall, put?, ev, Tr.get_put, Tr.get_nil, builtinA, callA, argEnv, wantedS, abs_int, abs_bool, abs_string, abs_nilp, abs_nili, abs_nilf, abs_nilm, abs_nils, un_not, z_none, List.zipIdx_cons, List.zipIdx_nil, List.foldl_cons, List.foldl_nil, List.map_cons, List.map_nil, List.map_toArray, List.nil_append, List.cons_append, List.append_nil, extractOp, List.getElem?_cons_zero, List.getElem?_cons_succ,
    Option.map_some, Option.map_none, Nat.reduceLT, Nat.reduceEqDiff, Nat.reduceAdd, Nat.zero_add, if_true, if_false, Option.getD_some, Option.getD_none, ↓reduceIte, Bool.false_eq_true, Bool.true_eq_false, reduceCtorEq, resA, resOf, Option.some.injEq, exists_eq_left', beq_self_eq_true, decide_true, decide_false, decide_eq_true_eq, ne_eq, not_true_eq_false, not_false_eq_true, Bool.not_eq_true, beq_iff_eq, bin_add, bin_sub, bin_mul, bin_eql, bin_neq, bin_lss, bin_leq, bin_gtr, bin_geq, maxA, minA, Prod.mk.injEq, and_true, true_and, beq_eq_false_iff_ne, decide_eq_false_iff_not, Bool.true_beq, Bool.false_beq, beq_true, beq_false, Bool.not_true, Bool.not_false, List.getElem?_toArray, ↓WR_cons, ↓WR_nil, ↓W2_cons, ↓W2_nil, goodAt_eq, txS, ph0_still, ph0_skip, ph0_new, ph0_read, ph0_eff, ph1_still, ph1_skip, ph1_read, ph1_eff, ph2_still, ph2_skip, loadOp_ro, loadOp_nil, isEff, eqB_int, eqB_str, eqB_bool, eqB_ptr, eqB_slice, eqB_nils, AV.belowB, Nat.le_refl, nx_succ, nc_ptr, fa47_1, ld_at (t := 41) (by kernel_rfl) hb.hp hbf, ld_at (t := 41) (by kernel_rfl) hp2 hbf, hcap, hln, x49, hw, z49 n (by omega), sl_open _ n h1, Nat.le_add_right, hcp, st_at (t := 41) (v := .slice nx 0 0 none 1) (by kernel_rfl) hp3 ho rfl rfl]
  · exact {
      hp := Tr.get_put_same _ _ _
      p0 := hp0
      p1 := by omega
      lies := by simpa using hb.lies
      self := by rw [set_get (by omega)]; exact hb.self
      buf := .inr ⟨nx, by omega, by omega, by omega, by simp [List.getElem?_set, ho], by rw [Tr.get_put_ne _ _ _ _ (by omega), Tr.get_put_same]; rfl⟩
      fr := fun b h => by rw [Tr.get_put_ne _ _ _ _ (by omega), Tr.get_put_ne _ _ _ _ (by omega), Tr.get_put_ne _ _ _ _ (by omega)]; exact hb.fr b (by omega) }
  · rw [Tr.get_put_ne _ _ _ _ (by omega), Tr.get_put_ne _ _ _ _ (by omega), Tr.get_put_ne _ _ _ _ (by omega)]
/-- Grow. -/
theorem Grow_cl {n0 p o : Nat} {cs : List AV} {t : TypeId} (hb : Bld n0 H nx p o cs t []) (hbf : cs[o + 1]? = some (.lit (.slice none 0 0))) (n : Nat) (h1 : 1 ≤ n) (hn : n ≤ 1000000000) :
    ∃ H' nx' cs', Cl cx 24 [.ptr p o, .lit (.int .i64 n)] H nx = some (.tuple [], H', nx') ∧ Bld n0 H' nx' p o cs' t [] ∧ nx ≤ nx' ∧ cs'.length = cs.length ∧ ∀ c, c < n0 → H'.get c = H.get c := by
  obtain ⟨H1, cs1, k1, k2, k3, k4, k5, k6⟩ := cc_cl hb
  have hbf1 : cs1[o + 1]? = some (.lit (.slice none 0 0)) := by rw [k4 _ (by omega)]; exact hbf
  obtain ⟨H2, cs2, g1, g2, g3, g4, g5⟩ := grow_cl k2 hbf1 n h1 hn
  have hp1 := hb.p1
  have hp0 := hb.p0
  refine ⟨H2, nx + 1, cs2, ?_, g2, by omega, by omega, fun c hc => by rw [g5 c hc, k5 c (by omega)]⟩
  refine wp24 _ _ _ _ (by simp) ?_
  unfold s24
  have e0 : (((n : Nat) : Int) < 0) = False := by simp
  simp only [↓wpS_skip, ↓wpS_ops, ↓wpS_seq, ↓wpS_cond, ↓wpS_block, ↓wpS_loop, ↓wpS_exit, ↓wpS_ret, condW_bool, ↓WOps_go, ↓WOps_skip, WOps_nil, stepA, opA, convA, isCall, put?, ev, Tr.get_put, Tr.get_nil, builtinA, callA, argEnv, wantedS, abs_int, abs_bool, abs_string, abs_nilp, abs_nili, abs_nilf, abs_nilm, abs_nils, un_not, z_none, List.zipIdx_cons, List.zipIdx_nil, List.foldl_cons, List.foldl_nil, List.map_cons, List.map_nil, List.map_toArray, List.nil_append, List.cons_append, List.append_nil, extractOp, List.getElem?_cons_zero, List.getElem?_cons_succ,
    Option.map_some, Option.map_none, Nat.reduceLT, Nat.reduceEqDiff, Nat.reduceAdd, Nat.zero_add, if_true, if_false, Option.getD_some, Option.getD_none, ↓reduceIte, Bool.false_eq_true, Bool.true_eq_false, reduceCtorEq, resA, resOf, Option.some.injEq, exists_eq_left', beq_self_eq_true, decide_true, decide_false, decide_eq_true_eq, ne_eq, not_true_eq_false, not_false_eq_true, Bool.not_eq_true, beq_iff_eq, bin_add, bin_sub, bin_mul, bin_eql, bin_neq, bin_lss, bin_leq, bin_gtr, bin_geq, maxA, minA, Prod.mk.injEq, and_true, true_and, beq_eq_false_iff_ne, decide_eq_false_iff_not, Bool.true_beq, Bool.false_beq, beq_true, beq_false, Bool.not_true, Bool.not_false, List.getElem?_toArray, x_none, k1, e0]
  refine s24_d0_wq ?_
  unfold s24_d0s
  have hcap : capOp cx.T 41 (.lit (.slice none 0 0)) = some 0 := by kernel_rfl
  have hln : lenOp cx.T .nil 41 (.lit (.slice none 0 0)) = some 0 := by kernel_rfl
  have hw : IntKind.i64.wrap (((0 : Nat) : Int) - ((0 : Nat) : Int)) = 0 := by decide
  have e1 : ((0 : Int) < (n : Int)) = True := by simp; omega
  simp only [↓wpS_skip, ↓wpS_ops, ↓wpS_seq, ↓wpS_cond, ↓wpS_block, ↓wpS_loop, ↓wpS_exit, ↓wpS_ret, condW_bool, ↓WOps_go, ↓WOps_skip, WOps_nil, stepA, opA, convA, isCall, put?, ev, Tr.get_put, Tr.get_nil, builtinA, callA, argEnv, wantedS, abs_int, abs_bool, abs_string, abs_nilp, abs_nili, abs_nilf, abs_nilm, abs_nils, un_not, z_none, List.zipIdx_cons, List.zipIdx_nil, List.foldl_cons, List.foldl_nil, List.map_cons, List.map_nil, List.map_toArray, List.nil_append, List.cons_append, List.append_nil, extractOp, List.getElem?_cons_zero, List.getElem?_cons_succ,
    Option.map_some, Option.map_none, Nat.reduceLT, Nat.reduceEqDiff, Nat.reduceAdd, Nat.zero_add, if_true, if_false, Option.getD_some, Option.getD_none, ↓reduceIte, Bool.false_eq_true, Bool.true_eq_false, reduceCtorEq, resA, resOf, Option.some.injEq, exists_eq_left', beq_self_eq_true, decide_true, decide_false, decide_eq_true_eq, ne_eq, not_true_eq_false, not_false_eq_true, Bool.not_eq_true, beq_iff_eq, bin_add, bin_sub, bin_mul, bin_eql, bin_neq, bin_lss, bin_leq, bin_gtr, bin_geq, maxA, minA, Prod.mk.injEq, and_true, true_and, beq_eq_false_iff_ne, decide_eq_false_iff_not, Bool.true_beq, Bool.false_beq, beq_true, beq_false, Bool.not_true, Bool.not_false, List.getElem?_toArray, ↓WQ_cons, ↓WQ_nil, txS, ph0_still, ph0_skip, ph0_new, ph0_read, ph0_eff, ph1_still, ph1_skip, ph1_read, ph1_eff, ph2_still, ph2_skip, loadOp_ro, loadOp_nil, isEff, eqB_int, eqB_str, eqB_bool, eqB_ptr, eqB_slice, eqB_nils, AV.belowB, Nat.le_refl, nx_succ, nc_ptr, fa47_1, ld_at (t := 41) (by kernel_rfl) k2.hp hbf1, hcap, hln, hw, e1, g1, x_none]
end Seat
end CI
