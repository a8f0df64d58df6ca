/- nat, walked: NatFolds and NatPowers. -/
import Derived.Test.YtlejcpkedahphaaNd
set_option linter.unusedVariables false
set_option linter.unusedSimpArgs false
namespace CI
open Go
theorem bin_eqlb (P : Program) (T : Tr TInfo) (t : TypeId) (x y : Operand) (a b : Bool) : binOpA P T .eql t x y (.lit (.bool a)) (.lit (.bool b)) = plain2 P (fun p q => do eqGuard .eql t x y p q; binOp .eql t p q) (.lit (.bool a)) (.lit (.bool b)) := by
  unfold binOpA
  split
  · rename_i v hv; exact hv.symm
  · rename_i hn; rw [hn]; rfl
namespace Seat
variable {H : Heap} {nx nx' : Nat}
theorem eqb (x y : Operand) (a b : Bool) : binOpA cx.P cx.T .eql 4 x y (.lit (.bool a)) (.lit (.bool b)) = some (.lit (.bool (a == b))) := by
  cases a <;> cases b <;> kernel_rfl
theorem pow_fix {B i : Nat} (h : satN (B ^ i * B) = satN (B ^ i)) : ∀ k, satN (B ^ (i + k)) = satN (B ^ i)
  | 0 => rfl
  | k + 1 => by
    rw [← Nat.add_assoc, Nat.pow_succ, ← cap_mul]
    have := pow_fix h k
    have e := congrArg Int.toNat this
    rw [satN_toNat, satN_toNat] at e
    rw [e, cap_mul, h]
theorem refPow_cl {b e : Int} (hb : I64 b) (he : I64 e) : Cl cx 16 [.lit (.int .i64 b), .lit (.int .i64 e)] H nx = some (.lit (.int .i64 (satN (b.toNat ^ e.toNat))), H, nx) := by
  refine wp16 _ _ _ _ (by simp) ?_
  unfold s16
  simp only [↓wpS_skip, ↓wpS_ops, ↓wpS_seq, ↓wpS_cond, ↓wpS_block, ↓wpS_loop, ↓wpS_exit, ↓wpS_ret, condW_bool, ↓WOps_go, ↓WOps_skip, WOps_nil, stepA, opA, isCall, put?, ev, Tr.get_put, Tr.get_nil, builtinA, callA, argEnv, wantedS, abs_int, abs_bool, abs_string, List.zipIdx_cons, List.zipIdx_nil, List.foldl_cons, List.foldl_nil, List.map_cons, List.map_nil, List.map_toArray, List.nil_append, List.cons_append, List.append_nil, extractOp, List.getElem?_cons_zero, List.getElem?_cons_succ,
    Option.map_some, Option.map_none, Nat.reduceLT, Nat.reduceEqDiff, Nat.reduceAdd, Nat.zero_add, if_true, if_false, Option.getD_some, Option.getD_none, ↓reduceIte, Bool.false_eq_true, Bool.true_eq_false, reduceCtorEq, resA, resOf, Option.some.injEq, exists_eq_left', beq_self_eq_true, decide_true, decide_false, decide_eq_true_eq, ne_eq, not_true_eq_false, not_false_eq_true, Bool.not_eq_true, beq_iff_eq, bin_add, bin_sub, bin_mul, bin_eql, bin_neq, bin_lss, bin_leq, bin_gtr, bin_geq, maxA, minA, Prod.mk.injEq, and_true, true_and, beq_eq_false_iff_ne, decide_eq_false_iff_not, Bool.true_beq, Bool.false_beq, beq_true, beq_false, Bool.not_true, Bool.not_false, List.getElem?_toArray]
  refine Wp_loop (fun n st => ∃ (i : Nat), n = e.toNat - i ∧ i ≤ e.toNat ∧ st.H = H ∧ st.nx = nx ∧ st.env.get 0 = some (.lit (.int .i64 b)) ∧ st.env.get 1 = some (.lit (.int .i64 e)) ∧
    st.env.get 5 = some (.lit (.int .i64 (satN (b.toNat ^ i)))) ∧ st.env.get 6 = some (.lit (.int .i64 i))) ?_ e.toNat _ ⟨0, ?_⟩
  · rintro n ⟨E, H1, nx1⟩ ⟨i, hn, hi, e1, e2, h0, h1, h5, h6⟩
    simp only at e1 e2; subst e1; subst e2
    refine Wp_of ?_
    unfold s16_l0
    have m1 : satMul (satN (b.toNat ^ i)) b = satN (b.toNat ^ (i + 1)) := by rw [satMul_N, satN_toNat, cap_mul, Nat.pow_succ]
    by_cases hlt : (i : Int) < e
    · have hw : IntKind.i64.wrap ((i : Int) + 1) = ((i + 1 : Nat) : Int) := by
        rw [wrapI]; · rfl
        have := he.2
        constructor <;> omega
      by_cases hq : satN (b.toNat ^ (i + 1)) = satN (b.toNat ^ i)
      · simp only [↓wpS_skip, ↓wpS_ops, ↓wpS_seq, ↓wpS_cond, ↓wpS_block, ↓wpS_loop, ↓wpS_exit, ↓wpS_ret, condW_bool, ↓WOps_go, ↓WOps_skip, WOps_nil, stepA, opA, isCall, put?, ev, Tr.get_put, Tr.get_nil, builtinA, callA, argEnv, wantedS, abs_int, abs_bool, abs_string, List.zipIdx_cons, List.zipIdx_nil, List.foldl_cons, List.foldl_nil, List.map_cons, List.map_nil, List.map_toArray, List.nil_append, List.cons_append, List.append_nil, extractOp, List.getElem?_cons_zero, List.getElem?_cons_succ,
    Option.map_some, Option.map_none, Nat.reduceLT, Nat.reduceEqDiff, Nat.reduceAdd, Nat.zero_add, if_true, if_false, Option.getD_some, Option.getD_none, ↓reduceIte, Bool.false_eq_true, Bool.true_eq_false, reduceCtorEq, resA, resOf, Option.some.injEq, exists_eq_left', beq_self_eq_true, decide_true, decide_false, decide_eq_true_eq, ne_eq, not_true_eq_false, not_false_eq_true, Bool.not_eq_true, beq_iff_eq, bin_add, bin_sub, bin_mul, bin_eql, bin_neq, bin_lss, bin_leq, bin_gtr, bin_geq, maxA, minA, Prod.mk.injEq, and_true, true_and, beq_eq_false_iff_ne, decide_eq_false_iff_not, Bool.true_beq, Bool.false_beq, beq_true, beq_false, Bool.not_true, Bool.not_false, List.getElem?_toArray, h0, h1, h5, h6, hlt, x_none, refMul_cl (satN_i (b.toNat ^ i)) hb, m1, hq]
        obtain ⟨k, hk⟩ := Nat.exists_eq_add_of_le hi
        rw [hk, pow_fix (by rw [← Nat.pow_succ]; exact hq)]
      · simp only [↓wpS_skip, ↓wpS_ops, ↓wpS_seq, ↓wpS_cond, ↓wpS_block, ↓wpS_loop, ↓wpS_exit, ↓wpS_ret, condW_bool, ↓WOps_go, ↓WOps_skip, WOps_nil, stepA, opA, isCall, put?, ev, Tr.get_put, Tr.get_nil, builtinA, callA, argEnv, wantedS, abs_int, abs_bool, abs_string, List.zipIdx_cons, List.zipIdx_nil, List.foldl_cons, List.foldl_nil, List.map_cons, List.map_nil, List.map_toArray, List.nil_append, List.cons_append, List.append_nil, extractOp, List.getElem?_cons_zero, List.getElem?_cons_succ,
    Option.map_some, Option.map_none, Nat.reduceLT, Nat.reduceEqDiff, Nat.reduceAdd, Nat.zero_add, if_true, if_false, Option.getD_some, Option.getD_none, ↓reduceIte, Bool.false_eq_true, Bool.true_eq_false, reduceCtorEq, resA, resOf, Option.some.injEq, exists_eq_left', beq_self_eq_true, decide_true, decide_false, decide_eq_true_eq, ne_eq, not_true_eq_false, not_false_eq_true, Bool.not_eq_true, beq_iff_eq, bin_add, bin_sub, bin_mul, bin_eql, bin_neq, bin_lss, bin_leq, bin_gtr, bin_geq, maxA, minA, Prod.mk.injEq, and_true, true_and, beq_eq_false_iff_ne, decide_eq_false_iff_not, Bool.true_beq, Bool.false_beq, beq_true, beq_false, Bool.not_true, Bool.not_false, List.getElem?_toArray, h0, h1, h5, h6, hlt, x_none, refMul_cl (satN_i (b.toNat ^ i)) hb, m1, hq, hw]
        refine ⟨e.toNat - (i + 1), by omega, i + 1, rfl, by omega, rfl, rfl⟩
    · simp only [↓wpS_skip, ↓wpS_ops, ↓wpS_seq, ↓wpS_cond, ↓wpS_block, ↓wpS_loop, ↓wpS_exit, ↓wpS_ret, condW_bool, ↓WOps_go, ↓WOps_skip, WOps_nil, stepA, opA, isCall, put?, ev, Tr.get_put, Tr.get_nil, builtinA, callA, argEnv, wantedS, abs_int, abs_bool, abs_string, List.zipIdx_cons, List.zipIdx_nil, List.foldl_cons, List.foldl_nil, List.map_cons, List.map_nil, List.map_toArray, List.nil_append, List.cons_append, List.append_nil, extractOp, List.getElem?_cons_zero, List.getElem?_cons_succ,
    Option.map_some, Option.map_none, Nat.reduceLT, Nat.reduceEqDiff, Nat.reduceAdd, Nat.zero_add, if_true, if_false, Option.getD_some, Option.getD_none, ↓reduceIte, Bool.false_eq_true, Bool.true_eq_false, reduceCtorEq, resA, resOf, Option.some.injEq, exists_eq_left', beq_self_eq_true, decide_true, decide_false, decide_eq_true_eq, ne_eq, not_true_eq_false, not_false_eq_true, Bool.not_eq_true, beq_iff_eq, bin_add, bin_sub, bin_mul, bin_eql, bin_neq, bin_lss, bin_leq, bin_gtr, bin_geq, maxA, minA, Prod.mk.injEq, and_true, true_and, beq_eq_false_iff_ne, decide_eq_false_iff_not, Bool.true_beq, Bool.false_beq, beq_true, beq_false, Bool.not_true, Bool.not_false, List.getElem?_toArray, h0, h1, h5, h6, hlt]
      rw [show e.toNat = i by omega]
  · simp only [↓wpS_skip, ↓wpS_ops, ↓wpS_seq, ↓wpS_cond, ↓wpS_block, ↓wpS_loop, ↓wpS_exit, ↓wpS_ret, condW_bool, ↓WOps_go, ↓WOps_skip, WOps_nil, stepA, opA, isCall, put?, ev, Tr.get_put, Tr.get_nil, builtinA, callA, argEnv, wantedS, abs_int, abs_bool, abs_string, List.zipIdx_cons, List.zipIdx_nil, List.foldl_cons, List.foldl_nil, List.map_cons, List.map_nil, List.map_toArray, List.nil_append, List.cons_append, List.append_nil, extractOp, List.getElem?_cons_zero, List.getElem?_cons_succ,
    Option.map_some, Option.map_none, Nat.reduceLT, Nat.reduceEqDiff, Nat.reduceAdd, Nat.zero_add, if_true, if_false, Option.getD_some, Option.getD_none, ↓reduceIte, Bool.false_eq_true, Bool.true_eq_false, reduceCtorEq, resA, resOf, Option.some.injEq, exists_eq_left', beq_self_eq_true, decide_true, decide_false, decide_eq_true_eq, ne_eq, not_true_eq_false, not_false_eq_true, Bool.not_eq_true, beq_iff_eq, bin_add, bin_sub, bin_mul, bin_eql, bin_neq, bin_lss, bin_leq, bin_gtr, bin_geq, maxA, minA, Prod.mk.injEq, and_true, true_and, beq_eq_false_iff_ne, decide_eq_false_iff_not, Bool.true_beq, Bool.false_beq, beq_true, beq_false, Bool.not_true, Bool.not_false, List.getElem?_toArray]
    exact ⟨by omega, by omega, rfl, rfl⟩
/-- The sum of all numbers up to one. -/
def tri (k : Int) : Int := if max k 0 % 2 = 0 then satMul (max k 0 / 2) (satAdd (max k 0) 1) else satMul (max k 0) (max k 0 / 2 + 1)
theorem tdiv2 {m : Int} (h : 0 ≤ m) : m.tdiv 2 = m / 2 := Int.tdiv_eq_ediv_of_nonneg h
theorem tmod2 {m : Int} (h : 0 ≤ m) : m.tmod 2 = m % 2 := Int.tmod_eq_emod_of_nonneg h
theorem tri_cl {k : Int} (hk : I64 k) : Cl cx 17 [.lit (.int .i64 k)] H nx = some (.lit (.int .i64 (tri k)), H, nx) := by
  refine wp17 _ _ _ _ (by simp) ?_
  unfold s17
  obtain ⟨h1, h2⟩ := hk
  have hm : 0 ≤ max k 0 := by omega
  have w1 : IntKind.i64.wrap (max k 0 / 2) = max k 0 / 2 := wrapI (by constructor <;> omega)
  have w2 : IntKind.i64.wrap (max k 0 / 2 + 1) = max k 0 / 2 + 1 := wrapI (by constructor <;> omega)
  have i1 : I64 (max k 0) := by constructor <;> omega
  have i2 : I64 (max k 0 / 2) := by constructor <;> omega
  have i3 : I64 (max k 0 / 2 + 1) := by constructor <;> omega
  by_cases hc : max k 0 % 2 = 0
  · simp only [↓wpS_skip, ↓wpS_ops, ↓wpS_seq, ↓wpS_cond, ↓wpS_block, ↓wpS_loop, ↓wpS_exit, ↓wpS_ret, condW_bool, ↓WOps_go, ↓WOps_skip, WOps_nil, stepA, opA, isCall, put?, ev, Tr.get_put, Tr.get_nil, builtinA, callA, argEnv, wantedS, abs_int, abs_bool, abs_string, List.zipIdx_cons, List.zipIdx_nil, List.foldl_cons, List.foldl_nil, List.map_cons, List.map_nil, List.map_toArray, List.nil_append, List.cons_append, List.append_nil, extractOp, List.getElem?_cons_zero, List.getElem?_cons_succ,
    Option.map_some, Option.map_none, Nat.reduceLT, Nat.reduceEqDiff, Nat.reduceAdd, Nat.zero_add, if_true, if_false, Option.getD_some, Option.getD_none, ↓reduceIte, Bool.false_eq_true, Bool.true_eq_false, reduceCtorEq, resA, resOf, Option.some.injEq, exists_eq_left', beq_self_eq_true, decide_true, decide_false, decide_eq_true_eq, ne_eq, not_true_eq_false, not_false_eq_true, Bool.not_eq_true, beq_iff_eq, bin_add, bin_sub, bin_mul, bin_eql, bin_neq, bin_lss, bin_leq, bin_gtr, bin_geq, maxA, minA, Prod.mk.injEq, and_true, true_and, beq_eq_false_iff_ne, decide_eq_false_iff_not, Bool.true_beq, Bool.false_beq, beq_true, beq_false, Bool.not_true, Bool.not_false, List.getElem?_toArray, x_none, bin_rem _ _ _ _ _ _ _ _ (show (2:Int) ≠ 0 by decide), bin_quo _ _ _ _ _ _ _ _ (show (2:Int) ≠ 0 by decide), tdiv2 hm, tmod2 hm, hc, w1, add_cl i1 i64_1, mul_cl i2 (satAdd_i _ _), tri]
  · simp only [↓wpS_skip, ↓wpS_ops, ↓wpS_seq, ↓wpS_cond, ↓wpS_block, ↓wpS_loop, ↓wpS_exit, ↓wpS_ret, condW_bool, ↓WOps_go, ↓WOps_skip, WOps_nil, stepA, opA, isCall, put?, ev, Tr.get_put, Tr.get_nil, builtinA, callA, argEnv, wantedS, abs_int, abs_bool, abs_string, List.zipIdx_cons, List.zipIdx_nil, List.foldl_cons, List.foldl_nil, List.map_cons, List.map_nil, List.map_toArray, List.nil_append, List.cons_append, List.append_nil, extractOp, List.getElem?_cons_zero, List.getElem?_cons_succ,
    Option.map_some, Option.map_none, Nat.reduceLT, Nat.reduceEqDiff, Nat.reduceAdd, Nat.zero_add, if_true, if_false, Option.getD_some, Option.getD_none, ↓reduceIte, Bool.false_eq_true, Bool.true_eq_false, reduceCtorEq, resA, resOf, Option.some.injEq, exists_eq_left', beq_self_eq_true, decide_true, decide_false, decide_eq_true_eq, ne_eq, not_true_eq_false, not_false_eq_true, Bool.not_eq_true, beq_iff_eq, bin_add, bin_sub, bin_mul, bin_eql, bin_neq, bin_lss, bin_leq, bin_gtr, bin_geq, maxA, minA, Prod.mk.injEq, and_true, true_and, beq_eq_false_iff_ne, decide_eq_false_iff_not, Bool.true_beq, Bool.false_beq, beq_true, beq_false, Bool.not_true, Bool.not_false, List.getElem?_toArray, x_none, bin_rem _ _ _ _ _ _ _ _ (show (2:Int) ≠ 0 by decide), bin_quo _ _ _ _ _ _ _ _ (show (2:Int) ≠ 0 by decide), tdiv2 hm, tmod2 hm, hc, w1, w2, mul_cl i1 i3, tri]
theorem law5 {b e k : Int} (hb : I64 b) (he : I64 e) (hk : I64 k) : ∃ H' nx', Cl cx 5 [.lit (.int .i64 b), .lit (.int .i64 e), .lit (.int .i64 k)] H nx = some (.lit (.bool true), H', nx') := by
  suffices h : ∃ v H' nx', Cl cx 5 [.lit (.int .i64 b), .lit (.int .i64 e), .lit (.int .i64 k)] H nx = some (v, H', nx') ∧ v = .lit (.bool true) by
    obtain ⟨v, H', nx', h1, rfl⟩ := h; exact ⟨H', nx', h1⟩
  refine wpP5 _ _ _ (fun v _ _ => v = .lit (.bool true)) (by simp) ?_
  unfold s5
  have two : (2 : Int) ≠ 0 := by decide
  by_cases hp : k > 0
  · have hm : max k 0 = k := by omega
    have hk0 : 0 ≤ k := by omega
    obtain ⟨h1, h2⟩ := hk
    have hk : I64 k := ⟨h1, h2⟩
    have w1 : IntKind.i64.wrap (k / 2) = k / 2 := wrapI (by constructor <;> omega)
    have w2 : IntKind.i64.wrap (k / 2 + 1) = k / 2 + 1 := wrapI (by constructor <;> omega)
    have i2 : I64 (k / 2) := by constructor <;> omega
    have i3 : I64 (k / 2 + 1) := by constructor <;> omega
    by_cases hc : k % 2 = 0
    · have t1 : tri k = satMul (k / 2) (satAdd k 1) := by unfold tri; rw [hm, if_pos hc]
      by_cases hb : k > 1000
      · simp only [↓wpS_skip, ↓wpS_ops, ↓wpS_seq, ↓wpS_cond, ↓wpS_block, ↓wpS_loop, ↓wpS_exit, ↓wpS_ret, condW_bool, ↓WOps_go, ↓WOps_skip, WOps_nil, stepA, opA, isCall, put?, ev, Tr.get_put, Tr.get_nil, builtinA, callA, argEnv, wantedS, abs_int, abs_bool, abs_string, List.zipIdx_cons, List.zipIdx_nil, List.foldl_cons, List.foldl_nil, List.map_cons, List.map_nil, List.map_toArray, List.nil_append, List.cons_append, List.append_nil, extractOp, List.getElem?_cons_zero, List.getElem?_cons_succ,
    Option.map_some, Option.map_none, Nat.reduceLT, Nat.reduceEqDiff, Nat.reduceAdd, Nat.zero_add, if_true, if_false, Option.getD_some, Option.getD_none, ↓reduceIte, Bool.false_eq_true, Bool.true_eq_false, reduceCtorEq, resA, resOf, Option.some.injEq, exists_eq_left', beq_self_eq_true, decide_true, decide_false, decide_eq_true_eq, ne_eq, not_true_eq_false, not_false_eq_true, Bool.not_eq_true, beq_iff_eq, bin_add, bin_sub, bin_mul, bin_eql, bin_neq, bin_lss, bin_leq, bin_gtr, bin_geq, maxA, minA, Prod.mk.injEq, and_true, true_and, beq_eq_false_iff_ne, decide_eq_false_iff_not, Bool.true_beq, Bool.false_beq, beq_true, beq_false, Bool.not_true, Bool.not_false, List.getElem?_toArray, x_none, x_awake, hp, bin_rem _ _ _ _ _ _ _ _ two, bin_quo _ _ _ _ _ _ _ _ two, tdiv2 hk0, tmod2 hk0, hc, w1, refAdd_cl hk i64_1, refMul_cl i2 (satAdd_i _ _), pow_cl ‹I64 b› he, refPow_cl ‹I64 b› he, tri_cl hk, full_cl, eqb, t1, hb]
      · have w3 : IntKind.i64.wrap (k + 1) = k + 1 := wrapI (by constructor <;> omega)
        have i4 : I64 (k + 1) := by constructor <;> omega
        have m1 : max (k + 1) 0 = k + 1 := by omega
        have t2 : tri (k + 1) = satAdd (satMul (k / 2) (satAdd k 1)) (k + 1) := by
          unfold tri
          rw [m1, if_neg (by omega), show (k + 1) / 2 = k / 2 by omega]
          obtain ⟨j, rfl⟩ : ∃ j, k = 2 * j := ⟨k / 2, by omega⟩
          rw [show 2 * j / 2 = j by omega]
          unfold satMul satAdd
          obtain ⟨n, rfl⟩ : ∃ n : Nat, j = n := ⟨j.toNat, by omega⟩
          have : (n : Int) * n ≤ 500 * 500 := Int.mul_le_mul (by omega) (by omega) (by omega) (by omega)
          have e1 : max (2 * (n : Int) + 1) 0 = 2 * n + 1 := by omega
          have e2 : max ((n : Int) + 1) 0 = n + 1 := by omega
          have e3 : max (n : Int) 0 = n := by omega
          have e4 : max (min (max (2 * (n : Int)) 0 + max 1 0) 9223372036854775807) 0 = 2 * n + 1 := by omega
          rw [e1, e2, e3, e4]
          have e5 : (2 * (n : Int) + 1) * (n + 1) = 2 * (n * n) + 3 * n + 1 := by grind
          have e6 : (n : Int) * (2 * n + 1) = 2 * (n * n) + n := by grind
          have q0 : 0 ≤ (n : Int) * n := Int.mul_nonneg (by omega) (by omega)
          rw [e5, e6]
          generalize (n : Int) * n = q at this q0
          clear e5 e6
          omega
        simp only [↓wpS_skip, ↓wpS_ops, ↓wpS_seq, ↓wpS_cond, ↓wpS_block, ↓wpS_loop, ↓wpS_exit, ↓wpS_ret, condW_bool, ↓WOps_go, ↓WOps_skip, WOps_nil, stepA, opA, isCall, put?, ev, Tr.get_put, Tr.get_nil, builtinA, callA, argEnv, wantedS, abs_int, abs_bool, abs_string, List.zipIdx_cons, List.zipIdx_nil, List.foldl_cons, List.foldl_nil, List.map_cons, List.map_nil, List.map_toArray, List.nil_append, List.cons_append, List.append_nil, extractOp, List.getElem?_cons_zero, List.getElem?_cons_succ,
    Option.map_some, Option.map_none, Nat.reduceLT, Nat.reduceEqDiff, Nat.reduceAdd, Nat.zero_add, if_true, if_false, Option.getD_some, Option.getD_none, ↓reduceIte, Bool.false_eq_true, Bool.true_eq_false, reduceCtorEq, resA, resOf, Option.some.injEq, exists_eq_left', beq_self_eq_true, decide_true, decide_false, decide_eq_true_eq, ne_eq, not_true_eq_false, not_false_eq_true, Bool.not_eq_true, beq_iff_eq, bin_add, bin_sub, bin_mul, bin_eql, bin_neq, bin_lss, bin_leq, bin_gtr, bin_geq, maxA, minA, Prod.mk.injEq, and_true, true_and, beq_eq_false_iff_ne, decide_eq_false_iff_not, Bool.true_beq, Bool.false_beq, beq_true, beq_false, Bool.not_true, Bool.not_false, List.getElem?_toArray, x_none, x_awake, hp, bin_rem _ _ _ _ _ _ _ _ two, bin_quo _ _ _ _ _ _ _ _ two, tdiv2 hk0, tmod2 hk0, hc, w1, w3, refAdd_cl hk i64_1, refMul_cl i2 (satAdd_i _ _), pow_cl ‹I64 b› he, refPow_cl ‹I64 b› he, tri_cl hk, tri_cl i4, full_cl, eqb, t1, hb, m1, refAdd_cl (satMul_i _ _) i4, t2]
    · have t1 : tri k = satMul k (k / 2 + 1) := by unfold tri; rw [hm, if_neg hc]
      by_cases hb : k > 1000
      · simp only [↓wpS_skip, ↓wpS_ops, ↓wpS_seq, ↓wpS_cond, ↓wpS_block, ↓wpS_loop, ↓wpS_exit, ↓wpS_ret, condW_bool, ↓WOps_go, ↓WOps_skip, WOps_nil, stepA, opA, isCall, put?, ev, Tr.get_put, Tr.get_nil, builtinA, callA, argEnv, wantedS, abs_int, abs_bool, abs_string, List.zipIdx_cons, List.zipIdx_nil, List.foldl_cons, List.foldl_nil, List.map_cons, List.map_nil, List.map_toArray, List.nil_append, List.cons_append, List.append_nil, extractOp, List.getElem?_cons_zero, List.getElem?_cons_succ,
    Option.map_some, Option.map_none, Nat.reduceLT, Nat.reduceEqDiff, Nat.reduceAdd, Nat.zero_add, if_true, if_false, Option.getD_some, Option.getD_none, ↓reduceIte, Bool.false_eq_true, Bool.true_eq_false, reduceCtorEq, resA, resOf, Option.some.injEq, exists_eq_left', beq_self_eq_true, decide_true, decide_false, decide_eq_true_eq, ne_eq, not_true_eq_false, not_false_eq_true, Bool.not_eq_true, beq_iff_eq, bin_add, bin_sub, bin_mul, bin_eql, bin_neq, bin_lss, bin_leq, bin_gtr, bin_geq, maxA, minA, Prod.mk.injEq, and_true, true_and, beq_eq_false_iff_ne, decide_eq_false_iff_not, Bool.true_beq, Bool.false_beq, beq_true, beq_false, Bool.not_true, Bool.not_false, List.getElem?_toArray, x_none, x_awake, hp, bin_rem _ _ _ _ _ _ _ _ two, bin_quo _ _ _ _ _ _ _ _ two, tdiv2 hk0, tmod2 hk0, hc, w1, w2, refMul_cl hk i3, pow_cl ‹I64 b› he, refPow_cl ‹I64 b› he, tri_cl hk, full_cl, eqb, t1, hb]
      · have w3 : IntKind.i64.wrap (k + 1) = k + 1 := wrapI (by constructor <;> omega)
        have i4 : I64 (k + 1) := by constructor <;> omega
        have m1 : max (k + 1) 0 = k + 1 := by omega
        have t2 : tri (k + 1) = satAdd (satMul k (k / 2 + 1)) (k + 1) := by
          unfold tri
          rw [m1, if_pos (by omega)]
          obtain ⟨n, rfl⟩ : ∃ n : Nat, k = 2 * (n : Int) + 1 := ⟨(k / 2).toNat, by omega⟩
          rw [show (2 * (n : Int) + 1) / 2 = n by omega, show (2 * (n : Int) + 1 + 1) / 2 = n + 1 by omega]
          unfold satMul satAdd
          have : (n : Int) * n ≤ 500 * 500 := Int.mul_le_mul (by omega) (by omega) (by omega) (by omega)
          have e1 : max ((n : Int) + 1) 0 = n + 1 := by omega
          have e2 : max (2 * (n : Int) + 1) 0 = 2 * n + 1 := by omega
          have e3 : max (2 * (n : Int) + 1 + 1) 0 + max 1 0 = 2 * n + 3 := by omega
          have e4 : max (min (2 * (n : Int) + 3) 9223372036854775807) 0 = 2 * n + 3 := by
            rw [Int.min_eq_left (by omega)]; omega
          rw [e1, e3, e4, e2]
          have e5 : ((n : Int) + 1) * (2 * n + 3) = 2 * (n * n) + 5 * n + 3 := by grind
          have e6 : (2 * (n : Int) + 1) * (n + 1) = 2 * (n * n) + 3 * n + 1 := by grind
          have q0 : 0 ≤ (n : Int) * n := Int.mul_nonneg (by omega) (by omega)
          rw [e5, e6]
          generalize (n : Int) * n = q at this q0
          clear e5 e6
          omega
        simp only [↓wpS_skip, ↓wpS_ops, ↓wpS_seq, ↓wpS_cond, ↓wpS_block, ↓wpS_loop, ↓wpS_exit, ↓wpS_ret, condW_bool, ↓WOps_go, ↓WOps_skip, WOps_nil, stepA, opA, isCall, put?, ev, Tr.get_put, Tr.get_nil, builtinA, callA, argEnv, wantedS, abs_int, abs_bool, abs_string, List.zipIdx_cons, List.zipIdx_nil, List.foldl_cons, List.foldl_nil, List.map_cons, List.map_nil, List.map_toArray, List.nil_append, List.cons_append, List.append_nil, extractOp, List.getElem?_cons_zero, List.getElem?_cons_succ,
    Option.map_some, Option.map_none, Nat.reduceLT, Nat.reduceEqDiff, Nat.reduceAdd, Nat.zero_add, if_true, if_false, Option.getD_some, Option.getD_none, ↓reduceIte, Bool.false_eq_true, Bool.true_eq_false, reduceCtorEq, resA, resOf, Option.some.injEq, exists_eq_left', beq_self_eq_true, decide_true, decide_false, decide_eq_true_eq, ne_eq, not_true_eq_false, not_false_eq_true, Bool.not_eq_true, beq_iff_eq, bin_add, bin_sub, bin_mul, bin_eql, bin_neq, bin_lss, bin_leq, bin_gtr, bin_geq, maxA, minA, Prod.mk.injEq, and_true, true_and, beq_eq_false_iff_ne, decide_eq_false_iff_not, Bool.true_beq, Bool.false_beq, beq_true, beq_false, Bool.not_true, Bool.not_false, List.getElem?_toArray, x_none, x_awake, hp, bin_rem _ _ _ _ _ _ _ _ two, bin_quo _ _ _ _ _ _ _ _ two, tdiv2 hk0, tmod2 hk0, hc, w1, w2, w3, refMul_cl hk i3, pow_cl ‹I64 b› he, refPow_cl ‹I64 b› he, tri_cl hk, tri_cl i4, full_cl, eqb, t1, hb, m1, refAdd_cl (satMul_i _ _) i4, t2]
  · obtain ⟨h1, h2⟩ := hk
    have hk : I64 k := ⟨h1, h2⟩
    have hb' : ¬ k > 1000 := by omega
    have w3 : IntKind.i64.wrap (k + 1) = k + 1 := wrapI (by constructor <;> omega)
    have i4 : I64 (k + 1) := by constructor <;> omega
    have i5 : I64 (max (k + 1) 0) := by constructor <;> omega
    have t1 : tri k = 0 := by
      unfold tri; rw [show max k 0 = 0 by omega]; rfl
    have t2 : tri (k + 1) = satAdd 0 (max (k + 1) 0) := by
      unfold tri
      rcases Int.lt_or_le k 0 with h | h
      · rw [show max (k + 1) 0 = 0 by omega]; rfl
      · rw [show max (k + 1) 0 = 1 by omega]; rfl
    simp only [↓wpS_skip, ↓wpS_ops, ↓wpS_seq, ↓wpS_cond, ↓wpS_block, ↓wpS_loop, ↓wpS_exit, ↓wpS_ret, condW_bool, ↓WOps_go, ↓WOps_skip, WOps_nil, stepA, opA, isCall, put?, ev, Tr.get_put, Tr.get_nil, builtinA, callA, argEnv, wantedS, abs_int, abs_bool, abs_string, List.zipIdx_cons, List.zipIdx_nil, List.foldl_cons, List.foldl_nil, List.map_cons, List.map_nil, List.map_toArray, List.nil_append, List.cons_append, List.append_nil, extractOp, List.getElem?_cons_zero, List.getElem?_cons_succ,
    Option.map_some, Option.map_none, Nat.reduceLT, Nat.reduceEqDiff, Nat.reduceAdd, Nat.zero_add, if_true, if_false, Option.getD_some, Option.getD_none, ↓reduceIte, Bool.false_eq_true, Bool.true_eq_false, reduceCtorEq, resA, resOf, Option.some.injEq, exists_eq_left', beq_self_eq_true, decide_true, decide_false, decide_eq_true_eq, ne_eq, not_true_eq_false, not_false_eq_true, Bool.not_eq_true, beq_iff_eq, bin_add, bin_sub, bin_mul, bin_eql, bin_neq, bin_lss, bin_leq, bin_gtr, bin_geq, maxA, minA, Prod.mk.injEq, and_true, true_and, beq_eq_false_iff_ne, decide_eq_false_iff_not, Bool.true_beq, Bool.false_beq, beq_true, beq_false, Bool.not_true, Bool.not_false, List.getElem?_toArray, x_none, x_awake, hp, w3, pow_cl hb he, refPow_cl hb he, tri_cl hk, tri_cl i4, full_cl, eqb, t1, hb', refAdd_cl i64_0 i5, t2]
theorem law3 {s : AV} {l : List Int} (hl : Ints H s l) : ∃ H' nx', Cl cx 3 [s] H nx = some (.lit (.bool true), H', nx') := by
  suffices h : ∃ v H' nx', Cl cx 3 [s] H nx = some (v, H', nx') ∧ v = .lit (.bool true) by
    obtain ⟨v, H', nx', h1, rfl⟩ := h; exact ⟨H', nx', h1⟩
  refine wpP3 _ _ _ (fun v _ _ => v = .lit (.bool true)) (by simp) ?_
  unfold s3
  by_cases hlen : ((l.length : Nat) : Int) > 100
  · simp only [↓wpS_skip, ↓wpS_ops, ↓wpS_seq, ↓wpS_cond, ↓wpS_block, ↓wpS_loop, ↓wpS_exit, ↓wpS_ret, condW_bool, ↓WOps_go, ↓WOps_skip, WOps_nil, stepA, opA, isCall, put?, ev, Tr.get_put, Tr.get_nil, builtinA, callA, argEnv, wantedS, abs_int, abs_bool, abs_string, List.zipIdx_cons, List.zipIdx_nil, List.foldl_cons, List.foldl_nil, List.map_cons, List.map_nil, List.map_toArray, List.nil_append, List.cons_append, List.append_nil, extractOp, List.getElem?_cons_zero, List.getElem?_cons_succ,
    Option.map_some, Option.map_none, Nat.reduceLT, Nat.reduceEqDiff, Nat.reduceAdd, Nat.zero_add, if_true, if_false, Option.getD_some, Option.getD_none, ↓reduceIte, Bool.false_eq_true, Bool.true_eq_false, reduceCtorEq, resA, resOf, Option.some.injEq, exists_eq_left', beq_self_eq_true, decide_true, decide_false, decide_eq_true_eq, ne_eq, not_true_eq_false, not_false_eq_true, Bool.not_eq_true, beq_iff_eq, bin_add, bin_sub, bin_mul, bin_eql, bin_neq, bin_lss, bin_leq, bin_gtr, bin_geq, maxA, minA, Prod.mk.injEq, and_true, true_and, beq_eq_false_iff_ne, decide_eq_false_iff_not, Bool.true_beq, Bool.false_beq, beq_true, beq_false, Bool.not_true, Bool.not_false, List.getElem?_toArray, ints_len hl, hlen, x_awake]
  · simp only [↓wpS_skip, ↓wpS_ops, ↓wpS_seq, ↓wpS_cond, ↓wpS_block, ↓wpS_loop, ↓wpS_exit, ↓wpS_ret, condW_bool, ↓WOps_go, ↓WOps_skip, WOps_nil, stepA, opA, isCall, put?, ev, Tr.get_put, Tr.get_nil, builtinA, callA, argEnv, wantedS, abs_int, abs_bool, abs_string, List.zipIdx_cons, List.zipIdx_nil, List.foldl_cons, List.foldl_nil, List.map_cons, List.map_nil, List.map_toArray, List.nil_append, List.cons_append, List.append_nil, extractOp, List.getElem?_cons_zero, List.getElem?_cons_succ,
    Option.map_some, Option.map_none, Nat.reduceLT, Nat.reduceEqDiff, Nat.reduceAdd, Nat.zero_add, if_true, if_false, Option.getD_some, Option.getD_none, ↓reduceIte, Bool.false_eq_true, Bool.true_eq_false, reduceCtorEq, resA, resOf, Option.some.injEq, exists_eq_left', beq_self_eq_true, decide_true, decide_false, decide_eq_true_eq, ne_eq, not_true_eq_false, not_false_eq_true, Bool.not_eq_true, beq_iff_eq, bin_add, bin_sub, bin_mul, bin_eql, bin_neq, bin_lss, bin_leq, bin_gtr, bin_geq, maxA, minA, Prod.mk.injEq, and_true, true_and, beq_eq_false_iff_ne, decide_eq_false_iff_not, Bool.true_beq, Bool.false_beq, beq_true, beq_false, Bool.not_true, Bool.not_false, List.getElem?_toArray, ints_len hl, hlen, x_none]
    refine Wp_loop (fun n st => ∃ (i : Nat), n = l.length - i ∧ i ≤ l.length ∧ st.H = H ∧ st.nx = nx ∧ st.env.get 0 = some s ∧
      st.env.get 3 = some (.lit (.int .i64 (satN ((l.take i).map Int.toNat).sum))) ∧ st.env.get 4 = some (.lit (.int .i64 (satN (((l.take i).map Int.toNat).foldr (· * ·) 1)))) ∧ st.env.get 5 = some (.lit (.int .i64 i))) ?_ l.length _ ⟨0, ?_⟩
    · rintro n ⟨E, H1, nx1⟩ ⟨i, hn, hi, e1, e2, h0, h3, h4, h5⟩
      simp only at e1 e2; subst e1; subst e2
      refine Wp_of ?_
      unfold s3_l0
      by_cases hlt : i < l.length
      · obtain ⟨p, hp1, hp2⟩ := ints_at hl (List.getElem?_eq_getElem hlt)
        have hw : IntKind.i64.wrap ((i : Int) + 1) = ((i + 1 : Nat) : Int) := by
          rw [wrapI]; · rfl
          have := hl.2.1
          constructor <;> omega
        have hg : I64 l[i] := hl.1 _ (List.getElem_mem hlt)
        have m1 : satAdd (satN ((l.take i).map Int.toNat).sum) l[i] = satN ((l.take (i + 1)).map Int.toNat).sum := by
          rw [satAdd_N, satN_toNat, cap_add, List.take_add_one, List.getElem?_eq_getElem hlt]
          congr 1
          simp only [List.map_append, Option.toList_some, List.map_cons, List.map_nil, List.sum_append, List.sum_cons, List.sum_nil, Nat.add_zero]
        have m2 : satMul (satN (((l.take i).map Int.toNat).foldr (· * ·) 1)) l[i] = satN (((l.take (i + 1)).map Int.toNat).foldr (· * ·) 1) := by
          rw [satMul_N, satN_toNat, cap_mul, List.take_add_one, List.getElem?_eq_getElem hlt]
          congr 1
          simp only [List.map_append, Option.toList_some, List.map_cons, List.map_nil, List.foldr_append, List.foldr_cons, List.foldr_nil, Nat.mul_one]
          generalize (l.take i).map Int.toNat = m
          induction m with
          | nil => simp
          | cons x m ih => simp [Nat.mul_assoc, ih]
        simp only [↓wpS_skip, ↓wpS_ops, ↓wpS_seq, ↓wpS_cond, ↓wpS_block, ↓wpS_loop, ↓wpS_exit, ↓wpS_ret, condW_bool, ↓WOps_go, ↓WOps_skip, WOps_nil, stepA, opA, isCall, put?, ev, Tr.get_put, Tr.get_nil, builtinA, callA, argEnv, wantedS, abs_int, abs_bool, abs_string, List.zipIdx_cons, List.zipIdx_nil, List.foldl_cons, List.foldl_nil, List.map_cons, List.map_nil, List.map_toArray, List.nil_append, List.cons_append, List.append_nil, extractOp, List.getElem?_cons_zero, List.getElem?_cons_succ,
    Option.map_some, Option.map_none, Nat.reduceLT, Nat.reduceEqDiff, Nat.reduceAdd, Nat.zero_add, if_true, if_false, Option.getD_some, Option.getD_none, ↓reduceIte, Bool.false_eq_true, Bool.true_eq_false, reduceCtorEq, resA, resOf, Option.some.injEq, exists_eq_left', beq_self_eq_true, decide_true, decide_false, decide_eq_true_eq, ne_eq, not_true_eq_false, not_false_eq_true, Bool.not_eq_true, beq_iff_eq, bin_add, bin_sub, bin_mul, bin_eql, bin_neq, bin_lss, bin_leq, bin_gtr, bin_geq, maxA, minA, Prod.mk.injEq, and_true, true_and, beq_eq_false_iff_ne, decide_eq_false_iff_not, Bool.true_beq, Bool.false_beq, beq_true, beq_false, Bool.not_true, Bool.not_false, List.getElem?_toArray, x_none, ints_len hl, h0, h3, h4, h5, hp1, hp2, Int.ofNat_lt, hlt, refAdd_cl (satN_i _) hg, refMul_cl (satN_i _) hg, m1, m2, hw]
        refine ⟨l.length - (i + 1), by omega, i + 1, rfl, by omega, rfl, rfl, rfl⟩
      · have : i = l.length := by omega
        subst this
        simp only [↓wpS_skip, ↓wpS_ops, ↓wpS_seq, ↓wpS_cond, ↓wpS_block, ↓wpS_loop, ↓wpS_exit, ↓wpS_ret, condW_bool, ↓WOps_go, ↓WOps_skip, WOps_nil, stepA, opA, isCall, put?, ev, Tr.get_put, Tr.get_nil, builtinA, callA, argEnv, wantedS, abs_int, abs_bool, abs_string, List.zipIdx_cons, List.zipIdx_nil, List.foldl_cons, List.foldl_nil, List.map_cons, List.map_nil, List.map_toArray, List.nil_append, List.cons_append, List.append_nil, extractOp, List.getElem?_cons_zero, List.getElem?_cons_succ,
    Option.map_some, Option.map_none, Nat.reduceLT, Nat.reduceEqDiff, Nat.reduceAdd, Nat.zero_add, if_true, if_false, Option.getD_some, Option.getD_none, ↓reduceIte, Bool.false_eq_true, Bool.true_eq_false, reduceCtorEq, resA, resOf, Option.some.injEq, exists_eq_left', beq_self_eq_true, decide_true, decide_false, decide_eq_true_eq, ne_eq, not_true_eq_false, not_false_eq_true, Bool.not_eq_true, beq_iff_eq, bin_add, bin_sub, bin_mul, bin_eql, bin_neq, bin_lss, bin_leq, bin_gtr, bin_geq, maxA, minA, Prod.mk.injEq, and_true, true_and, beq_eq_false_iff_ne, decide_eq_false_iff_not, Bool.true_beq, Bool.false_beq, beq_true, beq_false, Bool.not_true, Bool.not_false, List.getElem?_toArray, x_none, x_awake, ints_len hl, h0, h3, h4, h5, Int.ofNat_lt, Nat.lt_irrefl, addv_cl' hl, sum_cl' hl, mulv_cl' hl, List.take_length]
    · simp only [↓wpS_skip, ↓wpS_ops, ↓wpS_seq, ↓wpS_cond, ↓wpS_block, ↓wpS_loop, ↓wpS_exit, ↓wpS_ret, condW_bool, ↓WOps_go, ↓WOps_skip, WOps_nil, stepA, opA, isCall, put?, ev, Tr.get_put, Tr.get_nil, builtinA, callA, argEnv, wantedS, abs_int, abs_bool, abs_string, List.zipIdx_cons, List.zipIdx_nil, List.foldl_cons, List.foldl_nil, List.map_cons, List.map_nil, List.map_toArray, List.nil_append, List.cons_append, List.append_nil, extractOp, List.getElem?_cons_zero, List.getElem?_cons_succ,
    Option.map_some, Option.map_none, Nat.reduceLT, Nat.reduceEqDiff, Nat.reduceAdd, Nat.zero_add, if_true, if_false, Option.getD_some, Option.getD_none, ↓reduceIte, Bool.false_eq_true, Bool.true_eq_false, reduceCtorEq, resA, resOf, Option.some.injEq, exists_eq_left', beq_self_eq_true, decide_true, decide_false, decide_eq_true_eq, ne_eq, not_true_eq_false, not_false_eq_true, Bool.not_eq_true, beq_iff_eq, bin_add, bin_sub, bin_mul, bin_eql, bin_neq, bin_lss, bin_leq, bin_gtr, bin_geq, maxA, minA, Prod.mk.injEq, and_true, true_and, beq_eq_false_iff_ne, decide_eq_false_iff_not, Bool.true_beq, Bool.false_beq, beq_true, beq_false, Bool.not_true, Bool.not_false, List.getElem?_toArray]
      refine ⟨by omega, by omega, rfl, rfl, rfl⟩
end Seat
end CI
