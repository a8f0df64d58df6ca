/- Merged: Px Pa Pb Pc Pe Pf Ph Pk Pm2 Pn. -/
import Derived.Test.YtdkicjlbfhmfkaaGreatDoorCiz
import Derived.Test.YtdkicjlbfhmfkaaGreatDoorW2
import Derived.Laws.Strings
/- PumpWords: what the seat's context answers at once. -/
set_option linter.unusedVariables false
set_option linter.unusedSimpArgs false
set_option maxRecDepth 10000
namespace CI
open Go
namespace Seat
theorem x_none (k : Nat) (h171 : (k == 171) = false) (h294 : (k == 294) = false) (h288 : (k == 288) = false) (h235 : (k == 235) = false) (h38 : (k == 38) = false) (h75 : (k == 75) = false) (args : List AV) : cx.X k args = none := by
  show extX4 Go.Proofs.Tryz.prog exts sums idents cons k args = none
  have e1 : exts.get k = none := by simp only [exts, Tr.get_put, if_neg (show k ≠ 171 by simpa using h171), if_neg (show k ≠ 294 by simpa using h294), if_neg (show k ≠ 288 by simpa using h288), Tr.get_nil]
  have e2 : sums.get k = none := by simp only [sums, Tr.get_put, if_neg (show k ≠ 38 by simpa using h38), Tr.get_nil]
  have e3 : idents.get k = none := by simp only [idents, Tr.get_put, if_neg (show k ≠ 235 by simpa using h235), Tr.get_nil]
  have e4 : cons.get k = none := by simp only [cons, Tr.get_put, if_neg (show k ≠ 75 by simpa using h75), Tr.get_nil]
  simp [extX4, extX3, extX2, extX, e1, e2, e3, e4]
theorem x_awake : cx.X 38 [] = some (.lit (.bool true)) := by kernel_rfl
end Seat
end CI
/- nat, walked: the small functions. -/
set_option linter.unusedVariables false
set_option linter.unusedSimpArgs false

namespace CI
open Go
namespace Seat
variable {H : Heap} {nx : Nat}
theorem conv_3_64 (a : Int) : convOp cx.P cx.T H nx 3 28 (.lit (.int .i64 a)) = some (.lit (.int .u64 (IntKind.u64.wrap a)), H, nx) := by kernel_rfl
theorem conv_64_3 (a : Int) : convOp cx.P cx.T H nx 28 3 (.lit (.int .u64 a)) = some (.lit (.int .i64 (IntKind.i64.wrap a)), H, nx) := by kernel_rfl
theorem x_add64 (x y c : Int) (hx : 0 ≤ x) (hy : 0 ≤ y) (hc : c = 0) : cx.X 171 [.lit (.int .u64 x), .lit (.int .u64 y), .lit (.int .u64 c)] = some (.lit (.tuple #[.int .u64 ((x + y) % 18446744073709551616), .int .u64 ((x + y) / 18446744073709551616)])) := by
  subst hc
  obtain ⟨x, rfl⟩ := Int.eq_ofNat_of_zero_le hx
  obtain ⟨y, rfl⟩ := Int.eq_ofNat_of_zero_le hy
  exact (show cx.X 171 [.lit (.int .u64 x), .lit (.int .u64 y), .lit (.int .u64 (0:Int))] = some (.lit (.tuple #[.int .u64 (((x + y + 0) % 18446744073709551616 : Nat) : Int), .int .u64 (((x + y + 0) / 18446744073709551616 : Nat) : Int)])) by kernel_rfl).trans (by simp)

theorem least_cl (a : Int) : Cl cx 172 [.lit (.int .i64 a)] H nx = some (.lit (.int .u64 (IntKind.u64.wrap (max a 0))), H, nx) := by
  refine wp172 _ _ _ _ (by simp) ?_
  unfold s172
  simp only [↓wpS_skip, ↓wpS_ops, ↓wpS_seq, ↓wpS_cond, ↓wpS_block, ↓wpS_loop, ↓wpS_exit, ↓wpS_ret, condW_bool, ↓WOps_go, ↓WOps_skip, WOps_nil, stepA, opA, convA, isCall, put?, ev, Tr.get_put, Tr.get_nil, builtinA, callA, argEnv, wantedS, abs_int, abs_bool, abs_string, abs_nilp, abs_nili, abs_nilf, abs_nilm, abs_nils, un_not, undef, z_none, List.zipIdx_cons, List.zipIdx_nil, List.foldl_cons, List.foldl_nil, List.map_cons, List.map_nil, List.map_toArray, List.nil_append, List.cons_append, List.append_nil, extractOp, List.getElem?_cons_zero, List.getElem?_cons_succ,
    Option.map_some, Option.map_none, Nat.reduceLT, Nat.reduceEqDiff, Nat.reduceAdd, Nat.zero_add, if_true, if_false, Option.getD_some, Option.getD_none, ↓reduceIte, Bool.false_eq_true, Bool.true_eq_false, reduceCtorEq, resA, resOf, Option.some.injEq, exists_eq_left', beq_self_eq_true, decide_true, decide_false, decide_eq_true_eq, ne_eq, not_true_eq_false, not_false_eq_true, Bool.not_eq_true, beq_iff_eq, bin_add, bin_sub, bin_mul, bin_eql, bin_neq, bin_lss, bin_leq, bin_gtr, bin_geq, maxA, minA, Prod.mk.injEq, and_true, true_and, beq_eq_false_iff_ne, decide_eq_false_iff_not, Bool.true_beq, Bool.false_beq, beq_true, beq_false, Bool.not_true, Bool.not_false, List.getElem?_toArray, conv_3_64]
theorem least_i {a : Int} (h : I64 a) : Cl cx 172 [.lit (.int .i64 a)] H nx = some (.lit (.int .u64 (max a 0)), H, nx) := by
  rw [least_cl, wrapU] <;> (have := h.2; omega)
theorem most_cl (hi lo : Int) : Cl cx 173 [.lit (.int .u64 hi), .lit (.int .u64 lo)] H nx = some (.lit (.int .i64 (if hi ≠ 0 ∨ lo > 9223372036854775807 then 9223372036854775807 else IntKind.i64.wrap lo)), H, nx) := by
  refine wp173 _ _ _ _ (by simp) ?_
  unfold s173
  by_cases h1 : hi = 0 <;> by_cases h2 : lo > 9223372036854775807 <;>
  simp only [↓wpS_skip, ↓wpS_ops, ↓wpS_seq, ↓wpS_cond, ↓wpS_block, ↓wpS_loop, ↓wpS_exit, ↓wpS_ret, condW_bool, ↓WOps_go, ↓WOps_skip, WOps_nil, stepA, opA, convA, isCall, put?, ev, Tr.get_put, Tr.get_nil, builtinA, callA, argEnv, wantedS, abs_int, abs_bool, abs_string, abs_nilp, abs_nili, abs_nilf, abs_nilm, abs_nils, un_not, undef, z_none, List.zipIdx_cons, List.zipIdx_nil, List.foldl_cons, List.foldl_nil, List.map_cons, List.map_nil, List.map_toArray, List.nil_append, List.cons_append, List.append_nil, extractOp, List.getElem?_cons_zero, List.getElem?_cons_succ,
    Option.map_some, Option.map_none, Nat.reduceLT, Nat.reduceEqDiff, Nat.reduceAdd, Nat.zero_add, if_true, if_false, Option.getD_some, Option.getD_none, ↓reduceIte, Bool.false_eq_true, Bool.true_eq_false, reduceCtorEq, resA, resOf, Option.some.injEq, exists_eq_left', beq_self_eq_true, decide_true, decide_false, decide_eq_true_eq, ne_eq, not_true_eq_false, not_false_eq_true, Bool.not_eq_true, beq_iff_eq, bin_add, bin_sub, bin_mul, bin_eql, bin_neq, bin_lss, bin_leq, bin_gtr, bin_geq, maxA, minA, Prod.mk.injEq, and_true, true_and, beq_eq_false_iff_ne, decide_eq_false_iff_not, Bool.true_beq, Bool.false_beq, beq_true, beq_false, Bool.not_true, Bool.not_false, List.getElem?_toArray, conv_64_3, h1, h2, or_true, true_or, or_false, false_or]
/-- The sum, that ends at the greatest number. -/
def satAdd (a b : Int) : Int := min (max a 0 + max b 0) 9223372036854775807
def satMul (a b : Int) : Int := min (max a 0 * max b 0) 9223372036854775807
theorem add_cl {a b : Int} (ha : I64 a) (hb : I64 b) : Cl cx 112 [.lit (.int .i64 a), .lit (.int .i64 b)] H nx = some (.lit (.int .i64 (satAdd a b)), H, nx) := by
  refine wp112 _ _ _ _ (by simp) ?_
  unfold s112
  simp only [↓wpS_skip, ↓wpS_ops, ↓wpS_seq, ↓wpS_cond, ↓wpS_block, ↓wpS_loop, ↓wpS_exit, ↓wpS_ret, condW_bool, ↓WOps_go, ↓WOps_skip, WOps_nil, stepA, opA, convA, isCall, put?, ev, Tr.get_put, Tr.get_nil, builtinA, callA, argEnv, wantedS, abs_int, abs_bool, abs_string, abs_nilp, abs_nili, abs_nilf, abs_nilm, abs_nils, un_not, undef, z_none, List.zipIdx_cons, List.zipIdx_nil, List.foldl_cons, List.foldl_nil, List.map_cons, List.map_nil, List.map_toArray, List.nil_append, List.cons_append, List.append_nil, extractOp, List.getElem?_cons_zero, List.getElem?_cons_succ,
    Option.map_some, Option.map_none, Nat.reduceLT, Nat.reduceEqDiff, Nat.reduceAdd, Nat.zero_add, if_true, if_false, Option.getD_some, Option.getD_none, ↓reduceIte, Bool.false_eq_true, Bool.true_eq_false, reduceCtorEq, resA, resOf, Option.some.injEq, exists_eq_left', beq_self_eq_true, decide_true, decide_false, decide_eq_true_eq, ne_eq, not_true_eq_false, not_false_eq_true, Bool.not_eq_true, beq_iff_eq, bin_add, bin_sub, bin_mul, bin_eql, bin_neq, bin_lss, bin_leq, bin_gtr, bin_geq, maxA, minA, Prod.mk.injEq, and_true, true_and, beq_eq_false_iff_ne, decide_eq_false_iff_not, Bool.true_beq, Bool.false_beq, beq_true, beq_false, Bool.not_true, Bool.not_false, List.getElem?_toArray, x_none, least_i ha, least_i hb, x_add64 _ _ _ (Int.le_max_right a 0) (Int.le_max_right b 0) rfl, most_cl]
  simp only [IntKind.wrap, IntKind.signed, IntKind.bits, Bool.true_and, decide_eq_true_eq, Nat.reduceSub, Int.reducePow, satAdd, ge_iff_le]
  obtain ⟨h1, h2⟩ := ha; obtain ⟨h3, h4⟩ := hb
  congr 2
  split <;> (try split) <;> omega
theorem mul64_cl {x y : Int} (hx : 0 ≤ x) (hx2 : x < 18446744073709551616) (hy : 0 ≤ y) (hy2 : y < 18446744073709551616) :
    Cl cx 174 [.lit (.int .u64 x), .lit (.int .u64 y)] H nx = some (.tuple [.lit (.int .u64 (x * y / 18446744073709551616)), .lit (.int .u64 (x * y % 18446744073709551616))], H, nx) := by
  refine wp174 _ _ _ _ (by simp) ?_
  unfold s174
  simp only [↓wpS_skip, ↓wpS_ops, ↓wpS_seq, ↓wpS_cond, ↓wpS_block, ↓wpS_loop, ↓wpS_exit, ↓wpS_ret, condW_bool, ↓WOps_go, ↓WOps_skip, WOps_nil, stepA, opA, convA, isCall, put?, ev, Tr.get_put, Tr.get_nil, builtinA, callA, argEnv, wantedS, abs_int, abs_bool, abs_string, abs_nilp, abs_nili, abs_nilf, abs_nilm, abs_nils, un_not, undef, z_none, List.zipIdx_cons, List.zipIdx_nil, List.foldl_cons, List.foldl_nil, List.map_cons, List.map_nil, List.map_toArray, List.nil_append, List.cons_append, List.append_nil, extractOp, List.getElem?_cons_zero, List.getElem?_cons_succ,
    Option.map_some, Option.map_none, Nat.reduceLT, Nat.reduceEqDiff, Nat.reduceAdd, Nat.zero_add, if_true, if_false, Option.getD_some, Option.getD_none, ↓reduceIte, Bool.false_eq_true, Bool.true_eq_false, reduceCtorEq, resA, resOf, Option.some.injEq, exists_eq_left', beq_self_eq_true, decide_true, decide_false, decide_eq_true_eq, ne_eq, not_true_eq_false, not_false_eq_true, Bool.not_eq_true, beq_iff_eq, bin_add, bin_sub, bin_mul, bin_eql, bin_neq, bin_lss, bin_leq, bin_gtr, bin_geq, maxA, minA, Prod.mk.injEq, and_true, true_and, beq_eq_false_iff_ne, decide_eq_false_iff_not, Bool.true_beq, Bool.false_beq, beq_true, beq_false, Bool.not_true, Bool.not_false, List.getElem?_toArray, bin_and32, bin_shr32, wrapU_eq, AV.tuple.injEq, List.cons.injEq, AV.lit.injEq, Value.int.injEq]
  obtain ⟨x0, hx0⟩ : ∃ x0, x % 4294967296 = x0 := ⟨_, rfl⟩
  obtain ⟨x1, hx1⟩ : ∃ x1, x / 4294967296 = x1 := ⟨_, rfl⟩
  obtain ⟨y0, hy0⟩ : ∃ y0, y % 4294967296 = y0 := ⟨_, rfl⟩
  obtain ⟨y1, hy1⟩ : ∃ y1, y / 4294967296 = y1 := ⟨_, rfl⟩
  have bx0 : 0 ≤ x0 ∧ x0 ≤ 4294967295 := by omega
  have bx1 : 0 ≤ x1 ∧ x1 ≤ 4294967295 := by omega
  have by0 : 0 ≤ y0 ∧ y0 ≤ 4294967295 := by omega
  have by1 : 0 ≤ y1 ∧ y1 ≤ 4294967295 := by omega
  have hxx : x = x1 * 4294967296 + x0 := by omega
  have hyy : y = y1 * 4294967296 + y0 := by omega
  have hp : x * y = (x1 * y1) * 18446744073709551616 + (x1 * y0 + x0 * y1) * 4294967296 + x0 * y0 := by
    rw [hxx, hyy]
    grind
  rw [hx0, hx1, hy0, hy1, hp]
  have b00 : 0 ≤ x0 * y0 ∧ x0 * y0 ≤ 4294967295 * 4294967295 := ⟨Int.mul_nonneg bx0.1 by0.1, Int.mul_le_mul bx0.2 by0.2 by0.1 (by decide)⟩
  have b10 : 0 ≤ x1 * y0 ∧ x1 * y0 ≤ 4294967295 * 4294967295 := ⟨Int.mul_nonneg bx1.1 by0.1, Int.mul_le_mul bx1.2 by0.2 by0.1 (by decide)⟩
  have b01 : 0 ≤ x0 * y1 ∧ x0 * y1 ≤ 4294967295 * 4294967295 := ⟨Int.mul_nonneg bx0.1 by1.1, Int.mul_le_mul bx0.2 by1.2 by1.1 (by decide)⟩
  have b11 : 0 ≤ x1 * y1 ∧ x1 * y1 ≤ 4294967295 * 4294967295 := ⟨Int.mul_nonneg bx1.1 by1.1, Int.mul_le_mul bx1.2 by1.2 by1.1 (by decide)⟩
  generalize x0 * y0 = p00 at *
  generalize x1 * y0 = p10 at *
  generalize x0 * y1 = p01 at *
  generalize x1 * y1 = p11 at *
  clear hxx hyy hp bx0 bx1 by0 by1 hx0 hx1 hy0 hy1
  omega
theorem mul_cl {a b : Int} (ha : I64 a) (hb : I64 b) : Cl cx 113 [.lit (.int .i64 a), .lit (.int .i64 b)] H nx = some (.lit (.int .i64 (satMul a b)), H, nx) := by
  refine wp113 _ _ _ _ (by simp) ?_
  unfold s113
  have hm := mul64_cl (H := H) (nx := nx) (Int.le_max_right a 0) (show max a 0 < 18446744073709551616 by have := ha.2; omega) (Int.le_max_right b 0) (show max b 0 < 18446744073709551616 by have := hb.2; omega)
  simp only [↓wpS_skip, ↓wpS_ops, ↓wpS_seq, ↓wpS_cond, ↓wpS_block, ↓wpS_loop, ↓wpS_exit, ↓wpS_ret, condW_bool, ↓WOps_go, ↓WOps_skip, WOps_nil, stepA, opA, convA, isCall, put?, ev, Tr.get_put, Tr.get_nil, builtinA, callA, argEnv, wantedS, abs_int, abs_bool, abs_string, abs_nilp, abs_nili, abs_nilf, abs_nilm, abs_nils, un_not, undef, z_none, List.zipIdx_cons, List.zipIdx_nil, List.foldl_cons, List.foldl_nil, List.map_cons, List.map_nil, List.map_toArray, List.nil_append, List.cons_append, List.append_nil, extractOp, List.getElem?_cons_zero, List.getElem?_cons_succ,
    Option.map_some, Option.map_none, Nat.reduceLT, Nat.reduceEqDiff, Nat.reduceAdd, Nat.zero_add, if_true, if_false, Option.getD_some, Option.getD_none, ↓reduceIte, Bool.false_eq_true, Bool.true_eq_false, reduceCtorEq, resA, resOf, Option.some.injEq, exists_eq_left', beq_self_eq_true, decide_true, decide_false, decide_eq_true_eq, ne_eq, not_true_eq_false, not_false_eq_true, Bool.not_eq_true, beq_iff_eq, bin_add, bin_sub, bin_mul, bin_eql, bin_neq, bin_lss, bin_leq, bin_gtr, bin_geq, maxA, minA, Prod.mk.injEq, and_true, true_and, beq_eq_false_iff_ne, decide_eq_false_iff_not, Bool.true_beq, Bool.false_beq, beq_true, beq_false, Bool.not_true, Bool.not_false, List.getElem?_toArray, x_none, least_i ha, least_i hb, hm, most_cl]
  have hp : 0 ≤ max a 0 * max b 0 := Int.mul_nonneg (by omega) (by omega)
  simp only [satMul]
  generalize max a 0 * max b 0 = p at *
  congr 2
  split
  · omega
  · rw [wrapI] <;> first | constructor | skip
    all_goals omega
theorem full_cl (a : Int) : Cl cx 169 [.lit (.int .i64 a)] H nx = some (.lit (.bool (decide (a = 9223372036854775807))), H, nx) := by
  refine wp169 _ _ _ _ (by simp) ?_
  unfold s169
  simp only [↓wpS_skip, ↓wpS_ops, ↓wpS_seq, ↓wpS_cond, ↓wpS_block, ↓wpS_loop, ↓wpS_exit, ↓wpS_ret, condW_bool, ↓WOps_go, ↓WOps_skip, WOps_nil, stepA, opA, convA, isCall, put?, ev, Tr.get_put, Tr.get_nil, builtinA, callA, argEnv, wantedS, abs_int, abs_bool, abs_string, abs_nilp, abs_nili, abs_nilf, abs_nilm, abs_nils, un_not, undef, z_none, List.zipIdx_cons, List.zipIdx_nil, List.foldl_cons, List.foldl_nil, List.map_cons, List.map_nil, List.map_toArray, List.nil_append, List.cons_append, List.append_nil, extractOp, List.getElem?_cons_zero, List.getElem?_cons_succ,
    Option.map_some, Option.map_none, Nat.reduceLT, Nat.reduceEqDiff, Nat.reduceAdd, Nat.zero_add, if_true, if_false, Option.getD_some, Option.getD_none, ↓reduceIte, Bool.false_eq_true, Bool.true_eq_false, reduceCtorEq, resA, resOf, Option.some.injEq, exists_eq_left', beq_self_eq_true, decide_true, decide_false, decide_eq_true_eq, ne_eq, not_true_eq_false, not_false_eq_true, Bool.not_eq_true, beq_iff_eq, bin_add, bin_sub, bin_mul, bin_eql, bin_neq, bin_lss, bin_leq, bin_gtr, bin_geq, maxA, minA, Prod.mk.injEq, and_true, true_and, beq_eq_false_iff_ne, decide_eq_false_iff_not, Bool.true_beq, Bool.false_beq, beq_true, beq_false, Bool.not_true, Bool.not_false, List.getElem?_toArray]
theorem satAdd_range (a b : Int) : 0 ≤ satAdd a b ∧ satAdd a b ≤ 9223372036854775807 := by unfold satAdd; omega
theorem satMul_range (a b : Int) : 0 ≤ satMul a b ∧ satMul a b ≤ 9223372036854775807 := by
  have hp : 0 ≤ max a 0 * max b 0 := Int.mul_nonneg (by omega) (by omega)
  unfold satMul; omega
theorem satAdd_i (a b : Int) : I64 (satAdd a b) := by have := satAdd_range a b; constructor <;> omega
theorem satMul_i (a b : Int) : I64 (satMul a b) := by have := satMul_range a b; constructor <;> omega
theorem refMul_cl {a b : Int} (ha : I64 a) (hb : I64 b) : Cl cx 76 [.lit (.int .i64 a), .lit (.int .i64 b)] H nx = some (.lit (.int .i64 (satMul a b)), H, nx) := by
  refine wp76 _ _ _ _ (by simp) ?_
  unfold s76
  obtain ⟨h1, h2⟩ := ha; obtain ⟨h3, h4⟩ := hb
  by_cases ha0 : max a 0 = 0
  · simp only [↓wpS_skip, ↓wpS_ops, ↓wpS_seq, ↓wpS_cond, ↓wpS_block, ↓wpS_loop, ↓wpS_exit, ↓wpS_ret, condW_bool, ↓WOps_go, ↓WOps_skip, WOps_nil, stepA, opA, convA, isCall, put?, ev, Tr.get_put, Tr.get_nil, builtinA, callA, argEnv, wantedS, abs_int, abs_bool, abs_string, abs_nilp, abs_nili, abs_nilf, abs_nilm, abs_nils, un_not, undef, z_none, List.zipIdx_cons, List.zipIdx_nil, List.foldl_cons, List.foldl_nil, List.map_cons, List.map_nil, List.map_toArray, List.nil_append, List.cons_append, List.append_nil, extractOp, List.getElem?_cons_zero, List.getElem?_cons_succ,
    Option.map_some, Option.map_none, Nat.reduceLT, Nat.reduceEqDiff, Nat.reduceAdd, Nat.zero_add, if_true, if_false, Option.getD_some, Option.getD_none, ↓reduceIte, Bool.false_eq_true, Bool.true_eq_false, reduceCtorEq, resA, resOf, Option.some.injEq, exists_eq_left', beq_self_eq_true, decide_true, decide_false, decide_eq_true_eq, ne_eq, not_true_eq_false, not_false_eq_true, Bool.not_eq_true, beq_iff_eq, bin_add, bin_sub, bin_mul, bin_eql, bin_neq, bin_lss, bin_leq, bin_gtr, bin_geq, maxA, minA, Prod.mk.injEq, and_true, true_and, beq_eq_false_iff_ne, decide_eq_false_iff_not, Bool.true_beq, Bool.false_beq, beq_true, beq_false, Bool.not_true, Bool.not_false, List.getElem?_toArray, x_none, ha0, satMul, or_true, true_or, Int.zero_mul]
    rfl
  · by_cases hb0 : max b 0 = 0
    · simp only [↓wpS_skip, ↓wpS_ops, ↓wpS_seq, ↓wpS_cond, ↓wpS_block, ↓wpS_loop, ↓wpS_exit, ↓wpS_ret, condW_bool, ↓WOps_go, ↓WOps_skip, WOps_nil, stepA, opA, convA, isCall, put?, ev, Tr.get_put, Tr.get_nil, builtinA, callA, argEnv, wantedS, abs_int, abs_bool, abs_string, abs_nilp, abs_nili, abs_nilf, abs_nilm, abs_nils, un_not, undef, z_none, List.zipIdx_cons, List.zipIdx_nil, List.foldl_cons, List.foldl_nil, List.map_cons, List.map_nil, List.map_toArray, List.nil_append, List.cons_append, List.append_nil, extractOp, List.getElem?_cons_zero, List.getElem?_cons_succ,
    Option.map_some, Option.map_none, Nat.reduceLT, Nat.reduceEqDiff, Nat.reduceAdd, Nat.zero_add, if_true, if_false, Option.getD_some, Option.getD_none, ↓reduceIte, Bool.false_eq_true, Bool.true_eq_false, reduceCtorEq, resA, resOf, Option.some.injEq, exists_eq_left', beq_self_eq_true, decide_true, decide_false, decide_eq_true_eq, ne_eq, not_true_eq_false, not_false_eq_true, Bool.not_eq_true, beq_iff_eq, bin_add, bin_sub, bin_mul, bin_eql, bin_neq, bin_lss, bin_leq, bin_gtr, bin_geq, maxA, minA, Prod.mk.injEq, and_true, true_and, beq_eq_false_iff_ne, decide_eq_false_iff_not, Bool.true_beq, Bool.false_beq, beq_true, beq_false, Bool.not_true, Bool.not_false, List.getElem?_toArray, x_none, ha0, hb0, satMul, Int.mul_zero]
      rfl
    · have hq : IntKind.i64.wrap (Int.tdiv 9223372036854775807 (max b 0)) = 9223372036854775807 / max b 0 := by
        rw [Int.tdiv_eq_ediv_of_nonneg (by decide), wrapI]
        have := Int.ediv_le_self (max b 0) (show (0:Int) ≤ 9223372036854775807 by decide)
        have := Int.ediv_nonneg (show (0:Int) ≤ 9223372036854775807 by decide) (show 0 ≤ max b 0 by omega)
        constructor <;> omega
      have hle : max a 0 > 9223372036854775807 / max b 0 ↔ 9223372036854775807 < max a 0 * max b 0 := Int.ediv_lt_iff_lt_mul (by omega)
      by_cases hc : max a 0 > 9223372036854775807 / max b 0
      · simp only [↓wpS_skip, ↓wpS_ops, ↓wpS_seq, ↓wpS_cond, ↓wpS_block, ↓wpS_loop, ↓wpS_exit, ↓wpS_ret, condW_bool, ↓WOps_go, ↓WOps_skip, WOps_nil, stepA, opA, convA, isCall, put?, ev, Tr.get_put, Tr.get_nil, builtinA, callA, argEnv, wantedS, abs_int, abs_bool, abs_string, abs_nilp, abs_nili, abs_nilf, abs_nilm, abs_nils, un_not, undef, z_none, List.zipIdx_cons, List.zipIdx_nil, List.foldl_cons, List.foldl_nil, List.map_cons, List.map_nil, List.map_toArray, List.nil_append, List.cons_append, List.append_nil, extractOp, List.getElem?_cons_zero, List.getElem?_cons_succ,
    Option.map_some, Option.map_none, Nat.reduceLT, Nat.reduceEqDiff, Nat.reduceAdd, Nat.zero_add, if_true, if_false, Option.getD_some, Option.getD_none, ↓reduceIte, Bool.false_eq_true, Bool.true_eq_false, reduceCtorEq, resA, resOf, Option.some.injEq, exists_eq_left', beq_self_eq_true, decide_true, decide_false, decide_eq_true_eq, ne_eq, not_true_eq_false, not_false_eq_true, Bool.not_eq_true, beq_iff_eq, bin_add, bin_sub, bin_mul, bin_eql, bin_neq, bin_lss, bin_leq, bin_gtr, bin_geq, maxA, minA, Prod.mk.injEq, and_true, true_and, beq_eq_false_iff_ne, decide_eq_false_iff_not, Bool.true_beq, Bool.false_beq, beq_true, beq_false, Bool.not_true, Bool.not_false, List.getElem?_toArray, x_none, ha0, hb0, bin_quo _ _ _ _ _ _ _ _ hb0, hq, hc, satMul]
        have := hle.1 hc
        congr 2; omega
      · have hn : ¬ 9223372036854775807 < max a 0 * max b 0 := fun h => hc (hle.2 h)
        have hp : 0 ≤ max a 0 * max b 0 := Int.mul_nonneg (by omega) (by omega)
        have w2 : IntKind.i64.wrap (max a 0 * max b 0) = max a 0 * max b 0 := wrapI (by constructor <;> omega)
        simp only [↓wpS_skip, ↓wpS_ops, ↓wpS_seq, ↓wpS_cond, ↓wpS_block, ↓wpS_loop, ↓wpS_exit, ↓wpS_ret, condW_bool, ↓WOps_go, ↓WOps_skip, WOps_nil, stepA, opA, convA, isCall, put?, ev, Tr.get_put, Tr.get_nil, builtinA, callA, argEnv, wantedS, abs_int, abs_bool, abs_string, abs_nilp, abs_nili, abs_nilf, abs_nilm, abs_nils, un_not, undef, z_none, List.zipIdx_cons, List.zipIdx_nil, List.foldl_cons, List.foldl_nil, List.map_cons, List.map_nil, List.map_toArray, List.nil_append, List.cons_append, List.append_nil, extractOp, List.getElem?_cons_zero, List.getElem?_cons_succ,
    Option.map_some, Option.map_none, Nat.reduceLT, Nat.reduceEqDiff, Nat.reduceAdd, Nat.zero_add, if_true, if_false, Option.getD_some, Option.getD_none, ↓reduceIte, Bool.false_eq_true, Bool.true_eq_false, reduceCtorEq, resA, resOf, Option.some.injEq, exists_eq_left', beq_self_eq_true, decide_true, decide_false, decide_eq_true_eq, ne_eq, not_true_eq_false, not_false_eq_true, Bool.not_eq_true, beq_iff_eq, bin_add, bin_sub, bin_mul, bin_eql, bin_neq, bin_lss, bin_leq, bin_gtr, bin_geq, maxA, minA, Prod.mk.injEq, and_true, true_and, beq_eq_false_iff_ne, decide_eq_false_iff_not, Bool.true_beq, Bool.false_beq, beq_true, beq_false, Bool.not_true, Bool.not_false, List.getElem?_toArray, x_none, ha0, hb0, bin_quo _ _ _ _ _ _ _ _ hb0, hq, hc, w2, satMul]
        congr 2; omega
end Seat
end CI
/- nat, walked: sums and products of lists. -/
set_option linter.unusedVariables false
set_option linter.unusedSimpArgs false
namespace CI
open Go
/-- A slice of integers, and what it holds. -/
def Ints (H : Heap) (s : AV) (l : List Int) : Prop :=
  (∀ x ∈ l, I64 x) ∧ l.length < 9223372036854775808 ∧ ((∃ b o c cs t ro, s = .slice b o l.length c 1 ∧ H.get b = some (.cells cs t ro) ∧ ∀ (i : Nat) (x : Int), l[i]? = some x → cs[o + i]? = some (.lit (.int .i64 x))) ∨ ((s = .eslice ∨ s = .lit (.slice none 0 0)) ∧ l = []))
namespace Seat
variable {H : Heap} {nx : Nat}
theorem i64_0 : I64 0 := ⟨by decide, by decide⟩
theorem i64_1 : I64 1 := ⟨by decide, by decide⟩
theorem T40 : cx.T.get 40 = some ti40 := by kernel_rfl
theorem T3 : cx.T.get 3 = some ti3 := by kernel_rfl
theorem ints_len {s : AV} {l : List Int} (h : Ints H s l) {H' : Heap} : lenOp cx.T H' 40 s = some l.length := by
  unfold lenOp
  rw [T40]
  obtain ⟨_, _, ⟨b, o, c, cs, t, ro, rfl, _⟩ | ⟨rfl | rfl, rfl⟩⟩ := h <;> rfl
theorem ints_at {s : AV} {l : List Int} (h : Ints H s l) {i : Nat} {x : Int} (hi : l[i]? = some x) : ∃ p, indexAddrOp cx.T 40 s (.lit (.int .i64 i)) = some p ∧ loadOp cx.T H 3 p = some (.lit (.int .i64 x)) := by
  obtain ⟨_, _, ⟨b, o, c, cs, t, ro, rfl, hb, hc⟩ | ⟨_, rfl⟩⟩ := h
  · have hlt : i < l.length := by
      rcases Nat.lt_or_ge i l.length with h | h
      · exact h
      · rw [List.getElem?_eq_none h] at hi; cases hi
    refine ⟨.ptr b (o + i), ?_, ?_⟩
    · unfold indexAddrOp
      simp only [T40, ti40, T3, ti3]
      rw [if_pos ⟨by omega, by omega, trivial⟩]
      simp
    · unfold loadOp
      simp only [T3, ti3, hb]
      have := hc i x hi
      have hlt2 : o + i < cs.length := by
        rcases Nat.lt_or_ge (o + i) cs.length with h | h
        · exact h
        · rw [List.getElem?_eq_none h] at this; cases this
      show (cut cs (o + i) 1).bind (·[0]?) = _
      simp only [cut]
      rw [if_pos (by omega)]
      simp [this]
  · simp at hi
theorem fold_cl {k : Nat} {f : Int → Int → Int} (hk : ∀ {a b : Int}, I64 a → I64 b → Cl cx k [.lit (.int .i64 a), .lit (.int .i64 b)] H nx = some (.lit (.int .i64 (f a b)), H, nx)) (hx : ∀ args, cx.X k args = none) (hf : ∀ a b, I64 (f a b))
    {s : AV} {l : List Int} (hl : Ints H s l) {a : Int} (ha : I64 a) : Cl cx 111 [.lit (.int .i64 a), s, .func (.func k) [] []] H nx = some (.lit (.int .i64 (l.foldl f a)), H, nx) := by
  refine wp111 _ _ _ _ (by simp) ?_
  unfold s111
  simp only [↓wpS_skip, ↓wpS_ops, ↓wpS_seq, ↓wpS_cond, ↓wpS_block, ↓wpS_loop, ↓wpS_exit, ↓wpS_ret, condW_bool, ↓WOps_go, ↓WOps_skip, WOps_nil, stepA, opA, convA, isCall, put?, ev, Tr.get_put, Tr.get_nil, builtinA, callA, argEnv, wantedS, abs_int, abs_bool, abs_string, abs_nilp, abs_nili, abs_nilf, abs_nilm, abs_nils, un_not, undef, z_none, List.zipIdx_cons, List.zipIdx_nil, List.foldl_cons, List.foldl_nil, List.map_cons, List.map_nil, List.map_toArray, List.nil_append, List.cons_append, List.append_nil, extractOp, List.getElem?_cons_zero, List.getElem?_cons_succ,
    Option.map_some, Option.map_none, Nat.reduceLT, Nat.reduceEqDiff, Nat.reduceAdd, Nat.zero_add, if_true, if_false, Option.getD_some, Option.getD_none, ↓reduceIte, Bool.false_eq_true, Bool.true_eq_false, reduceCtorEq, resA, resOf, Option.some.injEq, exists_eq_left', beq_self_eq_true, decide_true, decide_false, decide_eq_true_eq, ne_eq, not_true_eq_false, not_false_eq_true, Bool.not_eq_true, beq_iff_eq, bin_add, bin_sub, bin_mul, bin_eql, bin_neq, bin_lss, bin_leq, bin_gtr, bin_geq, maxA, minA, Prod.mk.injEq, and_true, true_and, beq_eq_false_iff_ne, decide_eq_false_iff_not, Bool.true_beq, Bool.false_beq, beq_true, beq_false, Bool.not_true, Bool.not_false, List.getElem?_toArray, ints_len hl]
  refine Wp_loop (fun n st => ∃ (i : Nat) (acc : Int), n = l.length - i ∧ i ≤ l.length ∧ I64 acc ∧ (l.drop i).foldl f acc = l.foldl f a ∧ st.H = H ∧ st.nx = nx ∧ st.env.get 0 = some (.lit (.int .i64 acc)) ∧ st.env.get 2 = some (.func (.func k) [] []) ∧
    st.env.get 9 = some s ∧ st.env.get 10 = some (.lit (.int .i64 l.length)) ∧ st.env.get 11 = some (.lit (.int .i64 i))) ?_ l.length _ ⟨0, a, ?_⟩
  · rintro n ⟨E, H1, nx1⟩ ⟨i, acc, hn, hi, hacc, hfold, e1, e2, h0, h2, h9, h10, h11⟩
    simp only at e1 e2; subst e1; subst e2
    refine Wp_of ?_
    unfold s111_l0
    by_cases hlt : i < l.length
    · obtain ⟨p, hp1, hp2⟩ := ints_at hl (List.getElem?_eq_getElem hlt)
      have hw : IntKind.i64.wrap ((i : Int) + 1) = ((i + 1 : Nat) : Int) := by
        rw [wrapI]; · rfl
        have := hl.2.1
        constructor <;> omega
      have hg : I64 l[i] := hl.1 _ (List.getElem_mem hlt)
      simp only [↓wpS_skip, ↓wpS_ops, ↓wpS_seq, ↓wpS_cond, ↓wpS_block, ↓wpS_loop, ↓wpS_exit, ↓wpS_ret, condW_bool, ↓WOps_go, ↓WOps_skip, WOps_nil, stepA, opA, convA, isCall, put?, ev, Tr.get_put, Tr.get_nil, builtinA, callA, argEnv, wantedS, abs_int, abs_bool, abs_string, abs_nilp, abs_nili, abs_nilf, abs_nilm, abs_nils, un_not, undef, z_none, List.zipIdx_cons, List.zipIdx_nil, List.foldl_cons, List.foldl_nil, List.map_cons, List.map_nil, List.map_toArray, List.nil_append, List.cons_append, List.append_nil, extractOp, List.getElem?_cons_zero, List.getElem?_cons_succ,
    Option.map_some, Option.map_none, Nat.reduceLT, Nat.reduceEqDiff, Nat.reduceAdd, Nat.zero_add, if_true, if_false, Option.getD_some, Option.getD_none, ↓reduceIte, Bool.false_eq_true, Bool.true_eq_false, reduceCtorEq, resA, resOf, Option.some.injEq, exists_eq_left', beq_self_eq_true, decide_true, decide_false, decide_eq_true_eq, ne_eq, not_true_eq_false, not_false_eq_true, Bool.not_eq_true, beq_iff_eq, bin_add, bin_sub, bin_mul, bin_eql, bin_neq, bin_lss, bin_leq, bin_gtr, bin_geq, maxA, minA, Prod.mk.injEq, and_true, true_and, beq_eq_false_iff_ne, decide_eq_false_iff_not, Bool.true_beq, Bool.false_beq, beq_true, beq_false, Bool.not_true, Bool.not_false, List.getElem?_toArray, hx, h0, h2, h9, h10, h11, hp1, hp2, Int.ofNat_lt, hlt, hk hacc hg, hw]
      refine ⟨l.length - (i + 1), by omega, i + 1, f acc l[i], rfl, by omega, hf _ _, ?_, rfl, rfl⟩
      rw [← hfold, List.drop_eq_getElem_cons hlt, List.foldl_cons]
    · have : i = l.length := by omega
      subst this
      simp only [↓wpS_skip, ↓wpS_ops, ↓wpS_seq, ↓wpS_cond, ↓wpS_block, ↓wpS_loop, ↓wpS_exit, ↓wpS_ret, condW_bool, ↓WOps_go, ↓WOps_skip, WOps_nil, stepA, opA, convA, isCall, put?, ev, Tr.get_put, Tr.get_nil, builtinA, callA, argEnv, wantedS, abs_int, abs_bool, abs_string, abs_nilp, abs_nili, abs_nilf, abs_nilm, abs_nils, un_not, undef, z_none, List.zipIdx_cons, List.zipIdx_nil, List.foldl_cons, List.foldl_nil, List.map_cons, List.map_nil, List.map_toArray, List.nil_append, List.cons_append, List.append_nil, extractOp, List.getElem?_cons_zero, List.getElem?_cons_succ,
    Option.map_some, Option.map_none, Nat.reduceLT, Nat.reduceEqDiff, Nat.reduceAdd, Nat.zero_add, if_true, if_false, Option.getD_some, Option.getD_none, ↓reduceIte, Bool.false_eq_true, Bool.true_eq_false, reduceCtorEq, resA, resOf, Option.some.injEq, exists_eq_left', beq_self_eq_true, decide_true, decide_false, decide_eq_true_eq, ne_eq, not_true_eq_false, not_false_eq_true, Bool.not_eq_true, beq_iff_eq, bin_add, bin_sub, bin_mul, bin_eql, bin_neq, bin_lss, bin_leq, bin_gtr, bin_geq, maxA, minA, Prod.mk.injEq, and_true, true_and, beq_eq_false_iff_ne, decide_eq_false_iff_not, Bool.true_beq, Bool.false_beq, beq_true, beq_false, Bool.not_true, Bool.not_false, List.getElem?_toArray, hx, h0, h2, h9, h10, h11, Int.ofNat_lt, Nat.lt_irrefl]
      simpa using hfold.symm
  · simp only [↓wpS_skip, ↓wpS_ops, ↓wpS_seq, ↓wpS_cond, ↓wpS_block, ↓wpS_loop, ↓wpS_exit, ↓wpS_ret, condW_bool, ↓WOps_go, ↓WOps_skip, WOps_nil, stepA, opA, convA, isCall, put?, ev, Tr.get_put, Tr.get_nil, builtinA, callA, argEnv, wantedS, abs_int, abs_bool, abs_string, abs_nilp, abs_nili, abs_nilf, abs_nilm, abs_nils, un_not, undef, z_none, List.zipIdx_cons, List.zipIdx_nil, List.foldl_cons, List.foldl_nil, List.map_cons, List.map_nil, List.map_toArray, List.nil_append, List.cons_append, List.append_nil, extractOp, List.getElem?_cons_zero, List.getElem?_cons_succ,
    Option.map_some, Option.map_none, Nat.reduceLT, Nat.reduceEqDiff, Nat.reduceAdd, Nat.zero_add, if_true, if_false, Option.getD_some, Option.getD_none, ↓reduceIte, Bool.false_eq_true, Bool.true_eq_false, reduceCtorEq, resA, resOf, Option.some.injEq, exists_eq_left', beq_self_eq_true, decide_true, decide_false, decide_eq_true_eq, ne_eq, not_true_eq_false, not_false_eq_true, Bool.not_eq_true, beq_iff_eq, bin_add, bin_sub, bin_mul, bin_eql, bin_neq, bin_lss, bin_leq, bin_gtr, bin_geq, maxA, minA, Prod.mk.injEq, and_true, true_and, beq_eq_false_iff_ne, decide_eq_false_iff_not, Bool.true_beq, Bool.false_beq, beq_true, beq_false, Bool.not_true, Bool.not_false, List.getElem?_toArray]
    refine ⟨by omega, by omega, ha, ?_⟩
    simp
theorem sum_cl {s : AV} {l : List Int} (hl : Ints H s l) : Cl cx 54 [s] H nx = some (.lit (.int .i64 (l.foldl satAdd 0)), H, nx) := by
  refine wp54 _ _ _ _ (by simp) ?_
  unfold s54
  simp only [↓wpS_skip, ↓wpS_ops, ↓wpS_seq, ↓wpS_cond, ↓wpS_block, ↓wpS_loop, ↓wpS_exit, ↓wpS_ret, condW_bool, ↓WOps_go, ↓WOps_skip, WOps_nil, stepA, opA, convA, isCall, put?, ev, Tr.get_put, Tr.get_nil, builtinA, callA, argEnv, wantedS, abs_int, abs_bool, abs_string, abs_nilp, abs_nili, abs_nilf, abs_nilm, abs_nils, un_not, undef, z_none, List.zipIdx_cons, List.zipIdx_nil, List.foldl_cons, List.foldl_nil, List.map_cons, List.map_nil, List.map_toArray, List.nil_append, List.cons_append, List.append_nil, extractOp, List.getElem?_cons_zero, List.getElem?_cons_succ,
    Option.map_some, Option.map_none, Nat.reduceLT, Nat.reduceEqDiff, Nat.reduceAdd, Nat.zero_add, if_true, if_false, Option.getD_some, Option.getD_none, ↓reduceIte, Bool.false_eq_true, Bool.true_eq_false, reduceCtorEq, resA, resOf, Option.some.injEq, exists_eq_left', beq_self_eq_true, decide_true, decide_false, decide_eq_true_eq, ne_eq, not_true_eq_false, not_false_eq_true, Bool.not_eq_true, beq_iff_eq, bin_add, bin_sub, bin_mul, bin_eql, bin_neq, bin_lss, bin_leq, bin_gtr, bin_geq, maxA, minA, Prod.mk.injEq, and_true, true_and, beq_eq_false_iff_ne, decide_eq_false_iff_not, Bool.true_beq, Bool.false_beq, beq_true, beq_false, Bool.not_true, Bool.not_false, List.getElem?_toArray, x_none, fold_cl (k := 112) add_cl (x_none 112 rfl rfl rfl rfl rfl rfl) satAdd_i hl i64_0]
theorem addv_cl {s : AV} {l : List Int} (hl : Ints H s l) : Cl cx 74 [s] H nx = some (.lit (.int .i64 (l.foldl satAdd 0)), H, nx) := by
  refine wp74 _ _ _ _ (by simp) ?_
  unfold s74
  simp only [↓wpS_skip, ↓wpS_ops, ↓wpS_seq, ↓wpS_cond, ↓wpS_block, ↓wpS_loop, ↓wpS_exit, ↓wpS_ret, condW_bool, ↓WOps_go, ↓WOps_skip, WOps_nil, stepA, opA, convA, isCall, put?, ev, Tr.get_put, Tr.get_nil, builtinA, callA, argEnv, wantedS, abs_int, abs_bool, abs_string, abs_nilp, abs_nili, abs_nilf, abs_nilm, abs_nils, un_not, undef, z_none, List.zipIdx_cons, List.zipIdx_nil, List.foldl_cons, List.foldl_nil, List.map_cons, List.map_nil, List.map_toArray, List.nil_append, List.cons_append, List.append_nil, extractOp, List.getElem?_cons_zero, List.getElem?_cons_succ,
    Option.map_some, Option.map_none, Nat.reduceLT, Nat.reduceEqDiff, Nat.reduceAdd, Nat.zero_add, if_true, if_false, Option.getD_some, Option.getD_none, ↓reduceIte, Bool.false_eq_true, Bool.true_eq_false, reduceCtorEq, resA, resOf, Option.some.injEq, exists_eq_left', beq_self_eq_true, decide_true, decide_false, decide_eq_true_eq, ne_eq, not_true_eq_false, not_false_eq_true, Bool.not_eq_true, beq_iff_eq, bin_add, bin_sub, bin_mul, bin_eql, bin_neq, bin_lss, bin_leq, bin_gtr, bin_geq, maxA, minA, Prod.mk.injEq, and_true, true_and, beq_eq_false_iff_ne, decide_eq_false_iff_not, Bool.true_beq, Bool.false_beq, beq_true, beq_false, Bool.not_true, Bool.not_false, List.getElem?_toArray, x_none, fold_cl (k := 112) add_cl (x_none 112 rfl rfl rfl rfl rfl rfl) satAdd_i hl i64_0]
theorem mulv_cl {s : AV} {l : List Int} (hl : Ints H s l) : Cl cx 56 [s] H nx = some (.lit (.int .i64 (if ∃ x ∈ l, x ≤ 0 then 0 else l.foldl satMul 1)), H, nx) := by
  refine wp56 _ _ _ _ (by simp) ?_
  unfold s56
  simp only [↓wpS_skip, ↓wpS_ops, ↓wpS_seq, ↓wpS_cond, ↓wpS_block, ↓wpS_loop, ↓wpS_exit, ↓wpS_ret, condW_bool, ↓WOps_go, ↓WOps_skip, WOps_nil, stepA, opA, convA, isCall, put?, ev, Tr.get_put, Tr.get_nil, builtinA, callA, argEnv, wantedS, abs_int, abs_bool, abs_string, abs_nilp, abs_nili, abs_nilf, abs_nilm, abs_nils, un_not, undef, z_none, List.zipIdx_cons, List.zipIdx_nil, List.foldl_cons, List.foldl_nil, List.map_cons, List.map_nil, List.map_toArray, List.nil_append, List.cons_append, List.append_nil, extractOp, List.getElem?_cons_zero, List.getElem?_cons_succ,
    Option.map_some, Option.map_none, Nat.reduceLT, Nat.reduceEqDiff, Nat.reduceAdd, Nat.zero_add, if_true, if_false, Option.getD_some, Option.getD_none, ↓reduceIte, Bool.false_eq_true, Bool.true_eq_false, reduceCtorEq, resA, resOf, Option.some.injEq, exists_eq_left', beq_self_eq_true, decide_true, decide_false, decide_eq_true_eq, ne_eq, not_true_eq_false, not_false_eq_true, Bool.not_eq_true, beq_iff_eq, bin_add, bin_sub, bin_mul, bin_eql, bin_neq, bin_lss, bin_leq, bin_gtr, bin_geq, maxA, minA, Prod.mk.injEq, and_true, true_and, beq_eq_false_iff_ne, decide_eq_false_iff_not, Bool.true_beq, Bool.false_beq, beq_true, beq_false, Bool.not_true, Bool.not_false, List.getElem?_toArray, ints_len hl]
  refine Wp_loop (fun n st => ∃ (i : Nat), n = l.length - i ∧ i ≤ l.length ∧ (∀ x ∈ l.take i, ¬ x ≤ 0) ∧ st.H = H ∧ st.nx = nx ∧ st.env.get 0 = some s ∧
    st.env.get 5 = some s ∧ st.env.get 6 = some (.lit (.int .i64 l.length)) ∧ st.env.get 7 = some (.lit (.int .i64 i))) ?_ l.length _ ⟨0, ?_⟩
  · rintro n ⟨E, H1, nx1⟩ ⟨i, hn, hi, hpos, e1, e2, h0, h5, h6, h7⟩
    simp only at e1 e2; subst e1; subst e2
    refine Wp_of ?_
    unfold s56_l0
    by_cases hlt : i < l.length
    · obtain ⟨p, hp1, hp2⟩ := ints_at hl (List.getElem?_eq_getElem hlt)
      have hw : IntKind.i64.wrap ((i : Int) + 1) = ((i + 1 : Nat) : Int) := by
        rw [wrapI]; · rfl
        have := hl.2.1
        constructor <;> omega
      by_cases hz : l[i] ≤ 0
      · have hex : ∃ x ∈ l, x ≤ 0 := ⟨_, List.getElem_mem hlt, hz⟩
        simp only [↓wpS_skip, ↓wpS_ops, ↓wpS_seq, ↓wpS_cond, ↓wpS_block, ↓wpS_loop, ↓wpS_exit, ↓wpS_ret, condW_bool, ↓WOps_go, ↓WOps_skip, WOps_nil, stepA, opA, convA, isCall, put?, ev, Tr.get_put, Tr.get_nil, builtinA, callA, argEnv, wantedS, abs_int, abs_bool, abs_string, abs_nilp, abs_nili, abs_nilf, abs_nilm, abs_nils, un_not, undef, z_none, List.zipIdx_cons, List.zipIdx_nil, List.foldl_cons, List.foldl_nil, List.map_cons, List.map_nil, List.map_toArray, List.nil_append, List.cons_append, List.append_nil, extractOp, List.getElem?_cons_zero, List.getElem?_cons_succ,
    Option.map_some, Option.map_none, Nat.reduceLT, Nat.reduceEqDiff, Nat.reduceAdd, Nat.zero_add, if_true, if_false, Option.getD_some, Option.getD_none, ↓reduceIte, Bool.false_eq_true, Bool.true_eq_false, reduceCtorEq, resA, resOf, Option.some.injEq, exists_eq_left', beq_self_eq_true, decide_true, decide_false, decide_eq_true_eq, ne_eq, not_true_eq_false, not_false_eq_true, Bool.not_eq_true, beq_iff_eq, bin_add, bin_sub, bin_mul, bin_eql, bin_neq, bin_lss, bin_leq, bin_gtr, bin_geq, maxA, minA, Prod.mk.injEq, and_true, true_and, beq_eq_false_iff_ne, decide_eq_false_iff_not, Bool.true_beq, Bool.false_beq, beq_true, beq_false, Bool.not_true, Bool.not_false, List.getElem?_toArray, h0, h5, h6, h7, hp1, hp2, Int.ofNat_lt, hlt, hz, hw, if_pos hex]
      · simp only [↓wpS_skip, ↓wpS_ops, ↓wpS_seq, ↓wpS_cond, ↓wpS_block, ↓wpS_loop, ↓wpS_exit, ↓wpS_ret, condW_bool, ↓WOps_go, ↓WOps_skip, WOps_nil, stepA, opA, convA, isCall, put?, ev, Tr.get_put, Tr.get_nil, builtinA, callA, argEnv, wantedS, abs_int, abs_bool, abs_string, abs_nilp, abs_nili, abs_nilf, abs_nilm, abs_nils, un_not, undef, z_none, List.zipIdx_cons, List.zipIdx_nil, List.foldl_cons, List.foldl_nil, List.map_cons, List.map_nil, List.map_toArray, List.nil_append, List.cons_append, List.append_nil, extractOp, List.getElem?_cons_zero, List.getElem?_cons_succ,
    Option.map_some, Option.map_none, Nat.reduceLT, Nat.reduceEqDiff, Nat.reduceAdd, Nat.zero_add, if_true, if_false, Option.getD_some, Option.getD_none, ↓reduceIte, Bool.false_eq_true, Bool.true_eq_false, reduceCtorEq, resA, resOf, Option.some.injEq, exists_eq_left', beq_self_eq_true, decide_true, decide_false, decide_eq_true_eq, ne_eq, not_true_eq_false, not_false_eq_true, Bool.not_eq_true, beq_iff_eq, bin_add, bin_sub, bin_mul, bin_eql, bin_neq, bin_lss, bin_leq, bin_gtr, bin_geq, maxA, minA, Prod.mk.injEq, and_true, true_and, beq_eq_false_iff_ne, decide_eq_false_iff_not, Bool.true_beq, Bool.false_beq, beq_true, beq_false, Bool.not_true, Bool.not_false, List.getElem?_toArray, h0, h5, h6, h7, hp1, hp2, Int.ofNat_lt, hlt, hz, hw]
        refine ⟨l.length - (i + 1), by omega, i + 1, rfl, by omega, ?_, rfl⟩
        intro x hx
        rw [List.take_add_one, List.mem_append] at hx
        rcases hx with hx | hx
        · exact hpos x hx
        · rw [List.getElem?_eq_getElem hlt] at hx
          simp at hx; subst hx; exact hz
    · have : i = l.length := by omega
      subst this
      have hno : ¬ ∃ x ∈ l, x ≤ 0 := by
        rintro ⟨x, hx, hx2⟩
        exact hpos x (by rw [List.take_length]; exact hx) hx2
      simp only [↓wpS_skip, ↓wpS_ops, ↓wpS_seq, ↓wpS_cond, ↓wpS_block, ↓wpS_loop, ↓wpS_exit, ↓wpS_ret, condW_bool, ↓WOps_go, ↓WOps_skip, WOps_nil, stepA, opA, convA, isCall, put?, ev, Tr.get_put, Tr.get_nil, builtinA, callA, argEnv, wantedS, abs_int, abs_bool, abs_string, abs_nilp, abs_nili, abs_nilf, abs_nilm, abs_nils, un_not, undef, z_none, List.zipIdx_cons, List.zipIdx_nil, List.foldl_cons, List.foldl_nil, List.map_cons, List.map_nil, List.map_toArray, List.nil_append, List.cons_append, List.append_nil, extractOp, List.getElem?_cons_zero, List.getElem?_cons_succ,
    Option.map_some, Option.map_none, Nat.reduceLT, Nat.reduceEqDiff, Nat.reduceAdd, Nat.zero_add, if_true, if_false, Option.getD_some, Option.getD_none, ↓reduceIte, Bool.false_eq_true, Bool.true_eq_false, reduceCtorEq, resA, resOf, Option.some.injEq, exists_eq_left', beq_self_eq_true, decide_true, decide_false, decide_eq_true_eq, ne_eq, not_true_eq_false, not_false_eq_true, Bool.not_eq_true, beq_iff_eq, bin_add, bin_sub, bin_mul, bin_eql, bin_neq, bin_lss, bin_leq, bin_gtr, bin_geq, maxA, minA, Prod.mk.injEq, and_true, true_and, beq_eq_false_iff_ne, decide_eq_false_iff_not, Bool.true_beq, Bool.false_beq, beq_true, beq_false, Bool.not_true, Bool.not_false, List.getElem?_toArray, h0, h5, h6, h7, Int.ofNat_lt, Nat.lt_irrefl, x_none, fold_cl (k := 113) mul_cl (x_none 113 rfl rfl rfl rfl rfl rfl) satMul_i hl i64_1, if_neg hno]
  · simp only [↓wpS_skip, ↓wpS_ops, ↓wpS_seq, ↓wpS_cond, ↓wpS_block, ↓wpS_loop, ↓wpS_exit, ↓wpS_ret, condW_bool, ↓WOps_go, ↓WOps_skip, WOps_nil, stepA, opA, convA, isCall, put?, ev, Tr.get_put, Tr.get_nil, builtinA, callA, argEnv, wantedS, abs_int, abs_bool, abs_string, abs_nilp, abs_nili, abs_nilf, abs_nilm, abs_nils, un_not, undef, z_none, List.zipIdx_cons, List.zipIdx_nil, List.foldl_cons, List.foldl_nil, List.map_cons, List.map_nil, List.map_toArray, List.nil_append, List.cons_append, List.append_nil, extractOp, List.getElem?_cons_zero, List.getElem?_cons_succ,
    Option.map_some, Option.map_none, Nat.reduceLT, Nat.reduceEqDiff, Nat.reduceAdd, Nat.zero_add, if_true, if_false, Option.getD_some, Option.getD_none, ↓reduceIte, Bool.false_eq_true, Bool.true_eq_false, reduceCtorEq, resA, resOf, Option.some.injEq, exists_eq_left', beq_self_eq_true, decide_true, decide_false, decide_eq_true_eq, ne_eq, not_true_eq_false, not_false_eq_true, Bool.not_eq_true, beq_iff_eq, bin_add, bin_sub, bin_mul, bin_eql, bin_neq, bin_lss, bin_leq, bin_gtr, bin_geq, maxA, minA, Prod.mk.injEq, and_true, true_and, beq_eq_false_iff_ne, decide_eq_false_iff_not, Bool.true_beq, Bool.false_beq, beq_true, beq_false, Bool.not_true, Bool.not_false, List.getElem?_toArray]
    simp
end Seat
end CI
/- nat, walked: powers, and what all of them come to in numbers without an end. -/
set_option linter.unusedVariables false
set_option linter.unusedSimpArgs false
namespace CI
open Go
/-- A number, ended at the greatest one. -/
def satN (n : Nat) : Int := min (n : Int) 9223372036854775807
namespace Seat
variable {H : Heap} {nx : Nat}
theorem satN_i (n : Nat) : I64 (satN n) := by unfold satN; constructor <;> omega
theorem satN_nonneg (n : Nat) : 0 ≤ satN n := by unfold satN; omega
theorem satN_toNat (n : Nat) : (satN n).toNat = min n 9223372036854775807 := by unfold satN; omega
theorem satN_of {a : Int} (h : I64 a) : satN a.toNat = max a 0 := by have := h.2; unfold satN; omega
theorem satAdd_N (a b : Int) : satAdd a b = satN (a.toNat + b.toNat) := by unfold satAdd satN; omega
theorem satMul_N (a b : Int) : satMul a b = satN (a.toNat * b.toNat) := by
  unfold satMul satN
  rw [Int.natCast_mul]
  have e1 : max a 0 = (a.toNat : Int) := by omega
  have e2 : max b 0 = (b.toNat : Int) := by omega
  rw [e1, e2]
theorem cap_mul (x y : Nat) : satN (min x 9223372036854775807 * y) = satN (x * y) := by
  unfold satN
  rcases Nat.le_total x 9223372036854775807 with h | h
  · rw [Nat.min_eq_left h]
  · rw [Nat.min_eq_right h]
    cases y with
    | zero => simp
    | succ y =>
      have h1 : 9223372036854775807 ≤ 9223372036854775807 * (y + 1) := Nat.le_mul_of_pos_right _ (by omega)
      have h2 : 9223372036854775807 ≤ x * (y + 1) := Nat.le_trans h1 (Nat.mul_le_mul_right _ h)
      omega
theorem cap_mul' (x y : Nat) : satN (x * min y 9223372036854775807) = satN (x * y) := by rw [Nat.mul_comm, cap_mul, Nat.mul_comm]
theorem cap_add (x y : Nat) : satN (min x 9223372036854775807 + y) = satN (x + y) := by unfold satN; omega
theorem fold_add (l : List Int) : ∀ n, l.foldl satAdd (satN n) = satN (n + (l.map Int.toNat).sum) := by
  induction l with
  | nil => intro n; simp
  | cons a l ih => intro n; rw [List.foldl_cons, satAdd_N, satN_toNat, cap_add, ih]; simp [Nat.add_assoc]
theorem fold_mul (l : List Int) : ∀ n, l.foldl satMul (satN n) = satN (n * (l.map Int.toNat).foldr (· * ·) 1) := by
  induction l with
  | nil => intro n; simp
  | cons a l ih => intro n; rw [List.foldl_cons, satMul_N, satN_toNat, cap_mul, ih]; simp [Nat.mul_assoc]
theorem prod_zero {l : List Int} (h : ∃ x ∈ l, x ≤ 0) : (l.map Int.toNat).foldr (· * ·) 1 = 0 := by
  induction l with
  | nil => obtain ⟨x, hx, _⟩ := h; cases hx
  | cons a l ih =>
    obtain ⟨x, hx, hx2⟩ := h
    rw [List.map_cons, List.foldr_cons]
    rcases List.mem_cons.1 hx with rfl | hx
    · rw [show x.toNat = 0 by omega, Nat.zero_mul]
    · rw [ih ⟨x, hx, hx2⟩, Nat.mul_zero]
theorem sum_cl' {s : AV} {l : List Int} (hl : Ints H s l) : Cl cx 54 [s] H nx = some (.lit (.int .i64 (satN (l.map Int.toNat).sum)), H, nx) := by
  rw [sum_cl hl]; have := fold_add l 0; rw [show satN 0 = 0 from rfl, Nat.zero_add] at this; rw [this]
theorem addv_cl' {s : AV} {l : List Int} (hl : Ints H s l) : Cl cx 74 [s] H nx = some (.lit (.int .i64 (satN (l.map Int.toNat).sum)), H, nx) := by
  rw [addv_cl hl]; have := fold_add l 0; rw [show satN 0 = 0 from rfl, Nat.zero_add] at this; rw [this]
theorem mulv_cl' {s : AV} {l : List Int} (hl : Ints H s l) : Cl cx 56 [s] H nx = some (.lit (.int .i64 (satN ((l.map Int.toNat).foldr (· * ·) 1))), H, nx) := by
  rw [mulv_cl hl]
  by_cases h : ∃ x ∈ l, x ≤ 0
  · rw [if_pos h, prod_zero h]; rfl
  · rw [if_neg h]; have := fold_mul l 1; rw [show satN 1 = 1 from rfl, Nat.one_mul] at this; rw [this]

theorem pow_cl {b e : Int} (hb : I64 b) (he : I64 e) : Cl cx 77 [.lit (.int .i64 b), .lit (.int .i64 e)] H nx = some (.lit (.int .i64 (satN (b.toNat ^ e.toNat))), H, nx) := by
  refine wp77 _ _ _ _ (by simp) ?_
  unfold s77
  simp only [↓wpS_skip, ↓wpS_ops, ↓wpS_seq, ↓wpS_cond, ↓wpS_block, ↓wpS_loop, ↓wpS_exit, ↓wpS_ret, condW_bool, ↓WOps_go, ↓WOps_skip, WOps_nil, stepA, opA, convA, isCall, put?, ev, Tr.get_put, Tr.get_nil, builtinA, callA, argEnv, wantedS, abs_int, abs_bool, abs_string, abs_nilp, abs_nili, abs_nilf, abs_nilm, abs_nils, un_not, undef, z_none, List.zipIdx_cons, List.zipIdx_nil, List.foldl_cons, List.foldl_nil, List.map_cons, List.map_nil, List.map_toArray, List.nil_append, List.cons_append, List.append_nil, extractOp, List.getElem?_cons_zero, List.getElem?_cons_succ,
    Option.map_some, Option.map_none, Nat.reduceLT, Nat.reduceEqDiff, Nat.reduceAdd, Nat.zero_add, if_true, if_false, Option.getD_some, Option.getD_none, ↓reduceIte, Bool.false_eq_true, Bool.true_eq_false, reduceCtorEq, resA, resOf, Option.some.injEq, exists_eq_left', beq_self_eq_true, decide_true, decide_false, decide_eq_true_eq, ne_eq, not_true_eq_false, not_false_eq_true, Bool.not_eq_true, beq_iff_eq, bin_add, bin_sub, bin_mul, bin_eql, bin_neq, bin_lss, bin_leq, bin_gtr, bin_geq, maxA, minA, Prod.mk.injEq, and_true, true_and, beq_eq_false_iff_ne, decide_eq_false_iff_not, Bool.true_beq, Bool.false_beq, beq_true, beq_false, Bool.not_true, Bool.not_false, List.getElem?_toArray]
  refine Wp_loop (fun n st => ∃ (o q : Nat) (j : Int), n = j.toNat ∧ I64 j ∧ satN (o * q ^ j.toNat) = satN (b.toNat ^ e.toNat) ∧ st.H = H ∧ st.nx = nx ∧ st.env.get 1 = some (.lit (.int .i64 j)) ∧
    st.env.get 5 = some (.lit (.int .i64 (satN o))) ∧ st.env.get 6 = some (.lit (.int .i64 (satN q)))) ?_ e.toNat _ ⟨1, b.toNat, e, ?_⟩
  · rintro n ⟨E, H1, nx1⟩ ⟨o, q, j, hn, hj, hinv, e1, e2, h1, h5, h6⟩
    simp only at e1 e2; subst e1; subst e2
    refine Wp_of ?_
    unfold s77_l0
    have m1 : satMul (satN o) (satN q) = satN (o * q) := by rw [satMul_N, satN_toNat, satN_toNat, cap_mul, cap_mul']
    have m2 : satMul (satN q) (satN q) = satN (q * q) := by rw [satMul_N, satN_toNat, cap_mul, cap_mul']
    by_cases hpos : j > 0
    · by_cases hodd : j % 2 = 1
      · simp only [↓wpS_skip, ↓wpS_ops, ↓wpS_seq, ↓wpS_cond, ↓wpS_block, ↓wpS_loop, ↓wpS_exit, ↓wpS_ret, condW_bool, ↓WOps_go, ↓WOps_skip, WOps_nil, stepA, opA, convA, isCall, put?, ev, Tr.get_put, Tr.get_nil, builtinA, callA, argEnv, wantedS, abs_int, abs_bool, abs_string, abs_nilp, abs_nili, abs_nilf, abs_nilm, abs_nils, un_not, undef, z_none, List.zipIdx_cons, List.zipIdx_nil, List.foldl_cons, List.foldl_nil, List.map_cons, List.map_nil, List.map_toArray, List.nil_append, List.cons_append, List.append_nil, extractOp, List.getElem?_cons_zero, List.getElem?_cons_succ,
    Option.map_some, Option.map_none, Nat.reduceLT, Nat.reduceEqDiff, Nat.reduceAdd, Nat.zero_add, if_true, if_false, Option.getD_some, Option.getD_none, ↓reduceIte, Bool.false_eq_true, Bool.true_eq_false, reduceCtorEq, resA, resOf, Option.some.injEq, exists_eq_left', beq_self_eq_true, decide_true, decide_false, decide_eq_true_eq, ne_eq, not_true_eq_false, not_false_eq_true, Bool.not_eq_true, beq_iff_eq, bin_add, bin_sub, bin_mul, bin_eql, bin_neq, bin_lss, bin_leq, bin_gtr, bin_geq, maxA, minA, Prod.mk.injEq, and_true, true_and, beq_eq_false_iff_ne, decide_eq_false_iff_not, Bool.true_beq, Bool.false_beq, beq_true, beq_false, Bool.not_true, Bool.not_false, List.getElem?_toArray, h1, h5, h6, hpos, bin_and1, hodd, bin_shr1, x_none, mul_cl (satN_i o) (satN_i q), mul_cl (satN_i q) (satN_i q), m1, m2]
        refine ⟨(j / 2).toNat, by omega, o * q, q * q, j / 2, rfl, ?_, ?_, rfl, rfl, rfl⟩
        · obtain ⟨c1, c2⟩ := hj; constructor <;> omega
        · rw [← hinv]
          have : j.toNat = 2 * (j / 2).toNat + 1 := by omega
          rw [this, Nat.pow_succ, Nat.pow_mul, Nat.pow_two]
          congr 1
          rw [Nat.mul_assoc, Nat.mul_comm q]
      · have h0 : j % 2 = 0 := by omega
        simp only [↓wpS_skip, ↓wpS_ops, ↓wpS_seq, ↓wpS_cond, ↓wpS_block, ↓wpS_loop, ↓wpS_exit, ↓wpS_ret, condW_bool, ↓WOps_go, ↓WOps_skip, WOps_nil, stepA, opA, convA, isCall, put?, ev, Tr.get_put, Tr.get_nil, builtinA, callA, argEnv, wantedS, abs_int, abs_bool, abs_string, abs_nilp, abs_nili, abs_nilf, abs_nilm, abs_nils, un_not, undef, z_none, List.zipIdx_cons, List.zipIdx_nil, List.foldl_cons, List.foldl_nil, List.map_cons, List.map_nil, List.map_toArray, List.nil_append, List.cons_append, List.append_nil, extractOp, List.getElem?_cons_zero, List.getElem?_cons_succ,
    Option.map_some, Option.map_none, Nat.reduceLT, Nat.reduceEqDiff, Nat.reduceAdd, Nat.zero_add, if_true, if_false, Option.getD_some, Option.getD_none, ↓reduceIte, Bool.false_eq_true, Bool.true_eq_false, reduceCtorEq, resA, resOf, Option.some.injEq, exists_eq_left', beq_self_eq_true, decide_true, decide_false, decide_eq_true_eq, ne_eq, not_true_eq_false, not_false_eq_true, Bool.not_eq_true, beq_iff_eq, bin_add, bin_sub, bin_mul, bin_eql, bin_neq, bin_lss, bin_leq, bin_gtr, bin_geq, maxA, minA, Prod.mk.injEq, and_true, true_and, beq_eq_false_iff_ne, decide_eq_false_iff_not, Bool.true_beq, Bool.false_beq, beq_true, beq_false, Bool.not_true, Bool.not_false, List.getElem?_toArray, h1, h5, h6, hpos, bin_and1, h0, bin_shr1, x_none, mul_cl (satN_i o) (satN_i q), mul_cl (satN_i q) (satN_i q), m1, m2]
        refine ⟨(j / 2).toNat, by omega, o, q * q, j / 2, rfl, ?_, ?_, rfl, rfl, rfl⟩
        · obtain ⟨c1, c2⟩ := hj; constructor <;> omega
        · rw [← hinv]
          have : j.toNat = 2 * (j / 2).toNat := by omega
          rw [this, Nat.pow_mul, Nat.pow_two]
    · simp only [↓wpS_skip, ↓wpS_ops, ↓wpS_seq, ↓wpS_cond, ↓wpS_block, ↓wpS_loop, ↓wpS_exit, ↓wpS_ret, condW_bool, ↓WOps_go, ↓WOps_skip, WOps_nil, stepA, opA, convA, isCall, put?, ev, Tr.get_put, Tr.get_nil, builtinA, callA, argEnv, wantedS, abs_int, abs_bool, abs_string, abs_nilp, abs_nili, abs_nilf, abs_nilm, abs_nils, un_not, undef, z_none, List.zipIdx_cons, List.zipIdx_nil, List.foldl_cons, List.foldl_nil, List.map_cons, List.map_nil, List.map_toArray, List.nil_append, List.cons_append, List.append_nil, extractOp, List.getElem?_cons_zero, List.getElem?_cons_succ,
    Option.map_some, Option.map_none, Nat.reduceLT, Nat.reduceEqDiff, Nat.reduceAdd, Nat.zero_add, if_true, if_false, Option.getD_some, Option.getD_none, ↓reduceIte, Bool.false_eq_true, Bool.true_eq_false, reduceCtorEq, resA, resOf, Option.some.injEq, exists_eq_left', beq_self_eq_true, decide_true, decide_false, decide_eq_true_eq, ne_eq, not_true_eq_false, not_false_eq_true, Bool.not_eq_true, beq_iff_eq, bin_add, bin_sub, bin_mul, bin_eql, bin_neq, bin_lss, bin_leq, bin_gtr, bin_geq, maxA, minA, Prod.mk.injEq, and_true, true_and, beq_eq_false_iff_ne, decide_eq_false_iff_not, Bool.true_beq, Bool.false_beq, beq_true, beq_false, Bool.not_true, Bool.not_false, List.getElem?_toArray, h1, h5, h6, hpos]
      rw [show j.toNat = 0 by omega, Nat.pow_zero, Nat.mul_one] at hinv
      rw [hinv]
  · simp only [↓wpS_skip, ↓wpS_ops, ↓wpS_seq, ↓wpS_cond, ↓wpS_block, ↓wpS_loop, ↓wpS_exit, ↓wpS_ret, condW_bool, ↓WOps_go, ↓WOps_skip, WOps_nil, stepA, opA, convA, isCall, put?, ev, Tr.get_put, Tr.get_nil, builtinA, callA, argEnv, wantedS, abs_int, abs_bool, abs_string, abs_nilp, abs_nili, abs_nilf, abs_nilm, abs_nils, un_not, undef, z_none, List.zipIdx_cons, List.zipIdx_nil, List.foldl_cons, List.foldl_nil, List.map_cons, List.map_nil, List.map_toArray, List.nil_append, List.cons_append, List.append_nil, extractOp, List.getElem?_cons_zero, List.getElem?_cons_succ,
    Option.map_some, Option.map_none, Nat.reduceLT, Nat.reduceEqDiff, Nat.reduceAdd, Nat.zero_add, if_true, if_false, Option.getD_some, Option.getD_none, ↓reduceIte, Bool.false_eq_true, Bool.true_eq_false, reduceCtorEq, resA, resOf, Option.some.injEq, exists_eq_left', beq_self_eq_true, decide_true, decide_false, decide_eq_true_eq, ne_eq, not_true_eq_false, not_false_eq_true, Bool.not_eq_true, beq_iff_eq, bin_add, bin_sub, bin_mul, bin_eql, bin_neq, bin_lss, bin_leq, bin_gtr, bin_geq, maxA, minA, Prod.mk.injEq, and_true, true_and, beq_eq_false_iff_ne, decide_eq_false_iff_not, Bool.true_beq, Bool.false_beq, beq_true, beq_false, Bool.not_true, Bool.not_false, List.getElem?_toArray]
    refine ⟨he, by rw [Nat.one_mul], ?_⟩
    rw [satN_of hb]; exact ⟨rfl, rfl⟩
end Seat
end CI
/- nat, walked: NatFolds and NatPowers. -/
set_option linter.unusedVariables false
set_option linter.unusedSimpArgs false
namespace CI
open Go
theorem bin_eqlb (P : Program) (T : Tr TInfo) (t : TypeId) (x y : Operand) (a b : Bool) : binOpA P T .eql t x y (.lit (.bool a)) (.lit (.bool b)) = plain2 P (fun p q => do eqGuard .eql t x y p q; binOp .eql t p q) (.lit (.bool a)) (.lit (.bool b)) := by
  unfold binOpA
  split
  · rename_i v hv; exact hv.symm
  · rename_i hn; rw [hn]; rfl
namespace Seat
variable {H : Heap} {nx nx' : Nat}
theorem eqb (x y : Operand) (a b : Bool) : binOpA cx.P cx.T .eql 4 x y (.lit (.bool a)) (.lit (.bool b)) = some (.lit (.bool (a == b))) := by
  cases a <;> cases b <;> kernel_rfl
theorem pow_fix {B i : Nat} (h : satN (B ^ i * B) = satN (B ^ i)) : ∀ k, satN (B ^ (i + k)) = satN (B ^ i)
  | 0 => rfl
  | k + 1 => by
    rw [← Nat.add_assoc, Nat.pow_succ, ← cap_mul]
    have := pow_fix h k
    have e := congrArg Int.toNat this
    rw [satN_toNat, satN_toNat] at e
    rw [e, cap_mul, h]
theorem refPow_cl {b e : Int} (hb : I64 b) (he : I64 e) : Cl cx 40 [.lit (.int .i64 b), .lit (.int .i64 e)] H nx = some (.lit (.int .i64 (satN (b.toNat ^ e.toNat))), H, nx) := by
  refine wp40 _ _ _ _ (by simp) ?_
  unfold s40
  simp only [↓wpS_skip, ↓wpS_ops, ↓wpS_seq, ↓wpS_cond, ↓wpS_block, ↓wpS_loop, ↓wpS_exit, ↓wpS_ret, condW_bool, ↓WOps_go, ↓WOps_skip, WOps_nil, stepA, opA, convA, isCall, put?, ev, Tr.get_put, Tr.get_nil, builtinA, callA, argEnv, wantedS, abs_int, abs_bool, abs_string, abs_nilp, abs_nili, abs_nilf, abs_nilm, abs_nils, un_not, undef, z_none, List.zipIdx_cons, List.zipIdx_nil, List.foldl_cons, List.foldl_nil, List.map_cons, List.map_nil, List.map_toArray, List.nil_append, List.cons_append, List.append_nil, extractOp, List.getElem?_cons_zero, List.getElem?_cons_succ,
    Option.map_some, Option.map_none, Nat.reduceLT, Nat.reduceEqDiff, Nat.reduceAdd, Nat.zero_add, if_true, if_false, Option.getD_some, Option.getD_none, ↓reduceIte, Bool.false_eq_true, Bool.true_eq_false, reduceCtorEq, resA, resOf, Option.some.injEq, exists_eq_left', beq_self_eq_true, decide_true, decide_false, decide_eq_true_eq, ne_eq, not_true_eq_false, not_false_eq_true, Bool.not_eq_true, beq_iff_eq, bin_add, bin_sub, bin_mul, bin_eql, bin_neq, bin_lss, bin_leq, bin_gtr, bin_geq, maxA, minA, Prod.mk.injEq, and_true, true_and, beq_eq_false_iff_ne, decide_eq_false_iff_not, Bool.true_beq, Bool.false_beq, beq_true, beq_false, Bool.not_true, Bool.not_false, List.getElem?_toArray]
  refine Wp_loop (fun n st => ∃ (i : Nat), n = e.toNat - i ∧ i ≤ e.toNat ∧ st.H = H ∧ st.nx = nx ∧ st.env.get 0 = some (.lit (.int .i64 b)) ∧ st.env.get 1 = some (.lit (.int .i64 e)) ∧
    st.env.get 5 = some (.lit (.int .i64 (satN (b.toNat ^ i)))) ∧ st.env.get 6 = some (.lit (.int .i64 i))) ?_ e.toNat _ ⟨0, ?_⟩
  · rintro n ⟨E, H1, nx1⟩ ⟨i, hn, hi, e1, e2, h0, h1, h5, h6⟩
    simp only at e1 e2; subst e1; subst e2
    refine Wp_of ?_
    unfold s40_l0
    have m1 : satMul (satN (b.toNat ^ i)) b = satN (b.toNat ^ (i + 1)) := by rw [satMul_N, satN_toNat, cap_mul, Nat.pow_succ]
    by_cases hlt : (i : Int) < e
    · have hw : IntKind.i64.wrap ((i : Int) + 1) = ((i + 1 : Nat) : Int) := by
        rw [wrapI]; · rfl
        have := he.2
        constructor <;> omega
      by_cases hq : satN (b.toNat ^ (i + 1)) = satN (b.toNat ^ i)
      · simp only [↓wpS_skip, ↓wpS_ops, ↓wpS_seq, ↓wpS_cond, ↓wpS_block, ↓wpS_loop, ↓wpS_exit, ↓wpS_ret, condW_bool, ↓WOps_go, ↓WOps_skip, WOps_nil, stepA, opA, convA, isCall, put?, ev, Tr.get_put, Tr.get_nil, builtinA, callA, argEnv, wantedS, abs_int, abs_bool, abs_string, abs_nilp, abs_nili, abs_nilf, abs_nilm, abs_nils, un_not, undef, z_none, List.zipIdx_cons, List.zipIdx_nil, List.foldl_cons, List.foldl_nil, List.map_cons, List.map_nil, List.map_toArray, List.nil_append, List.cons_append, List.append_nil, extractOp, List.getElem?_cons_zero, List.getElem?_cons_succ,
    Option.map_some, Option.map_none, Nat.reduceLT, Nat.reduceEqDiff, Nat.reduceAdd, Nat.zero_add, if_true, if_false, Option.getD_some, Option.getD_none, ↓reduceIte, Bool.false_eq_true, Bool.true_eq_false, reduceCtorEq, resA, resOf, Option.some.injEq, exists_eq_left', beq_self_eq_true, decide_true, decide_false, decide_eq_true_eq, ne_eq, not_true_eq_false, not_false_eq_true, Bool.not_eq_true, beq_iff_eq, bin_add, bin_sub, bin_mul, bin_eql, bin_neq, bin_lss, bin_leq, bin_gtr, bin_geq, maxA, minA, Prod.mk.injEq, and_true, true_and, beq_eq_false_iff_ne, decide_eq_false_iff_not, Bool.true_beq, Bool.false_beq, beq_true, beq_false, Bool.not_true, Bool.not_false, List.getElem?_toArray, h0, h1, h5, h6, hlt, x_none, refMul_cl (satN_i (b.toNat ^ i)) hb, m1, hq]
        obtain ⟨k, hk⟩ := Nat.exists_eq_add_of_le hi
        rw [hk, pow_fix (by rw [← Nat.pow_succ]; exact hq)]
      · simp only [↓wpS_skip, ↓wpS_ops, ↓wpS_seq, ↓wpS_cond, ↓wpS_block, ↓wpS_loop, ↓wpS_exit, ↓wpS_ret, condW_bool, ↓WOps_go, ↓WOps_skip, WOps_nil, stepA, opA, convA, isCall, put?, ev, Tr.get_put, Tr.get_nil, builtinA, callA, argEnv, wantedS, abs_int, abs_bool, abs_string, abs_nilp, abs_nili, abs_nilf, abs_nilm, abs_nils, un_not, undef, z_none, List.zipIdx_cons, List.zipIdx_nil, List.foldl_cons, List.foldl_nil, List.map_cons, List.map_nil, List.map_toArray, List.nil_append, List.cons_append, List.append_nil, extractOp, List.getElem?_cons_zero, List.getElem?_cons_succ,
    Option.map_some, Option.map_none, Nat.reduceLT, Nat.reduceEqDiff, Nat.reduceAdd, Nat.zero_add, if_true, if_false, Option.getD_some, Option.getD_none, ↓reduceIte, Bool.false_eq_true, Bool.true_eq_false, reduceCtorEq, resA, resOf, Option.some.injEq, exists_eq_left', beq_self_eq_true, decide_true, decide_false, decide_eq_true_eq, ne_eq, not_true_eq_false, not_false_eq_true, Bool.not_eq_true, beq_iff_eq, bin_add, bin_sub, bin_mul, bin_eql, bin_neq, bin_lss, bin_leq, bin_gtr, bin_geq, maxA, minA, Prod.mk.injEq, and_true, true_and, beq_eq_false_iff_ne, decide_eq_false_iff_not, Bool.true_beq, Bool.false_beq, beq_true, beq_false, Bool.not_true, Bool.not_false, List.getElem?_toArray, h0, h1, h5, h6, hlt, x_none, refMul_cl (satN_i (b.toNat ^ i)) hb, m1, hq, hw]
        refine ⟨e.toNat - (i + 1), by omega, i + 1, rfl, by omega, rfl, rfl⟩
    · simp only [↓wpS_skip, ↓wpS_ops, ↓wpS_seq, ↓wpS_cond, ↓wpS_block, ↓wpS_loop, ↓wpS_exit, ↓wpS_ret, condW_bool, ↓WOps_go, ↓WOps_skip, WOps_nil, stepA, opA, convA, isCall, put?, ev, Tr.get_put, Tr.get_nil, builtinA, callA, argEnv, wantedS, abs_int, abs_bool, abs_string, abs_nilp, abs_nili, abs_nilf, abs_nilm, abs_nils, un_not, undef, z_none, List.zipIdx_cons, List.zipIdx_nil, List.foldl_cons, List.foldl_nil, List.map_cons, List.map_nil, List.map_toArray, List.nil_append, List.cons_append, List.append_nil, extractOp, List.getElem?_cons_zero, List.getElem?_cons_succ,
    Option.map_some, Option.map_none, Nat.reduceLT, Nat.reduceEqDiff, Nat.reduceAdd, Nat.zero_add, if_true, if_false, Option.getD_some, Option.getD_none, ↓reduceIte, Bool.false_eq_true, Bool.true_eq_false, reduceCtorEq, resA, resOf, Option.some.injEq, exists_eq_left', beq_self_eq_true, decide_true, decide_false, decide_eq_true_eq, ne_eq, not_true_eq_false, not_false_eq_true, Bool.not_eq_true, beq_iff_eq, bin_add, bin_sub, bin_mul, bin_eql, bin_neq, bin_lss, bin_leq, bin_gtr, bin_geq, maxA, minA, Prod.mk.injEq, and_true, true_and, beq_eq_false_iff_ne, decide_eq_false_iff_not, Bool.true_beq, Bool.false_beq, beq_true, beq_false, Bool.not_true, Bool.not_false, List.getElem?_toArray, h0, h1, h5, h6, hlt]
      rw [show e.toNat = i by omega]
  · simp only [↓wpS_skip, ↓wpS_ops, ↓wpS_seq, ↓wpS_cond, ↓wpS_block, ↓wpS_loop, ↓wpS_exit, ↓wpS_ret, condW_bool, ↓WOps_go, ↓WOps_skip, WOps_nil, stepA, opA, convA, isCall, put?, ev, Tr.get_put, Tr.get_nil, builtinA, callA, argEnv, wantedS, abs_int, abs_bool, abs_string, abs_nilp, abs_nili, abs_nilf, abs_nilm, abs_nils, un_not, undef, z_none, List.zipIdx_cons, List.zipIdx_nil, List.foldl_cons, List.foldl_nil, List.map_cons, List.map_nil, List.map_toArray, List.nil_append, List.cons_append, List.append_nil, extractOp, List.getElem?_cons_zero, List.getElem?_cons_succ,
    Option.map_some, Option.map_none, Nat.reduceLT, Nat.reduceEqDiff, Nat.reduceAdd, Nat.zero_add, if_true, if_false, Option.getD_some, Option.getD_none, ↓reduceIte, Bool.false_eq_true, Bool.true_eq_false, reduceCtorEq, resA, resOf, Option.some.injEq, exists_eq_left', beq_self_eq_true, decide_true, decide_false, decide_eq_true_eq, ne_eq, not_true_eq_false, not_false_eq_true, Bool.not_eq_true, beq_iff_eq, bin_add, bin_sub, bin_mul, bin_eql, bin_neq, bin_lss, bin_leq, bin_gtr, bin_geq, maxA, minA, Prod.mk.injEq, and_true, true_and, beq_eq_false_iff_ne, decide_eq_false_iff_not, Bool.true_beq, Bool.false_beq, beq_true, beq_false, Bool.not_true, Bool.not_false, List.getElem?_toArray]
    exact ⟨by omega, by omega, rfl, rfl⟩
/-- The sum of all numbers up to one. -/
def tri (k : Int) : Int := if max k 0 % 2 = 0 then satMul (max k 0 / 2) (satAdd (max k 0) 1) else satMul (max k 0) (max k 0 / 2 + 1)
theorem tdiv2 {m : Int} (h : 0 ≤ m) : m.tdiv 2 = m / 2 := Int.tdiv_eq_ediv_of_nonneg h
theorem tmod2 {m : Int} (h : 0 ≤ m) : m.tmod 2 = m % 2 := Int.tmod_eq_emod_of_nonneg h
theorem tri_cl {k : Int} (hk : I64 k) : Cl cx 78 [.lit (.int .i64 k)] H nx = some (.lit (.int .i64 (tri k)), H, nx) := by
  refine wp78 _ _ _ _ (by simp) ?_
  unfold s78
  obtain ⟨h1, h2⟩ := hk
  have hm : 0 ≤ max k 0 := by omega
  have w1 : IntKind.i64.wrap (max k 0 / 2) = max k 0 / 2 := wrapI (by constructor <;> omega)
  have w2 : IntKind.i64.wrap (max k 0 / 2 + 1) = max k 0 / 2 + 1 := wrapI (by constructor <;> omega)
  have i1 : I64 (max k 0) := by constructor <;> omega
  have i2 : I64 (max k 0 / 2) := by constructor <;> omega
  have i3 : I64 (max k 0 / 2 + 1) := by constructor <;> omega
  by_cases hc : max k 0 % 2 = 0
  · simp only [↓wpS_skip, ↓wpS_ops, ↓wpS_seq, ↓wpS_cond, ↓wpS_block, ↓wpS_loop, ↓wpS_exit, ↓wpS_ret, condW_bool, ↓WOps_go, ↓WOps_skip, WOps_nil, stepA, opA, convA, isCall, put?, ev, Tr.get_put, Tr.get_nil, builtinA, callA, argEnv, wantedS, abs_int, abs_bool, abs_string, abs_nilp, abs_nili, abs_nilf, abs_nilm, abs_nils, un_not, undef, z_none, List.zipIdx_cons, List.zipIdx_nil, List.foldl_cons, List.foldl_nil, List.map_cons, List.map_nil, List.map_toArray, List.nil_append, List.cons_append, List.append_nil, extractOp, List.getElem?_cons_zero, List.getElem?_cons_succ,
    Option.map_some, Option.map_none, Nat.reduceLT, Nat.reduceEqDiff, Nat.reduceAdd, Nat.zero_add, if_true, if_false, Option.getD_some, Option.getD_none, ↓reduceIte, Bool.false_eq_true, Bool.true_eq_false, reduceCtorEq, resA, resOf, Option.some.injEq, exists_eq_left', beq_self_eq_true, decide_true, decide_false, decide_eq_true_eq, ne_eq, not_true_eq_false, not_false_eq_true, Bool.not_eq_true, beq_iff_eq, bin_add, bin_sub, bin_mul, bin_eql, bin_neq, bin_lss, bin_leq, bin_gtr, bin_geq, maxA, minA, Prod.mk.injEq, and_true, true_and, beq_eq_false_iff_ne, decide_eq_false_iff_not, Bool.true_beq, Bool.false_beq, beq_true, beq_false, Bool.not_true, Bool.not_false, List.getElem?_toArray, x_none, bin_rem _ _ _ _ _ _ _ _ (show (2:Int) ≠ 0 by decide), bin_quo _ _ _ _ _ _ _ _ (show (2:Int) ≠ 0 by decide), tdiv2 hm, tmod2 hm, hc, w1, add_cl i1 i64_1, mul_cl i2 (satAdd_i _ _), tri]
  · simp only [↓wpS_skip, ↓wpS_ops, ↓wpS_seq, ↓wpS_cond, ↓wpS_block, ↓wpS_loop, ↓wpS_exit, ↓wpS_ret, condW_bool, ↓WOps_go, ↓WOps_skip, WOps_nil, stepA, opA, convA, isCall, put?, ev, Tr.get_put, Tr.get_nil, builtinA, callA, argEnv, wantedS, abs_int, abs_bool, abs_string, abs_nilp, abs_nili, abs_nilf, abs_nilm, abs_nils, un_not, undef, z_none, List.zipIdx_cons, List.zipIdx_nil, List.foldl_cons, List.foldl_nil, List.map_cons, List.map_nil, List.map_toArray, List.nil_append, List.cons_append, List.append_nil, extractOp, List.getElem?_cons_zero, List.getElem?_cons_succ,
    Option.map_some, Option.map_none, Nat.reduceLT, Nat.reduceEqDiff, Nat.reduceAdd, Nat.zero_add, if_true, if_false, Option.getD_some, Option.getD_none, ↓reduceIte, Bool.false_eq_true, Bool.true_eq_false, reduceCtorEq, resA, resOf, Option.some.injEq, exists_eq_left', beq_self_eq_true, decide_true, decide_false, decide_eq_true_eq, ne_eq, not_true_eq_false, not_false_eq_true, Bool.not_eq_true, beq_iff_eq, bin_add, bin_sub, bin_mul, bin_eql, bin_neq, bin_lss, bin_leq, bin_gtr, bin_geq, maxA, minA, Prod.mk.injEq, and_true, true_and, beq_eq_false_iff_ne, decide_eq_false_iff_not, Bool.true_beq, Bool.false_beq, beq_true, beq_false, Bool.not_true, Bool.not_false, List.getElem?_toArray, x_none, bin_rem _ _ _ _ _ _ _ _ (show (2:Int) ≠ 0 by decide), bin_quo _ _ _ _ _ _ _ _ (show (2:Int) ≠ 0 by decide), tdiv2 hm, tmod2 hm, hc, w1, w2, mul_cl i1 i3, tri]

abbrev vi (a : Int) : AV := .lit (.int .i64 a)
theorem bs2 (a b : Int) : buildSliceOp cx.T H nx 40 2 [(0, .lit (.int .i64 a)), (1, .lit (.int .i64 b))] = some (.slice nx 0 2 (some 2) 1, H.put nx (some (.cells [.lit (.int .i64 a), .lit (.int .i64 b)] 3 false)), nx + 1) := by kernel_rfl
theorem ints2 {a b : Int} (ha : I64 a) (hb : I64 b) : Ints (H.put nx (some (.cells [.lit (.int .i64 a), .lit (.int .i64 b)] 3 false))) (.slice nx 0 2 (some 2) 1) [a, b] := by
  refine ⟨by simp [ha, hb], by simp, .inl ⟨nx, 0, some 2, _, _, _, rfl, Tr.get_put_same _ _ _, ?_⟩⟩
  rintro (_ | _ | i) x hx <;> simp at hx <;> simp [hx]
theorem addv2 {a b : Int} (ha : I64 a) (hb : I64 b) : Cl cx 74 [.slice nx 0 2 (some 2) 1] (H.put nx (some (.cells [.lit (.int .i64 a), .lit (.int .i64 b)] 3 false))) nx' = some (.lit (.int .i64 (satN (a.toNat + b.toNat))), (H.put nx (some (.cells [.lit (.int .i64 a), .lit (.int .i64 b)] 3 false))), nx') := by
  rw [addv_cl' (ints2 ha hb)]; rfl
theorem mulv2 {a b : Int} (ha : I64 a) (hb : I64 b) : Cl cx 56 [.slice nx 0 2 (some 2) 1] (H.put nx (some (.cells [.lit (.int .i64 a), .lit (.int .i64 b)] 3 false))) nx' = some (.lit (.int .i64 (satN (a.toNat * b.toNat))), (H.put nx (some (.cells [.lit (.int .i64 a), .lit (.int .i64 b)] 3 false))), nx') := by
  rw [mulv_cl' (ints2 ha hb)]; simp
end Seat
end CI
/- PumpWords: texts, families; Floor and Word, walked. -/
set_option linter.unusedVariables false
set_option linter.unusedSimpArgs false
namespace CI
open Go
namespace Seat
variable {H : Heap} {nx : Nat}
/-! ### texts -/
def B (l : List UInt8) : ByteArray := ⟨l.toArray⟩
def strA (l : List UInt8) : AV := .lit (.string (B l))
def byteA (b : UInt8) : AV := .lit (.int .u8 b.toNat)
theorem B_size (l : List UInt8) : (B l).size = l.length := by simp [B, ByteArray.size]
theorem B_data (l : List UInt8) : (B l).data.toList = l := by simp [B]
theorem B_toList (l : List UInt8) : (B l).toList = l := by
  rw [ByteArray.toList_eq, B_data]
theorem B_append (l m : List UInt8) : B l ++ B m = B (l ++ m) := by
  apply ByteArray.ext
  simp [B, ByteArray.data_append]
theorem B_of (s : ByteArray) : s = B s.data.toList := by
  cases s; simp [B]
theorem B_inj {l m : List UInt8} : B l = B m ↔ l = m := by
  constructor
  · intro h
    have := congrArg (fun s => s.data.toList) h
    simpa [B_data] using this
  · rintro rfl; rfl
section
variable (x y : Operand) (l m : List UInt8)
theorem str_add (h : l.length + m.length ≤ 1000000000) : binOpA cx.P cx.T .add 9 x y (strA l) (strA m) = some (strA (l ++ m)) := by
  have e : plain2 cx.P (fun p q => do eqGuard .add 9 x y p q; binOp .add 9 p q) (strA l) (strA m) = (pureRun cx.P (Op.stringOp .add (B l) (B m))).map abs := rfl
  unfold binOpA
  rw [e]
  simp only [Op.stringOp, B_size]
  rw [if_neg (by
    have e : IntKind.i64.max = 9223372036854775807 := by decide
    rw [e]; omega)]
  rw [B_append]
  rfl
theorem str_eql : binOpA cx.P cx.T .eql 9 x y (strA l) (strA m) = some (.lit (.bool (decide (l = m)))) := by
  have e : plain2 cx.P (fun p q => do eqGuard .eql 9 x y p q; binOp .eql 9 p q) (strA l) (strA m) = (pureRun cx.P (Op.stringOp .eql (B l) (B m))).map abs := rfl
  unfold binOpA
  rw [e]
  simp only [Op.stringOp, B_toList]
  rw [show (l == m) = decide (l = m) from by by_cases h : l = m <;> simp [h]]
  rfl
theorem str_len : lenOp cx.T H 9 (strA l) = some l.length := by
  have : lenOp cx.T H 9 (strA l) = some (B l).size := by kernel_rfl
  rw [this, B_size]
theorem str_ix (i : Nat) (b : UInt8) (k : IntKind) (h : l[i]? = some b) : indexOp cx.P cx.T 9 (strA l) (.lit (.int k i)) = some (byteA b) := by
  have : indexOp cx.P cx.T 9 (strA l) (.lit (.int k i)) = ((B l).data.toList[i]?).map fun c => .lit (.int .u8 c.toNat) := by kernel_rfl
  rw [this, B_data, h]
  rfl
end
/-! ### memory -/
theorem ld_at {t : TypeId} {p o : Nat} {cs : List AV} {tb : TypeId} {ro : Bool} {v : AV} (ht : (cx.T.get t).map (·.agg) = some false) (hp : H.get p = some (.cells cs tb ro)) (hv : cs[o]? = some v) :
    loadOp cx.T H t (.ptr p o) = some v := by
  unfold loadOp
  simp only [Option.map_eq_some_iff] at ht
  obtain ⟨i, h1, h2⟩ := ht
  simp only [h1, hp, h2]
  have hlt : o < cs.length := (List.getElem?_eq_some_iff.1 hv).1
  simp only [cut, if_pos (show o + 1 ≤ cs.length by omega), Option.bind_some, Bool.false_eq_true, if_false]
  rw [List.getElem?_take, if_pos (by omega), List.getElem?_drop]
  simpa using hv

/-! ### families -/
def famL (k : Int) (x y : List UInt8) (p q : Int) : List AV := [.lit (.int .i64 k), strA x, strA y, .lit (.int .i64 p), .lit (.int .i64 q)]
def fam (k : Int) (x y : List UInt8) (p q : Int) : AV := .agg (famL k x y p q)
def famO (k : Int) (x y : List UInt8) (p q : Int) : AObj := .cells (famL k x y p q) 74 false
theorem bx74 (k : Int) (x y : List UInt8) (p q : Int) : boxOp H nx 74 (fam k x y p q) = some (.ptr nx 0, H.put nx (some (famO k x y p q)), nx + 1) := rfl
theorem fa74_0 (b : Nat) : fieldAddrOp cx.T 74 (.ptr b 0) 0 = some (.ptr b 0) := by kernel_rfl
theorem fa74_1 (b : Nat) : fieldAddrOp cx.T 74 (.ptr b 0) 1 = some (.ptr b 1) := by kernel_rfl
theorem fa74_2 (b : Nat) : fieldAddrOp cx.T 74 (.ptr b 0) 2 = some (.ptr b 2) := by kernel_rfl
section
variable {k p q : Int} {x y : List UInt8} {b : Nat}
theorem ld_k (h : H.get b = some (famO k x y p q)) : loadOp cx.T H 3 (.ptr b 0) = some (.lit (.int .i64 k)) := ld_at (by kernel_rfl) h rfl
theorem ld_x (h : H.get b = some (famO k x y p q)) : loadOp cx.T H 9 (.ptr b 1) = some (strA x) := ld_at (by kernel_rfl) h rfl
theorem ld_y (h : H.get b = some (famO k x y p q)) : loadOp cx.T H 9 (.ptr b 2) = some (strA y) := ld_at (by kernel_rfl) h rfl
end
/-- How many hits there are at least. -/
def floorN (k n : Int) : Int := if n < 0 then 0 else if k = 2 then satN (2 ^ n.toNat) else if k = 1 then tri n else 0
theorem floor_cl (k : Int) (x y : List UInt8) (p q : Int) {n : Int} (hn : I64 n) : Cl cx 41 [fam k x y p q, .lit (.int .i64 n)] H nx = some (.lit (.int .i64 (floorN k n)), H.put nx (some (famO k x y p q)), nx + 1) := by
  refine wp41 _ _ _ _ (by simp) ?_
  unfold s41
  have hk : loadOp cx.T (H.put nx (some (famO k x y p q))) 3 (.ptr nx 0) = some (.lit (.int .i64 k)) := ld_k (Tr.get_put_same _ _ _)
  have x77 : ∀ args, cx.X 77 args = none := fun args => x_none 77 rfl rfl rfl rfl rfl rfl args
  have x78 : ∀ args, cx.X 78 args = none := fun args => x_none 78 rfl rfl rfl rfl rfl rfl args
  have hp := pow_cl (H := H.put nx (some (famO k x y p q))) (nx := nx + 1) (b := 2) ⟨by decide, by decide⟩ hn
  have ht := tri_cl (H := H.put nx (some (famO k x y p q))) (nx := nx + 1) hn
  unfold floorN
  by_cases h0 : n < 0
  · simp only [↓wpS_skip, ↓wpS_ops, ↓wpS_seq, ↓wpS_cond, ↓wpS_block, ↓wpS_loop, ↓wpS_exit, ↓wpS_ret, condW_bool, ↓WOps_go, ↓WOps_skip, WOps_nil, stepA, opA, convA, isCall, put?, ev, Tr.get_put, Tr.get_nil, builtinA, callA, argEnv, wantedS, abs_int, abs_bool, abs_string, abs_nilp, abs_nili, abs_nilf, abs_nilm, abs_nils, un_not, undef, z_none, List.zipIdx_cons, List.zipIdx_nil, List.foldl_cons, List.foldl_nil, List.map_cons, List.map_nil, List.map_toArray, List.nil_append, List.cons_append, List.append_nil, extractOp, List.getElem?_cons_zero, List.getElem?_cons_succ,
    Option.map_some, Option.map_none, Nat.reduceLT, Nat.reduceEqDiff, Nat.reduceAdd, Nat.zero_add, if_true, if_false, Option.getD_some, Option.getD_none, ↓reduceIte, Bool.false_eq_true, Bool.true_eq_false, reduceCtorEq, resA, resOf, Option.some.injEq, exists_eq_left', beq_self_eq_true, decide_true, decide_false, decide_eq_true_eq, ne_eq, not_true_eq_false, not_false_eq_true, Bool.not_eq_true, beq_iff_eq, bin_add, bin_sub, bin_mul, bin_eql, bin_neq, bin_lss, bin_leq, bin_gtr, bin_geq, maxA, minA, Prod.mk.injEq, and_true, true_and, beq_eq_false_iff_ne, decide_eq_false_iff_not, Bool.true_beq, Bool.false_beq, beq_true, beq_false, Bool.not_true, Bool.not_false, List.getElem?_toArray, bx74, h0]
  · by_cases h2 : k = 2
    · subst h2
      simp only [↓wpS_skip, ↓wpS_ops, ↓wpS_seq, ↓wpS_cond, ↓wpS_block, ↓wpS_loop, ↓wpS_exit, ↓wpS_ret, condW_bool, ↓WOps_go, ↓WOps_skip, WOps_nil, stepA, opA, convA, isCall, put?, ev, Tr.get_put, Tr.get_nil, builtinA, callA, argEnv, wantedS, abs_int, abs_bool, abs_string, abs_nilp, abs_nili, abs_nilf, abs_nilm, abs_nils, un_not, undef, z_none, List.zipIdx_cons, List.zipIdx_nil, List.foldl_cons, List.foldl_nil, List.map_cons, List.map_nil, List.map_toArray, List.nil_append, List.cons_append, List.append_nil, extractOp, List.getElem?_cons_zero, List.getElem?_cons_succ,
    Option.map_some, Option.map_none, Nat.reduceLT, Nat.reduceEqDiff, Nat.reduceAdd, Nat.zero_add, if_true, if_false, Option.getD_some, Option.getD_none, ↓reduceIte, Bool.false_eq_true, Bool.true_eq_false, reduceCtorEq, resA, resOf, Option.some.injEq, exists_eq_left', beq_self_eq_true, decide_true, decide_false, decide_eq_true_eq, ne_eq, not_true_eq_false, not_false_eq_true, Bool.not_eq_true, beq_iff_eq, bin_add, bin_sub, bin_mul, bin_eql, bin_neq, bin_lss, bin_leq, bin_gtr, bin_geq, maxA, minA, Prod.mk.injEq, and_true, true_and, beq_eq_false_iff_ne, decide_eq_false_iff_not, Bool.true_beq, Bool.false_beq, beq_true, beq_false, Bool.not_true, Bool.not_false, List.getElem?_toArray, bx74, h0, fa74_0, hk, x77, hp]
      rfl
    · by_cases h1 : k = 1
      · subst h1
        have e12 : ((1 : Int) = 2) = False := by simp
        simp only [↓wpS_skip, ↓wpS_ops, ↓wpS_seq, ↓wpS_cond, ↓wpS_block, ↓wpS_loop, ↓wpS_exit, ↓wpS_ret, condW_bool, ↓WOps_go, ↓WOps_skip, WOps_nil, stepA, opA, convA, isCall, put?, ev, Tr.get_put, Tr.get_nil, builtinA, callA, argEnv, wantedS, abs_int, abs_bool, abs_string, abs_nilp, abs_nili, abs_nilf, abs_nilm, abs_nils, un_not, undef, z_none, List.zipIdx_cons, List.zipIdx_nil, List.foldl_cons, List.foldl_nil, List.map_cons, List.map_nil, List.map_toArray, List.nil_append, List.cons_append, List.append_nil, extractOp, List.getElem?_cons_zero, List.getElem?_cons_succ,
    Option.map_some, Option.map_none, Nat.reduceLT, Nat.reduceEqDiff, Nat.reduceAdd, Nat.zero_add, if_true, if_false, Option.getD_some, Option.getD_none, ↓reduceIte, Bool.false_eq_true, Bool.true_eq_false, reduceCtorEq, resA, resOf, Option.some.injEq, exists_eq_left', beq_self_eq_true, decide_true, decide_false, decide_eq_true_eq, ne_eq, not_true_eq_false, not_false_eq_true, Bool.not_eq_true, beq_iff_eq, bin_add, bin_sub, bin_mul, bin_eql, bin_neq, bin_lss, bin_leq, bin_gtr, bin_geq, maxA, minA, Prod.mk.injEq, and_true, true_and, beq_eq_false_iff_ne, decide_eq_false_iff_not, Bool.true_beq, Bool.false_beq, beq_true, beq_false, Bool.not_true, Bool.not_false, List.getElem?_toArray, bx74, h0, fa74_0, hk, e12, x78, ht]
      · simp only [↓wpS_skip, ↓wpS_ops, ↓wpS_seq, ↓wpS_cond, ↓wpS_block, ↓wpS_loop, ↓wpS_exit, ↓wpS_ret, condW_bool, ↓WOps_go, ↓WOps_skip, WOps_nil, stepA, opA, convA, isCall, put?, ev, Tr.get_put, Tr.get_nil, builtinA, callA, argEnv, wantedS, abs_int, abs_bool, abs_string, abs_nilp, abs_nili, abs_nilf, abs_nilm, abs_nils, un_not, undef, z_none, List.zipIdx_cons, List.zipIdx_nil, List.foldl_cons, List.foldl_nil, List.map_cons, List.map_nil, List.map_toArray, List.nil_append, List.cons_append, List.append_nil, extractOp, List.getElem?_cons_zero, List.getElem?_cons_succ,
    Option.map_some, Option.map_none, Nat.reduceLT, Nat.reduceEqDiff, Nat.reduceAdd, Nat.zero_add, if_true, if_false, Option.getD_some, Option.getD_none, ↓reduceIte, Bool.false_eq_true, Bool.true_eq_false, reduceCtorEq, resA, resOf, Option.some.injEq, exists_eq_left', beq_self_eq_true, decide_true, decide_false, decide_eq_true_eq, ne_eq, not_true_eq_false, not_false_eq_true, Bool.not_eq_true, beq_iff_eq, bin_add, bin_sub, bin_mul, bin_eql, bin_neq, bin_lss, bin_leq, bin_gtr, bin_geq, maxA, minA, Prod.mk.injEq, and_true, true_and, beq_eq_false_iff_ne, decide_eq_false_iff_not, Bool.true_beq, Bool.false_beq, beq_true, beq_false, Bool.not_true, Bool.not_false, List.getElem?_toArray, bx74, h0, fa74_0, hk, h2, h1]
end Seat
end CI
/- PumpWords: Word, walked. -/
set_option linter.unusedVariables false
set_option linter.unusedSimpArgs false
set_option maxRecDepth 10000
namespace CI
open Go
namespace Seat
variable {H : Heap} {nx : Nat}
theorem x75 (y : List UInt8) {n : Int} (h0 : 0 ≤ n) (h1 : n ≤ 4000000) (h2 : y.length * n.toNat ≤ 4000000) : cx.X 75 [strA y, .lit (.int .i64 n)] = some (strA (Lib.repeatL y n.toNat)) := by
  have e : cx.X 75 [strA y, .lit (.int .i64 n)] = (repC [.string (B y), .int .i64 n]).map abs := by kernel_rfl
  rw [e]
  unfold repC
  simp only
  rw [if_pos ⟨h0, h1, by rw [B_size]; exact h2⟩]
  simp only [B_data]
  rfl
theorem len_i {y : List UInt8} (h : y.length ≤ 1000) : I64 (y.length : Int) := by constructor <;> omega
/-- A family's word, and what is told of it. -/
def wordV (x y : List UInt8) (n : Int) : List UInt8 × Int :=
  if n < 0 then ([], 1) else if satN (x.length + (satN (n.toNat * y.length)).toNat) > 1048576 then ([], 3) else if y = [] then (x, 0) else (x ++ Lib.repeatL y n.toNat, 0)
theorem word_cl (k : Int) (x y : List UInt8) (p q : Int) {n : Int} (hn : I64 n) (hx : x.length ≤ 1000) (hy : y.length ≤ 1000) :
    ∃ H' nx', Cl cx 39 [fam k x y p q, .lit (.int .i64 n)] H nx = some (.tuple [strA (wordV x y n).1, .lit (.int .i64 (wordV x y n).2)], H', nx') ∧ nx ≤ nx' ∧ ∀ c, c < nx → H'.get c = H.get c := by
  suffices h : ∃ v H' nx', Cl cx 39 [fam k x y p q, .lit (.int .i64 n)] H nx = some (v, H', nx') ∧ v = .tuple [strA (wordV x y n).1, .lit (.int .i64 (wordV x y n).2)] ∧ nx ≤ nx' ∧ ∀ c, c < nx → H'.get c = H.get c by
    obtain ⟨v, H', nx', h1, rfl, h2⟩ := h; exact ⟨H', nx', h1, h2⟩
  refine wpP39 _ _ _ (fun v H' nx' => v = .tuple [strA (wordV x y n).1, .lit (.int .i64 (wordV x y n).2)] ∧ nx ≤ nx' ∧ ∀ c, c < nx → H'.get c = H.get c) (by simp) ?_
  unfold s39
  have x56 : ∀ args, cx.X 56 args = none := fun args => x_none 56 rfl rfl rfl rfl rfl rfl args
  have x74 : ∀ args, cx.X 74 args = none := fun args => x_none 74 rfl rfl rfl rfl rfl rfl args
  by_cases h0 : n < 0
  · have e : wordV x y n = ([], 1) := by unfold wordV; rw [if_pos h0]
    simp only [↓wpS_skip, ↓wpS_ops, ↓wpS_seq, ↓wpS_cond, ↓wpS_block, ↓wpS_loop, ↓wpS_exit, ↓wpS_ret, condW_bool, ↓WOps_go, ↓WOps_skip, WOps_nil, stepA, opA, convA, isCall, put?, ev, Tr.get_put, Tr.get_nil, builtinA, callA, argEnv, wantedS, abs_int, abs_bool, abs_string, abs_nilp, abs_nili, abs_nilf, abs_nilm, abs_nils, un_not, undef, z_none, List.zipIdx_cons, List.zipIdx_nil, List.foldl_cons, List.foldl_nil, List.map_cons, List.map_nil, List.map_toArray, List.nil_append, List.cons_append, List.append_nil, extractOp, List.getElem?_cons_zero, List.getElem?_cons_succ,
    Option.map_some, Option.map_none, Nat.reduceLT, Nat.reduceEqDiff, Nat.reduceAdd, Nat.zero_add, if_true, if_false, Option.getD_some, Option.getD_none, ↓reduceIte, Bool.false_eq_true, Bool.true_eq_false, reduceCtorEq, resA, resOf, Option.some.injEq, exists_eq_left', beq_self_eq_true, decide_true, decide_false, decide_eq_true_eq, ne_eq, not_true_eq_false, not_false_eq_true, Bool.not_eq_true, beq_iff_eq, bin_add, bin_sub, bin_mul, bin_eql, bin_neq, bin_lss, bin_leq, bin_gtr, bin_geq, maxA, minA, Prod.mk.injEq, and_true, true_and, beq_eq_false_iff_ne, decide_eq_false_iff_not, Bool.true_beq, Bool.false_beq, beq_true, beq_false, Bool.not_true, Bool.not_false, List.getElem?_toArray, bx74, h0, e]
    exact ⟨rfl, by omega, fun c hc => by rw [if_neg (by omega)]⟩
  · simp only [↓wpS_skip, ↓wpS_ops, ↓wpS_seq, ↓wpS_cond, ↓wpS_block, ↓wpS_loop, ↓wpS_exit, ↓wpS_ret, condW_bool, ↓WOps_go, ↓WOps_skip, WOps_nil, stepA, opA, convA, isCall, put?, ev, Tr.get_put, Tr.get_nil, builtinA, callA, argEnv, wantedS, abs_int, abs_bool, abs_string, abs_nilp, abs_nili, abs_nilf, abs_nilm, abs_nils, un_not, undef, z_none, List.zipIdx_cons, List.zipIdx_nil, List.foldl_cons, List.foldl_nil, List.map_cons, List.map_nil, List.map_toArray, List.nil_append, List.cons_append, List.append_nil, extractOp, List.getElem?_cons_zero, List.getElem?_cons_succ,
    Option.map_some, Option.map_none, Nat.reduceLT, Nat.reduceEqDiff, Nat.reduceAdd, Nat.zero_add, if_true, if_false, Option.getD_some, Option.getD_none, ↓reduceIte, Bool.false_eq_true, Bool.true_eq_false, reduceCtorEq, resA, resOf, Option.some.injEq, exists_eq_left', beq_self_eq_true, decide_true, decide_false, decide_eq_true_eq, ne_eq, not_true_eq_false, not_false_eq_true, Bool.not_eq_true, beq_iff_eq, bin_add, bin_sub, bin_mul, bin_eql, bin_neq, bin_lss, bin_leq, bin_gtr, bin_geq, maxA, minA, Prod.mk.injEq, and_true, true_and, beq_eq_false_iff_ne, decide_eq_false_iff_not, Bool.true_beq, Bool.false_beq, beq_true, beq_false, Bool.not_true, Bool.not_false, List.getElem?_toArray, bx74, h0]
    refine wpS_draw6 (nx + 1) (Nat.le_refl _) (show s39_d0.toList.map (stripO s39_d0) = s39_d0s by kernel_rfl) ?_
    unfold s39_d0s
    have hm0 := mulv2 (H := H.put nx (some (famO k x y p q))) (nx := nx + 1) (nx' := nx + 1 + 1) hn (len_i hy)
    rw [Int.toNat_natCast] at hm0
    generalize hmv : satN (n.toNat * y.length) = m at hm0
    have hmi : I64 m := by rw [← hmv]; exact satN_i _
    have ha0 := addv2 (H := (H.put nx (some (famO k x y p q))).put (nx + 1) (some (.cells [.lit (.int .i64 n), .lit (.int .i64 y.length)] 3 false))) (nx := nx + 1 + 1) (nx' := nx + 1 + 1 + 1) (len_i hx) hmi
    rw [Int.toNat_natCast] at ha0
    have hx1 : loadOp cx.T (H.put nx (some (famO k x y p q))) 9 (.ptr nx 1) = some (strA x) := ld_x (Tr.get_put_same _ _ _)
    have hy1 : loadOp cx.T (H.put nx (some (famO k x y p q))) 9 (.ptr nx 2) = some (strA y) := ld_y (Tr.get_put_same _ _ _)
    have hx2 : loadOp cx.T ((H.put nx (some (famO k x y p q))).put (nx + 1) (some (.cells [.lit (.int .i64 n), .lit (.int .i64 y.length)] 3 false))) 9 (.ptr nx 1) = some (strA x) := ld_x (k := k) (y := y) (p := p) (q := q) (by rw [Tr.get_put_ne _ _ _ _ (by omega), Tr.get_put_same])
    have hy2 : loadOp cx.T ((H.put nx (some (famO k x y p q))).put (nx + 1) (some (.cells [.lit (.int .i64 n), .lit (.int .i64 y.length)] 3 false))) 9 (.ptr nx 2) = some (strA y) := ld_y (k := k) (x := x) (p := p) (q := q) (by rw [Tr.get_put_ne _ _ _ _ (by omega), Tr.get_put_same])
    have hx3 : loadOp cx.T (((H.put nx (some (famO k x y p q))).put (nx + 1) (some (.cells [.lit (.int .i64 n), .lit (.int .i64 y.length)] 3 false))).put (nx + 1 + 1) (some (.cells [.lit (.int .i64 x.length), .lit (.int .i64 m)] 3 false))) 9 (.ptr nx 1) = some (strA x) :=
      ld_x (k := k) (y := y) (p := p) (q := q) (by rw [Tr.get_put_ne _ _ _ _ (by omega), Tr.get_put_ne _ _ _ _ (by omega), Tr.get_put_same])
    have hy3 : loadOp cx.T (((H.put nx (some (famO k x y p q))).put (nx + 1) (some (.cells [.lit (.int .i64 n), .lit (.int .i64 y.length)] 3 false))).put (nx + 1 + 1) (some (.cells [.lit (.int .i64 x.length), .lit (.int .i64 m)] 3 false))) 9 (.ptr nx 2) = some (strA y) :=
      ld_y (k := k) (x := x) (p := p) (q := q) (by rw [Tr.get_put_ne _ _ _ _ (by omega), Tr.get_put_ne _ _ _ _ (by omega), Tr.get_put_same])
    have eS : ∀ l : List UInt8, AV.eqB (strA l) (strA l) = true := fun l => by simp [strA, AV.eqB, valEqB]
    have bS : ∀ l : List UInt8, AV.belowB (nx + 1) (strA l) = true := fun l => rfl
    have ey : binOpA cx.P cx.T .eql 9 (.tmp 24) (.const (.string (ByteArray.mk #[]))) (strA y) (.lit (.string (ByteArray.mk #[]))) = some (.lit (.bool (decide (y = [])))) := str_eql (.tmp 24) (.const (.string (ByteArray.mk #[]))) y []
    simp only [↓wpS_skip, ↓wpS_ops, ↓wpS_seq, ↓wpS_cond, ↓wpS_block, ↓wpS_loop, ↓wpS_exit, ↓wpS_ret, condW_bool, ↓WOps_go, ↓WOps_skip, WOps_nil, stepA, opA, convA, isCall, put?, ev, Tr.get_put, Tr.get_nil, builtinA, callA, argEnv, wantedS, abs_int, abs_bool, abs_string, abs_nilp, abs_nili, abs_nilf, abs_nilm, abs_nils, un_not, undef, z_none, List.zipIdx_cons, List.zipIdx_nil, List.foldl_cons, List.foldl_nil, List.map_cons, List.map_nil, List.map_toArray, List.nil_append, List.cons_append, List.append_nil, extractOp, List.getElem?_cons_zero, List.getElem?_cons_succ,
    Option.map_some, Option.map_none, Nat.reduceLT, Nat.reduceEqDiff, Nat.reduceAdd, Nat.zero_add, if_true, if_false, Option.getD_some, Option.getD_none, ↓reduceIte, Bool.false_eq_true, Bool.true_eq_false, reduceCtorEq, resA, resOf, Option.some.injEq, exists_eq_left', beq_self_eq_true, decide_true, decide_false, decide_eq_true_eq, ne_eq, not_true_eq_false, not_false_eq_true, Bool.not_eq_true, beq_iff_eq, bin_add, bin_sub, bin_mul, bin_eql, bin_neq, bin_lss, bin_leq, bin_gtr, bin_geq, maxA, minA, Prod.mk.injEq, and_true, true_and, beq_eq_false_iff_ne, decide_eq_false_iff_not, Bool.true_beq, Bool.false_beq, beq_true, beq_false, Bool.not_true, Bool.not_false, List.getElem?_toArray, ↓WQ_cons, ↓WQ_nil, txS, ph0_still, ph0_skip, ph0_new, ph0_read, ph0_eff, ph1_still, ph1_skip, ph1_read, ph1_eff, ph2_still, ph2_skip, loadOp_ro, loadOp_nil, isEff, eqB_int, eqB_str, eqB_bool, eqB_ptr, eqB_slice, eqB_nils, AV.belowB, Nat.le_refl, nx_succ, ↓WH_cons2, ↓WH_nil, phW_eff, phW_read, phW_new, phW_still, phW_skip, phH_eff, phH_read, phH_new, phH_still, phH_skip, phR_eff, phR_read, phR_new, phR_still, phR_skip, allG_cons, allG_nil, allR_cons, allR_nil, goodAt_eq, ldLow, Nat.le_succ, Nat.lt_succ_self, fa74_1, fa74_2, hx1, hy1, hx2, hy2, hx3, hy3, eS, bS, str_len, partsA, bs2, x56, x74, hm0, ha0, ey]
    have hfr : ∀ c, c < nx → (if c = nx + 1 + 1 then some (AObj.cells [AV.lit (Value.int IntKind.i64 ↑x.length), AV.lit (Value.int IntKind.i64 m)] 3 false)
        else if c = nx + 1 then some (AObj.cells [AV.lit (Value.int IntKind.i64 n), AV.lit (Value.int IntKind.i64 ↑y.length)] 3 false) else if c = nx then some (famO k x y p q) else Tr.get H c) = Tr.get H c :=
      fun c hc => by rw [if_neg (by omega), if_neg (by omega), if_neg (by omega)]
    by_cases hb : satN (x.length + m.toNat) > 1048576
    · rw [if_pos hb]
      have e : wordV x y n = ([], 3) := by unfold wordV; rw [if_neg h0, hmv, if_pos hb]
      rw [e]
      exact ⟨rfl, by omega, hfr⟩
    · rw [if_neg hb]
      by_cases hy0 : y = []
      · have e : wordV x y n = (x, 0) := by unfold wordV; rw [if_neg h0, hmv, if_neg hb, if_pos hy0]
        rw [if_pos hy0, e]
        exact ⟨rfl, by omega, hfr⟩
      · have e : wordV x y n = (x ++ Lib.repeatL y n.toNat, 0) := by unfold wordV; rw [if_neg h0, hmv, if_neg hb, if_neg hy0]
        rw [if_neg hy0, e]
        have hyl : 1 ≤ y.length := by cases y with | nil => exact absurd rfl hy0 | cons a l => simp
        have hbound : n.toNat * y.length ≤ 1048576 := by
          have h1 : m.toNat ≤ 1048576 := by unfold satN at hb; omega
          rw [← hmv, satN_toNat] at h1
          omega
        have hn2 : n.toNat ≤ 1048576 := Nat.le_trans (Nat.le_mul_of_pos_right _ hyl) hbound
        have hr := x75 y (n := n) (by omega) (by omega) (by rw [Nat.mul_comm]; omega)
        have hcat := str_add (.tmp 29) (.tmp 33) x (Lib.repeatL y n.toNat) (by rw [Lib.repeatL_length]; omega)
        refine wpS_draw6 (nx + 1) (by omega) (show s39_d1.toList.map (stripO s39_d1) = s39_d1s by kernel_rfl) ?_
        unfold s39_d1s
        have bS3 : ∀ l : List UInt8, AV.belowB (nx + 1 + 1 + 1) (strA l) = true := fun l => rfl
        simp only [↓wpS_skip, ↓wpS_ops, ↓wpS_seq, ↓wpS_cond, ↓wpS_block, ↓wpS_loop, ↓wpS_exit, ↓wpS_ret, condW_bool, ↓WOps_go, ↓WOps_skip, WOps_nil, stepA, opA, convA, isCall, put?, ev, Tr.get_put, Tr.get_nil, builtinA, callA, argEnv, wantedS, abs_int, abs_bool, abs_string, abs_nilp, abs_nili, abs_nilf, abs_nilm, abs_nils, un_not, undef, z_none, List.zipIdx_cons, List.zipIdx_nil, List.foldl_cons, List.foldl_nil, List.map_cons, List.map_nil, List.map_toArray, List.nil_append, List.cons_append, List.append_nil, extractOp, List.getElem?_cons_zero, List.getElem?_cons_succ,
    Option.map_some, Option.map_none, Nat.reduceLT, Nat.reduceEqDiff, Nat.reduceAdd, Nat.zero_add, if_true, if_false, Option.getD_some, Option.getD_none, ↓reduceIte, Bool.false_eq_true, Bool.true_eq_false, reduceCtorEq, resA, resOf, Option.some.injEq, exists_eq_left', beq_self_eq_true, decide_true, decide_false, decide_eq_true_eq, ne_eq, not_true_eq_false, not_false_eq_true, Bool.not_eq_true, beq_iff_eq, bin_add, bin_sub, bin_mul, bin_eql, bin_neq, bin_lss, bin_leq, bin_gtr, bin_geq, maxA, minA, Prod.mk.injEq, and_true, true_and, beq_eq_false_iff_ne, decide_eq_false_iff_not, Bool.true_beq, Bool.false_beq, beq_true, beq_false, Bool.not_true, Bool.not_false, List.getElem?_toArray, ↓WQ_cons, ↓WQ_nil, txS, ph0_still, ph0_skip, ph0_new, ph0_read, ph0_eff, ph1_still, ph1_skip, ph1_read, ph1_eff, ph2_still, ph2_skip, loadOp_ro, loadOp_nil, isEff, eqB_int, eqB_str, eqB_bool, eqB_ptr, eqB_slice, eqB_nils, AV.belowB, Nat.le_refl, nx_succ, ↓WH_cons2, ↓WH_nil, phW_eff, phW_read, phW_new, phW_still, phW_skip, phH_eff, phH_read, phH_new, phH_still, phH_skip, phR_eff, phR_read, phR_new, phR_still, phR_skip, allG_cons, allG_nil, allR_cons, allR_nil, goodAt_eq, ldLow, Nat.le_succ, Nat.lt_succ_self, fa74_1, fa74_2, hx3, hy3, eS, bS3, hr, hcat]
        exact ⟨by omega, hfr⟩
end Seat
end CI
/- PumpWords: the law's end: a word, byte by byte. -/
set_option linter.unusedVariables false
set_option linter.unusedSimpArgs false
set_option maxRecDepth 10000
namespace CI
open Go
namespace Seat
variable {H : Heap} {nx : Nat} {E : Tr AV}
def Q7 : Ex → St → Prop := fun e s' => match e with
  | .exit _ => False
  | _ => ∃ v, resA cx s' [(ResultVar.tmp 4)] = some v ∧ v = .lit (.bool true)
theorem t10_ok : wpS cx 192 s7_t10 ⟨E, H, nx⟩ Q7 := by
  unfold s7_t10 s7_t11 Q7
  simp only [↓wpS_skip, ↓wpS_ops, ↓wpS_seq, ↓wpS_cond, ↓wpS_block, ↓wpS_loop, ↓wpS_exit, ↓wpS_ret, condW_bool, ↓WOps_go, ↓WOps_skip, WOps_nil, stepA, opA, convA, isCall, put?, ev, Tr.get_put, Tr.get_nil, builtinA, callA, argEnv, wantedS, abs_int, abs_bool, abs_string, abs_nilp, abs_nili, abs_nilf, abs_nilm, abs_nils, un_not, undef, z_none, List.zipIdx_cons, List.zipIdx_nil, List.foldl_cons, List.foldl_nil, List.map_cons, List.map_nil, List.map_toArray, List.nil_append, List.cons_append, List.append_nil, extractOp, List.getElem?_cons_zero, List.getElem?_cons_succ,
    Option.map_some, Option.map_none, Nat.reduceLT, Nat.reduceEqDiff, Nat.reduceAdd, Nat.zero_add, if_true, if_false, Option.getD_some, Option.getD_none, ↓reduceIte, Bool.false_eq_true, Bool.true_eq_false, reduceCtorEq, resA, resOf, Option.some.injEq, exists_eq_left', beq_self_eq_true, decide_true, decide_false, decide_eq_true_eq, ne_eq, not_true_eq_false, not_false_eq_true, Bool.not_eq_true, beq_iff_eq, bin_add, bin_sub, bin_mul, bin_eql, bin_neq, bin_lss, bin_leq, bin_gtr, bin_geq, maxA, minA, Prod.mk.injEq, and_true, true_and, beq_eq_false_iff_ne, decide_eq_false_iff_not, Bool.true_beq, Bool.false_beq, beq_true, beq_false, Bool.not_true, Bool.not_false, List.getElem?_toArray, x_awake]
/-- A word is as the family says. -/
structure WordOK (x y w : List UInt8) : Prop where
  len : w.length ≤ 4000000
  pre : ∀ i, i < x.length → i < w.length → w[i]? = x[i]?
  rep : ∀ i, x.length ≤ i → i < w.length → y ≠ [] ∧ w[i]? = y[(i - x.length) % y.length]?
theorem t9_ok {b : Nat} {k p q : Int} {x y w : List UInt8} (hb : H.get b = some (famO k x y p q)) (hbn : b < nx) (hx : x.length ≤ 200) (hy : y.length ≤ 200) (hw : WordOK x y w)
    (h2 : E.get 2 = some (.ptr b 0)) (h5 : E.get 5 = some (strA w)) : wpS cx 192 s7_t9 ⟨E, H, nx⟩ Q7 := by
  have hwl := hw.len
  unfold s7_t9
  simp only [↓wpS_skip, ↓wpS_ops, ↓wpS_seq, ↓wpS_cond, ↓wpS_block, ↓wpS_loop, ↓wpS_exit, ↓wpS_ret, condW_bool, ↓WOps_go, ↓WOps_skip, WOps_nil, stepA, opA, convA, isCall, put?, ev, Tr.get_put, Tr.get_nil, builtinA, callA, argEnv, wantedS, abs_int, abs_bool, abs_string, abs_nilp, abs_nili, abs_nilf, abs_nilm, abs_nils, un_not, undef, z_none, List.zipIdx_cons, List.zipIdx_nil, List.foldl_cons, List.foldl_nil, List.map_cons, List.map_nil, List.map_toArray, List.nil_append, List.cons_append, List.append_nil, extractOp, List.getElem?_cons_zero, List.getElem?_cons_succ,
    Option.map_some, Option.map_none, Nat.reduceLT, Nat.reduceEqDiff, Nat.reduceAdd, Nat.zero_add, if_true, if_false, Option.getD_some, Option.getD_none, ↓reduceIte, Bool.false_eq_true, Bool.true_eq_false, reduceCtorEq, resA, resOf, Option.some.injEq, exists_eq_left', beq_self_eq_true, decide_true, decide_false, decide_eq_true_eq, ne_eq, not_true_eq_false, not_false_eq_true, Bool.not_eq_true, beq_iff_eq, bin_add, bin_sub, bin_mul, bin_eql, bin_neq, bin_lss, bin_leq, bin_gtr, bin_geq, maxA, minA, Prod.mk.injEq, and_true, true_and, beq_eq_false_iff_ne, decide_eq_false_iff_not, Bool.true_beq, Bool.false_beq, beq_true, beq_false, Bool.not_true, Bool.not_false, List.getElem?_toArray, h2, h5]
  refine Wp_loop (fun m st => ∃ i : Nat, m = w.length - i ∧ i ≤ w.length ∧ st.H = H ∧ st.nx = nx ∧ st.env.get 2 = some (.ptr b 0) ∧ st.env.get 5 = some (strA w) ∧ st.env.get 8 = some (.lit (.int .i64 i))) ?_ w.length _ ⟨0, ?_⟩
  · rintro m ⟨E1, H1, nx1⟩ ⟨i, hm, hi, e1, e2, f2, f5, f8⟩
    simp only at e1 e2 f2 f5 f8; subst e1; subst e2
    refine Wp_of ?_
    unfold s7_l0
    by_cases hlt : i < w.length
    · by_cases h3 : (i : Int) < 3000
      · simp only [↓wpS_skip, ↓wpS_ops, ↓wpS_seq, ↓wpS_cond, ↓wpS_block, ↓wpS_loop, ↓wpS_exit, ↓wpS_ret, condW_bool, ↓WOps_go, ↓WOps_skip, WOps_nil, stepA, opA, convA, isCall, put?, ev, Tr.get_put, Tr.get_nil, builtinA, callA, argEnv, wantedS, abs_int, abs_bool, abs_string, abs_nilp, abs_nili, abs_nilf, abs_nilm, abs_nils, un_not, undef, z_none, List.zipIdx_cons, List.zipIdx_nil, List.foldl_cons, List.foldl_nil, List.map_cons, List.map_nil, List.map_toArray, List.nil_append, List.cons_append, List.append_nil, extractOp, List.getElem?_cons_zero, List.getElem?_cons_succ,
    Option.map_some, Option.map_none, Nat.reduceLT, Nat.reduceEqDiff, Nat.reduceAdd, Nat.zero_add, if_true, if_false, Option.getD_some, Option.getD_none, ↓reduceIte, Bool.false_eq_true, Bool.true_eq_false, reduceCtorEq, resA, resOf, Option.some.injEq, exists_eq_left', beq_self_eq_true, decide_true, decide_false, decide_eq_true_eq, ne_eq, not_true_eq_false, not_false_eq_true, Bool.not_eq_true, beq_iff_eq, bin_add, bin_sub, bin_mul, bin_eql, bin_neq, bin_lss, bin_leq, bin_gtr, bin_geq, maxA, minA, Prod.mk.injEq, and_true, true_and, beq_eq_false_iff_ne, decide_eq_false_iff_not, Bool.true_beq, Bool.false_beq, beq_true, beq_false, Bool.not_true, Bool.not_false, List.getElem?_toArray, f2, f5, f8, str_len, Int.ofNat_lt, hlt, h3]
        refine wpS_draw6 nx1 (Nat.le_refl _) (show s7_d0.toList.map (stripO s7_d0) = s7_d0s by kernel_rfl) ?_
        unfold s7_d0s
        have hlx : loadOp cx.T H1 9 (.ptr b 1) = some (strA x) := ld_x hb
        have hly : loadOp cx.T H1 9 (.ptr b 2) = some (strA y) := ld_y hb
        have eS : ∀ l : List UInt8, AV.eqB (strA l) (strA l) = true := fun l => by simp [strA, AV.eqB, valEqB]
        have bS : ∀ l : List UInt8, AV.belowB nx1 (strA l) = true := fun l => rfl
        have hwi : w[i]? = some w[i] := List.getElem?_eq_getElem hlt
        have iw := str_ix w i w[i] .i64 hwi
        have hwr : IntKind.i64.wrap ((i : Int) + 1) = ((i + 1 : Nat) : Int) := by rw [wrapI ⟨by omega, by omega⟩]; rfl
        by_cases hix : i < x.length
        · have hxi := (hw.pre i hix hlt).symm.trans hwi
          have ix := str_ix x i w[i] .i64 hxi
          have hge : ((i : Int) ≥ (x.length : Int)) = False := by simp; omega
          simp only [↓wpS_skip, ↓wpS_ops, ↓wpS_seq, ↓wpS_cond, ↓wpS_block, ↓wpS_loop, ↓wpS_exit, ↓wpS_ret, condW_bool, ↓WOps_go, ↓WOps_skip, WOps_nil, stepA, opA, convA, isCall, put?, ev, Tr.get_put, Tr.get_nil, builtinA, callA, argEnv, wantedS, abs_int, abs_bool, abs_string, abs_nilp, abs_nili, abs_nilf, abs_nilm, abs_nils, un_not, undef, z_none, List.zipIdx_cons, List.zipIdx_nil, List.foldl_cons, List.foldl_nil, List.map_cons, List.map_nil, List.map_toArray, List.nil_append, List.cons_append, List.append_nil, extractOp, List.getElem?_cons_zero, List.getElem?_cons_succ,
    Option.map_some, Option.map_none, Nat.reduceLT, Nat.reduceEqDiff, Nat.reduceAdd, Nat.zero_add, if_true, if_false, Option.getD_some, Option.getD_none, ↓reduceIte, Bool.false_eq_true, Bool.true_eq_false, reduceCtorEq, resA, resOf, Option.some.injEq, exists_eq_left', beq_self_eq_true, decide_true, decide_false, decide_eq_true_eq, ne_eq, not_true_eq_false, not_false_eq_true, Bool.not_eq_true, beq_iff_eq, bin_add, bin_sub, bin_mul, bin_eql, bin_neq, bin_lss, bin_leq, bin_gtr, bin_geq, maxA, minA, Prod.mk.injEq, and_true, true_and, beq_eq_false_iff_ne, decide_eq_false_iff_not, Bool.true_beq, Bool.false_beq, beq_true, beq_false, Bool.not_true, Bool.not_false, List.getElem?_toArray, ↓WQ_cons, ↓WQ_nil, txS, ph0_still, ph0_skip, ph0_new, ph0_read, ph0_eff, ph1_still, ph1_skip, ph1_read, ph1_eff, ph2_still, ph2_skip, loadOp_ro, loadOp_nil, isEff, eqB_int, eqB_str, eqB_bool, eqB_ptr, eqB_slice, eqB_nils, AV.belowB, Nat.le_refl, nx_succ, ↓WH_cons2, ↓WH_nil, phW_eff, phW_read, phW_new, phW_still, phW_skip, phH_eff, phH_read, phH_new, phH_still, phH_skip, phR_eff, phR_read, phR_new, phR_still, phR_skip, allG_cons, allG_nil, allR_cons, allR_nil, goodAt_eq, ldLow, Nat.le_succ, Nat.lt_succ_self, f2, f5, f8, fa74_1, fa74_2, hlx, hly, eS, bS, str_len, Int.ofNat_lt, hix, iw, ix, byteA, hge, hbn, hwr]
          exact ⟨w.length - (i + 1), by omega, i + 1, rfl, by omega, rfl⟩
        · obtain ⟨hyn, hwy⟩ := hw.rep i (by omega) hlt
          have hyl : 1 ≤ y.length := by cases y with | nil => exact absurd rfl hyn | cons a l => simp
          have iy := str_ix y ((i - x.length) % y.length) w[i] .i64 (hwy.symm.trans hwi)
          have hge : ((i : Int) ≥ (x.length : Int)) = True := by simp; omega
          have hsub : IntKind.i64.wrap ((i : Int) - (x.length : Int)) = ((i - x.length : Nat) : Int) := by
            rw [wrapI ⟨by omega, by omega⟩]; omega
          have hrem : binOpA cx.P cx.T .rem 3 (.tmp 182) (.tmp 185) (.lit (.int .i64 ((i - x.length : Nat) : Int))) (.lit (.int .i64 (y.length : Int))) = some (.lit (.int .i64 (((i - x.length) % y.length : Nat) : Int))) := by
            rw [bin_rem _ _ _ _ _ _ _ _ (by omega), Int.tmod_eq_emod_of_nonneg (by omega)]
            rfl
          simp only [↓wpS_skip, ↓wpS_ops, ↓wpS_seq, ↓wpS_cond, ↓wpS_block, ↓wpS_loop, ↓wpS_exit, ↓wpS_ret, condW_bool, ↓WOps_go, ↓WOps_skip, WOps_nil, stepA, opA, convA, isCall, put?, ev, Tr.get_put, Tr.get_nil, builtinA, callA, argEnv, wantedS, abs_int, abs_bool, abs_string, abs_nilp, abs_nili, abs_nilf, abs_nilm, abs_nils, un_not, undef, z_none, List.zipIdx_cons, List.zipIdx_nil, List.foldl_cons, List.foldl_nil, List.map_cons, List.map_nil, List.map_toArray, List.nil_append, List.cons_append, List.append_nil, extractOp, List.getElem?_cons_zero, List.getElem?_cons_succ,
    Option.map_some, Option.map_none, Nat.reduceLT, Nat.reduceEqDiff, Nat.reduceAdd, Nat.zero_add, if_true, if_false, Option.getD_some, Option.getD_none, ↓reduceIte, Bool.false_eq_true, Bool.true_eq_false, reduceCtorEq, resA, resOf, Option.some.injEq, exists_eq_left', beq_self_eq_true, decide_true, decide_false, decide_eq_true_eq, ne_eq, not_true_eq_false, not_false_eq_true, Bool.not_eq_true, beq_iff_eq, bin_add, bin_sub, bin_mul, bin_eql, bin_neq, bin_lss, bin_leq, bin_gtr, bin_geq, maxA, minA, Prod.mk.injEq, and_true, true_and, beq_eq_false_iff_ne, decide_eq_false_iff_not, Bool.true_beq, Bool.false_beq, beq_true, beq_false, Bool.not_true, Bool.not_false, List.getElem?_toArray, ↓WQ_cons, ↓WQ_nil, txS, ph0_still, ph0_skip, ph0_new, ph0_read, ph0_eff, ph1_still, ph1_skip, ph1_read, ph1_eff, ph2_still, ph2_skip, loadOp_ro, loadOp_nil, isEff, eqB_int, eqB_str, eqB_bool, eqB_ptr, eqB_slice, eqB_nils, AV.belowB, Nat.le_refl, nx_succ, ↓WH_cons2, ↓WH_nil, phW_eff, phW_read, phW_new, phW_still, phW_skip, phH_eff, phH_read, phH_new, phH_still, phH_skip, phR_eff, phR_read, phR_new, phR_still, phR_skip, allG_cons, allG_nil, allR_cons, allR_nil, goodAt_eq, ldLow, Nat.le_succ, Nat.lt_succ_self, f2, f5, f8, fa74_1, fa74_2, hlx, hly, eS, bS, str_len, Int.ofNat_lt, hix, iw, iy, byteA, hge, hsub, hrem, hbn, hwr]
          exact ⟨w.length - (i + 1), by omega, i + 1, rfl, by omega, rfl⟩
      · simp only [↓wpS_skip, ↓wpS_ops, ↓wpS_seq, ↓wpS_cond, ↓wpS_block, ↓wpS_loop, ↓wpS_exit, ↓wpS_ret, condW_bool, ↓WOps_go, ↓WOps_skip, WOps_nil, stepA, opA, convA, isCall, put?, ev, Tr.get_put, Tr.get_nil, builtinA, callA, argEnv, wantedS, abs_int, abs_bool, abs_string, abs_nilp, abs_nili, abs_nilf, abs_nilm, abs_nils, un_not, undef, z_none, List.zipIdx_cons, List.zipIdx_nil, List.foldl_cons, List.foldl_nil, List.map_cons, List.map_nil, List.map_toArray, List.nil_append, List.cons_append, List.append_nil, extractOp, List.getElem?_cons_zero, List.getElem?_cons_succ,
    Option.map_some, Option.map_none, Nat.reduceLT, Nat.reduceEqDiff, Nat.reduceAdd, Nat.zero_add, if_true, if_false, Option.getD_some, Option.getD_none, ↓reduceIte, Bool.false_eq_true, Bool.true_eq_false, reduceCtorEq, resA, resOf, Option.some.injEq, exists_eq_left', beq_self_eq_true, decide_true, decide_false, decide_eq_true_eq, ne_eq, not_true_eq_false, not_false_eq_true, Bool.not_eq_true, beq_iff_eq, bin_add, bin_sub, bin_mul, bin_eql, bin_neq, bin_lss, bin_leq, bin_gtr, bin_geq, maxA, minA, Prod.mk.injEq, and_true, true_and, beq_eq_false_iff_ne, decide_eq_false_iff_not, Bool.true_beq, Bool.false_beq, beq_true, beq_false, Bool.not_true, Bool.not_false, List.getElem?_toArray, f2, f5, f8, str_len, Int.ofNat_lt, hlt, h3]
        exact t10_ok
    · simp only [↓wpS_skip, ↓wpS_ops, ↓wpS_seq, ↓wpS_cond, ↓wpS_block, ↓wpS_loop, ↓wpS_exit, ↓wpS_ret, condW_bool, ↓WOps_go, ↓WOps_skip, WOps_nil, stepA, opA, convA, isCall, put?, ev, Tr.get_put, Tr.get_nil, builtinA, callA, argEnv, wantedS, abs_int, abs_bool, abs_string, abs_nilp, abs_nili, abs_nilf, abs_nilm, abs_nils, un_not, undef, z_none, List.zipIdx_cons, List.zipIdx_nil, List.foldl_cons, List.foldl_nil, List.map_cons, List.map_nil, List.map_toArray, List.nil_append, List.cons_append, List.append_nil, extractOp, List.getElem?_cons_zero, List.getElem?_cons_succ,
    Option.map_some, Option.map_none, Nat.reduceLT, Nat.reduceEqDiff, Nat.reduceAdd, Nat.zero_add, if_true, if_false, Option.getD_some, Option.getD_none, ↓reduceIte, Bool.false_eq_true, Bool.true_eq_false, reduceCtorEq, resA, resOf, Option.some.injEq, exists_eq_left', beq_self_eq_true, decide_true, decide_false, decide_eq_true_eq, ne_eq, not_true_eq_false, not_false_eq_true, Bool.not_eq_true, beq_iff_eq, bin_add, bin_sub, bin_mul, bin_eql, bin_neq, bin_lss, bin_leq, bin_gtr, bin_geq, maxA, minA, Prod.mk.injEq, and_true, true_and, beq_eq_false_iff_ne, decide_eq_false_iff_not, Bool.true_beq, Bool.false_beq, beq_true, beq_false, Bool.not_true, Bool.not_false, List.getElem?_toArray, f2, f5, f8, str_len, Int.ofNat_lt, hlt]
      exact t10_ok
  · simp only [↓wpS_skip, ↓wpS_ops, ↓wpS_seq, ↓wpS_cond, ↓wpS_block, ↓wpS_loop, ↓wpS_exit, ↓wpS_ret, condW_bool, ↓WOps_go, ↓WOps_skip, WOps_nil, stepA, opA, convA, isCall, put?, ev, Tr.get_put, Tr.get_nil, builtinA, callA, argEnv, wantedS, abs_int, abs_bool, abs_string, abs_nilp, abs_nili, abs_nilf, abs_nilm, abs_nils, un_not, undef, z_none, List.zipIdx_cons, List.zipIdx_nil, List.foldl_cons, List.foldl_nil, List.map_cons, List.map_nil, List.map_toArray, List.nil_append, List.cons_append, List.append_nil, extractOp, List.getElem?_cons_zero, List.getElem?_cons_succ,
    Option.map_some, Option.map_none, Nat.reduceLT, Nat.reduceEqDiff, Nat.reduceAdd, Nat.zero_add, if_true, if_false, Option.getD_some, Option.getD_none, ↓reduceIte, Bool.false_eq_true, Bool.true_eq_false, reduceCtorEq, resA, resOf, Option.some.injEq, exists_eq_left', beq_self_eq_true, decide_true, decide_false, decide_eq_true_eq, ne_eq, not_true_eq_false, not_false_eq_true, Bool.not_eq_true, beq_iff_eq, bin_add, bin_sub, bin_mul, bin_eql, bin_neq, bin_lss, bin_leq, bin_gtr, bin_geq, maxA, minA, Prod.mk.injEq, and_true, true_and, beq_eq_false_iff_ne, decide_eq_false_iff_not, Bool.true_beq, Bool.false_beq, beq_true, beq_false, Bool.not_true, Bool.not_false, List.getElem?_toArray, h2, h5]
    exact ⟨rfl, by omega, rfl⟩
end Seat
end CI
/- PumpWords: the law's checks, from the end on. -/
set_option linter.unusedVariables false
set_option linter.unusedSimpArgs false
set_option maxRecDepth 10000
namespace CI
open Go
namespace Seat
variable {H : Heap} {nx : Nat} {E : Tr AV}
theorem str_neq (x y : Operand) (l m : List UInt8) : binOpA cx.P cx.T .neq 9 x y (strA l) (strA m) = some (.lit (.bool (decide (l ≠ m)))) := by
  have e : plain2 cx.P (fun p q => do eqGuard .neq 9 x y p q; binOp .neq 9 p q) (strA l) (strA m) = (pureRun cx.P (Op.stringOp .neq (B l) (B m))).map abs := rfl
  unfold binOpA
  rw [e]
  simp only [Op.stringOp, B_toList]
  rw [show (!(l == m)) = decide (l ≠ m) from by by_cases h : l = m <;> simp [h]]
  rfl
theorem t8_ok {b : Nat} {k p q n : Int} {x y w : List UInt8} (hb : H.get b = some (famO k x y p q)) (hbn : b < nx) (hx : x.length ≤ 200) (hy : y.length ≤ 200) (hw : WordOK x y w)
    (hy1 : y ≠ [] → 0 ≤ n ∧ n ≤ 1048576 ∧ (w.length : Int) = x.length + n * y.length) (hy0 : y = [] → w = x)
    (h1 : E.get 1 = some (.lit (.int .i64 n))) (h2 : E.get 2 = some (.ptr b 0)) (h5 : E.get 5 = some (strA w)) (h6 : E.get 6 = some (.lit (.int .i64 0))) : wpS cx 192 s7_t8 ⟨E, H, nx⟩ Q7 := by
  unfold s7_t8
  have hlx : loadOp cx.T H 9 (.ptr b 1) = some (strA x) := ld_x hb
  have hly : loadOp cx.T H 9 (.ptr b 2) = some (strA y) := ld_y hb
  by_cases he : y = []
  · have hwx := hy0 he
    have g1 : ((y.length : Int) > 0) = False := by rw [he]; simp
    have g2 : ((y.length : Int) = 0) = True := by rw [he]; simp
    have g3 : (w ≠ x) = False := by simp [hwx]
    simp only [↓wpS_skip, ↓wpS_ops, ↓wpS_seq, ↓wpS_cond, ↓wpS_block, ↓wpS_loop, ↓wpS_exit, ↓wpS_ret, condW_bool, ↓WOps_go, ↓WOps_skip, WOps_nil, stepA, opA, convA, isCall, put?, ev, Tr.get_put, Tr.get_nil, builtinA, callA, argEnv, wantedS, abs_int, abs_bool, abs_string, abs_nilp, abs_nili, abs_nilf, abs_nilm, abs_nils, un_not, undef, z_none, List.zipIdx_cons, List.zipIdx_nil, List.foldl_cons, List.foldl_nil, List.map_cons, List.map_nil, List.map_toArray, List.nil_append, List.cons_append, List.append_nil, extractOp, List.getElem?_cons_zero, List.getElem?_cons_succ,
    Option.map_some, Option.map_none, Nat.reduceLT, Nat.reduceEqDiff, Nat.reduceAdd, Nat.zero_add, if_true, if_false, Option.getD_some, Option.getD_none, ↓reduceIte, Bool.false_eq_true, Bool.true_eq_false, reduceCtorEq, resA, resOf, Option.some.injEq, exists_eq_left', beq_self_eq_true, decide_true, decide_false, decide_eq_true_eq, ne_eq, not_true_eq_false, not_false_eq_true, Bool.not_eq_true, beq_iff_eq, bin_add, bin_sub, bin_mul, bin_eql, bin_neq, bin_lss, bin_leq, bin_gtr, bin_geq, maxA, minA, Prod.mk.injEq, and_true, true_and, beq_eq_false_iff_ne, decide_eq_false_iff_not, Bool.true_beq, Bool.false_beq, beq_true, beq_false, Bool.not_true, Bool.not_false, List.getElem?_toArray, h1, h2, h5, h6, fa74_1, fa74_2, hlx, hly, str_len, str_neq, g1, g2, g3]
    exact t9_ok hb hbn hx hy hw (by simp only [Tr.get_put]; simpa using h2) (by simp only [Tr.get_put]; simpa using h5)
  · obtain ⟨n0, n1, hlen⟩ := hy1 he
    have hyl : 1 ≤ y.length := by cases y with | nil => exact absurd rfl he | cons a l => simp
    have hml : 0 ≤ n * (y.length : Int) ∧ n * (y.length : Int) ≤ 1048576 * 200 := ⟨Int.mul_nonneg n0 (by omega), Int.mul_le_mul n1 (by omega) (by omega) (by decide)⟩
    have g1 : ((y.length : Int) > 0) = True := by simp; omega
    have g2 : ((y.length : Int) = 0) = False := by simp; omega
    have w1 : IntKind.i64.wrap (n * (y.length : Int)) = n * (y.length : Int) := wrapI ⟨by omega, by omega⟩
    have w2 : IntKind.i64.wrap ((x.length : Int) + n * (y.length : Int)) = (w.length : Int) := by rw [wrapI ⟨by omega, by omega⟩, hlen]
    simp only [↓wpS_skip, ↓wpS_ops, ↓wpS_seq, ↓wpS_cond, ↓wpS_block, ↓wpS_loop, ↓wpS_exit, ↓wpS_ret, condW_bool, ↓WOps_go, ↓WOps_skip, WOps_nil, stepA, opA, convA, isCall, put?, ev, Tr.get_put, Tr.get_nil, builtinA, callA, argEnv, wantedS, abs_int, abs_bool, abs_string, abs_nilp, abs_nili, abs_nilf, abs_nilm, abs_nils, un_not, undef, z_none, List.zipIdx_cons, List.zipIdx_nil, List.foldl_cons, List.foldl_nil, List.map_cons, List.map_nil, List.map_toArray, List.nil_append, List.cons_append, List.append_nil, extractOp, List.getElem?_cons_zero, List.getElem?_cons_succ,
    Option.map_some, Option.map_none, Nat.reduceLT, Nat.reduceEqDiff, Nat.reduceAdd, Nat.zero_add, if_true, if_false, Option.getD_some, Option.getD_none, ↓reduceIte, Bool.false_eq_true, Bool.true_eq_false, reduceCtorEq, resA, resOf, Option.some.injEq, exists_eq_left', beq_self_eq_true, decide_true, decide_false, decide_eq_true_eq, ne_eq, not_true_eq_false, not_false_eq_true, Bool.not_eq_true, beq_iff_eq, bin_add, bin_sub, bin_mul, bin_eql, bin_neq, bin_lss, bin_leq, bin_gtr, bin_geq, maxA, minA, Prod.mk.injEq, and_true, true_and, beq_eq_false_iff_ne, decide_eq_false_iff_not, Bool.true_beq, Bool.false_beq, beq_true, beq_false, Bool.not_true, Bool.not_false, List.getElem?_toArray, h1, h2, h5, h6, fa74_1, fa74_2, hlx, hly, str_len, str_neq, g1, g2, w1, w2]
    exact t9_ok hb hbn hx hy hw (by simp only [Tr.get_put]; simpa using h2) (by simp only [Tr.get_put]; simpa using h5)
theorem rep_at (y : List UInt8) : ∀ (c j : Nat), j < c * y.length → (Lib.repeatL y c)[j]? = y[j % y.length]?
  | 0, j, h => by omega
  | c + 1, j, h => by
    show (y ++ Lib.repeatL y c)[j]? = _
    rw [Nat.add_mul, Nat.one_mul] at h
    by_cases hj : j < y.length
    · rw [List.getElem?_append_left hj, Nat.mod_eq_of_lt hj]
    · rw [List.getElem?_append_right (by omega), rep_at y c (j - y.length) (by omega), ← Nat.mod_eq_sub_mod (by omega)]
/-- Too long a word. -/
def Long (x y : List UInt8) (n : Int) : Prop := (n > 1048576 ∧ (y.length : Int) > 0) ∨ (n ≤ 1048576 ∧ (x.length : Int) + n * y.length > 1048576)
theorem wordV_spec {x y : List UInt8} {n : Int} (hx : x.length ≤ 200) (hy : y.length ≤ 200) (hn : I64 n) (h0 : 0 ≤ n) :
    (Long x y n → wordV x y n = ([], 3)) ∧ (¬ Long x y n → (wordV x y n).2 = 0 ∧ WordOK x y (wordV x y n).1 ∧ (y ≠ [] → 0 ≤ n ∧ n ≤ 1048576 ∧ ((wordV x y n).1.length : Int) = x.length + n * y.length) ∧ (y = [] → (wordV x y n).1 = x)) := by
  obtain ⟨c, rfl⟩ : ∃ c : Nat, n = c := ⟨n.toNat, by omega⟩
  have hc : c ≤ 9223372036854775807 := by have := hn.2; omega
  have hcast : ((c : Int) * (y.length : Int)) = ((c * y.length : Nat) : Int) := by simp
  have key : (satN (x.length + (satN ((c : Int).toNat * y.length)).toNat) > 1048576) ↔ x.length + c * y.length > 1048576 := by
    rw [satN_toNat, Int.toNat_natCast]
    unfold satN
    omega
  have hlong : Long x y c ↔ x.length + c * y.length > 1048576 := by
    unfold Long
    rw [hcast]
    by_cases hyl : y.length = 0
    · rw [hyl]; simp; omega
    · have h1 : c ≤ c * y.length := Nat.le_mul_of_pos_right _ (by omega)
      constructor
      · rintro (⟨a, b⟩ | ⟨a, b⟩) <;> omega
      · intro h
        by_cases hcl : (c : Int) ≤ 1048576
        · right; exact ⟨hcl, by omega⟩
        · left; exact ⟨by omega, by omega⟩
  refine ⟨fun hl => ?_, fun hl => ?_⟩
  · unfold wordV
    rw [if_neg (by omega), if_pos (key.2 (hlong.1 hl))]
  · have hs : ¬ x.length + c * y.length > 1048576 := fun h => hl (hlong.2 h)
    have hk : ¬ satN (x.length + (satN ((c : Int).toNat * y.length)).toNat) > 1048576 := fun h => hs (key.1 h)
    by_cases hye : y = []
    · have e : wordV x y c = (x, 0) := by unfold wordV; rw [if_neg (by omega), if_neg hk, if_pos hye]
      rw [e]
      refine ⟨rfl, ⟨by show x.length ≤ 4000000; omega, fun i h1 h2 => rfl, fun i h1 h2 => by simp only at h2; omega⟩, fun h => absurd hye h, fun _ => rfl⟩
    · have hyl : 1 ≤ y.length := by cases y with | nil => exact absurd rfl hye | cons a l => simp
      have e : wordV x y c = (x ++ Lib.repeatL y c, 0) := by unfold wordV; rw [if_neg (by omega), if_neg hk, if_neg hye, Int.toNat_natCast]
      rw [e]
      have h1 : c ≤ c * y.length := Nat.le_mul_of_pos_right _ (by omega)
      have hlen : (x ++ Lib.repeatL y c).length = x.length + c * y.length := by rw [List.length_append, Lib.repeatL_length]
      refine ⟨rfl, ⟨by rw [hlen]; omega, fun i h1 h2 => List.getElem?_append_left h1, fun i h1 h2 => ⟨hye, ?_⟩⟩, fun _ => ⟨by omega, by omega, by rw [hlen, hcast]; simp⟩, fun h => absurd h hye⟩
      simp only at h2
      rw [hlen] at h2
      rw [List.getElem?_append_right h1, rep_at y c _ (by omega)]
theorem t7_ok {b : Nat} {k p q n : Int} {x y w : List UInt8} {e : Int} (hb : H.get b = some (famO k x y p q)) (hbn : b < nx) (hx : x.length ≤ 200) (hy : y.length ≤ 200) (hn : I64 n) (h0 : 0 ≤ n)
    (hw : wordV x y n = (w, e))
    (h1 : E.get 1 = some (.lit (.int .i64 n))) (h2 : E.get 2 = some (.ptr b 0)) (h5 : E.get 5 = some (strA w)) (h6 : E.get 6 = some (.lit (.int .i64 e))) : wpS cx 192 s7_t7 ⟨E, H, nx⟩ Q7 := by
  obtain ⟨s1, s2⟩ := wordV_spec hx hy hn h0
  rw [hw] at s1 s2
  have hlx : loadOp cx.T H 9 (.ptr b 1) = some (strA x) := ld_x hb
  have hly : loadOp cx.T H 9 (.ptr b 2) = some (strA y) := ld_y hb
  have t8 : ¬ Long x y n → ∀ {E : Tr AV}, E.get 1 = some (.lit (.int .i64 n)) → E.get 2 = some (.ptr b 0) → E.get 5 = some (strA w) → E.get 6 = some (.lit (.int .i64 e)) → wpS cx 192 s7_t8 ⟨E, H, nx⟩ Q7 := by
    intro hl E g1 g2 g5 g6
    obtain ⟨q1, q2, q3, q4⟩ := s2 hl
    simp only at q1 q2 q3 q4
    subst q1
    exact t8_ok hb hbn hx hy q2 q3 q4 g1 g2 g5 g6
  have eq0 : binOpA cx.P cx.T .eql 9 (.tmp 98) (.const (.string (ByteArray.mk #[]))) (strA []) (.lit (.string (ByteArray.mk #[]))) = some (.lit (.bool true)) := (str_eql (.tmp 98) (.const (.string (ByteArray.mk #[]))) [] []).trans (by simp)
  have hgt : ∀ b : Prop, (((y.length : Int) > 0) = b) → True := fun _ _ => trivial
  have fin : Long x y n → w = [] ∧ e = 3 := fun hl => by have := s1 hl; simp only [Prod.mk.injEq] at this; exact this
  by_cases hA : n > 1048576
  · have hC : (n ≤ 1048576) = False := by simp; omega
    by_cases hB : (y.length : Int) > 0
    · obtain ⟨rfl, rfl⟩ := fin (.inl ⟨hA, hB⟩)
      unfold s7_t7 Q7
      simp only [↓wpS_skip, ↓wpS_ops, ↓wpS_seq, ↓wpS_cond, ↓wpS_block, ↓wpS_loop, ↓wpS_exit, ↓wpS_ret, condW_bool, ↓WOps_go, ↓WOps_skip, WOps_nil, stepA, opA, convA, isCall, put?, ev, Tr.get_put, Tr.get_nil, builtinA, callA, argEnv, wantedS, abs_int, abs_bool, abs_string, abs_nilp, abs_nili, abs_nilf, abs_nilm, abs_nils, un_not, undef, z_none, List.zipIdx_cons, List.zipIdx_nil, List.foldl_cons, List.foldl_nil, List.map_cons, List.map_nil, List.map_toArray, List.nil_append, List.cons_append, List.append_nil, extractOp, List.getElem?_cons_zero, List.getElem?_cons_succ,
    Option.map_some, Option.map_none, Nat.reduceLT, Nat.reduceEqDiff, Nat.reduceAdd, Nat.zero_add, if_true, if_false, Option.getD_some, Option.getD_none, ↓reduceIte, Bool.false_eq_true, Bool.true_eq_false, reduceCtorEq, resA, resOf, Option.some.injEq, exists_eq_left', beq_self_eq_true, decide_true, decide_false, decide_eq_true_eq, ne_eq, not_true_eq_false, not_false_eq_true, Bool.not_eq_true, beq_iff_eq, bin_add, bin_sub, bin_mul, bin_eql, bin_neq, bin_lss, bin_leq, bin_gtr, bin_geq, maxA, minA, Prod.mk.injEq, and_true, true_and, beq_eq_false_iff_ne, decide_eq_false_iff_not, Bool.true_beq, Bool.false_beq, beq_true, beq_false, Bool.not_true, Bool.not_false, List.getElem?_toArray, h1, h2, h5, h6, fa74_1, fa74_2, hlx, hly, str_len, hA, hB, hC, eq0, x_awake]
    · have hl : ¬ Long x y n := by unfold Long; omega
      unfold s7_t7
      simp only [↓wpS_skip, ↓wpS_ops, ↓wpS_seq, ↓wpS_cond, ↓wpS_block, ↓wpS_loop, ↓wpS_exit, ↓wpS_ret, condW_bool, ↓WOps_go, ↓WOps_skip, WOps_nil, stepA, opA, convA, isCall, put?, ev, Tr.get_put, Tr.get_nil, builtinA, callA, argEnv, wantedS, abs_int, abs_bool, abs_string, abs_nilp, abs_nili, abs_nilf, abs_nilm, abs_nils, un_not, undef, z_none, List.zipIdx_cons, List.zipIdx_nil, List.foldl_cons, List.foldl_nil, List.map_cons, List.map_nil, List.map_toArray, List.nil_append, List.cons_append, List.append_nil, extractOp, List.getElem?_cons_zero, List.getElem?_cons_succ,
    Option.map_some, Option.map_none, Nat.reduceLT, Nat.reduceEqDiff, Nat.reduceAdd, Nat.zero_add, if_true, if_false, Option.getD_some, Option.getD_none, ↓reduceIte, Bool.false_eq_true, Bool.true_eq_false, reduceCtorEq, resA, resOf, Option.some.injEq, exists_eq_left', beq_self_eq_true, decide_true, decide_false, decide_eq_true_eq, ne_eq, not_true_eq_false, not_false_eq_true, Bool.not_eq_true, beq_iff_eq, bin_add, bin_sub, bin_mul, bin_eql, bin_neq, bin_lss, bin_leq, bin_gtr, bin_geq, maxA, minA, Prod.mk.injEq, and_true, true_and, beq_eq_false_iff_ne, decide_eq_false_iff_not, Bool.true_beq, Bool.false_beq, beq_true, beq_false, Bool.not_true, Bool.not_false, List.getElem?_toArray, h1, h2, h5, h6, fa74_1, fa74_2, hlx, hly, str_len, hA, hB, hC]
      exact t8 hl (by simp only [Tr.get_put]; simpa using h1) (by simp only [Tr.get_put]; simpa using h2) (by simp only [Tr.get_put]; simpa using h5) (by simp only [Tr.get_put]; simpa using h6)
  · have hC : (n ≤ 1048576) = True := by simp; omega
    have hml : 0 ≤ n * (y.length : Int) ∧ n * (y.length : Int) ≤ 1048576 * 200 := ⟨Int.mul_nonneg h0 (by omega), Int.mul_le_mul (by omega) (by omega) (by omega) (by decide)⟩
    have w1 : IntKind.i64.wrap (n * (y.length : Int)) = n * (y.length : Int) := wrapI ⟨by omega, by omega⟩
    have w2 : IntKind.i64.wrap ((x.length : Int) + n * (y.length : Int)) = (x.length : Int) + n * (y.length : Int) := wrapI ⟨by omega, by omega⟩
    by_cases hD : (x.length : Int) + n * y.length > 1048576
    · obtain ⟨rfl, rfl⟩ := fin (.inr ⟨by omega, hD⟩)
      unfold s7_t7 Q7
      simp only [↓wpS_skip, ↓wpS_ops, ↓wpS_seq, ↓wpS_cond, ↓wpS_block, ↓wpS_loop, ↓wpS_exit, ↓wpS_ret, condW_bool, ↓WOps_go, ↓WOps_skip, WOps_nil, stepA, opA, convA, isCall, put?, ev, Tr.get_put, Tr.get_nil, builtinA, callA, argEnv, wantedS, abs_int, abs_bool, abs_string, abs_nilp, abs_nili, abs_nilf, abs_nilm, abs_nils, un_not, undef, z_none, List.zipIdx_cons, List.zipIdx_nil, List.foldl_cons, List.foldl_nil, List.map_cons, List.map_nil, List.map_toArray, List.nil_append, List.cons_append, List.append_nil, extractOp, List.getElem?_cons_zero, List.getElem?_cons_succ,
    Option.map_some, Option.map_none, Nat.reduceLT, Nat.reduceEqDiff, Nat.reduceAdd, Nat.zero_add, if_true, if_false, Option.getD_some, Option.getD_none, ↓reduceIte, Bool.false_eq_true, Bool.true_eq_false, reduceCtorEq, resA, resOf, Option.some.injEq, exists_eq_left', beq_self_eq_true, decide_true, decide_false, decide_eq_true_eq, ne_eq, not_true_eq_false, not_false_eq_true, Bool.not_eq_true, beq_iff_eq, bin_add, bin_sub, bin_mul, bin_eql, bin_neq, bin_lss, bin_leq, bin_gtr, bin_geq, maxA, minA, Prod.mk.injEq, and_true, true_and, beq_eq_false_iff_ne, decide_eq_false_iff_not, Bool.true_beq, Bool.false_beq, beq_true, beq_false, Bool.not_true, Bool.not_false, List.getElem?_toArray, h1, h2, h5, h6, fa74_1, fa74_2, hlx, hly, str_len, hA, hC, w1, w2, hD, eq0, x_awake]
    · have hl : ¬ Long x y n := by unfold Long; omega
      unfold s7_t7
      simp only [↓wpS_skip, ↓wpS_ops, ↓wpS_seq, ↓wpS_cond, ↓wpS_block, ↓wpS_loop, ↓wpS_exit, ↓wpS_ret, condW_bool, ↓WOps_go, ↓WOps_skip, WOps_nil, stepA, opA, convA, isCall, put?, ev, Tr.get_put, Tr.get_nil, builtinA, callA, argEnv, wantedS, abs_int, abs_bool, abs_string, abs_nilp, abs_nili, abs_nilf, abs_nilm, abs_nils, un_not, undef, z_none, List.zipIdx_cons, List.zipIdx_nil, List.foldl_cons, List.foldl_nil, List.map_cons, List.map_nil, List.map_toArray, List.nil_append, List.cons_append, List.append_nil, extractOp, List.getElem?_cons_zero, List.getElem?_cons_succ,
    Option.map_some, Option.map_none, Nat.reduceLT, Nat.reduceEqDiff, Nat.reduceAdd, Nat.zero_add, if_true, if_false, Option.getD_some, Option.getD_none, ↓reduceIte, Bool.false_eq_true, Bool.true_eq_false, reduceCtorEq, resA, resOf, Option.some.injEq, exists_eq_left', beq_self_eq_true, decide_true, decide_false, decide_eq_true_eq, ne_eq, not_true_eq_false, not_false_eq_true, Bool.not_eq_true, beq_iff_eq, bin_add, bin_sub, bin_mul, bin_eql, bin_neq, bin_lss, bin_leq, bin_gtr, bin_geq, maxA, minA, Prod.mk.injEq, and_true, true_and, beq_eq_false_iff_ne, decide_eq_false_iff_not, Bool.true_beq, Bool.false_beq, beq_true, beq_false, Bool.not_true, Bool.not_false, List.getElem?_toArray, h1, h2, h5, h6, fa74_1, fa74_2, hlx, hly, str_len, hA, hC, w1, w2, hD]
      exact t8 hl (by simp only [Tr.get_put]; simpa using h1) (by simp only [Tr.get_put]; simpa using h2) (by simp only [Tr.get_put]; simpa using h5) (by simp only [Tr.get_put]; simpa using h6)
theorem t6_ok {b : Nat} {k p q n : Int} {x y w : List UInt8} {e : Int} (hb : H.get b = some (famO k x y p q)) (hbn : b < nx) (hx : x.length ≤ 200) (hy : y.length ≤ 200) (hn : I64 n)
    (hw : wordV x y n = (w, e))
    (h1 : E.get 1 = some (.lit (.int .i64 n))) (h2 : E.get 2 = some (.ptr b 0)) (h5 : E.get 5 = some (strA w)) (h6 : E.get 6 = some (.lit (.int .i64 e))) : wpS cx 192 s7_t6 ⟨E, H, nx⟩ Q7 := by
  have eq0 : binOpA cx.P cx.T .eql 9 (.tmp 65) (.const (.string (ByteArray.mk #[]))) (strA []) (.lit (.string (ByteArray.mk #[]))) = some (.lit (.bool true)) := (str_eql (.tmp 65) (.const (.string (ByteArray.mk #[]))) [] []).trans (by simp)
  by_cases h0 : n < 0
  · have e1 : wordV x y n = ([], 1) := by unfold wordV; rw [if_pos h0]
    rw [e1] at hw
    simp only [Prod.mk.injEq] at hw
    obtain ⟨rfl, rfl⟩ := hw
    unfold s7_t6 Q7
    simp only [↓wpS_skip, ↓wpS_ops, ↓wpS_seq, ↓wpS_cond, ↓wpS_block, ↓wpS_loop, ↓wpS_exit, ↓wpS_ret, condW_bool, ↓WOps_go, ↓WOps_skip, WOps_nil, stepA, opA, convA, isCall, put?, ev, Tr.get_put, Tr.get_nil, builtinA, callA, argEnv, wantedS, abs_int, abs_bool, abs_string, abs_nilp, abs_nili, abs_nilf, abs_nilm, abs_nils, un_not, undef, z_none, List.zipIdx_cons, List.zipIdx_nil, List.foldl_cons, List.foldl_nil, List.map_cons, List.map_nil, List.map_toArray, List.nil_append, List.cons_append, List.append_nil, extractOp, List.getElem?_cons_zero, List.getElem?_cons_succ,
    Option.map_some, Option.map_none, Nat.reduceLT, Nat.reduceEqDiff, Nat.reduceAdd, Nat.zero_add, if_true, if_false, Option.getD_some, Option.getD_none, ↓reduceIte, Bool.false_eq_true, Bool.true_eq_false, reduceCtorEq, resA, resOf, Option.some.injEq, exists_eq_left', beq_self_eq_true, decide_true, decide_false, decide_eq_true_eq, ne_eq, not_true_eq_false, not_false_eq_true, Bool.not_eq_true, beq_iff_eq, bin_add, bin_sub, bin_mul, bin_eql, bin_neq, bin_lss, bin_leq, bin_gtr, bin_geq, maxA, minA, Prod.mk.injEq, and_true, true_and, beq_eq_false_iff_ne, decide_eq_false_iff_not, Bool.true_beq, Bool.false_beq, beq_true, beq_false, Bool.not_true, Bool.not_false, List.getElem?_toArray, h1, h2, h5, h6, h0, eq0, x_awake]
  · unfold s7_t6
    simp only [↓wpS_skip, ↓wpS_ops, ↓wpS_seq, ↓wpS_cond, ↓wpS_block, ↓wpS_loop, ↓wpS_exit, ↓wpS_ret, condW_bool, ↓WOps_go, ↓WOps_skip, WOps_nil, stepA, opA, convA, isCall, put?, ev, Tr.get_put, Tr.get_nil, builtinA, callA, argEnv, wantedS, abs_int, abs_bool, abs_string, abs_nilp, abs_nili, abs_nilf, abs_nilm, abs_nils, un_not, undef, z_none, List.zipIdx_cons, List.zipIdx_nil, List.foldl_cons, List.foldl_nil, List.map_cons, List.map_nil, List.map_toArray, List.nil_append, List.cons_append, List.append_nil, extractOp, List.getElem?_cons_zero, List.getElem?_cons_succ,
    Option.map_some, Option.map_none, Nat.reduceLT, Nat.reduceEqDiff, Nat.reduceAdd, Nat.zero_add, if_true, if_false, Option.getD_some, Option.getD_none, ↓reduceIte, Bool.false_eq_true, Bool.true_eq_false, reduceCtorEq, resA, resOf, Option.some.injEq, exists_eq_left', beq_self_eq_true, decide_true, decide_false, decide_eq_true_eq, ne_eq, not_true_eq_false, not_false_eq_true, Bool.not_eq_true, beq_iff_eq, bin_add, bin_sub, bin_mul, bin_eql, bin_neq, bin_lss, bin_leq, bin_gtr, bin_geq, maxA, minA, Prod.mk.injEq, and_true, true_and, beq_eq_false_iff_ne, decide_eq_false_iff_not, Bool.true_beq, Bool.false_beq, beq_true, beq_false, Bool.not_true, Bool.not_false, List.getElem?_toArray, h1, h2, h5, h6, h0]
    exact t7_ok hb hbn hx hy hn (by omega) hw (by simp only [Tr.get_put]; simpa using h1) (by simp only [Tr.get_put]; simpa using h2) (by simp only [Tr.get_put]; simpa using h5) (by simp only [Tr.get_put]; simpa using h6)
end Seat
end CI
/- PumpWords: the law, walked. -/
set_option linter.unusedVariables false
set_option linter.unusedSimpArgs false
set_option maxRecDepth 10000
namespace CI
open Go
namespace Seat
variable {H : Heap} {nx : Nat} {E : Tr AV}
theorem ld_f {k p q : Int} {x y : List UInt8} {b : Nat} (h : H.get b = some (famO k x y p q)) : loadOp cx.T H 74 (.ptr b 0) = some (fam k x y p q) := by
  have hT : cx.T.get 74 = some ti74 := by kernel_rfl
  unfold loadOp
  simp only [hT, h, famO]
  rfl
theorem t5_ok {b : Nat} {k p q n fl : Int} {x y w : List UInt8} {e : Int} (hb : H.get b = some (famO k x y p q)) (hbn : b < nx) (hx : x.length ≤ 200) (hy : y.length ≤ 200) (hn : I64 n)
    (hw : wordV x y n = (w, e)) (hfl : floorN k n = fl ∨ (k = 1 ∧ 1000000000 ≤ n))
    (h1 : E.get 1 = some (.lit (.int .i64 n))) (h2 : E.get 2 = some (.ptr b 0)) (h5 : E.get 5 = some (strA w)) (h6 : E.get 6 = some (.lit (.int .i64 e))) (h7 : E.get 7 = some (.lit (.int .i64 fl))) : wpS cx 192 s7_t5 ⟨E, H, nx⟩ Q7 := by
  have x41 : ∀ args, cx.X 41 args = none := fun args => x_none 41 rfl rfl rfl rfl rfl rfl args
  have hF := floor_cl (H := H) (nx := nx) k x y p q hn
  have hb2 : (H.put nx (some (famO k x y p q))).get b = some (famO k x y p q) := by rw [Tr.get_put_ne _ _ _ _ (by omega)]; exact hb
  have hk := ld_k hb2
  have next : ∀ {E : Tr AV}, E.get 1 = some (.lit (.int .i64 n)) → E.get 2 = some (.ptr b 0) → E.get 5 = some (strA w) → E.get 6 = some (.lit (.int .i64 e)) → wpS cx 192 s7_t6 ⟨E, H.put nx (some (famO k x y p q)), nx + 1⟩ Q7 :=
    fun g1 g2 g5 g6 => t6_ok hb2 (by omega) hx hy hn hw g1 g2 g5 g6
  unfold s7_t5
  by_cases hq : floorN k n = fl
  · have hne : (floorN k n ≠ fl) = False := by simp [hq]
    simp only [↓wpS_skip, ↓wpS_ops, ↓wpS_seq, ↓wpS_cond, ↓wpS_block, ↓wpS_loop, ↓wpS_exit, ↓wpS_ret, condW_bool, ↓WOps_go, ↓WOps_skip, WOps_nil, stepA, opA, convA, isCall, put?, ev, Tr.get_put, Tr.get_nil, builtinA, callA, argEnv, wantedS, abs_int, abs_bool, abs_string, abs_nilp, abs_nili, abs_nilf, abs_nilm, abs_nils, un_not, undef, z_none, List.zipIdx_cons, List.zipIdx_nil, List.foldl_cons, List.foldl_nil, List.map_cons, List.map_nil, List.map_toArray, List.nil_append, List.cons_append, List.append_nil, extractOp, List.getElem?_cons_zero, List.getElem?_cons_succ,
    Option.map_some, Option.map_none, Nat.reduceLT, Nat.reduceEqDiff, Nat.reduceAdd, Nat.zero_add, if_true, if_false, Option.getD_some, Option.getD_none, ↓reduceIte, Bool.false_eq_true, Bool.true_eq_false, reduceCtorEq, resA, resOf, Option.some.injEq, exists_eq_left', beq_self_eq_true, decide_true, decide_false, decide_eq_true_eq, ne_eq, not_true_eq_false, not_false_eq_true, Bool.not_eq_true, beq_iff_eq, bin_add, bin_sub, bin_mul, bin_eql, bin_neq, bin_lss, bin_leq, bin_gtr, bin_geq, maxA, minA, Prod.mk.injEq, and_true, true_and, beq_eq_false_iff_ne, decide_eq_false_iff_not, Bool.true_beq, Bool.false_beq, beq_true, beq_false, Bool.not_true, Bool.not_false, List.getElem?_toArray, h1, h2, h5, h6, h7, ld_f hb, x41, hF, fa74_0, hk, hne]
    exact next (by simp only [Tr.get_put]; simpa using h1) (by simp only [Tr.get_put]; simpa using h2) (by simp only [Tr.get_put]; simpa using h5) (by simp only [Tr.get_put]; simpa using h6)
  · obtain ⟨hk1, hn9⟩ := hfl.resolve_left hq
    have hne : (floorN k n ≠ fl) = True := by simp [hq]
    have hk2 : (k ≠ 1) = False := by simp [hk1]
    have hn2 : (n < 1000000000) = False := by simp; omega
    simp only [↓wpS_skip, ↓wpS_ops, ↓wpS_seq, ↓wpS_cond, ↓wpS_block, ↓wpS_loop, ↓wpS_exit, ↓wpS_ret, condW_bool, ↓WOps_go, ↓WOps_skip, WOps_nil, stepA, opA, convA, isCall, put?, ev, Tr.get_put, Tr.get_nil, builtinA, callA, argEnv, wantedS, abs_int, abs_bool, abs_string, abs_nilp, abs_nili, abs_nilf, abs_nilm, abs_nils, un_not, undef, z_none, List.zipIdx_cons, List.zipIdx_nil, List.foldl_cons, List.foldl_nil, List.map_cons, List.map_nil, List.map_toArray, List.nil_append, List.cons_append, List.append_nil, extractOp, List.getElem?_cons_zero, List.getElem?_cons_succ,
    Option.map_some, Option.map_none, Nat.reduceLT, Nat.reduceEqDiff, Nat.reduceAdd, Nat.zero_add, if_true, if_false, Option.getD_some, Option.getD_none, ↓reduceIte, Bool.false_eq_true, Bool.true_eq_false, reduceCtorEq, resA, resOf, Option.some.injEq, exists_eq_left', beq_self_eq_true, decide_true, decide_false, decide_eq_true_eq, ne_eq, not_true_eq_false, not_false_eq_true, Bool.not_eq_true, beq_iff_eq, bin_add, bin_sub, bin_mul, bin_eql, bin_neq, bin_lss, bin_leq, bin_gtr, bin_geq, maxA, minA, Prod.mk.injEq, and_true, true_and, beq_eq_false_iff_ne, decide_eq_false_iff_not, Bool.true_beq, Bool.false_beq, beq_true, beq_false, Bool.not_true, Bool.not_false, List.getElem?_toArray, h1, h2, h5, h6, h7, ld_f hb, x41, hF, fa74_0, hk, hne, hk2, hn2]
    exact next (by simp only [Tr.get_put]; simpa using h1) (by simp only [Tr.get_put]; simpa using h2) (by simp only [Tr.get_put]; simpa using h5) (by simp only [Tr.get_put]; simpa using h6)
theorem tri_small {n : Int} (h0 : 0 ≤ n) (h1 : n < 1000000000) : tri n = n * (n + 1) / 2 := by
  unfold tri
  have hm : max n 0 = n := by omega
  rw [hm]
  by_cases he : n % 2 = 0
  · rw [if_pos he]
    obtain ⟨j, rfl⟩ : ∃ j, n = 2 * j := ⟨n / 2, by omega⟩
    have e1 : 2 * j / 2 = j := by omega
    have e2 : 2 * j * (2 * j + 1) / 2 = j * (2 * j + 1) := by rw [Int.mul_assoc, Int.mul_ediv_cancel_left _ (by decide)]
    have hb : 0 ≤ j * (2 * j + 1) ∧ j * (2 * j + 1) ≤ 500000000 * 1000000001 := ⟨Int.mul_nonneg (by omega) (by omega), Int.mul_le_mul (by omega) (by omega) (by omega) (by decide)⟩
    rw [e1, e2]
    unfold satMul satAdd
    have e3 : max j 0 = j := by omega
    have e4 : max (min (max (2 * j) 0 + max 1 0) 9223372036854775807) 0 = 2 * j + 1 := by omega
    rw [e3, e4]
    omega
  · rw [if_neg he]
    obtain ⟨j, rfl⟩ : ∃ j, n = 2 * j + 1 := ⟨n / 2, by omega⟩
    have e1 : (2 * j + 1) / 2 + 1 = j + 1 := by omega
    have e2 : (2 * j + 1) * (2 * j + 1 + 1) / 2 = (2 * j + 1) * (j + 1) := by
      rw [show 2 * j + 1 + 1 = 2 * (j + 1) by omega, Int.mul_left_comm, Int.mul_ediv_cancel_left _ (by decide)]
    have hb : 0 ≤ (2 * j + 1) * (j + 1) ∧ (2 * j + 1) * (j + 1) ≤ 1000000000 * 500000001 := ⟨Int.mul_nonneg (by omega) (by omega), Int.mul_le_mul (by omega) (by omega) (by omega) (by decide)⟩
    rw [e1, e2]
    unfold satMul
    have e3 : max (2 * j + 1) 0 = 2 * j + 1 := by omega
    have e4 : max (j + 1) 0 = j + 1 := by omega
    rw [e3, e4]
    omega
theorem t2_ok {b : Nat} {k p q n : Int} {x y w : List UInt8} {e : Int} (hb : H.get b = some (famO k x y p q)) (hbn : b < nx) (hx : x.length ≤ 200) (hy : y.length ≤ 200) (hn : I64 n)
    (hw : wordV x y n = (w, e))
    (h1 : E.get 1 = some (.lit (.int .i64 n))) (h2 : E.get 2 = some (.ptr b 0)) (h5 : E.get 5 = some (strA w)) (h6 : E.get 6 = some (.lit (.int .i64 e))) : wpS cx 192 s7_t2 ⟨E, H, nx⟩ Q7 := by
  have x40 : ∀ args, cx.X 40 args = none := fun args => x_none 40 rfl rfl rfl rfl rfl rfl args
  have hk := ld_k hb
  have hp := refPow_cl (H := H) (nx := nx) (b := 2) ⟨by decide, by decide⟩ hn
  have next : ∀ {E : Tr AV} (fl : Int), (floorN k n = fl ∨ (k = 1 ∧ 1000000000 ≤ n)) → E.get 1 = some (.lit (.int .i64 n)) → E.get 2 = some (.ptr b 0) → E.get 5 = some (strA w) → E.get 6 = some (.lit (.int .i64 e)) → E.get 7 = some (.lit (.int .i64 fl)) → wpS cx 192 s7_t5 ⟨E, H, nx⟩ Q7 :=
    fun fl hfl g1 g2 g5 g6 g7 => t5_ok hb hbn hx hy hn hw hfl g1 g2 g5 g6 g7
  unfold s7_t2 s7_t3 s7_t4
  by_cases h0 : n < 0
  · have hge : (n ≥ 0) = False := by simp; omega
    simp only [↓wpS_skip, ↓wpS_ops, ↓wpS_seq, ↓wpS_cond, ↓wpS_block, ↓wpS_loop, ↓wpS_exit, ↓wpS_ret, condW_bool, ↓WOps_go, ↓WOps_skip, WOps_nil, stepA, opA, convA, isCall, put?, ev, Tr.get_put, Tr.get_nil, builtinA, callA, argEnv, wantedS, abs_int, abs_bool, abs_string, abs_nilp, abs_nili, abs_nilf, abs_nilm, abs_nils, un_not, undef, z_none, List.zipIdx_cons, List.zipIdx_nil, List.foldl_cons, List.foldl_nil, List.map_cons, List.map_nil, List.map_toArray, List.nil_append, List.cons_append, List.append_nil, extractOp, List.getElem?_cons_zero, List.getElem?_cons_succ,
    Option.map_some, Option.map_none, Nat.reduceLT, Nat.reduceEqDiff, Nat.reduceAdd, Nat.zero_add, if_true, if_false, Option.getD_some, Option.getD_none, ↓reduceIte, Bool.false_eq_true, Bool.true_eq_false, reduceCtorEq, resA, resOf, Option.some.injEq, exists_eq_left', beq_self_eq_true, decide_true, decide_false, decide_eq_true_eq, ne_eq, not_true_eq_false, not_false_eq_true, Bool.not_eq_true, beq_iff_eq, bin_add, bin_sub, bin_mul, bin_eql, bin_neq, bin_lss, bin_leq, bin_gtr, bin_geq, maxA, minA, Prod.mk.injEq, and_true, true_and, beq_eq_false_iff_ne, decide_eq_false_iff_not, Bool.true_beq, Bool.false_beq, beq_true, beq_false, Bool.not_true, Bool.not_false, List.getElem?_toArray, h1, h2, h5, h6, fa74_0, hk, hge]
    exact next 0 (.inl (by unfold floorN; rw [if_pos h0])) (by simp only [Tr.get_put]; simpa using h1) (by simp only [Tr.get_put]; simpa using h2) (by simp only [Tr.get_put]; simpa using h5) (by simp only [Tr.get_put]; simpa using h6) (by simp only [Tr.get_put]; simp)
  · have hge : (n ≥ 0) = True := by simp; omega
    by_cases hk2 : k = 2
    · subst hk2
      have hk1 : ((2 : Int) = 1) = False := by simp
      simp only [↓wpS_skip, ↓wpS_ops, ↓wpS_seq, ↓wpS_cond, ↓wpS_block, ↓wpS_loop, ↓wpS_exit, ↓wpS_ret, condW_bool, ↓WOps_go, ↓WOps_skip, WOps_nil, stepA, opA, convA, isCall, put?, ev, Tr.get_put, Tr.get_nil, builtinA, callA, argEnv, wantedS, abs_int, abs_bool, abs_string, abs_nilp, abs_nili, abs_nilf, abs_nilm, abs_nils, un_not, undef, z_none, List.zipIdx_cons, List.zipIdx_nil, List.foldl_cons, List.foldl_nil, List.map_cons, List.map_nil, List.map_toArray, List.nil_append, List.cons_append, List.append_nil, extractOp, List.getElem?_cons_zero, List.getElem?_cons_succ,
    Option.map_some, Option.map_none, Nat.reduceLT, Nat.reduceEqDiff, Nat.reduceAdd, Nat.zero_add, if_true, if_false, Option.getD_some, Option.getD_none, ↓reduceIte, Bool.false_eq_true, Bool.true_eq_false, reduceCtorEq, resA, resOf, Option.some.injEq, exists_eq_left', beq_self_eq_true, decide_true, decide_false, decide_eq_true_eq, ne_eq, not_true_eq_false, not_false_eq_true, Bool.not_eq_true, beq_iff_eq, bin_add, bin_sub, bin_mul, bin_eql, bin_neq, bin_lss, bin_leq, bin_gtr, bin_geq, maxA, minA, Prod.mk.injEq, and_true, true_and, beq_eq_false_iff_ne, decide_eq_false_iff_not, Bool.true_beq, Bool.false_beq, beq_true, beq_false, Bool.not_true, Bool.not_false, List.getElem?_toArray, h1, h2, h5, h6, fa74_0, hk, hge, hk1, x40, hp]
      exact next (satN (2 ^ n.toNat)) (.inl (by unfold floorN; rw [if_neg h0, if_pos rfl])) (by simp only [Tr.get_put]; simpa using h1) (by simp only [Tr.get_put]; simpa using h2) (by simp only [Tr.get_put]; simpa using h5) (by simp only [Tr.get_put]; simpa using h6) (by simp only [Tr.get_put]; simp)
    · by_cases hk1 : k = 1
      · subst hk1
        have hk3 : ((1 : Int) = 2) = False := by simp
        by_cases h9 : n < 1000000000
        · have hml : 0 ≤ n * (n + 1) ∧ n * (n + 1) ≤ 1000000000 * 1000000000 := ⟨Int.mul_nonneg (by omega) (by omega), Int.mul_le_mul (by omega) (by omega) (by omega) (by decide)⟩
          have w1 : IntKind.i64.wrap (n + 1) = n + 1 := wrapI ⟨by omega, by omega⟩
          have w2 : IntKind.i64.wrap (n * (n + 1)) = n * (n + 1) := wrapI ⟨by omega, by omega⟩
          have w3 : IntKind.i64.wrap ((n * (n + 1)).tdiv 2) = n * (n + 1) / 2 := by
            rw [tdiv2 hml.1, wrapI ⟨by omega, by omega⟩]
          simp only [↓wpS_skip, ↓wpS_ops, ↓wpS_seq, ↓wpS_cond, ↓wpS_block, ↓wpS_loop, ↓wpS_exit, ↓wpS_ret, condW_bool, ↓WOps_go, ↓WOps_skip, WOps_nil, stepA, opA, convA, isCall, put?, ev, Tr.get_put, Tr.get_nil, builtinA, callA, argEnv, wantedS, abs_int, abs_bool, abs_string, abs_nilp, abs_nili, abs_nilf, abs_nilm, abs_nils, un_not, undef, z_none, List.zipIdx_cons, List.zipIdx_nil, List.foldl_cons, List.foldl_nil, List.map_cons, List.map_nil, List.map_toArray, List.nil_append, List.cons_append, List.append_nil, extractOp, List.getElem?_cons_zero, List.getElem?_cons_succ,
    Option.map_some, Option.map_none, Nat.reduceLT, Nat.reduceEqDiff, Nat.reduceAdd, Nat.zero_add, if_true, if_false, Option.getD_some, Option.getD_none, ↓reduceIte, Bool.false_eq_true, Bool.true_eq_false, reduceCtorEq, resA, resOf, Option.some.injEq, exists_eq_left', beq_self_eq_true, decide_true, decide_false, decide_eq_true_eq, ne_eq, not_true_eq_false, not_false_eq_true, Bool.not_eq_true, beq_iff_eq, bin_add, bin_sub, bin_mul, bin_eql, bin_neq, bin_lss, bin_leq, bin_gtr, bin_geq, maxA, minA, Prod.mk.injEq, and_true, true_and, beq_eq_false_iff_ne, decide_eq_false_iff_not, Bool.true_beq, Bool.false_beq, beq_true, beq_false, Bool.not_true, Bool.not_false, List.getElem?_toArray, h1, h2, h5, h6, fa74_0, hk, hge, hk3, h9, w1, w2, bin_quo _ _ _ _ _ _ _ _ (show (2:Int) ≠ 0 by decide), w3]
          exact next (n * (n + 1) / 2) (.inl (by unfold floorN; rw [if_neg h0, if_neg (by decide), if_pos rfl, tri_small (by omega) h9])) (by simp only [Tr.get_put]; simpa using h1) (by simp only [Tr.get_put]; simpa using h2) (by simp only [Tr.get_put]; simpa using h5) (by simp only [Tr.get_put]; simpa using h6) (by simp only [Tr.get_put]; simp)
        · simp only [↓wpS_skip, ↓wpS_ops, ↓wpS_seq, ↓wpS_cond, ↓wpS_block, ↓wpS_loop, ↓wpS_exit, ↓wpS_ret, condW_bool, ↓WOps_go, ↓WOps_skip, WOps_nil, stepA, opA, convA, isCall, put?, ev, Tr.get_put, Tr.get_nil, builtinA, callA, argEnv, wantedS, abs_int, abs_bool, abs_string, abs_nilp, abs_nili, abs_nilf, abs_nilm, abs_nils, un_not, undef, z_none, List.zipIdx_cons, List.zipIdx_nil, List.foldl_cons, List.foldl_nil, List.map_cons, List.map_nil, List.map_toArray, List.nil_append, List.cons_append, List.append_nil, extractOp, List.getElem?_cons_zero, List.getElem?_cons_succ,
    Option.map_some, Option.map_none, Nat.reduceLT, Nat.reduceEqDiff, Nat.reduceAdd, Nat.zero_add, if_true, if_false, Option.getD_some, Option.getD_none, ↓reduceIte, Bool.false_eq_true, Bool.true_eq_false, reduceCtorEq, resA, resOf, Option.some.injEq, exists_eq_left', beq_self_eq_true, decide_true, decide_false, decide_eq_true_eq, ne_eq, not_true_eq_false, not_false_eq_true, Bool.not_eq_true, beq_iff_eq, bin_add, bin_sub, bin_mul, bin_eql, bin_neq, bin_lss, bin_leq, bin_gtr, bin_geq, maxA, minA, Prod.mk.injEq, and_true, true_and, beq_eq_false_iff_ne, decide_eq_false_iff_not, Bool.true_beq, Bool.false_beq, beq_true, beq_false, Bool.not_true, Bool.not_false, List.getElem?_toArray, h1, h2, h5, h6, fa74_0, hk, hge, hk3, h9]
          exact next 9223372036854775807 (.inr ⟨rfl, by omega⟩) (by simp only [Tr.get_put]; simpa using h1) (by simp only [Tr.get_put]; simpa using h2) (by simp only [Tr.get_put]; simpa using h5) (by simp only [Tr.get_put]; simpa using h6) (by simp only [Tr.get_put]; simp)
      · simp only [↓wpS_skip, ↓wpS_ops, ↓wpS_seq, ↓wpS_cond, ↓wpS_block, ↓wpS_loop, ↓wpS_exit, ↓wpS_ret, condW_bool, ↓WOps_go, ↓WOps_skip, WOps_nil, stepA, opA, convA, isCall, put?, ev, Tr.get_put, Tr.get_nil, builtinA, callA, argEnv, wantedS, abs_int, abs_bool, abs_string, abs_nilp, abs_nili, abs_nilf, abs_nilm, abs_nils, un_not, undef, z_none, List.zipIdx_cons, List.zipIdx_nil, List.foldl_cons, List.foldl_nil, List.map_cons, List.map_nil, List.map_toArray, List.nil_append, List.cons_append, List.append_nil, extractOp, List.getElem?_cons_zero, List.getElem?_cons_succ,
    Option.map_some, Option.map_none, Nat.reduceLT, Nat.reduceEqDiff, Nat.reduceAdd, Nat.zero_add, if_true, if_false, Option.getD_some, Option.getD_none, ↓reduceIte, Bool.false_eq_true, Bool.true_eq_false, reduceCtorEq, resA, resOf, Option.some.injEq, exists_eq_left', beq_self_eq_true, decide_true, decide_false, decide_eq_true_eq, ne_eq, not_true_eq_false, not_false_eq_true, Bool.not_eq_true, beq_iff_eq, bin_add, bin_sub, bin_mul, bin_eql, bin_neq, bin_lss, bin_leq, bin_gtr, bin_geq, maxA, minA, Prod.mk.injEq, and_true, true_and, beq_eq_false_iff_ne, decide_eq_false_iff_not, Bool.true_beq, Bool.false_beq, beq_true, beq_false, Bool.not_true, Bool.not_false, List.getElem?_toArray, h1, h2, h5, h6, fa74_0, hk, hge, hk2, hk1]
        exact next 0 (.inl (by unfold floorN; rw [if_neg h0, if_neg hk2, if_neg hk1])) (by simp only [Tr.get_put]; simpa using h1) (by simp only [Tr.get_put]; simpa using h2) (by simp only [Tr.get_put]; simpa using h5) (by simp only [Tr.get_put]; simpa using h6) (by simp only [Tr.get_put]; simp)
theorem law7 (k : Int) (x y : List UInt8) (p q : Int) {n : Int} (hn : I64 n) : ∃ v H' nx', Cl cx 7 [fam k x y p q, .lit (.int .i64 n)] H nx = some (v, H', nx') ∧ v = .lit (.bool true) := by
  refine wpP7 _ _ _ (fun v _ _ => v = .lit (.bool true)) (by simp) ?_
  show wpS cx 192 s7 ⟨argEnv [fam k x y p q, .lit (.int .i64 n)], H, nx⟩ Q7
  unfold s7 s7_t0
  have hb : (H.put nx (some (famO k x y p q))).get nx = some (famO k x y p q) := Tr.get_put_same _ _ _
  have hlx := ld_x hb
  have hly := ld_y hb
  have x39 : ∀ args, cx.X 39 args = none := fun args => x_none 39 rfl rfl rfl rfl rfl rfl args
  by_cases h1 : (x.length : Int) > 200
  · unfold Q7
    simp only [↓wpS_skip, ↓wpS_ops, ↓wpS_seq, ↓wpS_cond, ↓wpS_block, ↓wpS_loop, ↓wpS_exit, ↓wpS_ret, condW_bool, ↓WOps_go, ↓WOps_skip, WOps_nil, stepA, opA, convA, isCall, put?, ev, Tr.get_put, Tr.get_nil, builtinA, callA, argEnv, wantedS, abs_int, abs_bool, abs_string, abs_nilp, abs_nili, abs_nilf, abs_nilm, abs_nils, un_not, undef, z_none, List.zipIdx_cons, List.zipIdx_nil, List.foldl_cons, List.foldl_nil, List.map_cons, List.map_nil, List.map_toArray, List.nil_append, List.cons_append, List.append_nil, extractOp, List.getElem?_cons_zero, List.getElem?_cons_succ,
    Option.map_some, Option.map_none, Nat.reduceLT, Nat.reduceEqDiff, Nat.reduceAdd, Nat.zero_add, if_true, if_false, Option.getD_some, Option.getD_none, ↓reduceIte, Bool.false_eq_true, Bool.true_eq_false, reduceCtorEq, resA, resOf, Option.some.injEq, exists_eq_left', beq_self_eq_true, decide_true, decide_false, decide_eq_true_eq, ne_eq, not_true_eq_false, not_false_eq_true, Bool.not_eq_true, beq_iff_eq, bin_add, bin_sub, bin_mul, bin_eql, bin_neq, bin_lss, bin_leq, bin_gtr, bin_geq, maxA, minA, Prod.mk.injEq, and_true, true_and, beq_eq_false_iff_ne, decide_eq_false_iff_not, Bool.true_beq, Bool.false_beq, beq_true, beq_false, Bool.not_true, Bool.not_false, List.getElem?_toArray, bx74, fa74_1, fa74_2, hlx, hly, str_len, h1, x_awake]
  · by_cases h2 : (y.length : Int) > 200
    · unfold Q7
      simp only [↓wpS_skip, ↓wpS_ops, ↓wpS_seq, ↓wpS_cond, ↓wpS_block, ↓wpS_loop, ↓wpS_exit, ↓wpS_ret, condW_bool, ↓WOps_go, ↓WOps_skip, WOps_nil, stepA, opA, convA, isCall, put?, ev, Tr.get_put, Tr.get_nil, builtinA, callA, argEnv, wantedS, abs_int, abs_bool, abs_string, abs_nilp, abs_nili, abs_nilf, abs_nilm, abs_nils, un_not, undef, z_none, List.zipIdx_cons, List.zipIdx_nil, List.foldl_cons, List.foldl_nil, List.map_cons, List.map_nil, List.map_toArray, List.nil_append, List.cons_append, List.append_nil, extractOp, List.getElem?_cons_zero, List.getElem?_cons_succ,
    Option.map_some, Option.map_none, Nat.reduceLT, Nat.reduceEqDiff, Nat.reduceAdd, Nat.zero_add, if_true, if_false, Option.getD_some, Option.getD_none, ↓reduceIte, Bool.false_eq_true, Bool.true_eq_false, reduceCtorEq, resA, resOf, Option.some.injEq, exists_eq_left', beq_self_eq_true, decide_true, decide_false, decide_eq_true_eq, ne_eq, not_true_eq_false, not_false_eq_true, Bool.not_eq_true, beq_iff_eq, bin_add, bin_sub, bin_mul, bin_eql, bin_neq, bin_lss, bin_leq, bin_gtr, bin_geq, maxA, minA, Prod.mk.injEq, and_true, true_and, beq_eq_false_iff_ne, decide_eq_false_iff_not, Bool.true_beq, Bool.false_beq, beq_true, beq_false, Bool.not_true, Bool.not_false, List.getElem?_toArray, bx74, fa74_1, fa74_2, hlx, hly, str_len, h1, h2, x_awake]
    · simp only [↓wpS_skip, ↓wpS_ops, ↓wpS_seq, ↓wpS_cond, ↓wpS_block, ↓wpS_loop, ↓wpS_exit, ↓wpS_ret, condW_bool, ↓WOps_go, ↓WOps_skip, WOps_nil, stepA, opA, convA, isCall, put?, ev, Tr.get_put, Tr.get_nil, builtinA, callA, argEnv, wantedS, abs_int, abs_bool, abs_string, abs_nilp, abs_nili, abs_nilf, abs_nilm, abs_nils, un_not, undef, z_none, List.zipIdx_cons, List.zipIdx_nil, List.foldl_cons, List.foldl_nil, List.map_cons, List.map_nil, List.map_toArray, List.nil_append, List.cons_append, List.append_nil, extractOp, List.getElem?_cons_zero, List.getElem?_cons_succ,
    Option.map_some, Option.map_none, Nat.reduceLT, Nat.reduceEqDiff, Nat.reduceAdd, Nat.zero_add, if_true, if_false, Option.getD_some, Option.getD_none, ↓reduceIte, Bool.false_eq_true, Bool.true_eq_false, reduceCtorEq, resA, resOf, Option.some.injEq, exists_eq_left', beq_self_eq_true, decide_true, decide_false, decide_eq_true_eq, ne_eq, not_true_eq_false, not_false_eq_true, Bool.not_eq_true, beq_iff_eq, bin_add, bin_sub, bin_mul, bin_eql, bin_neq, bin_lss, bin_leq, bin_gtr, bin_geq, maxA, minA, Prod.mk.injEq, and_true, true_and, beq_eq_false_iff_ne, decide_eq_false_iff_not, Bool.true_beq, Bool.false_beq, beq_true, beq_false, Bool.not_true, Bool.not_false, List.getElem?_toArray, bx74, fa74_1, fa74_2, hlx, hly, str_len, h1, h2]
      obtain ⟨H2, nx2, hw, hle, hfr⟩ := word_cl (H := H.put nx (some (famO k x y p q))) (nx := nx + 1) k x y p q hn (by omega) (by omega)
      have hb2 : H2.get nx = some (famO k x y p q) := (hfr nx (by omega)).trans hb
      unfold s7_t1
      simp only [↓wpS_skip, ↓wpS_ops, ↓wpS_seq, ↓wpS_cond, ↓wpS_block, ↓wpS_loop, ↓wpS_exit, ↓wpS_ret, condW_bool, ↓WOps_go, ↓WOps_skip, WOps_nil, stepA, opA, convA, isCall, put?, ev, Tr.get_put, Tr.get_nil, builtinA, callA, argEnv, wantedS, abs_int, abs_bool, abs_string, abs_nilp, abs_nili, abs_nilf, abs_nilm, abs_nils, un_not, undef, z_none, List.zipIdx_cons, List.zipIdx_nil, List.foldl_cons, List.foldl_nil, List.map_cons, List.map_nil, List.map_toArray, List.nil_append, List.cons_append, List.append_nil, extractOp, List.getElem?_cons_zero, List.getElem?_cons_succ,
    Option.map_some, Option.map_none, Nat.reduceLT, Nat.reduceEqDiff, Nat.reduceAdd, Nat.zero_add, if_true, if_false, Option.getD_some, Option.getD_none, ↓reduceIte, Bool.false_eq_true, Bool.true_eq_false, reduceCtorEq, resA, resOf, Option.some.injEq, exists_eq_left', beq_self_eq_true, decide_true, decide_false, decide_eq_true_eq, ne_eq, not_true_eq_false, not_false_eq_true, Bool.not_eq_true, beq_iff_eq, bin_add, bin_sub, bin_mul, bin_eql, bin_neq, bin_lss, bin_leq, bin_gtr, bin_geq, maxA, minA, Prod.mk.injEq, and_true, true_and, beq_eq_false_iff_ne, decide_eq_false_iff_not, Bool.true_beq, Bool.false_beq, beq_true, beq_false, Bool.not_true, Bool.not_false, List.getElem?_toArray, ld_f hb, x39, hw]
      exact t2_ok hb2 (by omega) (by omega) (by omega) hn (w := (wordV x y n).1) (e := (wordV x y n).2) rfl (by simp only [Tr.get_put]; simp) (by simp only [Tr.get_put]; simp) (by simp only [Tr.get_put]; simp) (by simp only [Tr.get_put]; simp)
end Seat
end CI
