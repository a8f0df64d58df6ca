/- nat, walked: powers, and what all of them come to in numbers without an end. -/
import Derived.Test.YtlejcpkedahphaaNb
set_option linter.unusedVariables false
set_option linter.unusedSimpArgs false
namespace CI
open Go
/-- A number, ended at the greatest one. -/
def satN (n : Nat) : Int := min (n : Int) 9223372036854775807
namespace Seat
variable {H : Heap} {nx : Nat}
theorem satN_i (n : Nat) : I64 (satN n) := by unfold satN; constructor <;> omega
theorem satN_nonneg (n : Nat) : 0 ≤ satN n := by unfold satN; omega
theorem satN_toNat (n : Nat) : (satN n).toNat = min n 9223372036854775807 := by unfold satN; omega
theorem satN_of {a : Int} (h : I64 a) : satN a.toNat = max a 0 := by have := h.2; unfold satN; omega
theorem satAdd_N (a b : Int) : satAdd a b = satN (a.toNat + b.toNat) := by unfold satAdd satN; omega
theorem satMul_N (a b : Int) : satMul a b = satN (a.toNat * b.toNat) := by
  unfold satMul satN
  rw [Int.natCast_mul]
  have e1 : max a 0 = (a.toNat : Int) := by omega
  have e2 : max b 0 = (b.toNat : Int) := by omega
  rw [e1, e2]
theorem cap_mul (x y : Nat) : satN (min x 9223372036854775807 * y) = satN (x * y) := by
  unfold satN
  rcases Nat.le_total x 9223372036854775807 with h | h
  · rw [Nat.min_eq_left h]
  · rw [Nat.min_eq_right h]
    cases y with
    | zero => simp
    | succ y =>
      have h1 : 9223372036854775807 ≤ 9223372036854775807 * (y + 1) := Nat.le_mul_of_pos_right _ (by omega)
      have h2 : 9223372036854775807 ≤ x * (y + 1) := Nat.le_trans h1 (Nat.mul_le_mul_right _ h)
      omega
theorem cap_mul' (x y : Nat) : satN (x * min y 9223372036854775807) = satN (x * y) := by rw [Nat.mul_comm, cap_mul, Nat.mul_comm]
theorem cap_add (x y : Nat) : satN (min x 9223372036854775807 + y) = satN (x + y) := by unfold satN; omega
theorem fold_add (l : List Int) : ∀ n, l.foldl satAdd (satN n) = satN (n + (l.map Int.toNat).sum) := by
  induction l with
  | nil => intro n; simp
  | cons a l ih => intro n; rw [List.foldl_cons, satAdd_N, satN_toNat, cap_add, ih]; simp [Nat.add_assoc]
theorem fold_mul (l : List Int) : ∀ n, l.foldl satMul (satN n) = satN (n * (l.map Int.toNat).foldr (· * ·) 1) := by
  induction l with
  | nil => intro n; simp
  | cons a l ih => intro n; rw [List.foldl_cons, satMul_N, satN_toNat, cap_mul, ih]; simp [Nat.mul_assoc]
theorem prod_zero {l : List Int} (h : ∃ x ∈ l, x ≤ 0) : (l.map Int.toNat).foldr (· * ·) 1 = 0 := by
  induction l with
  | nil => obtain ⟨x, hx, _⟩ := h; cases hx
  | cons a l ih =>
    obtain ⟨x, hx, hx2⟩ := h
    rw [List.map_cons, List.foldr_cons]
    rcases List.mem_cons.1 hx with rfl | hx
    · rw [show x.toNat = 0 by omega, Nat.zero_mul]
    · rw [ih ⟨x, hx, hx2⟩, Nat.mul_zero]
theorem sum_cl' {s : AV} {l : List Int} (hl : Ints H s l) : Cl cx 13 [s] H nx = some (.lit (.int .i64 (satN (l.map Int.toNat).sum)), H, nx) := by
  rw [sum_cl hl]; have := fold_add l 0; rw [show satN 0 = 0 from rfl, Nat.zero_add] at this; rw [this]
theorem addv_cl' {s : AV} {l : List Int} (hl : Ints H s l) : Cl cx 12 [s] H nx = some (.lit (.int .i64 (satN (l.map Int.toNat).sum)), H, nx) := by
  rw [addv_cl hl]; have := fold_add l 0; rw [show satN 0 = 0 from rfl, Nat.zero_add] at this; rw [this]
theorem mulv_cl' {s : AV} {l : List Int} (hl : Ints H s l) : Cl cx 14 [s] H nx = some (.lit (.int .i64 (satN ((l.map Int.toNat).foldr (· * ·) 1))), H, nx) := by
  rw [mulv_cl hl]
  by_cases h : ∃ x ∈ l, x ≤ 0
  · rw [if_pos h, prod_zero h]; rfl
  · rw [if_neg h]; have := fold_mul l 1; rw [show satN 1 = 1 from rfl, Nat.one_mul] at this; rw [this]

theorem pow_cl {b e : Int} (hb : I64 b) (he : I64 e) : Cl cx 15 [.lit (.int .i64 b), .lit (.int .i64 e)] H nx = some (.lit (.int .i64 (satN (b.toNat ^ e.toNat))), H, nx) := by
  refine wp15 _ _ _ _ (by simp) ?_
  unfold s15
  simp only [↓wpS_skip, ↓wpS_ops, ↓wpS_seq, ↓wpS_cond, ↓wpS_block, ↓wpS_loop, ↓wpS_exit, ↓wpS_ret, condW_bool, ↓WOps_go, ↓WOps_skip, WOps_nil, stepA, opA, isCall, put?, ev, Tr.get_put, Tr.get_nil, builtinA, callA, argEnv, wantedS, abs_int, abs_bool, abs_string, List.zipIdx_cons, List.zipIdx_nil, List.foldl_cons, List.foldl_nil, List.map_cons, List.map_nil, List.map_toArray, List.nil_append, List.cons_append, List.append_nil, extractOp, List.getElem?_cons_zero, List.getElem?_cons_succ,
    Option.map_some, Option.map_none, Nat.reduceLT, Nat.reduceEqDiff, Nat.reduceAdd, Nat.zero_add, if_true, if_false, Option.getD_some, Option.getD_none, ↓reduceIte, Bool.false_eq_true, Bool.true_eq_false, reduceCtorEq, resA, resOf, Option.some.injEq, exists_eq_left', beq_self_eq_true, decide_true, decide_false, decide_eq_true_eq, ne_eq, not_true_eq_false, not_false_eq_true, Bool.not_eq_true, beq_iff_eq, bin_add, bin_sub, bin_mul, bin_eql, bin_neq, bin_lss, bin_leq, bin_gtr, bin_geq, maxA, minA, Prod.mk.injEq, and_true, true_and, beq_eq_false_iff_ne, decide_eq_false_iff_not, Bool.true_beq, Bool.false_beq, beq_true, beq_false, Bool.not_true, Bool.not_false, List.getElem?_toArray]
  refine Wp_loop (fun n st => ∃ (o q : Nat) (j : Int), n = j.toNat ∧ I64 j ∧ satN (o * q ^ j.toNat) = satN (b.toNat ^ e.toNat) ∧ st.H = H ∧ st.nx = nx ∧ st.env.get 1 = some (.lit (.int .i64 j)) ∧
    st.env.get 5 = some (.lit (.int .i64 (satN o))) ∧ st.env.get 6 = some (.lit (.int .i64 (satN q)))) ?_ e.toNat _ ⟨1, b.toNat, e, ?_⟩
  · rintro n ⟨E, H1, nx1⟩ ⟨o, q, j, hn, hj, hinv, e1, e2, h1, h5, h6⟩
    simp only at e1 e2; subst e1; subst e2
    refine Wp_of ?_
    unfold s15_l0
    have m1 : satMul (satN o) (satN q) = satN (o * q) := by rw [satMul_N, satN_toNat, satN_toNat, cap_mul, cap_mul']
    have m2 : satMul (satN q) (satN q) = satN (q * q) := by rw [satMul_N, satN_toNat, cap_mul, cap_mul']
    by_cases hpos : j > 0
    · by_cases hodd : j % 2 = 1
      · simp only [↓wpS_skip, ↓wpS_ops, ↓wpS_seq, ↓wpS_cond, ↓wpS_block, ↓wpS_loop, ↓wpS_exit, ↓wpS_ret, condW_bool, ↓WOps_go, ↓WOps_skip, WOps_nil, stepA, opA, isCall, put?, ev, Tr.get_put, Tr.get_nil, builtinA, callA, argEnv, wantedS, abs_int, abs_bool, abs_string, List.zipIdx_cons, List.zipIdx_nil, List.foldl_cons, List.foldl_nil, List.map_cons, List.map_nil, List.map_toArray, List.nil_append, List.cons_append, List.append_nil, extractOp, List.getElem?_cons_zero, List.getElem?_cons_succ,
    Option.map_some, Option.map_none, Nat.reduceLT, Nat.reduceEqDiff, Nat.reduceAdd, Nat.zero_add, if_true, if_false, Option.getD_some, Option.getD_none, ↓reduceIte, Bool.false_eq_true, Bool.true_eq_false, reduceCtorEq, resA, resOf, Option.some.injEq, exists_eq_left', beq_self_eq_true, decide_true, decide_false, decide_eq_true_eq, ne_eq, not_true_eq_false, not_false_eq_true, Bool.not_eq_true, beq_iff_eq, bin_add, bin_sub, bin_mul, bin_eql, bin_neq, bin_lss, bin_leq, bin_gtr, bin_geq, maxA, minA, Prod.mk.injEq, and_true, true_and, beq_eq_false_iff_ne, decide_eq_false_iff_not, Bool.true_beq, Bool.false_beq, beq_true, beq_false, Bool.not_true, Bool.not_false, List.getElem?_toArray, h1, h5, h6, hpos, bin_and1, hodd, bin_shr1, x_none, mul_cl (satN_i o) (satN_i q), mul_cl (satN_i q) (satN_i q), m1, m2]
        refine ⟨(j / 2).toNat, by omega, o * q, q * q, j / 2, rfl, ?_, ?_, rfl, rfl, rfl⟩
        · obtain ⟨c1, c2⟩ := hj; constructor <;> omega
        · rw [← hinv]
          have : j.toNat = 2 * (j / 2).toNat + 1 := by omega
          rw [this, Nat.pow_succ, Nat.pow_mul, Nat.pow_two]
          congr 1
          rw [Nat.mul_assoc, Nat.mul_comm q]
      · have h0 : j % 2 = 0 := by omega
        simp only [↓wpS_skip, ↓wpS_ops, ↓wpS_seq, ↓wpS_cond, ↓wpS_block, ↓wpS_loop, ↓wpS_exit, ↓wpS_ret, condW_bool, ↓WOps_go, ↓WOps_skip, WOps_nil, stepA, opA, isCall, put?, ev, Tr.get_put, Tr.get_nil, builtinA, callA, argEnv, wantedS, abs_int, abs_bool, abs_string, List.zipIdx_cons, List.zipIdx_nil, List.foldl_cons, List.foldl_nil, List.map_cons, List.map_nil, List.map_toArray, List.nil_append, List.cons_append, List.append_nil, extractOp, List.getElem?_cons_zero, List.getElem?_cons_succ,
    Option.map_some, Option.map_none, Nat.reduceLT, Nat.reduceEqDiff, Nat.reduceAdd, Nat.zero_add, if_true, if_false, Option.getD_some, Option.getD_none, ↓reduceIte, Bool.false_eq_true, Bool.true_eq_false, reduceCtorEq, resA, resOf, Option.some.injEq, exists_eq_left', beq_self_eq_true, decide_true, decide_false, decide_eq_true_eq, ne_eq, not_true_eq_false, not_false_eq_true, Bool.not_eq_true, beq_iff_eq, bin_add, bin_sub, bin_mul, bin_eql, bin_neq, bin_lss, bin_leq, bin_gtr, bin_geq, maxA, minA, Prod.mk.injEq, and_true, true_and, beq_eq_false_iff_ne, decide_eq_false_iff_not, Bool.true_beq, Bool.false_beq, beq_true, beq_false, Bool.not_true, Bool.not_false, List.getElem?_toArray, h1, h5, h6, hpos, bin_and1, h0, bin_shr1, x_none, mul_cl (satN_i o) (satN_i q), mul_cl (satN_i q) (satN_i q), m1, m2]
        refine ⟨(j / 2).toNat, by omega, o, q * q, j / 2, rfl, ?_, ?_, rfl, rfl, rfl⟩
        · obtain ⟨c1, c2⟩ := hj; constructor <;> omega
        · rw [← hinv]
          have : j.toNat = 2 * (j / 2).toNat := by omega
          rw [this, Nat.pow_mul, Nat.pow_two]
    · simp only [↓wpS_skip, ↓wpS_ops, ↓wpS_seq, ↓wpS_cond, ↓wpS_block, ↓wpS_loop, ↓wpS_exit, ↓wpS_ret, condW_bool, ↓WOps_go, ↓WOps_skip, WOps_nil, stepA, opA, isCall, put?, ev, Tr.get_put, Tr.get_nil, builtinA, callA, argEnv, wantedS, abs_int, abs_bool, abs_string, List.zipIdx_cons, List.zipIdx_nil, List.foldl_cons, List.foldl_nil, List.map_cons, List.map_nil, List.map_toArray, List.nil_append, List.cons_append, List.append_nil, extractOp, List.getElem?_cons_zero, List.getElem?_cons_succ,
    Option.map_some, Option.map_none, Nat.reduceLT, Nat.reduceEqDiff, Nat.reduceAdd, Nat.zero_add, if_true, if_false, Option.getD_some, Option.getD_none, ↓reduceIte, Bool.false_eq_true, Bool.true_eq_false, reduceCtorEq, resA, resOf, Option.some.injEq, exists_eq_left', beq_self_eq_true, decide_true, decide_false, decide_eq_true_eq, ne_eq, not_true_eq_false, not_false_eq_true, Bool.not_eq_true, beq_iff_eq, bin_add, bin_sub, bin_mul, bin_eql, bin_neq, bin_lss, bin_leq, bin_gtr, bin_geq, maxA, minA, Prod.mk.injEq, and_true, true_and, beq_eq_false_iff_ne, decide_eq_false_iff_not, Bool.true_beq, Bool.false_beq, beq_true, beq_false, Bool.not_true, Bool.not_false, List.getElem?_toArray, h1, h5, h6, hpos]
      rw [show j.toNat = 0 by omega, Nat.pow_zero, Nat.mul_one] at hinv
      rw [hinv]
  · simp only [↓wpS_skip, ↓wpS_ops, ↓wpS_seq, ↓wpS_cond, ↓wpS_block, ↓wpS_loop, ↓wpS_exit, ↓wpS_ret, condW_bool, ↓WOps_go, ↓WOps_skip, WOps_nil, stepA, opA, isCall, put?, ev, Tr.get_put, Tr.get_nil, builtinA, callA, argEnv, wantedS, abs_int, abs_bool, abs_string, List.zipIdx_cons, List.zipIdx_nil, List.foldl_cons, List.foldl_nil, List.map_cons, List.map_nil, List.map_toArray, List.nil_append, List.cons_append, List.append_nil, extractOp, List.getElem?_cons_zero, List.getElem?_cons_succ,
    Option.map_some, Option.map_none, Nat.reduceLT, Nat.reduceEqDiff, Nat.reduceAdd, Nat.zero_add, if_true, if_false, Option.getD_some, Option.getD_none, ↓reduceIte, Bool.false_eq_true, Bool.true_eq_false, reduceCtorEq, resA, resOf, Option.some.injEq, exists_eq_left', beq_self_eq_true, decide_true, decide_false, decide_eq_true_eq, ne_eq, not_true_eq_false, not_false_eq_true, Bool.not_eq_true, beq_iff_eq, bin_add, bin_sub, bin_mul, bin_eql, bin_neq, bin_lss, bin_leq, bin_gtr, bin_geq, maxA, minA, Prod.mk.injEq, and_true, true_and, beq_eq_false_iff_ne, decide_eq_false_iff_not, Bool.true_beq, Bool.false_beq, beq_true, beq_false, Bool.not_true, Bool.not_false, List.getElem?_toArray]
    refine ⟨he, by rw [Nat.one_mul], ?_⟩
    rw [satN_of hb]; exact ⟨rfl, rfl⟩
end Seat
end CI
