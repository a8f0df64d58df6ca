/- quote: the law QuoteWrites. -/
import Derived.Test.YtlejcpkedahphaaQi
set_option linter.unusedVariables false
set_option linter.unusedSimpArgs false
namespace CI
namespace Quo
theorem flat_le (s : List UInt8) : (s.flatMap oneW).length ≤ 4 * s.length := by
  induction s with
  | nil => simp
  | cons b l ih =>
    have := oneW_le b
    simp only [List.flatMap_cons, List.length_append, List.length_cons]
    omega
theorem writeW_len (s : List UInt8) : (writeW s).length ≤ 4 * s.length + 2 := by
  unfold writeW
  split
  · simp
  · have := flat_le s
    omega
theorem flat_len (s : List UInt8) : s.length ≤ (s.flatMap oneW).length := by
  induction s with
  | nil => simp
  | cons b l ih =>
    have := oneW_pos b
    simp only [List.flatMap_cons, List.length_append, List.length_cons]
    omega
theorem readI_write (s : List UInt8) : readI (writeW s) = (s, s.length, 0) := by
  unfold writeW
  by_cases h0 : s = []
  · subst h0; rfl
  · rw [if_neg h0]
    have hr := readW_write s [] [] ((s.flatMap oneW).length + 1) (by have := flat_len s; omega)
    simp only [List.nil_append, List.length_nil] at hr
    unfold readI
    rw [if_neg, hr]
    · simp only
      rw [if_neg]
      intro h
      have := flat_len s
      rw [h] at this
      simp only [List.length_nil, Nat.le_zero, List.length_eq_zero_iff] at this
      exact h0 this
    · intro h
      rw [h] at hr
      have : readW (([92, 101] : List UInt8).length + 1) [92, 101] 0 [] = .error 1 := rfl
      rw [this] at hr; cases hr
end Quo
open Go
namespace Seat
open Quo
variable {H : Heap} {nx : Nat}
theorem law7 (s : List UInt8) (hfr : ∀ b, nx ≤ b → H.get b = none) : ∃ v H' nx', Cl cx 7 [strA s] H nx = some (v, H', nx') ∧ v = .lit (.bool true) := by
  refine wpP7 _ _ _ _ (by simp) ?_
  unfold s7
  by_cases hl : ((s.length : Nat) : Int) > 500
  · simp only [↓wpS_skip, ↓wpS_ops, ↓wpS_seq, ↓wpS_cond, ↓wpS_block, ↓wpS_loop, ↓wpS_exit, ↓wpS_ret, condW_bool, ↓WOps_go, ↓WOps_skip, WOps_nil, stepA, opA, convA, isCall, put?, ev, Tr.get_put, Tr.get_nil, builtinA, callA, argEnv, wantedS, abs_int, abs_bool, abs_string, abs_nilp, abs_nili, abs_nilf, abs_nilm, abs_nils, un_not, List.zipIdx_cons, List.zipIdx_nil, List.foldl_cons, List.foldl_nil, List.map_cons, List.map_nil, List.map_toArray, List.nil_append, List.cons_append, List.append_nil, extractOp, List.getElem?_cons_zero, List.getElem?_cons_succ,
    Option.map_some, Option.map_none, Nat.reduceLT, Nat.reduceEqDiff, Nat.reduceAdd, Nat.zero_add, if_true, if_false, Option.getD_some, Option.getD_none, ↓reduceIte, Bool.false_eq_true, Bool.true_eq_false, reduceCtorEq, resA, resOf, Option.some.injEq, exists_eq_left', beq_self_eq_true, decide_true, decide_false, decide_eq_true_eq, ne_eq, not_true_eq_false, not_false_eq_true, Bool.not_eq_true, beq_iff_eq, bin_add, bin_sub, bin_mul, bin_eql, bin_neq, bin_lss, bin_leq, bin_gtr, bin_geq, maxA, minA, Prod.mk.injEq, and_true, true_and, beq_eq_false_iff_ne, decide_eq_false_iff_not, Bool.true_beq, Bool.false_beq, beq_true, beq_false, Bool.not_true, Bool.not_false, List.getElem?_toArray, x_none, x_awake2, str_len, hl]
  · have hs : s.length ≤ 500 := by omega
    obtain ⟨v1, H1, nx1, c1, rfl, f1⟩ := write_cl (s := s) (by omega) hfr
    have hwl := writeW_len s
    obtain ⟨v2, H2, nx2, c2, rfl, f2⟩ := read_cl (w := writeW s) (by omega) f1.fr
    rw [readI_write] at c2
    obtain ⟨v3, H3, nx3, c3, rfl, f3⟩ := rwrite_cl (s := s) (by omega) f2.fr
    have e1 := str_eql (.tmp 19) (.tmp 21) (writeW s) (writeW s)
    have e2 := str_eql (.tmp 24) (.tmp 25) s s
    have z : (((0 : Nat) : Int) = 0) = True := by simp
    simp only [↓wpS_skip, ↓wpS_ops, ↓wpS_seq, ↓wpS_cond, ↓wpS_block, ↓wpS_loop, ↓wpS_exit, ↓wpS_ret, condW_bool, ↓WOps_go, ↓WOps_skip, WOps_nil, stepA, opA, convA, isCall, put?, ev, Tr.get_put, Tr.get_nil, builtinA, callA, argEnv, wantedS, abs_int, abs_bool, abs_string, abs_nilp, abs_nili, abs_nilf, abs_nilm, abs_nils, un_not, List.zipIdx_cons, List.zipIdx_nil, List.foldl_cons, List.foldl_nil, List.map_cons, List.map_nil, List.map_toArray, List.nil_append, List.cons_append, List.append_nil, extractOp, List.getElem?_cons_zero, List.getElem?_cons_succ,
    Option.map_some, Option.map_none, Nat.reduceLT, Nat.reduceEqDiff, Nat.reduceAdd, Nat.zero_add, if_true, if_false, Option.getD_some, Option.getD_none, ↓reduceIte, Bool.false_eq_true, Bool.true_eq_false, reduceCtorEq, resA, resOf, Option.some.injEq, exists_eq_left', beq_self_eq_true, decide_true, decide_false, decide_eq_true_eq, ne_eq, not_true_eq_false, not_false_eq_true, Bool.not_eq_true, beq_iff_eq, bin_add, bin_sub, bin_mul, bin_eql, bin_neq, bin_lss, bin_leq, bin_gtr, bin_geq, maxA, minA, Prod.mk.injEq, and_true, true_and, beq_eq_false_iff_ne, decide_eq_false_iff_not, Bool.true_beq, Bool.false_beq, beq_true, beq_false, Bool.not_true, Bool.not_false, List.getElem?_toArray, x_none, x_awake2, str_len, hl, c1, c2, c3, e1, e2, z]
end Seat
end CI
