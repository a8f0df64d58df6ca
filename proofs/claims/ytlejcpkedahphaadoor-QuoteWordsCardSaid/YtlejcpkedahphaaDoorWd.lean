/- strings.Index at one blank, strings.Count of blanks: walked. -/
import Derived.Test.YtlejcpkedahphaaDoorWc
import Derived.Test.YtlejcpkedahphaaDoorWp
set_option linter.unusedVariables false
set_option linter.unusedSimpArgs false
namespace CI
open Go
namespace Seat
variable {H : Heap} {nx : Nat}
theorem pure_is {P : Program} {m : Sem Value} {v : Value} (w0 : World) (h1 : ∃ a, pureRun P m = some a) (h2 : ∀ w, m.run P w = .ok v w) : pureRun P m = some v := by
  obtain ⟨a, ha⟩ := h1
  have h3 := (pureRun_ok w0 ha).symm.trans (h2 _)
  injection h3 with h3
  rw [ha, h3]
theorem pure72 (s : ByteArray) : ∃ a, pureRun cx.P (Extern.BytealgIndexByte.indexByte #[.string s, .int .u8 32]) = some a := by
  have e : pureRun cx.P (Extern.BytealgIndexByte.indexByte #[.string s, .int .u8 32]) = pureRun cx.P (match (List.range s.size).find? fun i => s[i]! == (32 : UInt8) with
    | some i => pure (goInt i)
    | none => pure (goInt (-1))) := by kernel_rfl
  rw [e]
  split
  · exact ⟨_, rfl⟩
  · exact ⟨_, rfl⟩
theorem ext72 (l : List UInt8) : extX cx.P exts 72 [strA l, byteA 32] = (pureRun cx.P (Extern.BytealgIndexByte.indexByte #[.string (B l), .int .u8 32])).map abs := by kernel_rfl
theorem i72 : idents.get 72 = none := by kernel_rfl
theorem x72 (w0 : World) (l : List UInt8) : cx.X 72 [strA l, byteA 32] = some (.lit (.int .i64 (Lib.indexByte l 32))) := by
  have h0 : cx.X 72 [strA l, byteA 32] = extX3 cx.P exts sums idents 72 [strA l, byteA 32] := rfl
  have e : extX cx.P exts 72 [strA l, byteA 32] = some (.lit (.int .i64 (Lib.indexByte l 32))) := by
    rw [ext72, pure_is w0 (pure72 (B l)) (fun w => Lib.run_indexByteString (B l) 32 w), B_data]
    rfl
  rw [h0]
  unfold extX3 extX2
  rw [i72, e]
theorem x47 (w0 : World) (l : List UInt8) : cx.X 47 [strA l, byteA 32] = some (.lit (.int .i64 (l.count 32 : Nat))) := by
  have h0 : cx.X 47 [strA l, byteA 32] = (pureRun cx.P (Extern.BytealgCount.count #[.string (B l), .int .u8 32])).map abs := by kernel_rfl
  rw [h0, pure_is w0 ⟨_, rfl⟩ (fun w => Lib.run_countString (B l) 32 w), B_data]
  rfl
/-- The word of one blank. -/
theorem sep_ix : indexOp cx.P cx.T 9 (.lit (.string (ByteArray.mk #[32]))) (.lit (.int .i64 0)) = some (byteA 32) := by kernel_rfl
theorem sep_len (H : Heap) : lenOp cx.T H 9 (.lit (.string (ByteArray.mk #[32]))) = some 1 := by kernel_rfl
/-- strings.Index. -/
theorem ix_cl (w0 : World) (l : List UInt8) : Cl cx 34 [strA l, .lit (.string (ByteArray.mk #[32]))] H nx = some (.lit (.int .i64 (Lib.indexByte l 32)), H, nx) := by
  have h60 : Cl cx 60 [strA l, byteA 32] H nx = some (.lit (.int .i64 (Lib.indexByte l 32)), H, nx) := by
    refine wp60 _ _ _ _ (by simp) ?_
    unfold s60
    simp only [↓wpS_skip, ↓wpS_ops, ↓wpS_seq, ↓wpS_cond, ↓wpS_block, ↓wpS_loop, ↓wpS_exit, ↓wpS_ret, condW_bool, ↓WOps_go, ↓WOps_skip, WOps_nil, stepA, opA, convA, isCall, put?, ev, Tr.get_put, Tr.get_nil, builtinA, callA, argEnv, wantedS, abs_int, abs_bool, abs_string, abs_nilp, abs_nili, abs_nilf, abs_nilm, abs_nils, un_not, z_none, List.zipIdx_cons, List.zipIdx_nil, List.foldl_cons, List.foldl_nil, List.map_cons, List.map_nil, List.map_toArray, List.nil_append, List.cons_append, List.append_nil, extractOp, List.getElem?_cons_zero, List.getElem?_cons_succ,
    Option.map_some, Option.map_none, Nat.reduceLT, Nat.reduceEqDiff, Nat.reduceAdd, Nat.zero_add, if_true, if_false, Option.getD_some, Option.getD_none, ↓reduceIte, Bool.false_eq_true, Bool.true_eq_false, reduceCtorEq, resA, resOf, Option.some.injEq, exists_eq_left', beq_self_eq_true, decide_true, decide_false, decide_eq_true_eq, ne_eq, not_true_eq_false, not_false_eq_true, Bool.not_eq_true, beq_iff_eq, bin_add, bin_sub, bin_mul, bin_eql, bin_neq, bin_lss, bin_leq, bin_gtr, bin_geq, maxA, minA, Prod.mk.injEq, and_true, true_and, beq_eq_false_iff_ne, decide_eq_false_iff_not, Bool.true_beq, Bool.false_beq, beq_true, beq_false, Bool.not_true, Bool.not_false, List.getElem?_toArray, x72 w0]
  have h48 : Cl cx 48 [strA l, .lit (.string (ByteArray.mk #[32]))] H nx = some (.lit (.int .i64 (Lib.indexByte l 32)), H, nx) := by
    refine wp48 _ _ _ _ (by simp) ?_
    unfold s48
    have e1 : (((1 : Nat) : Int) = 0) = False := by simp
    have e2 : (((1 : Nat) : Int) = 1) = True := by simp
    have e3 : binOpA cx.P cx.T .eql 9 (.tmp 20) (.tmp 21) (.lit (.string (ByteArray.mk #[32]))) (strA l) = some (.lit (.bool (decide ([32] = l)))) := str_eql _ _ [32] l
    by_cases h : [32] = l
    · subst h
      have e4 : Lib.indexByte [32] 32 = 0 := by decide
      simp only [↓wpS_skip, ↓wpS_ops, ↓wpS_seq, ↓wpS_cond, ↓wpS_block, ↓wpS_loop, ↓wpS_exit, ↓wpS_ret, condW_bool, ↓WOps_go, ↓WOps_skip, WOps_nil, stepA, opA, convA, isCall, put?, ev, Tr.get_put, Tr.get_nil, builtinA, callA, argEnv, wantedS, abs_int, abs_bool, abs_string, abs_nilp, abs_nili, abs_nilf, abs_nilm, abs_nils, un_not, z_none, List.zipIdx_cons, List.zipIdx_nil, List.foldl_cons, List.foldl_nil, List.map_cons, List.map_nil, List.map_toArray, List.nil_append, List.cons_append, List.append_nil, extractOp, List.getElem?_cons_zero, List.getElem?_cons_succ,
    Option.map_some, Option.map_none, Nat.reduceLT, Nat.reduceEqDiff, Nat.reduceAdd, Nat.zero_add, if_true, if_false, Option.getD_some, Option.getD_none, ↓reduceIte, Bool.false_eq_true, Bool.true_eq_false, reduceCtorEq, resA, resOf, Option.some.injEq, exists_eq_left', beq_self_eq_true, decide_true, decide_false, decide_eq_true_eq, ne_eq, not_true_eq_false, not_false_eq_true, Bool.not_eq_true, beq_iff_eq, bin_add, bin_sub, bin_mul, bin_eql, bin_neq, bin_lss, bin_leq, bin_gtr, bin_geq, maxA, minA, Prod.mk.injEq, and_true, true_and, beq_eq_false_iff_ne, decide_eq_false_iff_not, Bool.true_beq, Bool.false_beq, beq_true, beq_false, Bool.not_true, Bool.not_false, List.getElem?_toArray, sep_len, sep_ix, e1, e2, e3, e4, x_none, h60]
    · simp only [↓wpS_skip, ↓wpS_ops, ↓wpS_seq, ↓wpS_cond, ↓wpS_block, ↓wpS_loop, ↓wpS_exit, ↓wpS_ret, condW_bool, ↓WOps_go, ↓WOps_skip, WOps_nil, stepA, opA, convA, isCall, put?, ev, Tr.get_put, Tr.get_nil, builtinA, callA, argEnv, wantedS, abs_int, abs_bool, abs_string, abs_nilp, abs_nili, abs_nilf, abs_nilm, abs_nils, un_not, z_none, List.zipIdx_cons, List.zipIdx_nil, List.foldl_cons, List.foldl_nil, List.map_cons, List.map_nil, List.map_toArray, List.nil_append, List.cons_append, List.append_nil, extractOp, List.getElem?_cons_zero, List.getElem?_cons_succ,
    Option.map_some, Option.map_none, Nat.reduceLT, Nat.reduceEqDiff, Nat.reduceAdd, Nat.zero_add, if_true, if_false, Option.getD_some, Option.getD_none, ↓reduceIte, Bool.false_eq_true, Bool.true_eq_false, reduceCtorEq, resA, resOf, Option.some.injEq, exists_eq_left', beq_self_eq_true, decide_true, decide_false, decide_eq_true_eq, ne_eq, not_true_eq_false, not_false_eq_true, Bool.not_eq_true, beq_iff_eq, bin_add, bin_sub, bin_mul, bin_eql, bin_neq, bin_lss, bin_leq, bin_gtr, bin_geq, maxA, minA, Prod.mk.injEq, and_true, true_and, beq_eq_false_iff_ne, decide_eq_false_iff_not, Bool.true_beq, Bool.false_beq, beq_true, beq_false, Bool.not_true, Bool.not_false, List.getElem?_toArray, sep_len, sep_ix, e1, e2, e3, h, x_none, h60]
  refine wp34 _ _ _ _ (by simp) ?_
  unfold s34
  simp only [↓wpS_skip, ↓wpS_ops, ↓wpS_seq, ↓wpS_cond, ↓wpS_block, ↓wpS_loop, ↓wpS_exit, ↓wpS_ret, condW_bool, ↓WOps_go, ↓WOps_skip, WOps_nil, stepA, opA, convA, isCall, put?, ev, Tr.get_put, Tr.get_nil, builtinA, callA, argEnv, wantedS, abs_int, abs_bool, abs_string, abs_nilp, abs_nili, abs_nilf, abs_nilm, abs_nils, un_not, z_none, List.zipIdx_cons, List.zipIdx_nil, List.foldl_cons, List.foldl_nil, List.map_cons, List.map_nil, List.map_toArray, List.nil_append, List.cons_append, List.append_nil, extractOp, List.getElem?_cons_zero, List.getElem?_cons_succ,
    Option.map_some, Option.map_none, Nat.reduceLT, Nat.reduceEqDiff, Nat.reduceAdd, Nat.zero_add, if_true, if_false, Option.getD_some, Option.getD_none, ↓reduceIte, Bool.false_eq_true, Bool.true_eq_false, reduceCtorEq, resA, resOf, Option.some.injEq, exists_eq_left', beq_self_eq_true, decide_true, decide_false, decide_eq_true_eq, ne_eq, not_true_eq_false, not_false_eq_true, Bool.not_eq_true, beq_iff_eq, bin_add, bin_sub, bin_mul, bin_eql, bin_neq, bin_lss, bin_leq, bin_gtr, bin_geq, maxA, minA, Prod.mk.injEq, and_true, true_and, beq_eq_false_iff_ne, decide_eq_false_iff_not, Bool.true_beq, Bool.false_beq, beq_true, beq_false, Bool.not_true, Bool.not_false, List.getElem?_toArray, x_none, h48]
/-- strings.Count. -/
theorem cnt_cl (w0 : World) (l : List UInt8) : Cl cx 33 [strA l, .lit (.string (ByteArray.mk #[32]))] H nx = some (.lit (.int .i64 (l.count 32 : Nat)), H, nx) := by
  refine wp33 _ _ _ _ (by simp) ?_
  unfold s33
  have e1 : (((1 : Nat) : Int) = 0) = False := by simp
  have e2 : (((1 : Nat) : Int) = 1) = True := by simp
  simp only [↓wpS_skip, ↓wpS_ops, ↓wpS_seq, ↓wpS_cond, ↓wpS_block, ↓wpS_loop, ↓wpS_exit, ↓wpS_ret, condW_bool, ↓WOps_go, ↓WOps_skip, WOps_nil, stepA, opA, convA, isCall, put?, ev, Tr.get_put, Tr.get_nil, builtinA, callA, argEnv, wantedS, abs_int, abs_bool, abs_string, abs_nilp, abs_nili, abs_nilf, abs_nilm, abs_nils, un_not, z_none, List.zipIdx_cons, List.zipIdx_nil, List.foldl_cons, List.foldl_nil, List.map_cons, List.map_nil, List.map_toArray, List.nil_append, List.cons_append, List.append_nil, extractOp, List.getElem?_cons_zero, List.getElem?_cons_succ,
    Option.map_some, Option.map_none, Nat.reduceLT, Nat.reduceEqDiff, Nat.reduceAdd, Nat.zero_add, if_true, if_false, Option.getD_some, Option.getD_none, ↓reduceIte, Bool.false_eq_true, Bool.true_eq_false, reduceCtorEq, resA, resOf, Option.some.injEq, exists_eq_left', beq_self_eq_true, decide_true, decide_false, decide_eq_true_eq, ne_eq, not_true_eq_false, not_false_eq_true, Bool.not_eq_true, beq_iff_eq, bin_add, bin_sub, bin_mul, bin_eql, bin_neq, bin_lss, bin_leq, bin_gtr, bin_geq, maxA, minA, Prod.mk.injEq, and_true, true_and, beq_eq_false_iff_ne, decide_eq_false_iff_not, Bool.true_beq, Bool.false_beq, beq_true, beq_false, Bool.not_true, Bool.not_false, List.getElem?_toArray, sep_len, sep_ix, e1, e2, x47 w0]
end Seat
end CI
