/- quote, walked: the texts of builders; plain bytes. -/
import Derived.Test.YtlejcpkedahphaaQb
import Derived.Test.YtlejcpkedahphaaQp
set_option linter.unusedVariables false
set_option linter.unusedSimpArgs false
namespace CI
open Go
namespace Seat
open Quo
variable {H : Heap} {nx : Nat}
theorem T70 : cx.T.get 70 = some ti70 := by kernel_rfl
theorem bytesOf_map : ∀ l : List UInt8, bytesOf (l.map byteA) = some (l.map fun b => (b.toNat : Int))
  | [] => rfl
  | b :: l => by
    have := bytesOf_map l
    simp only [List.map_cons, byteA, bytesOf, this, Option.map_some]
theorem fold_push (l : List UInt8) : ∀ acc : ByteArray, (l.map fun b => (b.toNat : Int)).foldl (fun r n => r.push (UInt8.ofNat n.toNat)) acc = ⟨acc.data ++ l.toArray⟩ := by
  induction l with
  | nil => intro acc; simp
  | cons b l ih =>
    intro acc
    simp only [List.map_cons, List.foldl_cons]
    rw [ih]
    simp [ByteArray.push]
theorem fold_bytes (l : List UInt8) : (l.map fun b => (b.toNat : Int)).foldl (fun r n => r.push (UInt8.ofNat n.toNat)) ByteArray.empty = B l := by
  rw [fold_push]
  simp [B, ByteArray.empty, ByteArray.emptyWithCapacity]
  rfl
theorem lies_bytes {n : Nat} (h : 1 ≤ n) : liesAt cx.P cx.P.depth 5 (n / cx.P.cellsOf 5) 0 5 n = true := by
  have hd : (cx.P.depth == 0) = false := by kernel_rfl
  obtain ⟨d, hd⟩ : ∃ d, cx.P.depth = d + 1 := ⟨cx.P.depth - 1, by simp at hd; omega⟩
  have hc : cx.P.cellsOf 5 = 1 := by kernel_rfl
  rw [hd, hc]
  simp only [liesAt, Bool.or_eq_true]
  left
  rw [hd]
  simp only [rowAt, hc]
  simp [sameLayout]
theorem us_cl {c : Nat} {bs : List UInt8} (hc : H.get c = some (.cells (bs.map byteA) 5 false)) (h0 : bs ≠ []) (hm : bs.length ≤ 100000000) :
    unsafeStringOp cx.P cx.T H nx 70 (.ptr c 0) (.lit (.int .i64 bs.length)) = some (strA bs, H.put c (some (.cells (bs.map byteA) 5 true)), nx) := by
  obtain ⟨k, hk⟩ : ∃ k, bs.length = k + 1 := ⟨bs.length - 1, by have := List.length_pos_iff.2 h0; omega⟩
  have hcut : cut (bs.map byteA) 0 (k + 1) = some (bs.map byteA) := by
    have : (bs.map byteA).take bs.length = bs.map byteA := List.take_of_length_le (by simp)
    simp [cut, ← hk, this]
  have hl : liesAt cx.P cx.P.depth 5 ((bs.map byteA).length / cx.P.cellsOf 5) 0 5 (k + 1) = true := by
    rw [List.length_map, hk]; exact lies_bytes (by omega)
  have hmx : ((k + 1 : Nat) : Int) ≤ IntKind.i64.max := by
    have e : IntKind.i64.max = 9223372036854775807 := by decide
    rw [e]; omega
  rw [hk]
  show (match cx.T.get 70, H.get c with
    | some { desc := .pointer e, .. }, some (.cells cs tb false) =>
      if liesAt cx.P cx.P.depth tb (cs.length / cx.P.cellsOf tb) 0 e (k + 1) = true ∧ ((k + 1 : Nat) : Int) ≤ IntKind.i64.max then
        ((cut cs 0 (k + 1)).bind bytesOf).map fun (ns : List Int) => (AV.lit (Value.string (ns.foldl (fun (r : ByteArray) (n : Int) => r.push (UInt8.ofNat n.toNat)) ByteArray.empty)), H.put c (some (.cells cs tb true)), nx)
      else none
    | _, _ => none) = _
  simp only [T70, ti70, hc]
  rw [if_pos ⟨hl, hmx⟩, hcut]
  simp only [Option.bind_some, bytesOf_map, Option.map_some, fold_bytes]
  rfl
/-- String. -/
theorem bstr_cl {n0 p o : Nat} {cs : List AV} {t : TypeId} {bs : List UInt8} (hb : Bld n0 H nx p o cs t bs) (hm : bs.length ≤ 100000000) :
    ∃ H', Cl cx 33 [.ptr p o] H nx = some (strA bs, H', nx) ∧ (∀ c, c < n0 → H'.get c = H.get c) ∧ (∀ b, nx ≤ b → H'.get b = none) := by
  rcases hb.buf with ⟨rfl, h⟩ | ⟨c, c1, c2, c3, c4, c5, c6⟩
  · refine ⟨H, ?_, fun _ _ => rfl, hb.fr⟩
    refine wp33 _ _ _ _ (by simp) ?_
    unfold s33
    simp only [↓wpS_skip, ↓wpS_ops, ↓wpS_seq, ↓wpS_cond, ↓wpS_block, ↓wpS_loop, ↓wpS_exit, ↓wpS_ret, condW_bool, ↓WOps_go, ↓WOps_skip, WOps_nil, stepA, opA, convA, isCall, put?, ev, Tr.get_put, Tr.get_nil, builtinA, callA, argEnv, wantedS, abs_int, abs_bool, abs_string, abs_nilp, abs_nili, abs_nilf, abs_nilm, abs_nils, un_not, List.zipIdx_cons, List.zipIdx_nil, List.foldl_cons, List.foldl_nil, List.map_cons, List.map_nil, List.map_toArray, List.nil_append, List.cons_append, List.append_nil, extractOp, List.getElem?_cons_zero, List.getElem?_cons_succ,
    Option.map_some, Option.map_none, Nat.reduceLT, Nat.reduceEqDiff, Nat.reduceAdd, Nat.zero_add, if_true, if_false, Option.getD_some, Option.getD_none, ↓reduceIte, Bool.false_eq_true, Bool.true_eq_false, reduceCtorEq, resA, resOf, Option.some.injEq, exists_eq_left', beq_self_eq_true, decide_true, decide_false, decide_eq_true_eq, ne_eq, not_true_eq_false, not_false_eq_true, Bool.not_eq_true, beq_iff_eq, bin_add, bin_sub, bin_mul, bin_eql, bin_neq, bin_lss, bin_leq, bin_gtr, bin_geq, maxA, minA, Prod.mk.injEq, and_true, true_and, beq_eq_false_iff_ne, decide_eq_false_iff_not, Bool.true_beq, Bool.false_beq, beq_true, beq_false, Bool.not_true, Bool.not_false, List.getElem?_toArray]
    refine s33_d0_wq ?_
    unfold s33_d0s
    have hln : lenOp cx.T .nil 46 (.lit (.slice none 0 0)) = some 0 := by kernel_rfl
    have hus : unsafeStringOp cx.P cx.T H nx 70 (.lit (.pointer none)) (.lit (.int .i64 (0 : Nat))) = some (strA [], H, nx) := by kernel_rfl
    simp only [↓wpS_skip, ↓wpS_ops, ↓wpS_seq, ↓wpS_cond, ↓wpS_block, ↓wpS_loop, ↓wpS_exit, ↓wpS_ret, condW_bool, ↓WOps_go, ↓WOps_skip, WOps_nil, stepA, opA, convA, isCall, put?, ev, Tr.get_put, Tr.get_nil, builtinA, callA, argEnv, wantedS, abs_int, abs_bool, abs_string, abs_nilp, abs_nili, abs_nilf, abs_nilm, abs_nils, un_not, List.zipIdx_cons, List.zipIdx_nil, List.foldl_cons, List.foldl_nil, List.map_cons, List.map_nil, List.map_toArray, List.nil_append, List.cons_append, List.append_nil, extractOp, List.getElem?_cons_zero, List.getElem?_cons_succ,
    Option.map_some, Option.map_none, Nat.reduceLT, Nat.reduceEqDiff, Nat.reduceAdd, Nat.zero_add, if_true, if_false, Option.getD_some, Option.getD_none, ↓reduceIte, Bool.false_eq_true, Bool.true_eq_false, reduceCtorEq, resA, resOf, Option.some.injEq, exists_eq_left', beq_self_eq_true, decide_true, decide_false, decide_eq_true_eq, ne_eq, not_true_eq_false, not_false_eq_true, Bool.not_eq_true, beq_iff_eq, bin_add, bin_sub, bin_mul, bin_eql, bin_neq, bin_lss, bin_leq, bin_gtr, bin_geq, maxA, minA, Prod.mk.injEq, and_true, true_and, beq_eq_false_iff_ne, decide_eq_false_iff_not, Bool.true_beq, Bool.false_beq, beq_true, beq_false, Bool.not_true, Bool.not_false, List.getElem?_toArray, ↓WQ_cons, ↓WQ_nil, txS, ph0_still, ph0_skip, ph0_new, ph0_read, ph0_eff, ph1_still, ph1_skip, ph1_read, ph1_eff, ph2_still, ph2_skip, loadOp_ro, loadOp_nil, isEff, eqB_int, eqB_str, eqB_bool, eqB_ptr, eqB_slice, eqB_nils, AV.belowB, Nat.le_refl, nx_succ, nc_ptr, fa48_1, ld_at (t := 46) (by kernel_rfl) hb.hp h, sliceDataOp, hln, hus]
  · refine ⟨H.put c (some (.cells (bs.map byteA) 5 true)), ?_, fun c' hc => Tr.get_put_ne _ _ _ _ (by omega), fun b hb2 => by rw [Tr.get_put_ne _ _ _ _ (by omega)]; exact hb.fr b hb2⟩
    refine wp33 _ _ _ _ (by simp) ?_
    unfold s33
    simp only [↓wpS_skip, ↓wpS_ops, ↓wpS_seq, ↓wpS_cond, ↓wpS_block, ↓wpS_loop, ↓wpS_exit, ↓wpS_ret, condW_bool, ↓WOps_go, ↓WOps_skip, WOps_nil, stepA, opA, convA, isCall, put?, ev, Tr.get_put, Tr.get_nil, builtinA, callA, argEnv, wantedS, abs_int, abs_bool, abs_string, abs_nilp, abs_nili, abs_nilf, abs_nilm, abs_nils, un_not, List.zipIdx_cons, List.zipIdx_nil, List.foldl_cons, List.foldl_nil, List.map_cons, List.map_nil, List.map_toArray, List.nil_append, List.cons_append, List.append_nil, extractOp, List.getElem?_cons_zero, List.getElem?_cons_succ,
    Option.map_some, Option.map_none, Nat.reduceLT, Nat.reduceEqDiff, Nat.reduceAdd, Nat.zero_add, if_true, if_false, Option.getD_some, Option.getD_none, ↓reduceIte, Bool.false_eq_true, Bool.true_eq_false, reduceCtorEq, resA, resOf, Option.some.injEq, exists_eq_left', beq_self_eq_true, decide_true, decide_false, decide_eq_true_eq, ne_eq, not_true_eq_false, not_false_eq_true, Bool.not_eq_true, beq_iff_eq, bin_add, bin_sub, bin_mul, bin_eql, bin_neq, bin_lss, bin_leq, bin_gtr, bin_geq, maxA, minA, Prod.mk.injEq, and_true, true_and, beq_eq_false_iff_ne, decide_eq_false_iff_not, Bool.true_beq, Bool.false_beq, beq_true, beq_false, Bool.not_true, Bool.not_false, List.getElem?_toArray]
    refine s33_d0_wq ?_
    unfold s33_d0s
    have hln : lenOp cx.T .nil 46 (.slice c 0 bs.length none 1) = some bs.length := by kernel_rfl
    have hsd : sliceDataOp (.slice c 0 bs.length none 1) = some (.ptr c 0) := by
      cases bs with
      | nil => exact absurd rfl c4
      | cons => rfl
    simp only [↓wpS_skip, ↓wpS_ops, ↓wpS_seq, ↓wpS_cond, ↓wpS_block, ↓wpS_loop, ↓wpS_exit, ↓wpS_ret, condW_bool, ↓WOps_go, ↓WOps_skip, WOps_nil, stepA, opA, convA, isCall, put?, ev, Tr.get_put, Tr.get_nil, builtinA, callA, argEnv, wantedS, abs_int, abs_bool, abs_string, abs_nilp, abs_nili, abs_nilf, abs_nilm, abs_nils, un_not, List.zipIdx_cons, List.zipIdx_nil, List.foldl_cons, List.foldl_nil, List.map_cons, List.map_nil, List.map_toArray, List.nil_append, List.cons_append, List.append_nil, extractOp, List.getElem?_cons_zero, List.getElem?_cons_succ,
    Option.map_some, Option.map_none, Nat.reduceLT, Nat.reduceEqDiff, Nat.reduceAdd, Nat.zero_add, if_true, if_false, Option.getD_some, Option.getD_none, ↓reduceIte, Bool.false_eq_true, Bool.true_eq_false, reduceCtorEq, resA, resOf, Option.some.injEq, exists_eq_left', beq_self_eq_true, decide_true, decide_false, decide_eq_true_eq, ne_eq, not_true_eq_false, not_false_eq_true, Bool.not_eq_true, beq_iff_eq, bin_add, bin_sub, bin_mul, bin_eql, bin_neq, bin_lss, bin_leq, bin_gtr, bin_geq, maxA, minA, Prod.mk.injEq, and_true, true_and, beq_eq_false_iff_ne, decide_eq_false_iff_not, Bool.true_beq, Bool.false_beq, beq_true, beq_false, Bool.not_true, Bool.not_false, List.getElem?_toArray, ↓WQ_cons, ↓WQ_nil, txS, ph0_still, ph0_skip, ph0_new, ph0_read, ph0_eff, ph1_still, ph1_skip, ph1_read, ph1_eff, ph2_still, ph2_skip, loadOp_ro, loadOp_nil, isEff, eqB_int, eqB_str, eqB_bool, eqB_ptr, eqB_slice, eqB_nils, AV.belowB, Nat.le_refl, nx_succ, nc_ptr, fa48_1, ld_at (t := 46) (by kernel_rfl) hb.hp c5, hsd, hln, us_cl c6 c4 hm, decide_eq_true c3]
theorem u8_eq (a b : Int) (x y : Operand) : binOpA cx.P cx.T .eql 5 x y (.lit (.int .u8 a)) (.lit (.int .u8 b)) = some (.lit (.bool (decide (a = b)))) := bin_eql _ _ _ _ _ _ _ _
theorem plain_cl (b : UInt8) : Cl cx 30 [byteA b] H nx = some (.lit (.bool (plainN b.toNat)), H, nx) := by
  refine wp30 _ _ _ _ (by simp) ?_
  unfold s30 byteA
  have hp : plainN b.toNat = (decide (((b.toNat : Nat) : Int) > 32) && decide (((b.toNat : Nat) : Int) < 127) && decide (¬ ((b.toNat : Nat) : Int) = 92)) := by
    unfold plainN
    rw [Bool.eq_iff_iff]
    simp only [Bool.and_eq_true, decide_eq_true_eq]
    omega
  rw [hp]
  generalize ((b.toNat : Nat) : Int) = n
  by_cases h1 : n > 32 <;> by_cases h2 : n < 127
  all_goals simp only [↓wpS_skip, ↓wpS_ops, ↓wpS_seq, ↓wpS_cond, ↓wpS_block, ↓wpS_loop, ↓wpS_exit, ↓wpS_ret, condW_bool, ↓WOps_go, ↓WOps_skip, WOps_nil, stepA, opA, convA, isCall, put?, ev, Tr.get_put, Tr.get_nil, builtinA, callA, argEnv, wantedS, abs_int, abs_bool, abs_string, abs_nilp, abs_nili, abs_nilf, abs_nilm, abs_nils, un_not, List.zipIdx_cons, List.zipIdx_nil, List.foldl_cons, List.foldl_nil, List.map_cons, List.map_nil, List.map_toArray, List.nil_append, List.cons_append, List.append_nil, extractOp, List.getElem?_cons_zero, List.getElem?_cons_succ,
    Option.map_some, Option.map_none, Nat.reduceLT, Nat.reduceEqDiff, Nat.reduceAdd, Nat.zero_add, if_true, if_false, Option.getD_some, Option.getD_none, ↓reduceIte, Bool.false_eq_true, Bool.true_eq_false, reduceCtorEq, resA, resOf, Option.some.injEq, exists_eq_left', beq_self_eq_true, decide_true, decide_false, decide_eq_true_eq, ne_eq, not_true_eq_false, not_false_eq_true, Bool.not_eq_true, beq_iff_eq, bin_add, bin_sub, bin_mul, bin_eql, bin_neq, bin_lss, bin_leq, bin_gtr, bin_geq, maxA, minA, Prod.mk.injEq, and_true, true_and, beq_eq_false_iff_ne, decide_eq_false_iff_not, Bool.true_beq, Bool.false_beq, beq_true, beq_false, Bool.not_true, Bool.not_false, List.getElem?_toArray, h1, h2, Bool.and_true, Bool.and_false, Bool.true_and, Bool.false_and]
end Seat
end CI
