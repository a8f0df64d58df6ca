/- quote, walked: Read's parts. -/
import Derived.Test.YtlejcpkedahphaaQe
set_option linter.unusedVariables false
set_option linter.unusedSimpArgs false
namespace CI
open Go
namespace Seat
open Quo
variable {H : Heap} {nx : Nat}
/-- The reader's block. -/
structure Rd (n0 : Nat) (H : Heap) (nx r : Nat) (w : List UInt8) (at_ : Nat) (bs : List UInt8) (cs : List AV) : Prop where
  bld : Bld n0 H nx r 2 cs 60 bs
  s : cs[0]? = some (strA w)
  at1 : cs[1]? = some (.lit (.int .i64 at_))
  len : cs.length = 4
theorem Bld.set {n0 p o j : Nat} {cs : List AV} {t : TypeId} {bs : List UInt8} (hb : Bld n0 H nx p o cs t bs) (v : AV) (h1 : j ≠ o) (h2 : j ≠ o + 1) : Bld n0 (H.put p (some (.cells (cs.set j v) t false))) nx p o (cs.set j v) t bs where
  hp := Tr.get_put_same _ _ _
  p0 := hb.p0
  p1 := hb.p1
  lies := by simpa using hb.lies
  self := by rw [set_get (by omega)]; exact hb.self
  buf := by
    rw [set_get (by omega)]
    rcases hb.buf with h | ⟨c, h1, h2, h3, h4, h5, h6⟩
    · exact .inl h
    · exact .inr ⟨c, h1, h2, h3, h4, h5, by rw [Tr.get_put_ne _ _ _ _ h1]; exact h6⟩
  fr := fun b h => by rw [Tr.get_put_ne _ _ _ _ (by have := hb.p1; omega)]; exact hb.fr b h
theorem fa60_0 (p o : Nat) : fieldAddrOp cx.T 60 (.ptr p o) 0 = some (.ptr p o) := by kernel_rfl
theorem fa60_1 (p o : Nat) : fieldAddrOp cx.T 60 (.ptr p o) 1 = some (.ptr p (o + 2)) := by kernel_rfl
theorem fa58_0 (p o : Nat) : fieldAddrOp cx.T 58 (.ptr p o) 0 = some (.ptr p o) := by kernel_rfl
theorem fa58_1 (p o : Nat) : fieldAddrOp cx.T 58 (.ptr p o) 1 = some (.ptr p (o + 1)) := by kernel_rfl
section
variable {n0 r at_ : Nat} {w bs : List UInt8} {cs : List AV}
theorem Rd.ld_s (h : Rd n0 H nx r w at_ bs cs) : loadOp cx.T H 9 (.ptr r 0) = some (strA w) := ld_at (by kernel_rfl) h.bld.hp h.s
theorem Rd.ld_at (h : Rd n0 H nx r w at_ bs cs) : loadOp cx.T H 3 (.ptr r 1) = some (.lit (.int .i64 at_)) := CI.Seat.ld_at (by kernel_rfl) h.bld.hp h.at1
/-- The place is moved. -/
theorem Rd.st (h : Rd n0 H nx r w at_ bs cs) (k : Nat) : ∃ H' cs', storeOp cx.T H 3 (.ptr r 1) (.lit (.int .i64 k)) = some H' ∧ Rd n0 H' nx r w k bs cs' ∧ ∀ c, c < n0 → H'.get c = H.get c := by
  refine ⟨H.put r (some (.cells (cs.set 1 (.lit (.int .i64 k))) 60 false)), cs.set 1 (.lit (.int .i64 k)), st_at (by kernel_rfl) h.bld.hp (by have := h.len; omega) rfl rfl, ⟨h.bld.set _ (by omega) (by omega), ?_, ?_, by simp [h.len]⟩, fun c hc => Tr.get_put_ne _ _ _ _ (by have := h.bld.p0; omega)⟩
  · rw [set_get (by omega)]; exact h.s
  · simp [List.getElem?_set, h.len]
/-- next. -/
theorem next_cl (h : Rd n0 H nx r w at_ bs cs) : Cl cx 43 [.ptr r 0] H nx = some (.tuple [byteA (w.getD at_ 0), .lit (.bool (decide (at_ < w.length)))], H, nx) := by
  refine wp43 _ _ _ _ (by simp) ?_
  unfold s43
  have hl : lenOp cx.T .nil 9 (strA w) = some w.length := str_len w
  simp only [↓wpS_skip, ↓wpS_ops, ↓wpS_seq, ↓wpS_cond, ↓wpS_block, ↓wpS_loop, ↓wpS_exit, ↓wpS_ret, condW_bool, ↓WOps_go, ↓WOps_skip, WOps_nil, stepA, opA, convA, isCall, put?, ev, Tr.get_put, Tr.get_nil, builtinA, callA, argEnv, wantedS, abs_int, abs_bool, abs_string, abs_nilp, abs_nili, abs_nilf, abs_nilm, abs_nils, un_not, List.zipIdx_cons, List.zipIdx_nil, List.foldl_cons, List.foldl_nil, List.map_cons, List.map_nil, List.map_toArray, List.nil_append, List.cons_append, List.append_nil, extractOp, List.getElem?_cons_zero, List.getElem?_cons_succ,
    Option.map_some, Option.map_none, Nat.reduceLT, Nat.reduceEqDiff, Nat.reduceAdd, Nat.zero_add, if_true, if_false, Option.getD_some, Option.getD_none, ↓reduceIte, Bool.false_eq_true, Bool.true_eq_false, reduceCtorEq, resA, resOf, Option.some.injEq, exists_eq_left', beq_self_eq_true, decide_true, decide_false, decide_eq_true_eq, ne_eq, not_true_eq_false, not_false_eq_true, Bool.not_eq_true, beq_iff_eq, bin_add, bin_sub, bin_mul, bin_eql, bin_neq, bin_lss, bin_leq, bin_gtr, bin_geq, maxA, minA, Prod.mk.injEq, and_true, true_and, beq_eq_false_iff_ne, decide_eq_false_iff_not, Bool.true_beq, Bool.false_beq, beq_true, beq_false, Bool.not_true, Bool.not_false, List.getElem?_toArray]
  refine s43_d0_wq ?_
  unfold s43_d0s
  by_cases hlt : at_ < w.length
  · have e1 : (((at_ : Nat) : Int) ≥ (w.length : Nat)) = False := by simp; omega
    simp only [↓wpS_skip, ↓wpS_ops, ↓wpS_seq, ↓wpS_cond, ↓wpS_block, ↓wpS_loop, ↓wpS_exit, ↓wpS_ret, condW_bool, ↓WOps_go, ↓WOps_skip, WOps_nil, stepA, opA, convA, isCall, put?, ev, Tr.get_put, Tr.get_nil, builtinA, callA, argEnv, wantedS, abs_int, abs_bool, abs_string, abs_nilp, abs_nili, abs_nilf, abs_nilm, abs_nils, un_not, List.zipIdx_cons, List.zipIdx_nil, List.foldl_cons, List.foldl_nil, List.map_cons, List.map_nil, List.map_toArray, List.nil_append, List.cons_append, List.append_nil, extractOp, List.getElem?_cons_zero, List.getElem?_cons_succ,
    Option.map_some, Option.map_none, Nat.reduceLT, Nat.reduceEqDiff, Nat.reduceAdd, Nat.zero_add, if_true, if_false, Option.getD_some, Option.getD_none, ↓reduceIte, Bool.false_eq_true, Bool.true_eq_false, reduceCtorEq, resA, resOf, Option.some.injEq, exists_eq_left', beq_self_eq_true, decide_true, decide_false, decide_eq_true_eq, ne_eq, not_true_eq_false, not_false_eq_true, Bool.not_eq_true, beq_iff_eq, bin_add, bin_sub, bin_mul, bin_eql, bin_neq, bin_lss, bin_leq, bin_gtr, bin_geq, maxA, minA, Prod.mk.injEq, and_true, true_and, beq_eq_false_iff_ne, decide_eq_false_iff_not, Bool.true_beq, Bool.false_beq, beq_true, beq_false, Bool.not_true, Bool.not_false, List.getElem?_toArray, ↓WQ_cons, ↓WQ_nil, txS, ph0_still, ph0_skip, ph0_new, ph0_read, ph0_eff, ph1_still, ph1_skip, ph1_read, ph1_eff, ph2_still, ph2_skip, loadOp_ro, loadOp_nil, isEff, eqB_int, eqB_str, eqB_bool, eqB_ptr, eqB_slice, eqB_nils, AV.belowB, Nat.le_refl, nx_succ, nc_ptr, fa58_0, fa58_1, h.ld_s, h.ld_at, hl, e1, eqB_strA, below_strA]
    refine s43_d1_wq ?_
    unfold s43_d1s
    have hix := str_ix w at_ w[at_] .i64 (List.getElem?_eq_getElem hlt)
    have hg : w.getD at_ 0 = w[at_] := by simp [List.getD_eq_getElem?_getD, hlt]
    simp only [↓wpS_skip, ↓wpS_ops, ↓wpS_seq, ↓wpS_cond, ↓wpS_block, ↓wpS_loop, ↓wpS_exit, ↓wpS_ret, condW_bool, ↓WOps_go, ↓WOps_skip, WOps_nil, stepA, opA, convA, isCall, put?, ev, Tr.get_put, Tr.get_nil, builtinA, callA, argEnv, wantedS, abs_int, abs_bool, abs_string, abs_nilp, abs_nili, abs_nilf, abs_nilm, abs_nils, un_not, List.zipIdx_cons, List.zipIdx_nil, List.foldl_cons, List.foldl_nil, List.map_cons, List.map_nil, List.map_toArray, List.nil_append, List.cons_append, List.append_nil, extractOp, List.getElem?_cons_zero, List.getElem?_cons_succ,
    Option.map_some, Option.map_none, Nat.reduceLT, Nat.reduceEqDiff, Nat.reduceAdd, Nat.zero_add, if_true, if_false, Option.getD_some, Option.getD_none, ↓reduceIte, Bool.false_eq_true, Bool.true_eq_false, reduceCtorEq, resA, resOf, Option.some.injEq, exists_eq_left', beq_self_eq_true, decide_true, decide_false, decide_eq_true_eq, ne_eq, not_true_eq_false, not_false_eq_true, Bool.not_eq_true, beq_iff_eq, bin_add, bin_sub, bin_mul, bin_eql, bin_neq, bin_lss, bin_leq, bin_gtr, bin_geq, maxA, minA, Prod.mk.injEq, and_true, true_and, beq_eq_false_iff_ne, decide_eq_false_iff_not, Bool.true_beq, Bool.false_beq, beq_true, beq_false, Bool.not_true, Bool.not_false, List.getElem?_toArray, ↓WQ_cons, ↓WQ_nil, txS, ph0_still, ph0_skip, ph0_new, ph0_read, ph0_eff, ph1_still, ph1_skip, ph1_read, ph1_eff, ph2_still, ph2_skip, loadOp_ro, loadOp_nil, isEff, eqB_int, eqB_str, eqB_bool, eqB_ptr, eqB_slice, eqB_nils, AV.belowB, Nat.le_refl, nx_succ, nc_ptr, fa58_0, fa58_1, h.ld_s, h.ld_at, hix, eqB_strA, below_strA, hg, hlt]
  · have e1 : (((at_ : Nat) : Int) ≥ (w.length : Nat)) = True := by simp; omega
    have hg : w.getD at_ 0 = 0 := by simp [List.getD_eq_getElem?_getD, List.getElem?_eq_none (show w.length ≤ at_ by omega)]
    simp only [↓wpS_skip, ↓wpS_ops, ↓wpS_seq, ↓wpS_cond, ↓wpS_block, ↓wpS_loop, ↓wpS_exit, ↓wpS_ret, condW_bool, ↓WOps_go, ↓WOps_skip, WOps_nil, stepA, opA, convA, isCall, put?, ev, Tr.get_put, Tr.get_nil, builtinA, callA, argEnv, wantedS, abs_int, abs_bool, abs_string, abs_nilp, abs_nili, abs_nilf, abs_nilm, abs_nils, un_not, List.zipIdx_cons, List.zipIdx_nil, List.foldl_cons, List.foldl_nil, List.map_cons, List.map_nil, List.map_toArray, List.nil_append, List.cons_append, List.append_nil, extractOp, List.getElem?_cons_zero, List.getElem?_cons_succ,
    Option.map_some, Option.map_none, Nat.reduceLT, Nat.reduceEqDiff, Nat.reduceAdd, Nat.zero_add, if_true, if_false, Option.getD_some, Option.getD_none, ↓reduceIte, Bool.false_eq_true, Bool.true_eq_false, reduceCtorEq, resA, resOf, Option.some.injEq, exists_eq_left', beq_self_eq_true, decide_true, decide_false, decide_eq_true_eq, ne_eq, not_true_eq_false, not_false_eq_true, Bool.not_eq_true, beq_iff_eq, bin_add, bin_sub, bin_mul, bin_eql, bin_neq, bin_lss, bin_leq, bin_gtr, bin_geq, maxA, minA, Prod.mk.injEq, and_true, true_and, beq_eq_false_iff_ne, decide_eq_false_iff_not, Bool.true_beq, Bool.false_beq, beq_true, beq_false, Bool.not_true, Bool.not_false, List.getElem?_toArray, ↓WQ_cons, ↓WQ_nil, txS, ph0_still, ph0_skip, ph0_new, ph0_read, ph0_eff, ph1_still, ph1_skip, ph1_read, ph1_eff, ph2_still, ph2_skip, loadOp_ro, loadOp_nil, isEff, eqB_int, eqB_str, eqB_bool, eqB_ptr, eqB_slice, eqB_nils, AV.belowB, Nat.le_refl, nx_succ, nc_ptr, fa58_0, fa58_1, h.ld_s, h.ld_at, hl, e1, eqB_strA, below_strA, hg, hlt]
    rfl
def idxOf (n : Nat) : Int := if 48 ≤ n ∧ n ≤ 57 then n - 48 else if 97 ≤ n ∧ n ≤ 102 then n - 87 else -1
theorem x53_all : ((List.range 256).all fun n => match cx.X 53 [.lit (.string (ByteArray.mk #[48, 49, 50, 51, 52, 53, 54, 55, 56, 57, 97, 98, 99, 100, 101, 102])), .lit (.int .u8 n)] with
    | some (.lit (.int .i64 k)) => decide (k = idxOf n)
    | _ => false) = true := by kernel_rfl
theorem x53 (b : UInt8) : cx.X 53 [.lit (.string (ByteArray.mk #[48, 49, 50, 51, 52, 53, 54, 55, 56, 57, 97, 98, 99, 100, 101, 102])), byteA b] = some (.lit (.int .i64 (idxOf b.toNat))) := by
  have := List.all_eq_true.1 x53_all b.toNat (List.mem_range.2 b.toNat_lt)
  unfold byteA
  split at this
  · rename_i k hk
    rw [hk, of_decide_eq_true this]
  · cases this
theorem ixb_cl (b : UInt8) : Cl cx 51 [.lit (.string (ByteArray.mk #[48, 49, 50, 51, 52, 53, 54, 55, 56, 57, 97, 98, 99, 100, 101, 102])), byteA b] H nx = some (.lit (.int .i64 (idxOf b.toNat)), H, nx) := by
  have h2 : Cl cx 52 [.lit (.string (ByteArray.mk #[48, 49, 50, 51, 52, 53, 54, 55, 56, 57, 97, 98, 99, 100, 101, 102])), byteA b] H nx = some (.lit (.int .i64 (idxOf b.toNat)), H, nx) := by
    refine wp52 _ _ _ _ (by simp) ?_
    unfold s52
    simp only [↓wpS_skip, ↓wpS_ops, ↓wpS_seq, ↓wpS_cond, ↓wpS_block, ↓wpS_loop, ↓wpS_exit, ↓wpS_ret, condW_bool, ↓WOps_go, ↓WOps_skip, WOps_nil, stepA, opA, convA, isCall, put?, ev, Tr.get_put, Tr.get_nil, builtinA, callA, argEnv, wantedS, abs_int, abs_bool, abs_string, abs_nilp, abs_nili, abs_nilf, abs_nilm, abs_nils, un_not, List.zipIdx_cons, List.zipIdx_nil, List.foldl_cons, List.foldl_nil, List.map_cons, List.map_nil, List.map_toArray, List.nil_append, List.cons_append, List.append_nil, extractOp, List.getElem?_cons_zero, List.getElem?_cons_succ,
    Option.map_some, Option.map_none, Nat.reduceLT, Nat.reduceEqDiff, Nat.reduceAdd, Nat.zero_add, if_true, if_false, Option.getD_some, Option.getD_none, ↓reduceIte, Bool.false_eq_true, Bool.true_eq_false, reduceCtorEq, resA, resOf, Option.some.injEq, exists_eq_left', beq_self_eq_true, decide_true, decide_false, decide_eq_true_eq, ne_eq, not_true_eq_false, not_false_eq_true, Bool.not_eq_true, beq_iff_eq, bin_add, bin_sub, bin_mul, bin_eql, bin_neq, bin_lss, bin_leq, bin_gtr, bin_geq, maxA, minA, Prod.mk.injEq, and_true, true_and, beq_eq_false_iff_ne, decide_eq_false_iff_not, Bool.true_beq, Bool.false_beq, beq_true, beq_false, Bool.not_true, Bool.not_false, List.getElem?_toArray, x53]
  refine wp51 _ _ _ _ (by simp) ?_
  unfold s51
  simp only [↓wpS_skip, ↓wpS_ops, ↓wpS_seq, ↓wpS_cond, ↓wpS_block, ↓wpS_loop, ↓wpS_exit, ↓wpS_ret, condW_bool, ↓WOps_go, ↓WOps_skip, WOps_nil, stepA, opA, convA, isCall, put?, ev, Tr.get_put, Tr.get_nil, builtinA, callA, argEnv, wantedS, abs_int, abs_bool, abs_string, abs_nilp, abs_nili, abs_nilf, abs_nilm, abs_nils, un_not, List.zipIdx_cons, List.zipIdx_nil, List.foldl_cons, List.foldl_nil, List.map_cons, List.map_nil, List.map_toArray, List.nil_append, List.cons_append, List.append_nil, extractOp, List.getElem?_cons_zero, List.getElem?_cons_succ,
    Option.map_some, Option.map_none, Nat.reduceLT, Nat.reduceEqDiff, Nat.reduceAdd, Nat.zero_add, if_true, if_false, Option.getD_some, Option.getD_none, ↓reduceIte, Bool.false_eq_true, Bool.true_eq_false, reduceCtorEq, resA, resOf, Option.some.injEq, exists_eq_left', beq_self_eq_true, decide_true, decide_false, decide_eq_true_eq, ne_eq, not_true_eq_false, not_false_eq_true, Bool.not_eq_true, beq_iff_eq, bin_add, bin_sub, bin_mul, bin_eql, bin_neq, bin_lss, bin_leq, bin_gtr, bin_geq, maxA, minA, Prod.mk.injEq, and_true, true_and, beq_eq_false_iff_ne, decide_eq_false_iff_not, Bool.true_beq, Bool.false_beq, beq_true, beq_false, Bool.not_true, Bool.not_false, List.getElem?_toArray, x_none, h2]
theorem idxOf_un (b : UInt8) : (∀ n, unhex b = some n → idxOf b.toNat = (n : Int) ∧ n < 16) ∧ (unhex b = none → idxOf b.toNat = -1) := by
  unfold idxOf unhex
  constructor
  · intro n h
    split at h
    · injection h with h; subst h; rw [if_pos ‹_›]; omega
    · split at h
      · injection h with h; subst h; rw [if_neg ‹_›, if_pos ‹_›]; omega
      · cases h
  · intro h
    split at h
    · cases h
    · split at h
      · cases h
      · rw [if_neg ‹_›, if_neg ‹_›]
theorem cv_35i (k : Nat) (h : k < 256) : convOp cx.P cx.T H nx 3 5 (.lit (.int .i64 k)) = some (byteA (UInt8.ofNat k), H, nx) := cv_3_5 k h
/-- digit. -/
theorem digit_cl (h : Rd n0 H nx r w at_ bs cs) (hw : w.length ≤ 1000000) (ha : at_ ≤ w.length) : ∃ v H' cs', Cl cx 49 [.ptr r 0] H nx = some (v, H', nx) ∧ (∀ c, c < n0 → H'.get c = H.get c) ∧
    ((∃ b n, w[at_]? = some b ∧ unhex b = some n ∧ n < 16 ∧ v = .tuple [byteA (UInt8.ofNat n), .lit (.bool true)] ∧ Rd n0 H' nx r w (at_ + 1) bs cs') ∨
     ((∀ b, w[at_]? = some b → unhex b = none) ∧ v = .tuple [.lit (.int .u8 0), .lit (.bool false)] ∧ Rd n0 H' nx r w at_ bs cs')) := by
  have hn := next_cl h
  by_cases hlt : at_ < w.length
  · have hg : w.getD at_ 0 = w[at_] := by simp [List.getD_eq_getElem?_getD, hlt]
    rw [hg] at hn
    simp only [hlt, decide_true] at hn
    have hix := ixb_cl (H := H) (nx := nx) w[at_]
    cases hu : unhex w[at_] with
    | none =>
      rw [(idxOf_un w[at_]).2 hu] at hix
      refine ⟨_, H, cs, ?_, fun _ _ => rfl, .inr ⟨fun b hb => ?_, rfl, h⟩⟩
      · refine wp49 _ _ _ _ (by simp) ?_
        unfold s49
        have : ((-1 : Int) < 0) = True := by simp
        simp only [↓wpS_skip, ↓wpS_ops, ↓wpS_seq, ↓wpS_cond, ↓wpS_block, ↓wpS_loop, ↓wpS_exit, ↓wpS_ret, condW_bool, ↓WOps_go, ↓WOps_skip, WOps_nil, stepA, opA, convA, isCall, put?, ev, Tr.get_put, Tr.get_nil, builtinA, callA, argEnv, wantedS, abs_int, abs_bool, abs_string, abs_nilp, abs_nili, abs_nilf, abs_nilm, abs_nils, un_not, List.zipIdx_cons, List.zipIdx_nil, List.foldl_cons, List.foldl_nil, List.map_cons, List.map_nil, List.map_toArray, List.nil_append, List.cons_append, List.append_nil, extractOp, List.getElem?_cons_zero, List.getElem?_cons_succ,
    Option.map_some, Option.map_none, Nat.reduceLT, Nat.reduceEqDiff, Nat.reduceAdd, Nat.zero_add, if_true, if_false, Option.getD_some, Option.getD_none, ↓reduceIte, Bool.false_eq_true, Bool.true_eq_false, reduceCtorEq, resA, resOf, Option.some.injEq, exists_eq_left', beq_self_eq_true, decide_true, decide_false, decide_eq_true_eq, ne_eq, not_true_eq_false, not_false_eq_true, Bool.not_eq_true, beq_iff_eq, bin_add, bin_sub, bin_mul, bin_eql, bin_neq, bin_lss, bin_leq, bin_gtr, bin_geq, maxA, minA, Prod.mk.injEq, and_true, true_and, beq_eq_false_iff_ne, decide_eq_false_iff_not, Bool.true_beq, Bool.false_beq, beq_true, beq_false, Bool.not_true, Bool.not_false, List.getElem?_toArray, x_none, nc_ptr, fa60_0, fa58_1, hn, hix, this]
      · rw [List.getElem?_eq_getElem hlt] at hb; injection hb with hb; subst hb; exact hu
    | some n =>
      obtain ⟨e1, e2⟩ := (idxOf_un w[at_]).1 n hu
      rw [e1] at hix
      obtain ⟨H', cs', s1, s2, s3⟩ := h.st (at_ + 1)
      refine ⟨_, H', cs', ?_, s3, .inl ⟨w[at_], n, List.getElem?_eq_getElem hlt, hu, e2, rfl, s2⟩⟩
      refine wp49 _ _ _ _ (by simp) ?_
      unfold s49
      have hne : (((n : Nat) : Int) < 0) = False := by simp
      have hwr : IntKind.i64.wrap ((at_ : Int) + 1) = ((at_ + 1 : Nat) : Int) := by rw [wrapI (by constructor <;> omega)]; rfl
      simp only [↓wpS_skip, ↓wpS_ops, ↓wpS_seq, ↓wpS_cond, ↓wpS_block, ↓wpS_loop, ↓wpS_exit, ↓wpS_ret, condW_bool, ↓WOps_go, ↓WOps_skip, WOps_nil, stepA, opA, convA, isCall, put?, ev, Tr.get_put, Tr.get_nil, builtinA, callA, argEnv, wantedS, abs_int, abs_bool, abs_string, abs_nilp, abs_nili, abs_nilf, abs_nilm, abs_nils, un_not, List.zipIdx_cons, List.zipIdx_nil, List.foldl_cons, List.foldl_nil, List.map_cons, List.map_nil, List.map_toArray, List.nil_append, List.cons_append, List.append_nil, extractOp, List.getElem?_cons_zero, List.getElem?_cons_succ,
    Option.map_some, Option.map_none, Nat.reduceLT, Nat.reduceEqDiff, Nat.reduceAdd, Nat.zero_add, if_true, if_false, Option.getD_some, Option.getD_none, ↓reduceIte, Bool.false_eq_true, Bool.true_eq_false, reduceCtorEq, resA, resOf, Option.some.injEq, exists_eq_left', beq_self_eq_true, decide_true, decide_false, decide_eq_true_eq, ne_eq, not_true_eq_false, not_false_eq_true, Bool.not_eq_true, beq_iff_eq, bin_add, bin_sub, bin_mul, bin_eql, bin_neq, bin_lss, bin_leq, bin_gtr, bin_geq, maxA, minA, Prod.mk.injEq, and_true, true_and, beq_eq_false_iff_ne, decide_eq_false_iff_not, Bool.true_beq, Bool.false_beq, beq_true, beq_false, Bool.not_true, Bool.not_false, List.getElem?_toArray, x_none, nc_ptr, fa60_0, fa58_1, hn, hix, hne, h.ld_at, hwr, s1, cv_3_5 n (by omega)]
  · have hg : w.getD at_ 0 = 0 := by simp [List.getD_eq_getElem?_getD, List.getElem?_eq_none (show w.length ≤ at_ by omega)]
    rw [hg] at hn
    simp only [hlt, decide_false] at hn
    have hix := ixb_cl (H := H) (nx := nx) 0
    refine ⟨_, H, cs, ?_, fun _ _ => rfl, .inr ⟨fun b hb => ?_, rfl, h⟩⟩
    · refine wp49 _ _ _ _ (by simp) ?_
      unfold s49
      simp only [↓wpS_skip, ↓wpS_ops, ↓wpS_seq, ↓wpS_cond, ↓wpS_block, ↓wpS_loop, ↓wpS_exit, ↓wpS_ret, condW_bool, ↓WOps_go, ↓WOps_skip, WOps_nil, stepA, opA, convA, isCall, put?, ev, Tr.get_put, Tr.get_nil, builtinA, callA, argEnv, wantedS, abs_int, abs_bool, abs_string, abs_nilp, abs_nili, abs_nilf, abs_nilm, abs_nils, un_not, List.zipIdx_cons, List.zipIdx_nil, List.foldl_cons, List.foldl_nil, List.map_cons, List.map_nil, List.map_toArray, List.nil_append, List.cons_append, List.append_nil, extractOp, List.getElem?_cons_zero, List.getElem?_cons_succ,
    Option.map_some, Option.map_none, Nat.reduceLT, Nat.reduceEqDiff, Nat.reduceAdd, Nat.zero_add, if_true, if_false, Option.getD_some, Option.getD_none, ↓reduceIte, Bool.false_eq_true, Bool.true_eq_false, reduceCtorEq, resA, resOf, Option.some.injEq, exists_eq_left', beq_self_eq_true, decide_true, decide_false, decide_eq_true_eq, ne_eq, not_true_eq_false, not_false_eq_true, Bool.not_eq_true, beq_iff_eq, bin_add, bin_sub, bin_mul, bin_eql, bin_neq, bin_lss, bin_leq, bin_gtr, bin_geq, maxA, minA, Prod.mk.injEq, and_true, true_and, beq_eq_false_iff_ne, decide_eq_false_iff_not, Bool.true_beq, Bool.false_beq, beq_true, beq_false, Bool.not_true, Bool.not_false, List.getElem?_toArray, x_none, nc_ptr, fa60_0, fa58_1, hn, hix]
    · rw [List.getElem?_eq_none (by omega)] at hb; cases hb
theorem codes_0 (H : Heap) (nx : Nat) : callN cx 300 50 [.lit (.int .u8 ((0 : Nat) : Int))] H nx = some (.lit (.bool (codesB 0)), H, nx) := by kernel_rfl
theorem codes_1 (H : Heap) (nx : Nat) : callN cx 300 50 [.lit (.int .u8 ((1 : Nat) : Int))] H nx = some (.lit (.bool (codesB 1)), H, nx) := by kernel_rfl
theorem codes_2 (H : Heap) (nx : Nat) : callN cx 300 50 [.lit (.int .u8 ((2 : Nat) : Int))] H nx = some (.lit (.bool (codesB 2)), H, nx) := by kernel_rfl
theorem codes_3 (H : Heap) (nx : Nat) : callN cx 300 50 [.lit (.int .u8 ((3 : Nat) : Int))] H nx = some (.lit (.bool (codesB 3)), H, nx) := by kernel_rfl
theorem codes_4 (H : Heap) (nx : Nat) : callN cx 300 50 [.lit (.int .u8 ((4 : Nat) : Int))] H nx = some (.lit (.bool (codesB 4)), H, nx) := by kernel_rfl
theorem codes_5 (H : Heap) (nx : Nat) : callN cx 300 50 [.lit (.int .u8 ((5 : Nat) : Int))] H nx = some (.lit (.bool (codesB 5)), H, nx) := by kernel_rfl
theorem codes_6 (H : Heap) (nx : Nat) : callN cx 300 50 [.lit (.int .u8 ((6 : Nat) : Int))] H nx = some (.lit (.bool (codesB 6)), H, nx) := by kernel_rfl
theorem codes_7 (H : Heap) (nx : Nat) : callN cx 300 50 [.lit (.int .u8 ((7 : Nat) : Int))] H nx = some (.lit (.bool (codesB 7)), H, nx) := by kernel_rfl
theorem codes_8 (H : Heap) (nx : Nat) : callN cx 300 50 [.lit (.int .u8 ((8 : Nat) : Int))] H nx = some (.lit (.bool (codesB 8)), H, nx) := by kernel_rfl
theorem codes_9 (H : Heap) (nx : Nat) : callN cx 300 50 [.lit (.int .u8 ((9 : Nat) : Int))] H nx = some (.lit (.bool (codesB 9)), H, nx) := by kernel_rfl
theorem codes_10 (H : Heap) (nx : Nat) : callN cx 300 50 [.lit (.int .u8 ((10 : Nat) : Int))] H nx = some (.lit (.bool (codesB 10)), H, nx) := by kernel_rfl
theorem codes_11 (H : Heap) (nx : Nat) : callN cx 300 50 [.lit (.int .u8 ((11 : Nat) : Int))] H nx = some (.lit (.bool (codesB 11)), H, nx) := by kernel_rfl
theorem codes_12 (H : Heap) (nx : Nat) : callN cx 300 50 [.lit (.int .u8 ((12 : Nat) : Int))] H nx = some (.lit (.bool (codesB 12)), H, nx) := by kernel_rfl
theorem codes_13 (H : Heap) (nx : Nat) : callN cx 300 50 [.lit (.int .u8 ((13 : Nat) : Int))] H nx = some (.lit (.bool (codesB 13)), H, nx) := by kernel_rfl
theorem codes_14 (H : Heap) (nx : Nat) : callN cx 300 50 [.lit (.int .u8 ((14 : Nat) : Int))] H nx = some (.lit (.bool (codesB 14)), H, nx) := by kernel_rfl
theorem codes_15 (H : Heap) (nx : Nat) : callN cx 300 50 [.lit (.int .u8 ((15 : Nat) : Int))] H nx = some (.lit (.bool (codesB 15)), H, nx) := by kernel_rfl
theorem codes_n (H : Heap) (nx : Nat) (n : Nat) (h : n < 16) : callN cx 300 50 [.lit (.int .u8 (n : Nat))] H nx = some (.lit (.bool (codesB n)), H, nx) := by
  rcases (show n = 0 ∨ n = 1 ∨ n = 2 ∨ n = 3 ∨ n = 4 ∨ n = 5 ∨ n = 6 ∨ n = 7 ∨ n = 8 ∨ n = 9 ∨ n = 10 ∨ n = 11 ∨ n = 12 ∨ n = 13 ∨ n = 14 ∨ n = 15 by omega) with rfl | rfl | rfl | rfl | rfl | rfl | rfl | rfl | rfl | rfl | rfl | rfl | rfl | rfl | rfl | rfl
  · exact codes_0 H nx
  · exact codes_1 H nx
  · exact codes_2 H nx
  · exact codes_3 H nx
  · exact codes_4 H nx
  · exact codes_5 H nx
  · exact codes_6 H nx
  · exact codes_7 H nx
  · exact codes_8 H nx
  · exact codes_9 H nx
  · exact codes_10 H nx
  · exact codes_11 H nx
  · exact codes_12 H nx
  · exact codes_13 H nx
  · exact codes_14 H nx
  · exact codes_15 H nx
theorem codes_cl (n : Nat) (h : n < 16) : Cl cx 50 [byteA (UInt8.ofNat n)] H nx = some (.lit (.bool (codesB n)), H, nx) := by
  have := Cl_of (codes_n H nx n h)
  have e : byteA (UInt8.ofNat n) = .lit (.int .u8 (n : Nat)) := by
    unfold byteA
    have : (UInt8.ofNat n).toNat = n := by simp; omega
    rw [this]
  rw [e]; exact this
end
end Seat
end CI
