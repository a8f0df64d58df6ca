/- quote, walked: Read, ended. -/
import Derived.Test.YtlejcpkedahphaaQg
import Derived.Test.YtlejcpkedahphaaQs
set_option linter.unusedVariables false
set_option linter.unusedSimpArgs false
namespace CI
namespace Quo
/-- What stands behind a backslash. -/
def escR : List UInt8 → Except Nat (UInt8 × Nat)
  | [] => .error 0
  | c :: r2 =>
    if c.toNat = 92 then .ok (92, 1) else
    if c.toNat = 120 then
      match codeR r2 with
      | .error k => .error (1 + k)
      | .ok b => .ok (b, 3)
    else .error 0
theorem stepR_esc {b : UInt8} {r : List UInt8} (h : b.toNat = 92) : stepR (b :: r) = match escR r with
    | .error k => .error (1 + k)
    | .ok (c, k) => .ok (c, k + 1) := by
  simp only [stepR, if_pos h]
  cases r with
  | nil => rfl
  | cons c r2 =>
    simp only [escR]
    by_cases h1 : c.toNat = 92
    · simp only [if_pos h1]
    · simp only [if_neg h1]
      by_cases h2 : c.toNat = 120
      · simp only [if_pos h2]
        cases r2 with
        | nil => rfl
        | cons h r3 =>
          simp only [codeR]
          cases unhex h with
          | none => rfl
          | some hi =>
            simp only
            by_cases h3 : codesB hi = true
            · simp only [if_pos h3]
              cases r3 with
              | nil => rfl
              | cons l r4 =>
                simp only
                cases unhex l with
                | none => rfl
                | some lo =>
                  simp only
                  by_cases h4 : plainN (16 * hi + lo) = true ∨ 16 * hi + lo = 92
                  · simp only [if_pos h4]
                  · simp only [if_neg h4]
            · simp only [if_neg h3]
      · simp only [if_neg h2]
end Quo
open Go
namespace Seat
open Quo
variable {H : Heap} {nx : Nat}
section
variable {n0 r at_ : Nat} {w bs : List UInt8} {cs : List AV}
def AfterS (n0 : Nat) (r : Nat) (w : List UInt8) (at_ : Nat) (bs : List UInt8) (x : Except Nat (UInt8 × Nat)) (ok : Bool) (H' : Heap) (nx' : Nat) (cs' : List AV) : Prop :=
  match x with
  | .ok (b, k) => ok = true ∧ at_ + k ≤ w.length ∧ Rd n0 H' nx' r w (at_ + k) (bs ++ [b]) cs'
  | .error k => ok = false ∧ at_ + k ≤ w.length ∧ Rd n0 H' nx' r w (at_ + k) bs cs'
theorem esc_cl (h : Rd n0 H nx r w at_ bs cs) (hw : w.length ≤ 1000000) (ha : at_ ≤ w.length) (hbs : bs.length ≤ 1000000) :
    ∃ ok H' nx' cs', Cl cx 44 [.ptr r 0] H nx = some (.lit (.bool ok), H', nx') ∧ nx ≤ nx' ∧ (∀ c, c < n0 → H'.get c = H.get c) ∧ AfterS n0 r w at_ bs (escR (w.drop at_)) ok H' nx' cs' := by
  have hn := next_cl h
  by_cases hlt : at_ < w.length
  · have hg : w.getD at_ 0 = w[at_] := by simp [List.getD_eq_getElem?_getD, hlt]
    rw [hg] at hn
    simp only [hlt, decide_true] at hn
    have hd := drop_of (List.getElem?_eq_getElem hlt)
    have hwr : IntKind.i64.wrap ((at_ : Int) + 1) = ((at_ + 1 : Nat) : Int) := by rw [wrapI (by constructor <;> omega)]; rfl
    obtain ⟨H1, cs1, s1, s2, s3⟩ := h.st (at_ + 1)
    have hb5 : byteA w[at_] = .lit (.int .u8 w[at_].toNat) := rfl
    rw [hb5] at hn
    by_cases h92 : w[at_].toNat = 92
    · have e1 : (((w[at_].toNat : Nat) : Int) = 92) = True := by simp; omega
      obtain ⟨H2, nx2, cs2, w1, w2, w3, w4⟩ := s2.wb (by omega) 92
      have hb92 : byteA 92 = .lit (.int .u8 92) := rfl
      rw [hb92] at w1
      refine ⟨true, H2, nx2, cs2, ?_, w3, fun c hc => (w4 c hc).trans (s3 c hc), ?_⟩
      · refine wp44 _ _ _ _ (by simp) ?_
        unfold s44
        simp only [↓wpS_skip, ↓wpS_ops, ↓wpS_seq, ↓wpS_cond, ↓wpS_block, ↓wpS_loop, ↓wpS_exit, ↓wpS_ret, condW_bool, ↓WOps_go, ↓WOps_skip, WOps_nil, stepA, opA, convA, isCall, put?, ev, Tr.get_put, Tr.get_nil, builtinA, callA, argEnv, wantedS, abs_int, abs_bool, abs_string, abs_nilp, abs_nili, abs_nilf, abs_nilm, abs_nils, un_not, List.zipIdx_cons, List.zipIdx_nil, List.foldl_cons, List.foldl_nil, List.map_cons, List.map_nil, List.map_toArray, List.nil_append, List.cons_append, List.append_nil, extractOp, List.getElem?_cons_zero, List.getElem?_cons_succ,
    Option.map_some, Option.map_none, Nat.reduceLT, Nat.reduceEqDiff, Nat.reduceAdd, Nat.zero_add, if_true, if_false, Option.getD_some, Option.getD_none, ↓reduceIte, Bool.false_eq_true, Bool.true_eq_false, reduceCtorEq, resA, resOf, Option.some.injEq, exists_eq_left', beq_self_eq_true, decide_true, decide_false, decide_eq_true_eq, ne_eq, not_true_eq_false, not_false_eq_true, Bool.not_eq_true, beq_iff_eq, bin_add, bin_sub, bin_mul, bin_eql, bin_neq, bin_lss, bin_leq, bin_gtr, bin_geq, maxA, minA, Prod.mk.injEq, and_true, true_and, beq_eq_false_iff_ne, decide_eq_false_iff_not, Bool.true_beq, Bool.false_beq, beq_true, beq_false, Bool.not_true, Bool.not_false, List.getElem?_toArray, x_none, nc_ptr, fa60_0, fa60_1, fa58_1, hn, e1, h.ld_at, hwr, s1, w1]
      · rw [hd]
        simp only [escR, if_pos h92]
        exact ⟨rfl, by omega, w2⟩
    · have e1 : (((w[at_].toNat : Nat) : Int) = 92) = False := by simp; omega
      by_cases h120 : w[at_].toNat = 120
      · have e2 : (((w[at_].toNat : Nat) : Int) = 120) = True := by simp; omega
        obtain ⟨ok, H2, nx2, cs2, c1, c2, c3, c4⟩ := code_cl s2 hw (by omega) hbs
        refine ⟨ok, H2, nx2, cs2, ?_, c2, fun c hc => (c3 c hc).trans (s3 c hc), ?_⟩
        · refine wp44 _ _ _ _ (by simp) ?_
          unfold s44
          simp only [↓wpS_skip, ↓wpS_ops, ↓wpS_seq, ↓wpS_cond, ↓wpS_block, ↓wpS_loop, ↓wpS_exit, ↓wpS_ret, condW_bool, ↓WOps_go, ↓WOps_skip, WOps_nil, stepA, opA, convA, isCall, put?, ev, Tr.get_put, Tr.get_nil, builtinA, callA, argEnv, wantedS, abs_int, abs_bool, abs_string, abs_nilp, abs_nili, abs_nilf, abs_nilm, abs_nils, un_not, List.zipIdx_cons, List.zipIdx_nil, List.foldl_cons, List.foldl_nil, List.map_cons, List.map_nil, List.map_toArray, List.nil_append, List.cons_append, List.append_nil, extractOp, List.getElem?_cons_zero, List.getElem?_cons_succ,
    Option.map_some, Option.map_none, Nat.reduceLT, Nat.reduceEqDiff, Nat.reduceAdd, Nat.zero_add, if_true, if_false, Option.getD_some, Option.getD_none, ↓reduceIte, Bool.false_eq_true, Bool.true_eq_false, reduceCtorEq, resA, resOf, Option.some.injEq, exists_eq_left', beq_self_eq_true, decide_true, decide_false, decide_eq_true_eq, ne_eq, not_true_eq_false, not_false_eq_true, Bool.not_eq_true, beq_iff_eq, bin_add, bin_sub, bin_mul, bin_eql, bin_neq, bin_lss, bin_leq, bin_gtr, bin_geq, maxA, minA, Prod.mk.injEq, and_true, true_and, beq_eq_false_iff_ne, decide_eq_false_iff_not, Bool.true_beq, Bool.false_beq, beq_true, beq_false, Bool.not_true, Bool.not_false, List.getElem?_toArray, x_none, nc_ptr, fa60_0, fa60_1, fa58_1, hn, e1, e2, h.ld_at, hwr, s1, c1]
        · rw [hd]
          simp only [escR, if_neg h92, if_pos h120]
          unfold After at c4
          unfold AfterS
          cases hc : codeR (w.drop (at_ + 1)) with
          | error k => rw [hc] at c4; simp only at c4 ⊢; rw [← Nat.add_assoc]; exact c4
          | ok b => rw [hc] at c4; simp only at c4 ⊢; rw [show at_ + 3 = at_ + 1 + 2 from rfl]; exact c4
      · have e2 : (((w[at_].toNat : Nat) : Int) = 120) = False := by simp; omega
        refine ⟨false, H, nx, cs, ?_, Nat.le_refl _, fun _ _ => rfl, ?_⟩
        · refine wp44 _ _ _ _ (by simp) ?_
          unfold s44
          simp only [↓wpS_skip, ↓wpS_ops, ↓wpS_seq, ↓wpS_cond, ↓wpS_block, ↓wpS_loop, ↓wpS_exit, ↓wpS_ret, condW_bool, ↓WOps_go, ↓WOps_skip, WOps_nil, stepA, opA, convA, isCall, put?, ev, Tr.get_put, Tr.get_nil, builtinA, callA, argEnv, wantedS, abs_int, abs_bool, abs_string, abs_nilp, abs_nili, abs_nilf, abs_nilm, abs_nils, un_not, List.zipIdx_cons, List.zipIdx_nil, List.foldl_cons, List.foldl_nil, List.map_cons, List.map_nil, List.map_toArray, List.nil_append, List.cons_append, List.append_nil, extractOp, List.getElem?_cons_zero, List.getElem?_cons_succ,
    Option.map_some, Option.map_none, Nat.reduceLT, Nat.reduceEqDiff, Nat.reduceAdd, Nat.zero_add, if_true, if_false, Option.getD_some, Option.getD_none, ↓reduceIte, Bool.false_eq_true, Bool.true_eq_false, reduceCtorEq, resA, resOf, Option.some.injEq, exists_eq_left', beq_self_eq_true, decide_true, decide_false, decide_eq_true_eq, ne_eq, not_true_eq_false, not_false_eq_true, Bool.not_eq_true, beq_iff_eq, bin_add, bin_sub, bin_mul, bin_eql, bin_neq, bin_lss, bin_leq, bin_gtr, bin_geq, maxA, minA, Prod.mk.injEq, and_true, true_and, beq_eq_false_iff_ne, decide_eq_false_iff_not, Bool.true_beq, Bool.false_beq, beq_true, beq_false, Bool.not_true, Bool.not_false, List.getElem?_toArray, x_none, nc_ptr, fa60_0, fa60_1, fa58_1, hn, e1, e2]
        · rw [hd]
          simp only [escR, if_neg h92, if_neg h120]
          exact ⟨rfl, by omega, h⟩
  · simp only [hlt, decide_false] at hn
    refine ⟨false, H, nx, cs, ?_, Nat.le_refl _, fun _ _ => rfl, ?_⟩
    · refine wp44 _ _ _ _ (by simp) ?_
      unfold s44
      simp only [↓wpS_skip, ↓wpS_ops, ↓wpS_seq, ↓wpS_cond, ↓wpS_block, ↓wpS_loop, ↓wpS_exit, ↓wpS_ret, condW_bool, ↓WOps_go, ↓WOps_skip, WOps_nil, stepA, opA, convA, isCall, put?, ev, Tr.get_put, Tr.get_nil, builtinA, callA, argEnv, wantedS, abs_int, abs_bool, abs_string, abs_nilp, abs_nili, abs_nilf, abs_nilm, abs_nils, un_not, List.zipIdx_cons, List.zipIdx_nil, List.foldl_cons, List.foldl_nil, List.map_cons, List.map_nil, List.map_toArray, List.nil_append, List.cons_append, List.append_nil, extractOp, List.getElem?_cons_zero, List.getElem?_cons_succ,
    Option.map_some, Option.map_none, Nat.reduceLT, Nat.reduceEqDiff, Nat.reduceAdd, Nat.zero_add, if_true, if_false, Option.getD_some, Option.getD_none, ↓reduceIte, Bool.false_eq_true, Bool.true_eq_false, reduceCtorEq, resA, resOf, Option.some.injEq, exists_eq_left', beq_self_eq_true, decide_true, decide_false, decide_eq_true_eq, ne_eq, not_true_eq_false, not_false_eq_true, Bool.not_eq_true, beq_iff_eq, bin_add, bin_sub, bin_mul, bin_eql, bin_neq, bin_lss, bin_leq, bin_gtr, bin_geq, maxA, minA, Prod.mk.injEq, and_true, true_and, beq_eq_false_iff_ne, decide_eq_false_iff_not, Bool.true_beq, Bool.false_beq, beq_true, beq_false, Bool.not_true, Bool.not_false, List.getElem?_toArray, x_none, nc_ptr, fa60_0, fa60_1, fa58_1, hn]
    · rw [List.drop_eq_nil_of_le (by omega)]
      exact ⟨rfl, by omega, h⟩
theorem oneR_cl (h : Rd n0 H nx r w at_ bs cs) (hw : w.length ≤ 1000000) (hlt : at_ < w.length) (hbs : bs.length ≤ 1000000) :
    ∃ ok H' nx' cs', Cl cx 34 [.ptr r 0] H nx = some (.lit (.bool ok), H', nx') ∧ nx ≤ nx' ∧ (∀ c, c < n0 → H'.get c = H.get c) ∧ AfterS n0 r w at_ bs (stepR (w.drop at_)) ok H' nx' cs' := by
  have hn := next_cl h
  have hg : w.getD at_ 0 = w[at_] := by simp [List.getD_eq_getElem?_getD, hlt]
  rw [hg] at hn
  simp only [hlt, decide_true] at hn
  have hd := drop_of (List.getElem?_eq_getElem hlt)
  have hwr : IntKind.i64.wrap ((at_ : Int) + 1) = ((at_ + 1 : Nat) : Int) := by rw [wrapI (by constructor <;> omega)]; rfl
  obtain ⟨H1, cs1, s1, s2, s3⟩ := h.st (at_ + 1)
  have hb5 : byteA w[at_] = .lit (.int .u8 w[at_].toNat) := rfl
  have hpl := plain_cl (H := H) (nx := nx) w[at_]
  rw [hb5] at hn hpl
  by_cases h92 : w[at_].toNat = 92
  · have e1 : (((w[at_].toNat : Nat) : Int) = 92) = True := by simp; omega
    obtain ⟨ok, H2, nx2, cs2, c1, c2, c3, c4⟩ := esc_cl s2 hw (by omega) hbs
    refine ⟨ok, H2, nx2, cs2, ?_, c2, fun c hc => (c3 c hc).trans (s3 c hc), ?_⟩
    · refine wp34 _ _ _ _ (by simp) ?_
      unfold s34
      simp only [↓wpS_skip, ↓wpS_ops, ↓wpS_seq, ↓wpS_cond, ↓wpS_block, ↓wpS_loop, ↓wpS_exit, ↓wpS_ret, condW_bool, ↓WOps_go, ↓WOps_skip, WOps_nil, stepA, opA, convA, isCall, put?, ev, Tr.get_put, Tr.get_nil, builtinA, callA, argEnv, wantedS, abs_int, abs_bool, abs_string, abs_nilp, abs_nili, abs_nilf, abs_nilm, abs_nils, un_not, List.zipIdx_cons, List.zipIdx_nil, List.foldl_cons, List.foldl_nil, List.map_cons, List.map_nil, List.map_toArray, List.nil_append, List.cons_append, List.append_nil, extractOp, List.getElem?_cons_zero, List.getElem?_cons_succ,
    Option.map_some, Option.map_none, Nat.reduceLT, Nat.reduceEqDiff, Nat.reduceAdd, Nat.zero_add, if_true, if_false, Option.getD_some, Option.getD_none, ↓reduceIte, Bool.false_eq_true, Bool.true_eq_false, reduceCtorEq, resA, resOf, Option.some.injEq, exists_eq_left', beq_self_eq_true, decide_true, decide_false, decide_eq_true_eq, ne_eq, not_true_eq_false, not_false_eq_true, Bool.not_eq_true, beq_iff_eq, bin_add, bin_sub, bin_mul, bin_eql, bin_neq, bin_lss, bin_leq, bin_gtr, bin_geq, maxA, minA, Prod.mk.injEq, and_true, true_and, beq_eq_false_iff_ne, decide_eq_false_iff_not, Bool.true_beq, Bool.false_beq, beq_true, beq_false, Bool.not_true, Bool.not_false, List.getElem?_toArray, x_none, nc_ptr, fa60_0, fa60_1, fa58_1, hn, e1, h.ld_at, hwr, s1, c1]
    · rw [hd, stepR_esc h92]
      unfold AfterS at c4 ⊢
      cases hc : escR (w.drop (at_ + 1)) with
      | error k => rw [hc] at c4; simp only at c4 ⊢; rw [← Nat.add_assoc]; exact c4
      | ok p =>
        obtain ⟨b, k⟩ := p
        rw [hc] at c4; simp only at c4 ⊢
        rw [show at_ + (k + 1) = at_ + 1 + k by omega]; exact c4
  · have e1 : (((w[at_].toNat : Nat) : Int) = 92) = False := by simp; omega
    cases hp : plainN w[at_].toNat with
    | true =>
      rw [hp] at hpl
      obtain ⟨H2, nx2, cs2, w1, w2, w3, w4⟩ := s2.wb (by omega) w[at_]
      rw [hb5] at w1
      refine ⟨true, H2, nx2, cs2, ?_, w3, fun c hc => (w4 c hc).trans (s3 c hc), ?_⟩
      · refine wp34 _ _ _ _ (by simp) ?_
        unfold s34
        simp only [↓wpS_skip, ↓wpS_ops, ↓wpS_seq, ↓wpS_cond, ↓wpS_block, ↓wpS_loop, ↓wpS_exit, ↓wpS_ret, condW_bool, ↓WOps_go, ↓WOps_skip, WOps_nil, stepA, opA, convA, isCall, put?, ev, Tr.get_put, Tr.get_nil, builtinA, callA, argEnv, wantedS, abs_int, abs_bool, abs_string, abs_nilp, abs_nili, abs_nilf, abs_nilm, abs_nils, un_not, List.zipIdx_cons, List.zipIdx_nil, List.foldl_cons, List.foldl_nil, List.map_cons, List.map_nil, List.map_toArray, List.nil_append, List.cons_append, List.append_nil, extractOp, List.getElem?_cons_zero, List.getElem?_cons_succ,
    Option.map_some, Option.map_none, Nat.reduceLT, Nat.reduceEqDiff, Nat.reduceAdd, Nat.zero_add, if_true, if_false, Option.getD_some, Option.getD_none, ↓reduceIte, Bool.false_eq_true, Bool.true_eq_false, reduceCtorEq, resA, resOf, Option.some.injEq, exists_eq_left', beq_self_eq_true, decide_true, decide_false, decide_eq_true_eq, ne_eq, not_true_eq_false, not_false_eq_true, Bool.not_eq_true, beq_iff_eq, bin_add, bin_sub, bin_mul, bin_eql, bin_neq, bin_lss, bin_leq, bin_gtr, bin_geq, maxA, minA, Prod.mk.injEq, and_true, true_and, beq_eq_false_iff_ne, decide_eq_false_iff_not, Bool.true_beq, Bool.false_beq, beq_true, beq_false, Bool.not_true, Bool.not_false, List.getElem?_toArray, x_none, nc_ptr, fa60_0, fa60_1, fa58_1, hn, e1, hpl, h.ld_at, hwr, s1, w1]
      · rw [hd]
        simp only [stepR, if_neg h92, hp, if_true]
        exact ⟨rfl, by omega, w2⟩
    | false =>
      rw [hp] at hpl
      refine ⟨false, H, nx, cs, ?_, Nat.le_refl _, fun _ _ => rfl, ?_⟩
      · refine wp34 _ _ _ _ (by simp) ?_
        unfold s34
        simp only [↓wpS_skip, ↓wpS_ops, ↓wpS_seq, ↓wpS_cond, ↓wpS_block, ↓wpS_loop, ↓wpS_exit, ↓wpS_ret, condW_bool, ↓WOps_go, ↓WOps_skip, WOps_nil, stepA, opA, convA, isCall, put?, ev, Tr.get_put, Tr.get_nil, builtinA, callA, argEnv, wantedS, abs_int, abs_bool, abs_string, abs_nilp, abs_nili, abs_nilf, abs_nilm, abs_nils, un_not, List.zipIdx_cons, List.zipIdx_nil, List.foldl_cons, List.foldl_nil, List.map_cons, List.map_nil, List.map_toArray, List.nil_append, List.cons_append, List.append_nil, extractOp, List.getElem?_cons_zero, List.getElem?_cons_succ,
    Option.map_some, Option.map_none, Nat.reduceLT, Nat.reduceEqDiff, Nat.reduceAdd, Nat.zero_add, if_true, if_false, Option.getD_some, Option.getD_none, ↓reduceIte, Bool.false_eq_true, Bool.true_eq_false, reduceCtorEq, resA, resOf, Option.some.injEq, exists_eq_left', beq_self_eq_true, decide_true, decide_false, decide_eq_true_eq, ne_eq, not_true_eq_false, not_false_eq_true, Bool.not_eq_true, beq_iff_eq, bin_add, bin_sub, bin_mul, bin_eql, bin_neq, bin_lss, bin_leq, bin_gtr, bin_geq, maxA, minA, Prod.mk.injEq, and_true, true_and, beq_eq_false_iff_ne, decide_eq_false_iff_not, Bool.true_beq, Bool.false_beq, beq_true, beq_false, Bool.not_true, Bool.not_false, List.getElem?_toArray, x_none, nc_ptr, fa60_0, fa60_1, fa58_1, hn, e1, hpl]
      · rw [hd]
        simp only [stepR, if_neg h92, hp, Bool.false_eq_true, if_false]
        exact ⟨rfl, by omega, h⟩
/-- HasPrefix, of what tells nothing. -/
theorem pre_cl (w : List UInt8) (hw : w.length ≤ 1000000) : Cl cx 45 [strA w, strA [92, 101]] H nx = some (.lit (.bool (decide (w.take 2 = [92, 101]))), H, nx) := by
  have h48 : Cl cx 48 [strA w, strA [92, 101]] H nx = some (.lit (.bool (decide (w.take 2 = [92, 101]))), H, nx) := by
    refine wp48 _ _ _ _ (by simp) ?_
    unfold s48
    by_cases h2 : 2 ≤ w.length
    · have e1 : (((w.length : Nat) : Int) ≥ (([92, 101] : List UInt8).length : Nat)) = True := by simp; omega
      have hsl : sliceOp cx.P cx.T H 9 (strA w) none (some (.lit (.int .i64 (([92, 101] : List UInt8).length : Nat)))) none = some (strA (w.take 2)) := by
        exact str_to w 2 h2
      have he := str_eql (.tmp 14) (.tmp 15) (w.take 2) [92, 101]
      simp only [↓wpS_skip, ↓wpS_ops, ↓wpS_seq, ↓wpS_cond, ↓wpS_block, ↓wpS_loop, ↓wpS_exit, ↓wpS_ret, condW_bool, ↓WOps_go, ↓WOps_skip, WOps_nil, stepA, opA, convA, isCall, put?, ev, Tr.get_put, Tr.get_nil, builtinA, callA, argEnv, wantedS, abs_int, abs_bool, abs_string, abs_nilp, abs_nili, abs_nilf, abs_nilm, abs_nils, un_not, List.zipIdx_cons, List.zipIdx_nil, List.foldl_cons, List.foldl_nil, List.map_cons, List.map_nil, List.map_toArray, List.nil_append, List.cons_append, List.append_nil, extractOp, List.getElem?_cons_zero, List.getElem?_cons_succ,
    Option.map_some, Option.map_none, Nat.reduceLT, Nat.reduceEqDiff, Nat.reduceAdd, Nat.zero_add, if_true, if_false, Option.getD_some, Option.getD_none, ↓reduceIte, Bool.false_eq_true, Bool.true_eq_false, reduceCtorEq, resA, resOf, Option.some.injEq, exists_eq_left', beq_self_eq_true, decide_true, decide_false, decide_eq_true_eq, ne_eq, not_true_eq_false, not_false_eq_true, Bool.not_eq_true, beq_iff_eq, bin_add, bin_sub, bin_mul, bin_eql, bin_neq, bin_lss, bin_leq, bin_gtr, bin_geq, maxA, minA, Prod.mk.injEq, and_true, true_and, beq_eq_false_iff_ne, decide_eq_false_iff_not, Bool.true_beq, Bool.false_beq, beq_true, beq_false, Bool.not_true, Bool.not_false, List.getElem?_toArray, str_len, e1, hsl, he]
    · have e1 : (((w.length : Nat) : Int) ≥ (([92, 101] : List UInt8).length : Nat)) = False := by simp; omega
      have hne : (w.take 2 = [92, 101]) = False := by
        simp only [eq_iff_iff, iff_false]
        intro h
        have := congrArg List.length h
        rw [List.length_take] at this
        simp at this; omega
      simp only [↓wpS_skip, ↓wpS_ops, ↓wpS_seq, ↓wpS_cond, ↓wpS_block, ↓wpS_loop, ↓wpS_exit, ↓wpS_ret, condW_bool, ↓WOps_go, ↓WOps_skip, WOps_nil, stepA, opA, convA, isCall, put?, ev, Tr.get_put, Tr.get_nil, builtinA, callA, argEnv, wantedS, abs_int, abs_bool, abs_string, abs_nilp, abs_nili, abs_nilf, abs_nilm, abs_nils, un_not, List.zipIdx_cons, List.zipIdx_nil, List.foldl_cons, List.foldl_nil, List.map_cons, List.map_nil, List.map_toArray, List.nil_append, List.cons_append, List.append_nil, extractOp, List.getElem?_cons_zero, List.getElem?_cons_succ,
    Option.map_some, Option.map_none, Nat.reduceLT, Nat.reduceEqDiff, Nat.reduceAdd, Nat.zero_add, if_true, if_false, Option.getD_some, Option.getD_none, ↓reduceIte, Bool.false_eq_true, Bool.true_eq_false, reduceCtorEq, resA, resOf, Option.some.injEq, exists_eq_left', beq_self_eq_true, decide_true, decide_false, decide_eq_true_eq, ne_eq, not_true_eq_false, not_false_eq_true, Bool.not_eq_true, beq_iff_eq, bin_add, bin_sub, bin_mul, bin_eql, bin_neq, bin_lss, bin_leq, bin_gtr, bin_geq, maxA, minA, Prod.mk.injEq, and_true, true_and, beq_eq_false_iff_ne, decide_eq_false_iff_not, Bool.true_beq, Bool.false_beq, beq_true, beq_false, Bool.not_true, Bool.not_false, List.getElem?_toArray, str_len, e1, hne]
  refine wp45 _ _ _ _ (by simp) ?_
  unfold s45
  simp only [↓wpS_skip, ↓wpS_ops, ↓wpS_seq, ↓wpS_cond, ↓wpS_block, ↓wpS_loop, ↓wpS_exit, ↓wpS_ret, condW_bool, ↓WOps_go, ↓WOps_skip, WOps_nil, stepA, opA, convA, isCall, put?, ev, Tr.get_put, Tr.get_nil, builtinA, callA, argEnv, wantedS, abs_int, abs_bool, abs_string, abs_nilp, abs_nili, abs_nilf, abs_nilm, abs_nils, un_not, List.zipIdx_cons, List.zipIdx_nil, List.foldl_cons, List.foldl_nil, List.map_cons, List.map_nil, List.map_toArray, List.nil_append, List.cons_append, List.append_nil, extractOp, List.getElem?_cons_zero, List.getElem?_cons_succ,
    Option.map_some, Option.map_none, Nat.reduceLT, Nat.reduceEqDiff, Nat.reduceAdd, Nat.zero_add, if_true, if_false, Option.getD_some, Option.getD_none, ↓reduceIte, Bool.false_eq_true, Bool.true_eq_false, reduceCtorEq, resA, resOf, Option.some.injEq, exists_eq_left', beq_self_eq_true, decide_true, decide_false, decide_eq_true_eq, ne_eq, not_true_eq_false, not_false_eq_true, Bool.not_eq_true, beq_iff_eq, bin_add, bin_sub, bin_mul, bin_eql, bin_neq, bin_lss, bin_leq, bin_gtr, bin_geq, maxA, minA, Prod.mk.injEq, and_true, true_and, beq_eq_false_iff_ne, decide_eq_false_iff_not, Bool.true_beq, Bool.false_beq, beq_true, beq_false, Bool.not_true, Bool.not_false, List.getElem?_toArray, x_none, h48]
theorem failed_cl (h : Rd n0 H nx r w at_ bs cs) (hw : w.length ≤ 1000000) : Cl cx 35 [.ptr r 0] H nx = some (.lit (.int .i64 ((if at_ = 1 ∧ w.take 2 = [92, 101] then 2 else at_ : Nat) : Int)), H, nx) := by
  refine wp35 _ _ _ _ (by simp) ?_
  unfold s35
  by_cases h1 : at_ = 1
  · have e1 : (((at_ : Nat) : Int) = 1) = True := by simp; omega
    by_cases h2 : w.take 2 = [92, 101]
    · rw [if_pos ⟨h1, h2⟩]
      simp only [↓wpS_skip, ↓wpS_ops, ↓wpS_seq, ↓wpS_cond, ↓wpS_block, ↓wpS_loop, ↓wpS_exit, ↓wpS_ret, condW_bool, ↓WOps_go, ↓WOps_skip, WOps_nil, stepA, opA, convA, isCall, put?, ev, Tr.get_put, Tr.get_nil, builtinA, callA, argEnv, wantedS, abs_int, abs_bool, abs_string, abs_nilp, abs_nili, abs_nilf, abs_nilm, abs_nils, un_not, List.zipIdx_cons, List.zipIdx_nil, List.foldl_cons, List.foldl_nil, List.map_cons, List.map_nil, List.map_toArray, List.nil_append, List.cons_append, List.append_nil, extractOp, List.getElem?_cons_zero, List.getElem?_cons_succ,
    Option.map_some, Option.map_none, Nat.reduceLT, Nat.reduceEqDiff, Nat.reduceAdd, Nat.zero_add, if_true, if_false, Option.getD_some, Option.getD_none, ↓reduceIte, Bool.false_eq_true, Bool.true_eq_false, reduceCtorEq, resA, resOf, Option.some.injEq, exists_eq_left', beq_self_eq_true, decide_true, decide_false, decide_eq_true_eq, ne_eq, not_true_eq_false, not_false_eq_true, Bool.not_eq_true, beq_iff_eq, bin_add, bin_sub, bin_mul, bin_eql, bin_neq, bin_lss, bin_leq, bin_gtr, bin_geq, maxA, minA, Prod.mk.injEq, and_true, true_and, beq_eq_false_iff_ne, decide_eq_false_iff_not, Bool.true_beq, Bool.false_beq, beq_true, beq_false, Bool.not_true, Bool.not_false, List.getElem?_toArray, x_none, nc_ptr, fa60_0, fa58_0, fa58_1, h.ld_at, h.ld_s, e1, lit_e, pre_cl w hw, h2]
      rfl
    · rw [if_neg (fun h => h2 h.2)]
      simp only [↓wpS_skip, ↓wpS_ops, ↓wpS_seq, ↓wpS_cond, ↓wpS_block, ↓wpS_loop, ↓wpS_exit, ↓wpS_ret, condW_bool, ↓WOps_go, ↓WOps_skip, WOps_nil, stepA, opA, convA, isCall, put?, ev, Tr.get_put, Tr.get_nil, builtinA, callA, argEnv, wantedS, abs_int, abs_bool, abs_string, abs_nilp, abs_nili, abs_nilf, abs_nilm, abs_nils, un_not, List.zipIdx_cons, List.zipIdx_nil, List.foldl_cons, List.foldl_nil, List.map_cons, List.map_nil, List.map_toArray, List.nil_append, List.cons_append, List.append_nil, extractOp, List.getElem?_cons_zero, List.getElem?_cons_succ,
    Option.map_some, Option.map_none, Nat.reduceLT, Nat.reduceEqDiff, Nat.reduceAdd, Nat.zero_add, if_true, if_false, Option.getD_some, Option.getD_none, ↓reduceIte, Bool.false_eq_true, Bool.true_eq_false, reduceCtorEq, resA, resOf, Option.some.injEq, exists_eq_left', beq_self_eq_true, decide_true, decide_false, decide_eq_true_eq, ne_eq, not_true_eq_false, not_false_eq_true, Bool.not_eq_true, beq_iff_eq, bin_add, bin_sub, bin_mul, bin_eql, bin_neq, bin_lss, bin_leq, bin_gtr, bin_geq, maxA, minA, Prod.mk.injEq, and_true, true_and, beq_eq_false_iff_ne, decide_eq_false_iff_not, Bool.true_beq, Bool.false_beq, beq_true, beq_false, Bool.not_true, Bool.not_false, List.getElem?_toArray, x_none, nc_ptr, fa60_0, fa58_0, fa58_1, h.ld_at, h.ld_s, e1, lit_e, pre_cl w hw, h2]
  · have e1 : (((at_ : Nat) : Int) = 1) = False := by simp; omega
    rw [if_neg (fun h => h1 h.1)]
    simp only [↓wpS_skip, ↓wpS_ops, ↓wpS_seq, ↓wpS_cond, ↓wpS_block, ↓wpS_loop, ↓wpS_exit, ↓wpS_ret, condW_bool, ↓WOps_go, ↓WOps_skip, WOps_nil, stepA, opA, convA, isCall, put?, ev, Tr.get_put, Tr.get_nil, builtinA, callA, argEnv, wantedS, abs_int, abs_bool, abs_string, abs_nilp, abs_nili, abs_nilf, abs_nilm, abs_nils, un_not, List.zipIdx_cons, List.zipIdx_nil, List.foldl_cons, List.foldl_nil, List.map_cons, List.map_nil, List.map_toArray, List.nil_append, List.cons_append, List.append_nil, extractOp, List.getElem?_cons_zero, List.getElem?_cons_succ,
    Option.map_some, Option.map_none, Nat.reduceLT, Nat.reduceEqDiff, Nat.reduceAdd, Nat.zero_add, if_true, if_false, Option.getD_some, Option.getD_none, ↓reduceIte, Bool.false_eq_true, Bool.true_eq_false, reduceCtorEq, resA, resOf, Option.some.injEq, exists_eq_left', beq_self_eq_true, decide_true, decide_false, decide_eq_true_eq, ne_eq, not_true_eq_false, not_false_eq_true, Bool.not_eq_true, beq_iff_eq, bin_add, bin_sub, bin_mul, bin_eql, bin_neq, bin_lss, bin_leq, bin_gtr, bin_geq, maxA, minA, Prod.mk.injEq, and_true, true_and, beq_eq_false_iff_ne, decide_eq_false_iff_not, Bool.true_beq, Bool.false_beq, beq_true, beq_false, Bool.not_true, Bool.not_false, List.getElem?_toArray, x_none, nc_ptr, fa60_0, fa58_0, fa58_1, h.ld_at, h.ld_s, e1]
end
end Seat
end CI
