/- quote, walked: Read. -/
import Derived.Test.YtlejcpkedahphaaQf
set_option linter.unusedVariables false
set_option linter.unusedSimpArgs false
namespace CI
namespace Quo
/-- What digits tell, or how far they go. -/
def codeR : List UInt8 → Except Nat UInt8
  | [] => .error 0
  | h :: r3 =>
    match unhex h with
    | none => .error 0
    | some hi =>
      if codesB hi = true then
        match r3 with
        | [] => .error 1
        | l :: _ =>
          match unhex l with
          | none => .error 1
          | some lo => if plainN (16 * hi + lo) = true ∨ 16 * hi + lo = 92 then .error 1 else .ok (UInt8.ofNat (16 * hi + lo))
      else .error 0
variable {w : List UInt8} {a : Nat}
theorem drop_of {b : UInt8} (h : w[a]? = some b) : w.drop a = b :: w.drop (a + 1) := by
  obtain ⟨h1, h2⟩ := List.getElem?_eq_some_iff.1 h
  rw [List.drop_eq_getElem_cons h1, h2]
theorem codeR_none (h : ∀ b, w[a]? = some b → unhex b = none) : codeR (w.drop a) = .error 0 := by
  cases hw : w[a]? with
  | none => rw [List.drop_eq_nil_of_le (by simpa using hw)]; rfl
  | some b => rw [drop_of hw]; simp only [codeR, h b hw]
theorem codeR_hi {b : UInt8} {n : Nat} (h1 : w[a]? = some b) (h2 : unhex b = some n) (h3 : codesB n = false) : codeR (w.drop a) = .error 0 := by
  rw [drop_of h1]; simp only [codeR, h2, h3, Bool.false_eq_true, if_false]
theorem codeR_lo0 {b : UInt8} {n : Nat} (h1 : w[a]? = some b) (h2 : unhex b = some n) (h3 : codesB n = true) (h : ∀ b, w[a + 1]? = some b → unhex b = none) : codeR (w.drop a) = .error 1 := by
  rw [drop_of h1]
  cases hw : w[a + 1]? with
  | none => rw [List.drop_eq_nil_of_le (by simpa using hw)]; simp only [codeR, h2, h3, if_true]
  | some b => rw [drop_of hw]; simp only [codeR, h2, h3, if_true, h b hw]
theorem codeR_lo {b c : UInt8} {n m : Nat} (h1 : w[a]? = some b) (h2 : unhex b = some n) (h3 : codesB n = true) (h4 : w[a + 1]? = some c) (h5 : unhex c = some m) :
    codeR (w.drop a) = if plainN (16 * n + m) = true ∨ 16 * n + m = 92 then .error 1 else .ok (UInt8.ofNat (16 * n + m)) := by
  rw [drop_of h1, drop_of h4]; simp only [codeR, h2, h3, if_true, h5]
end Quo
open Go
namespace Seat
open Quo
variable {H : Heap} {nx : Nat}
section
variable {n0 r at_ : Nat} {w bs : List UInt8} {cs : List AV}
theorem byteA_of {n : Nat} (h : n < 256) : byteA (UInt8.ofNat n) = .lit (.int .u8 (n : Nat)) := by
  unfold byteA
  have : (UInt8.ofNat n).toNat = n := by simp; omega
  rw [this]
/-- A byte is written to the reader's text. -/
theorem Rd.wb (h : Rd n0 H nx r w at_ bs cs) (hlen : bs.length ≤ 100000000) (b : UInt8) :
    ∃ H' nx' cs', Cl cx 31 [.ptr r 2, byteA b] H nx = some (.lit .nilIface, H', nx') ∧ Rd n0 H' nx' r w at_ (bs ++ [b]) cs' ∧ nx ≤ nx' ∧ ∀ c, c < n0 → H'.get c = H.get c := by
  obtain ⟨H', nx', cs', w1, w2, w3, w4, w5, w6⟩ := wb_cl h.bld hlen b
  exact ⟨H', nx', cs', w1, ⟨w2, by rw [w4 0 (by omega) (by omega)]; exact h.s, by rw [w4 1 (by omega) (by omega)]; exact h.at1, by rw [w5]; exact h.len⟩, w3, w6⟩
def After (n0 : Nat) (H : Heap) (nx r : Nat) (w : List UInt8) (at_ : Nat) (bs : List UInt8) (used : Nat) (x : Except Nat UInt8) (ok : Bool) (H' : Heap) (nx' : Nat) (cs' : List AV) : Prop :=
  match x with
  | .ok b => ok = true ∧ at_ + used ≤ w.length ∧ Rd n0 H' nx' r w (at_ + used) (bs ++ [b]) cs'
  | .error k => ok = false ∧ at_ + k ≤ w.length ∧ Rd n0 H' nx' r w (at_ + k) bs cs'
theorem code_cl (h : Rd n0 H nx r w at_ bs cs) (hw : w.length ≤ 1000000) (ha : at_ ≤ w.length) (hbs : bs.length ≤ 1000000) :
    ∃ ok H' nx' cs', Cl cx 47 [.ptr r 0] H nx = some (.lit (.bool ok), H', nx') ∧ nx ≤ nx' ∧ (∀ c, c < n0 → H'.get c = H.get c) ∧ After n0 H nx r w at_ bs 2 (codeR (w.drop at_)) ok H' nx' cs' := by
  obtain ⟨v, H1, cs1, d1, d2, d3⟩ := digit_cl h hw ha
  rcases d3 with ⟨b, n, q1, q2, q3, rfl, q4⟩ | ⟨q1, rfl, q2⟩
  · rw [byteA_of (by omega)] at d1
    have hlt : at_ < w.length := (List.getElem?_eq_some_iff.1 q1).1
    have hco := codes_cl (H := H1) (nx := nx) n q3
    rw [byteA_of (by omega)] at hco
    cases hc : codesB n with
    | false =>
      rw [hc] at hco
      obtain ⟨H2, cs2, s1, s2, s3⟩ := q4.st at_
      have hwr : IntKind.i64.wrap (((at_ + 1 : Nat) : Int) - 1) = ((at_ : Nat) : Int) := by rw [wrapI (by constructor <;> omega)]; omega
      refine ⟨false, H2, nx, cs2, ?_, Nat.le_refl _, fun c hc => (s3 c hc).trans (d2 c hc), ?_⟩
      · refine wp47 _ _ _ _ (by simp) ?_
        unfold s47
        simp only [↓wpS_skip, ↓wpS_ops, ↓wpS_seq, ↓wpS_cond, ↓wpS_block, ↓wpS_loop, ↓wpS_exit, ↓wpS_ret, condW_bool, ↓WOps_go, ↓WOps_skip, WOps_nil, stepA, opA, convA, isCall, put?, ev, Tr.get_put, Tr.get_nil, builtinA, callA, argEnv, wantedS, abs_int, abs_bool, abs_string, abs_nilp, abs_nili, abs_nilf, abs_nilm, abs_nils, un_not, List.zipIdx_cons, List.zipIdx_nil, List.foldl_cons, List.foldl_nil, List.map_cons, List.map_nil, List.map_toArray, List.nil_append, List.cons_append, List.append_nil, extractOp, List.getElem?_cons_zero, List.getElem?_cons_succ,
    Option.map_some, Option.map_none, Nat.reduceLT, Nat.reduceEqDiff, Nat.reduceAdd, Nat.zero_add, if_true, if_false, Option.getD_some, Option.getD_none, ↓reduceIte, Bool.false_eq_true, Bool.true_eq_false, reduceCtorEq, resA, resOf, Option.some.injEq, exists_eq_left', beq_self_eq_true, decide_true, decide_false, decide_eq_true_eq, ne_eq, not_true_eq_false, not_false_eq_true, Bool.not_eq_true, beq_iff_eq, bin_add, bin_sub, bin_mul, bin_eql, bin_neq, bin_lss, bin_leq, bin_gtr, bin_geq, maxA, minA, Prod.mk.injEq, and_true, true_and, beq_eq_false_iff_ne, decide_eq_false_iff_not, Bool.true_beq, Bool.false_beq, beq_true, beq_false, Bool.not_true, Bool.not_false, List.getElem?_toArray, x_none, nc_ptr, fa60_0, fa58_1, d1, hco, q4.ld_at, hwr, s1]
      · rw [codeR_hi q1 q2 hc]; exact ⟨rfl, by omega, s2⟩
    | true =>
      rw [hc] at hco
      obtain ⟨v2, H2, cs2, d4, d5, d6⟩ := digit_cl q4 hw hlt
      rcases d6 with ⟨b2, m, p1, p2, p3, rfl, p4⟩ | ⟨p1, rfl, p2⟩
      · rw [byteA_of (by omega)] at d4
        have hlt2 : at_ + 1 < w.length := (List.getElem?_eq_some_iff.1 p1).1
        have hw1 : IntKind.u8.wrap (16 * (n : Int)) = ((16 * n : Nat) : Int) := by
          simp only [IntKind.wrap, IntKind.signed, IntKind.bits, Bool.false_and, Bool.false_eq_true, if_false]; omega
        have hw2 : IntKind.u8.wrap (((16 * n : Nat) : Int) + (m : Int)) = ((16 * n + m : Nat) : Int) := by
          simp only [IntKind.wrap, IntKind.signed, IntKind.bits, Bool.false_and, Bool.false_eq_true, if_false]; omega
        have hpl := plain_cl (H := H2) (nx := nx) (UInt8.ofNat (16 * n + m))
        rw [byteA_of (by omega)] at hpl
        have htn : (UInt8.ofNat (16 * n + m)).toNat = 16 * n + m := by simp; omega
        rw [htn] at hpl
        have hcr := codeR_lo q1 q2 hc p1 p2
        have hwr : IntKind.i64.wrap (((at_ + 1 + 1 : Nat) : Int) - 1) = ((at_ + 1 : Nat) : Int) := by rw [wrapI (by constructor <;> omega)]; omega
        cases hp : plainN (16 * n + m) with
        | true =>
          rw [hp] at hpl
          rw [if_pos (.inl hp)] at hcr
          obtain ⟨H3, cs3, s1, s2, s3⟩ := p4.st (at_ + 1)
          refine ⟨false, H3, nx, cs3, ?_, Nat.le_refl _, fun c hc => (s3 c hc).trans ((d5 c hc).trans (d2 c hc)), ?_⟩
          · refine wp47 _ _ _ _ (by simp) ?_
            unfold s47
            simp only [↓wpS_skip, ↓wpS_ops, ↓wpS_seq, ↓wpS_cond, ↓wpS_block, ↓wpS_loop, ↓wpS_exit, ↓wpS_ret, condW_bool, ↓WOps_go, ↓WOps_skip, WOps_nil, stepA, opA, convA, isCall, put?, ev, Tr.get_put, Tr.get_nil, builtinA, callA, argEnv, wantedS, abs_int, abs_bool, abs_string, abs_nilp, abs_nili, abs_nilf, abs_nilm, abs_nils, un_not, List.zipIdx_cons, List.zipIdx_nil, List.foldl_cons, List.foldl_nil, List.map_cons, List.map_nil, List.map_toArray, List.nil_append, List.cons_append, List.append_nil, extractOp, List.getElem?_cons_zero, List.getElem?_cons_succ,
    Option.map_some, Option.map_none, Nat.reduceLT, Nat.reduceEqDiff, Nat.reduceAdd, Nat.zero_add, if_true, if_false, Option.getD_some, Option.getD_none, ↓reduceIte, Bool.false_eq_true, Bool.true_eq_false, reduceCtorEq, resA, resOf, Option.some.injEq, exists_eq_left', beq_self_eq_true, decide_true, decide_false, decide_eq_true_eq, ne_eq, not_true_eq_false, not_false_eq_true, Bool.not_eq_true, beq_iff_eq, bin_add, bin_sub, bin_mul, bin_eql, bin_neq, bin_lss, bin_leq, bin_gtr, bin_geq, maxA, minA, Prod.mk.injEq, and_true, true_and, beq_eq_false_iff_ne, decide_eq_false_iff_not, Bool.true_beq, Bool.false_beq, beq_true, beq_false, Bool.not_true, Bool.not_false, List.getElem?_toArray, x_none, nc_ptr, fa60_0, fa58_1, d1, hco, d4, hw1, hw2, hpl, p4.ld_at, hwr, s1]
          · rw [hcr]; exact ⟨rfl, by omega, s2⟩
        | false =>
          rw [hp] at hpl
          by_cases h92 : 16 * n + m = 92
          · rw [if_pos (.inr h92)] at hcr
            have e92 : (((16 * n + m : Nat) : Int) = 92) = True := by simp; omega
            obtain ⟨H3, cs3, s1, s2, s3⟩ := p4.st (at_ + 1)
            refine ⟨false, H3, nx, cs3, ?_, Nat.le_refl _, fun c hc => (s3 c hc).trans ((d5 c hc).trans (d2 c hc)), ?_⟩
            · refine wp47 _ _ _ _ (by simp) ?_
              unfold s47
              simp only [↓wpS_skip, ↓wpS_ops, ↓wpS_seq, ↓wpS_cond, ↓wpS_block, ↓wpS_loop, ↓wpS_exit, ↓wpS_ret, condW_bool, ↓WOps_go, ↓WOps_skip, WOps_nil, stepA, opA, convA, isCall, put?, ev, Tr.get_put, Tr.get_nil, builtinA, callA, argEnv, wantedS, abs_int, abs_bool, abs_string, abs_nilp, abs_nili, abs_nilf, abs_nilm, abs_nils, un_not, List.zipIdx_cons, List.zipIdx_nil, List.foldl_cons, List.foldl_nil, List.map_cons, List.map_nil, List.map_toArray, List.nil_append, List.cons_append, List.append_nil, extractOp, List.getElem?_cons_zero, List.getElem?_cons_succ,
    Option.map_some, Option.map_none, Nat.reduceLT, Nat.reduceEqDiff, Nat.reduceAdd, Nat.zero_add, if_true, if_false, Option.getD_some, Option.getD_none, ↓reduceIte, Bool.false_eq_true, Bool.true_eq_false, reduceCtorEq, resA, resOf, Option.some.injEq, exists_eq_left', beq_self_eq_true, decide_true, decide_false, decide_eq_true_eq, ne_eq, not_true_eq_false, not_false_eq_true, Bool.not_eq_true, beq_iff_eq, bin_add, bin_sub, bin_mul, bin_eql, bin_neq, bin_lss, bin_leq, bin_gtr, bin_geq, maxA, minA, Prod.mk.injEq, and_true, true_and, beq_eq_false_iff_ne, decide_eq_false_iff_not, Bool.true_beq, Bool.false_beq, beq_true, beq_false, Bool.not_true, Bool.not_false, List.getElem?_toArray, x_none, nc_ptr, fa60_0, fa58_1, d1, hco, d4, hw1, hw2, hpl, e92, p4.ld_at, hwr, s1]
            · rw [hcr]; exact ⟨rfl, by omega, s2⟩
          · rw [if_neg (by rw [hp]; simp [h92])] at hcr
            have e92 : (((16 * n + m : Nat) : Int) = 92) = False := by simp; omega
            obtain ⟨H3, nx3, cs3, w1, w2, w3, w4⟩ := p4.wb (by omega) (UInt8.ofNat (16 * n + m))
            rw [byteA_of (by omega)] at w1
            refine ⟨true, H3, nx3, cs3, ?_, w3, fun c hc => (w4 c hc).trans ((d5 c hc).trans (d2 c hc)), ?_⟩
            · refine wp47 _ _ _ _ (by simp) ?_
              unfold s47
              simp only [↓wpS_skip, ↓wpS_ops, ↓wpS_seq, ↓wpS_cond, ↓wpS_block, ↓wpS_loop, ↓wpS_exit, ↓wpS_ret, condW_bool, ↓WOps_go, ↓WOps_skip, WOps_nil, stepA, opA, convA, isCall, put?, ev, Tr.get_put, Tr.get_nil, builtinA, callA, argEnv, wantedS, abs_int, abs_bool, abs_string, abs_nilp, abs_nili, abs_nilf, abs_nilm, abs_nils, un_not, List.zipIdx_cons, List.zipIdx_nil, List.foldl_cons, List.foldl_nil, List.map_cons, List.map_nil, List.map_toArray, List.nil_append, List.cons_append, List.append_nil, extractOp, List.getElem?_cons_zero, List.getElem?_cons_succ,
    Option.map_some, Option.map_none, Nat.reduceLT, Nat.reduceEqDiff, Nat.reduceAdd, Nat.zero_add, if_true, if_false, Option.getD_some, Option.getD_none, ↓reduceIte, Bool.false_eq_true, Bool.true_eq_false, reduceCtorEq, resA, resOf, Option.some.injEq, exists_eq_left', beq_self_eq_true, decide_true, decide_false, decide_eq_true_eq, ne_eq, not_true_eq_false, not_false_eq_true, Bool.not_eq_true, beq_iff_eq, bin_add, bin_sub, bin_mul, bin_eql, bin_neq, bin_lss, bin_leq, bin_gtr, bin_geq, maxA, minA, Prod.mk.injEq, and_true, true_and, beq_eq_false_iff_ne, decide_eq_false_iff_not, Bool.true_beq, Bool.false_beq, beq_true, beq_false, Bool.not_true, Bool.not_false, List.getElem?_toArray, x_none, nc_ptr, fa60_0, fa60_1, fa58_1, d1, hco, d4, hw1, hw2, hpl, e92, w1]
            · rw [hcr]; exact ⟨rfl, by omega, w2⟩
      · refine ⟨false, H2, nx, cs2, ?_, Nat.le_refl _, fun c hc => (d5 c hc).trans (d2 c hc), ?_⟩
        · refine wp47 _ _ _ _ (by simp) ?_
          unfold s47
          simp only [↓wpS_skip, ↓wpS_ops, ↓wpS_seq, ↓wpS_cond, ↓wpS_block, ↓wpS_loop, ↓wpS_exit, ↓wpS_ret, condW_bool, ↓WOps_go, ↓WOps_skip, WOps_nil, stepA, opA, convA, isCall, put?, ev, Tr.get_put, Tr.get_nil, builtinA, callA, argEnv, wantedS, abs_int, abs_bool, abs_string, abs_nilp, abs_nili, abs_nilf, abs_nilm, abs_nils, un_not, List.zipIdx_cons, List.zipIdx_nil, List.foldl_cons, List.foldl_nil, List.map_cons, List.map_nil, List.map_toArray, List.nil_append, List.cons_append, List.append_nil, extractOp, List.getElem?_cons_zero, List.getElem?_cons_succ,
    Option.map_some, Option.map_none, Nat.reduceLT, Nat.reduceEqDiff, Nat.reduceAdd, Nat.zero_add, if_true, if_false, Option.getD_some, Option.getD_none, ↓reduceIte, Bool.false_eq_true, Bool.true_eq_false, reduceCtorEq, resA, resOf, Option.some.injEq, exists_eq_left', beq_self_eq_true, decide_true, decide_false, decide_eq_true_eq, ne_eq, not_true_eq_false, not_false_eq_true, Bool.not_eq_true, beq_iff_eq, bin_add, bin_sub, bin_mul, bin_eql, bin_neq, bin_lss, bin_leq, bin_gtr, bin_geq, maxA, minA, Prod.mk.injEq, and_true, true_and, beq_eq_false_iff_ne, decide_eq_false_iff_not, Bool.true_beq, Bool.false_beq, beq_true, beq_false, Bool.not_true, Bool.not_false, List.getElem?_toArray, x_none, nc_ptr, fa60_0, fa58_1, d1, hco, d4]
        · rw [codeR_lo0 q1 q2 hc p1]; exact ⟨rfl, by omega, p2⟩
  · refine ⟨false, H1, nx, cs1, ?_, Nat.le_refl _, d2, ?_⟩
    · refine wp47 _ _ _ _ (by simp) ?_
      unfold s47
      simp only [↓wpS_skip, ↓wpS_ops, ↓wpS_seq, ↓wpS_cond, ↓wpS_block, ↓wpS_loop, ↓wpS_exit, ↓wpS_ret, condW_bool, ↓WOps_go, ↓WOps_skip, WOps_nil, stepA, opA, convA, isCall, put?, ev, Tr.get_put, Tr.get_nil, builtinA, callA, argEnv, wantedS, abs_int, abs_bool, abs_string, abs_nilp, abs_nili, abs_nilf, abs_nilm, abs_nils, un_not, List.zipIdx_cons, List.zipIdx_nil, List.foldl_cons, List.foldl_nil, List.map_cons, List.map_nil, List.map_toArray, List.nil_append, List.cons_append, List.append_nil, extractOp, List.getElem?_cons_zero, List.getElem?_cons_succ,
    Option.map_some, Option.map_none, Nat.reduceLT, Nat.reduceEqDiff, Nat.reduceAdd, Nat.zero_add, if_true, if_false, Option.getD_some, Option.getD_none, ↓reduceIte, Bool.false_eq_true, Bool.true_eq_false, reduceCtorEq, resA, resOf, Option.some.injEq, exists_eq_left', beq_self_eq_true, decide_true, decide_false, decide_eq_true_eq, ne_eq, not_true_eq_false, not_false_eq_true, Bool.not_eq_true, beq_iff_eq, bin_add, bin_sub, bin_mul, bin_eql, bin_neq, bin_lss, bin_leq, bin_gtr, bin_geq, maxA, minA, Prod.mk.injEq, and_true, true_and, beq_eq_false_iff_ne, decide_eq_false_iff_not, Bool.true_beq, Bool.false_beq, beq_true, beq_false, Bool.not_true, Bool.not_false, List.getElem?_toArray, x_none, nc_ptr, fa60_0, fa58_1, d1]
    · rw [codeR_none q1]; exact ⟨rfl, by omega, q2⟩
end
end Seat
end CI
