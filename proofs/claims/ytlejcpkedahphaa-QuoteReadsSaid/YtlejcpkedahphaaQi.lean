/- quote, walked: Read, as a whole. -/
import Derived.Test.YtlejcpkedahphaaQh
set_option linter.unusedVariables false
set_option linter.unusedSimpArgs false
namespace CI
namespace Quo
theorem escR_pos {r : List UInt8} {b : UInt8} {k : Nat} (h : escR r = .ok (b, k)) : 1 ≤ k := by
  unfold escR at h
  split at h
  · cases h
  · split at h
    · injection h with h; injection h with h1 h2; omega
    · split at h
      · split at h
        · cases h
        · injection h with h; injection h with h1 h2; omega
      · cases h
theorem stepR_pos {r : List UInt8} {b : UInt8} {k : Nat} (h : stepR r = .ok (b, k)) : 1 ≤ k := by
  cases r with
  | nil => simp [stepR] at h
  | cons c r =>
    by_cases h92 : c.toNat = 92
    · rw [stepR_esc h92] at h
      split at h
      · cases h
      · injection h with h; injection h with h1 h2; omega
    · simp only [stepR, if_neg h92] at h
      split at h
      · injection h with h; injection h with h1 h2; omega
      · cases h
/-- What Read answers: the bytes, or how far it came. -/
def readI (w : List UInt8) : List UInt8 × Nat × Nat :=
  if w = [92, 101] then ([], 0, 0) else
  match readW (w.length + 1) w 0 [] with
  | .error k => ([], if k = 1 ∧ w.take 2 = [92, 101] then 2 else k, 4)
  | .ok s => if w = [] then ([], 0, 4) else (s, s.length, 0)
end Quo
open Go
namespace Seat
open Quo
variable {H : Heap} {nx : Nat}
theorem read_l0 {n0 r : Nat} {w : List UInt8} {cs : List AV} {E : Tr AV} {QQ : Ex → St → Prop} (h : Rd n0 H nx r w 0 [] cs) (hw : w.length ≤ 1000000) (e0 : E.get 0 = some (strA w)) (e5 : E.get 5 = some (.ptr r 0))
    (hQ : ∀ E' H' nx' cs' s, readW (w.length + 1) w 0 [] = .ok s → s.length ≤ w.length → Rd n0 H' nx' r w w.length s cs' → nx ≤ nx' → (∀ c, c < n0 → H'.get c = H.get c) → E'.get 0 = some (strA w) → E'.get 5 = some (.ptr r 0) → QQ (.exit 0) ⟨E', H', nx'⟩)
    (hR : ∀ E' H' nx' k, readW (w.length + 1) w 0 [] = .error k → nx ≤ nx' → (∀ c, c < n0 → H'.get c = H.get c) → (∀ b, nx' ≤ b → H'.get b = none) → E'.get 2 = some (strA []) →
      E'.get 3 = some (.lit (.int .i64 ((if k = 1 ∧ w.take 2 = [92, 101] then 2 else k : Nat) : Int))) → E'.get 4 = some (.lit (.int .i64 4)) → QQ .ret ⟨E', H', nx'⟩) :
    Wp cx 35 (.loop s23_l0) ⟨E, H, nx⟩ QQ := by
  refine Wp_loop (fun n st => ∃ (a : Nat) (bs : List UInt8) (cs' : List AV) (f : Nat), n = w.length - a ∧ a ≤ w.length ∧ bs.length ≤ a ∧ w.length - a < f ∧ readW f w a bs = readW (w.length + 1) w 0 [] ∧ Rd n0 st.H st.nx r w a bs cs' ∧ nx ≤ st.nx ∧
    (∀ c, c < n0 → st.H.get c = H.get c) ∧ st.env.get 0 = some (strA w) ∧ st.env.get 5 = some (.ptr r 0)) ?_ w.length _ ⟨0, [], cs, w.length + 1, by omega, by omega, by simp, by omega, rfl, h, Nat.le_refl _, fun _ _ => rfl, e0, e5⟩
  rintro n ⟨E, H1, nx1⟩ ⟨a, bs, cs1, f, hn, ha, hbs, hf, hrd, h, hnx, hold, e0, e5⟩
  simp only at h hnx hold e0 e5
  refine Wp_of ?_
  unfold s23_l0
  obtain ⟨f, rfl⟩ : ∃ g, f = g + 1 := ⟨f - 1, by omega⟩
  by_cases hlt : a < w.length
  · have e1 : (((a : Nat) : Int) < (w.length : Nat)) = True := by simp; omega
    obtain ⟨ok, H2, nx2, cs2, c1, c2, c3, c4⟩ := oneR_cl h hw hlt (by omega)
    simp only [readW, if_neg (show ¬ w.length ≤ a by omega)] at hrd
    unfold AfterS at c4
    cases hs : stepR (w.drop a) with
    | error k =>
      rw [hs] at c4 hrd
      simp only at c4 hrd
      obtain ⟨rfl, hk, hR2⟩ := c4
      have hfl := failed_cl hR2 hw
      simp only [↓wpS_skip, ↓wpS_ops, ↓wpS_seq, ↓wpS_cond, ↓wpS_block, ↓wpS_loop, ↓wpS_exit, ↓wpS_ret, condW_bool, ↓WOps_go, ↓WOps_skip, WOps_nil, stepA, opA, convA, isCall, put?, ev, Tr.get_put, Tr.get_nil, builtinA, callA, argEnv, wantedS, abs_int, abs_bool, abs_string, abs_nilp, abs_nili, abs_nilf, abs_nilm, abs_nils, un_not, List.zipIdx_cons, List.zipIdx_nil, List.foldl_cons, List.foldl_nil, List.map_cons, List.map_nil, List.map_toArray, List.nil_append, List.cons_append, List.append_nil, extractOp, List.getElem?_cons_zero, List.getElem?_cons_succ,
    Option.map_some, Option.map_none, Nat.reduceLT, Nat.reduceEqDiff, Nat.reduceAdd, Nat.zero_add, if_true, if_false, Option.getD_some, Option.getD_none, ↓reduceIte, Bool.false_eq_true, Bool.true_eq_false, reduceCtorEq, resA, resOf, Option.some.injEq, exists_eq_left', beq_self_eq_true, decide_true, decide_false, decide_eq_true_eq, ne_eq, not_true_eq_false, not_false_eq_true, Bool.not_eq_true, beq_iff_eq, bin_add, bin_sub, bin_mul, bin_eql, bin_neq, bin_lss, bin_leq, bin_gtr, bin_geq, maxA, minA, Prod.mk.injEq, and_true, true_and, beq_eq_false_iff_ne, decide_eq_false_iff_not, Bool.true_beq, Bool.false_beq, beq_true, beq_false, Bool.not_true, Bool.not_false, List.getElem?_toArray, x_none, nc_ptr, fa60_0, fa58_1, e0, e5, h.ld_at, str_len, e1, c1, lit_nil, hfl]
      refine hR _ _ _ (a + k) hrd.symm (by omega) (fun c hc => (c3 c hc).trans (hold c hc)) hR2.bld.fr ?_ ?_ ?_
      · simp only [↓wpS_skip, ↓wpS_ops, ↓wpS_seq, ↓wpS_cond, ↓wpS_block, ↓wpS_loop, ↓wpS_exit, ↓wpS_ret, condW_bool, ↓WOps_go, ↓WOps_skip, WOps_nil, stepA, opA, convA, isCall, put?, ev, Tr.get_put, Tr.get_nil, builtinA, callA, argEnv, wantedS, abs_int, abs_bool, abs_string, abs_nilp, abs_nili, abs_nilf, abs_nilm, abs_nils, un_not, List.zipIdx_cons, List.zipIdx_nil, List.foldl_cons, List.foldl_nil, List.map_cons, List.map_nil, List.map_toArray, List.nil_append, List.cons_append, List.append_nil, extractOp, List.getElem?_cons_zero, List.getElem?_cons_succ,
    Option.map_some, Option.map_none, Nat.reduceLT, Nat.reduceEqDiff, Nat.reduceAdd, Nat.zero_add, if_true, if_false, Option.getD_some, Option.getD_none, ↓reduceIte, Bool.false_eq_true, Bool.true_eq_false, reduceCtorEq, resA, resOf, Option.some.injEq, exists_eq_left', beq_self_eq_true, decide_true, decide_false, decide_eq_true_eq, ne_eq, not_true_eq_false, not_false_eq_true, Bool.not_eq_true, beq_iff_eq, bin_add, bin_sub, bin_mul, bin_eql, bin_neq, bin_lss, bin_leq, bin_gtr, bin_geq, maxA, minA, Prod.mk.injEq, and_true, true_and, beq_eq_false_iff_ne, decide_eq_false_iff_not, Bool.true_beq, Bool.false_beq, beq_true, beq_false, Bool.not_true, Bool.not_false, List.getElem?_toArray]
      · simp only [↓wpS_skip, ↓wpS_ops, ↓wpS_seq, ↓wpS_cond, ↓wpS_block, ↓wpS_loop, ↓wpS_exit, ↓wpS_ret, condW_bool, ↓WOps_go, ↓WOps_skip, WOps_nil, stepA, opA, convA, isCall, put?, ev, Tr.get_put, Tr.get_nil, builtinA, callA, argEnv, wantedS, abs_int, abs_bool, abs_string, abs_nilp, abs_nili, abs_nilf, abs_nilm, abs_nils, un_not, List.zipIdx_cons, List.zipIdx_nil, List.foldl_cons, List.foldl_nil, List.map_cons, List.map_nil, List.map_toArray, List.nil_append, List.cons_append, List.append_nil, extractOp, List.getElem?_cons_zero, List.getElem?_cons_succ,
    Option.map_some, Option.map_none, Nat.reduceLT, Nat.reduceEqDiff, Nat.reduceAdd, Nat.zero_add, if_true, if_false, Option.getD_some, Option.getD_none, ↓reduceIte, Bool.false_eq_true, Bool.true_eq_false, reduceCtorEq, resA, resOf, Option.some.injEq, exists_eq_left', beq_self_eq_true, decide_true, decide_false, decide_eq_true_eq, ne_eq, not_true_eq_false, not_false_eq_true, Bool.not_eq_true, beq_iff_eq, bin_add, bin_sub, bin_mul, bin_eql, bin_neq, bin_lss, bin_leq, bin_gtr, bin_geq, maxA, minA, Prod.mk.injEq, and_true, true_and, beq_eq_false_iff_ne, decide_eq_false_iff_not, Bool.true_beq, Bool.false_beq, beq_true, beq_false, Bool.not_true, Bool.not_false, List.getElem?_toArray]
      · simp only [↓wpS_skip, ↓wpS_ops, ↓wpS_seq, ↓wpS_cond, ↓wpS_block, ↓wpS_loop, ↓wpS_exit, ↓wpS_ret, condW_bool, ↓WOps_go, ↓WOps_skip, WOps_nil, stepA, opA, convA, isCall, put?, ev, Tr.get_put, Tr.get_nil, builtinA, callA, argEnv, wantedS, abs_int, abs_bool, abs_string, abs_nilp, abs_nili, abs_nilf, abs_nilm, abs_nils, un_not, List.zipIdx_cons, List.zipIdx_nil, List.foldl_cons, List.foldl_nil, List.map_cons, List.map_nil, List.map_toArray, List.nil_append, List.cons_append, List.append_nil, extractOp, List.getElem?_cons_zero, List.getElem?_cons_succ,
    Option.map_some, Option.map_none, Nat.reduceLT, Nat.reduceEqDiff, Nat.reduceAdd, Nat.zero_add, if_true, if_false, Option.getD_some, Option.getD_none, ↓reduceIte, Bool.false_eq_true, Bool.true_eq_false, reduceCtorEq, resA, resOf, Option.some.injEq, exists_eq_left', beq_self_eq_true, decide_true, decide_false, decide_eq_true_eq, ne_eq, not_true_eq_false, not_false_eq_true, Bool.not_eq_true, beq_iff_eq, bin_add, bin_sub, bin_mul, bin_eql, bin_neq, bin_lss, bin_leq, bin_gtr, bin_geq, maxA, minA, Prod.mk.injEq, and_true, true_and, beq_eq_false_iff_ne, decide_eq_false_iff_not, Bool.true_beq, Bool.false_beq, beq_true, beq_false, Bool.not_true, Bool.not_false, List.getElem?_toArray]
    | ok p =>
      obtain ⟨b, k⟩ := p
      rw [hs] at c4 hrd
      simp only at c4 hrd
      obtain ⟨rfl, hk, hR2⟩ := c4
      have hkp := stepR_pos hs
      simp only [↓wpS_skip, ↓wpS_ops, ↓wpS_seq, ↓wpS_cond, ↓wpS_block, ↓wpS_loop, ↓wpS_exit, ↓wpS_ret, condW_bool, ↓WOps_go, ↓WOps_skip, WOps_nil, stepA, opA, convA, isCall, put?, ev, Tr.get_put, Tr.get_nil, builtinA, callA, argEnv, wantedS, abs_int, abs_bool, abs_string, abs_nilp, abs_nili, abs_nilf, abs_nilm, abs_nils, un_not, List.zipIdx_cons, List.zipIdx_nil, List.foldl_cons, List.foldl_nil, List.map_cons, List.map_nil, List.map_toArray, List.nil_append, List.cons_append, List.append_nil, extractOp, List.getElem?_cons_zero, List.getElem?_cons_succ,
    Option.map_some, Option.map_none, Nat.reduceLT, Nat.reduceEqDiff, Nat.reduceAdd, Nat.zero_add, if_true, if_false, Option.getD_some, Option.getD_none, ↓reduceIte, Bool.false_eq_true, Bool.true_eq_false, reduceCtorEq, resA, resOf, Option.some.injEq, exists_eq_left', beq_self_eq_true, decide_true, decide_false, decide_eq_true_eq, ne_eq, not_true_eq_false, not_false_eq_true, Bool.not_eq_true, beq_iff_eq, bin_add, bin_sub, bin_mul, bin_eql, bin_neq, bin_lss, bin_leq, bin_gtr, bin_geq, maxA, minA, Prod.mk.injEq, and_true, true_and, beq_eq_false_iff_ne, decide_eq_false_iff_not, Bool.true_beq, Bool.false_beq, beq_true, beq_false, Bool.not_true, Bool.not_false, List.getElem?_toArray, x_none, nc_ptr, fa60_0, fa58_1, e0, e5, h.ld_at, str_len, e1, c1]
      exact ⟨w.length - (a + k), by omega, a + k, bs ++ [b], cs2, f, rfl, by omega, by simp; omega, by omega, hrd, hR2, by omega, fun c hc => (c3 c hc).trans (hold c hc)⟩
  · have e1 : (((a : Nat) : Int) < (w.length : Nat)) = False := by simp; omega
    have haw : a = w.length := by omega
    subst haw
    simp only [readW, Nat.le_refl, if_true] at hrd
    simp only [↓wpS_skip, ↓wpS_ops, ↓wpS_seq, ↓wpS_cond, ↓wpS_block, ↓wpS_loop, ↓wpS_exit, ↓wpS_ret, condW_bool, ↓WOps_go, ↓WOps_skip, WOps_nil, stepA, opA, convA, isCall, put?, ev, Tr.get_put, Tr.get_nil, builtinA, callA, argEnv, wantedS, abs_int, abs_bool, abs_string, abs_nilp, abs_nili, abs_nilf, abs_nilm, abs_nils, un_not, List.zipIdx_cons, List.zipIdx_nil, List.foldl_cons, List.foldl_nil, List.map_cons, List.map_nil, List.map_toArray, List.nil_append, List.cons_append, List.append_nil, extractOp, List.getElem?_cons_zero, List.getElem?_cons_succ,
    Option.map_some, Option.map_none, Nat.reduceLT, Nat.reduceEqDiff, Nat.reduceAdd, Nat.zero_add, if_true, if_false, Option.getD_some, Option.getD_none, ↓reduceIte, Bool.false_eq_true, Bool.true_eq_false, reduceCtorEq, resA, resOf, Option.some.injEq, exists_eq_left', beq_self_eq_true, decide_true, decide_false, decide_eq_true_eq, ne_eq, not_true_eq_false, not_false_eq_true, Bool.not_eq_true, beq_iff_eq, bin_add, bin_sub, bin_mul, bin_eql, bin_neq, bin_lss, bin_leq, bin_gtr, bin_geq, maxA, minA, Prod.mk.injEq, and_true, true_and, beq_eq_false_iff_ne, decide_eq_false_iff_not, Bool.true_beq, Bool.false_beq, beq_true, beq_false, Bool.not_true, Bool.not_false, List.getElem?_toArray, x_none, nc_ptr, fa60_0, fa58_1, e0, e5, h.ld_at, str_len, e1]
    refine hQ _ _ _ cs1 bs hrd.symm hbs h hnx hold ?_ ?_
    · simp only [↓wpS_skip, ↓wpS_ops, ↓wpS_seq, ↓wpS_cond, ↓wpS_block, ↓wpS_loop, ↓wpS_exit, ↓wpS_ret, condW_bool, ↓WOps_go, ↓WOps_skip, WOps_nil, stepA, opA, convA, isCall, put?, ev, Tr.get_put, Tr.get_nil, builtinA, callA, argEnv, wantedS, abs_int, abs_bool, abs_string, abs_nilp, abs_nili, abs_nilf, abs_nilm, abs_nils, un_not, List.zipIdx_cons, List.zipIdx_nil, List.foldl_cons, List.foldl_nil, List.map_cons, List.map_nil, List.map_toArray, List.nil_append, List.cons_append, List.append_nil, extractOp, List.getElem?_cons_zero, List.getElem?_cons_succ,
    Option.map_some, Option.map_none, Nat.reduceLT, Nat.reduceEqDiff, Nat.reduceAdd, Nat.zero_add, if_true, if_false, Option.getD_some, Option.getD_none, ↓reduceIte, Bool.false_eq_true, Bool.true_eq_false, reduceCtorEq, resA, resOf, Option.some.injEq, exists_eq_left', beq_self_eq_true, decide_true, decide_false, decide_eq_true_eq, ne_eq, not_true_eq_false, not_false_eq_true, Bool.not_eq_true, beq_iff_eq, bin_add, bin_sub, bin_mul, bin_eql, bin_neq, bin_lss, bin_leq, bin_gtr, bin_geq, maxA, minA, Prod.mk.injEq, and_true, true_and, beq_eq_false_iff_ne, decide_eq_false_iff_not, Bool.true_beq, Bool.false_beq, beq_true, beq_false, Bool.not_true, Bool.not_false, List.getElem?_toArray, e0]
    · simp only [↓wpS_skip, ↓wpS_ops, ↓wpS_seq, ↓wpS_cond, ↓wpS_block, ↓wpS_loop, ↓wpS_exit, ↓wpS_ret, condW_bool, ↓WOps_go, ↓WOps_skip, WOps_nil, stepA, opA, convA, isCall, put?, ev, Tr.get_put, Tr.get_nil, builtinA, callA, argEnv, wantedS, abs_int, abs_bool, abs_string, abs_nilp, abs_nili, abs_nilf, abs_nilm, abs_nils, un_not, List.zipIdx_cons, List.zipIdx_nil, List.foldl_cons, List.foldl_nil, List.map_cons, List.map_nil, List.map_toArray, List.nil_append, List.cons_append, List.append_nil, extractOp, List.getElem?_cons_zero, List.getElem?_cons_succ,
    Option.map_some, Option.map_none, Nat.reduceLT, Nat.reduceEqDiff, Nat.reduceAdd, Nat.zero_add, if_true, if_false, Option.getD_some, Option.getD_none, ↓reduceIte, Bool.false_eq_true, Bool.true_eq_false, reduceCtorEq, resA, resOf, Option.some.injEq, exists_eq_left', beq_self_eq_true, decide_true, decide_false, decide_eq_true_eq, ne_eq, not_true_eq_false, not_false_eq_true, Bool.not_eq_true, beq_iff_eq, bin_add, bin_sub, bin_mul, bin_eql, bin_neq, bin_lss, bin_leq, bin_gtr, bin_geq, maxA, minA, Prod.mk.injEq, and_true, true_and, beq_eq_false_iff_ne, decide_eq_false_iff_not, Bool.true_beq, Bool.false_beq, beq_true, beq_false, Bool.not_true, Bool.not_false, List.getElem?_toArray, e5]
theorem bd58 (w : List UInt8) : buildOp cx.T 58 [(0, strA w)] = some (.agg [strA w, .lit (.int .i64 0)]) := by kernel_rfl
theorem bd60 (w : List UInt8) : buildOp cx.T 60 [(0, .agg [strA w, .lit (.int .i64 0)])] = some (.agg [strA w, .lit (.int .i64 0), .lit (.pointer none), .lit (.slice none 0 0)]) := by kernel_rfl
theorem bx60 (w : List UInt8) : boxOp H nx 60 (.agg [strA w, .lit (.int .i64 0), .lit (.pointer none), .lit (.slice none 0 0)]) =
    some (.ptr nx 0, H.put nx (some (.cells [strA w, .lit (.int .i64 0), .lit (.pointer none), .lit (.slice none 0 0)] 60 false)), nx + 1) := rfl
theorem rd_new (h : ∀ b, nx ≤ b → H.get b = none) (w : List UInt8) : Rd nx (H.put nx (some (.cells [strA w, .lit (.int .i64 0), .lit (.pointer none), .lit (.slice none 0 0)] 60 false))) (nx + 1) nx w 0 [] [strA w, .lit (.int .i64 0), .lit (.pointer none), .lit (.slice none 0 0)] where
  bld := {
    hp := Tr.get_put_same _ _ _
    p0 := Nat.le_refl _
    p1 := by omega
    lies := by kernel_rfl
    self := .inl rfl
    buf := .inl ⟨rfl, rfl⟩
    fr := (Fr.put h _).fr }
  s := rfl
  at1 := rfl
  len := rfl
theorem read_cl {w : List UInt8} (hw : w.length ≤ 1000000) (hfr : ∀ b, nx ≤ b → H.get b = none) :
    ∃ v H' nx', Cl cx 23 [strA w] H nx = some (v, H', nx') ∧ v = .tuple [strA (readI w).1, .lit (.int .i64 ((readI w).2.1 : Nat)), .lit (.int .i64 ((readI w).2.2 : Nat))] ∧ Fr H nx H' nx' := by
  refine wpP23 _ _ _ _ (by simp) ?_
  unfold s23 readI
  have he := str_eql (.tmp 7) (.const (.string (ByteArray.mk #[92, 101]))) w [92, 101]
  by_cases h0 : w = [92, 101]
  · subst h0
    rw [if_pos rfl]
    simp only [↓wpS_skip, ↓wpS_ops, ↓wpS_seq, ↓wpS_cond, ↓wpS_block, ↓wpS_loop, ↓wpS_exit, ↓wpS_ret, condW_bool, ↓WOps_go, ↓WOps_skip, WOps_nil, stepA, opA, convA, isCall, put?, ev, Tr.get_put, Tr.get_nil, builtinA, callA, argEnv, wantedS, abs_int, abs_bool, abs_string, abs_nilp, abs_nili, abs_nilf, abs_nilm, abs_nils, un_not, List.zipIdx_cons, List.zipIdx_nil, List.foldl_cons, List.foldl_nil, List.map_cons, List.map_nil, List.map_toArray, List.nil_append, List.cons_append, List.append_nil, extractOp, List.getElem?_cons_zero, List.getElem?_cons_succ,
    Option.map_some, Option.map_none, Nat.reduceLT, Nat.reduceEqDiff, Nat.reduceAdd, Nat.zero_add, if_true, if_false, Option.getD_some, Option.getD_none, ↓reduceIte, Bool.false_eq_true, Bool.true_eq_false, reduceCtorEq, resA, resOf, Option.some.injEq, exists_eq_left', beq_self_eq_true, decide_true, decide_false, decide_eq_true_eq, ne_eq, not_true_eq_false, not_false_eq_true, Bool.not_eq_true, beq_iff_eq, bin_add, bin_sub, bin_mul, bin_eql, bin_neq, bin_lss, bin_leq, bin_gtr, bin_geq, maxA, minA, Prod.mk.injEq, and_true, true_and, beq_eq_false_iff_ne, decide_eq_false_iff_not, Bool.true_beq, Bool.false_beq, beq_true, beq_false, Bool.not_true, Bool.not_false, List.getElem?_toArray, lit_nil, lit_e, he]
    exact ⟨rfl, Fr.refl hfr⟩
  · rw [if_neg h0]
    simp only [↓wpS_skip, ↓wpS_ops, ↓wpS_seq, ↓wpS_cond, ↓wpS_block, ↓wpS_loop, ↓wpS_exit, ↓wpS_ret, condW_bool, ↓WOps_go, ↓WOps_skip, WOps_nil, stepA, opA, convA, isCall, put?, ev, Tr.get_put, Tr.get_nil, builtinA, callA, argEnv, wantedS, abs_int, abs_bool, abs_string, abs_nilp, abs_nili, abs_nilf, abs_nilm, abs_nils, un_not, List.zipIdx_cons, List.zipIdx_nil, List.foldl_cons, List.foldl_nil, List.map_cons, List.map_nil, List.map_toArray, List.nil_append, List.cons_append, List.append_nil, extractOp, List.getElem?_cons_zero, List.getElem?_cons_succ,
    Option.map_some, Option.map_none, Nat.reduceLT, Nat.reduceEqDiff, Nat.reduceAdd, Nat.zero_add, if_true, if_false, Option.getD_some, Option.getD_none, ↓reduceIte, Bool.false_eq_true, Bool.true_eq_false, reduceCtorEq, resA, resOf, Option.some.injEq, exists_eq_left', beq_self_eq_true, decide_true, decide_false, decide_eq_true_eq, ne_eq, not_true_eq_false, not_false_eq_true, Bool.not_eq_true, beq_iff_eq, bin_add, bin_sub, bin_mul, bin_eql, bin_neq, bin_lss, bin_leq, bin_gtr, bin_geq, maxA, minA, Prod.mk.injEq, and_true, true_and, beq_eq_false_iff_ne, decide_eq_false_iff_not, Bool.true_beq, Bool.false_beq, beq_true, beq_false, Bool.not_true, Bool.not_false, List.getElem?_toArray, lit_nil, lit_e, he, h0, partsA, bd58, bd60, bx60]
    refine read_l0 (rd_new hfr w) hw ?_ ?_ ?_ ?_
    · simp only [↓wpS_skip, ↓wpS_ops, ↓wpS_seq, ↓wpS_cond, ↓wpS_block, ↓wpS_loop, ↓wpS_exit, ↓wpS_ret, condW_bool, ↓WOps_go, ↓WOps_skip, WOps_nil, stepA, opA, convA, isCall, put?, ev, Tr.get_put, Tr.get_nil, builtinA, callA, argEnv, wantedS, abs_int, abs_bool, abs_string, abs_nilp, abs_nili, abs_nilf, abs_nilm, abs_nils, un_not, List.zipIdx_cons, List.zipIdx_nil, List.foldl_cons, List.foldl_nil, List.map_cons, List.map_nil, List.map_toArray, List.nil_append, List.cons_append, List.append_nil, extractOp, List.getElem?_cons_zero, List.getElem?_cons_succ,
    Option.map_some, Option.map_none, Nat.reduceLT, Nat.reduceEqDiff, Nat.reduceAdd, Nat.zero_add, if_true, if_false, Option.getD_some, Option.getD_none, ↓reduceIte, Bool.false_eq_true, Bool.true_eq_false, reduceCtorEq, resA, resOf, Option.some.injEq, exists_eq_left', beq_self_eq_true, decide_true, decide_false, decide_eq_true_eq, ne_eq, not_true_eq_false, not_false_eq_true, Bool.not_eq_true, beq_iff_eq, bin_add, bin_sub, bin_mul, bin_eql, bin_neq, bin_lss, bin_leq, bin_gtr, bin_geq, maxA, minA, Prod.mk.injEq, and_true, true_and, beq_eq_false_iff_ne, decide_eq_false_iff_not, Bool.true_beq, Bool.false_beq, beq_true, beq_false, Bool.not_true, Bool.not_false, List.getElem?_toArray]
    · simp only [↓wpS_skip, ↓wpS_ops, ↓wpS_seq, ↓wpS_cond, ↓wpS_block, ↓wpS_loop, ↓wpS_exit, ↓wpS_ret, condW_bool, ↓WOps_go, ↓WOps_skip, WOps_nil, stepA, opA, convA, isCall, put?, ev, Tr.get_put, Tr.get_nil, builtinA, callA, argEnv, wantedS, abs_int, abs_bool, abs_string, abs_nilp, abs_nili, abs_nilf, abs_nilm, abs_nils, un_not, List.zipIdx_cons, List.zipIdx_nil, List.foldl_cons, List.foldl_nil, List.map_cons, List.map_nil, List.map_toArray, List.nil_append, List.cons_append, List.append_nil, extractOp, List.getElem?_cons_zero, List.getElem?_cons_succ,
    Option.map_some, Option.map_none, Nat.reduceLT, Nat.reduceEqDiff, Nat.reduceAdd, Nat.zero_add, if_true, if_false, Option.getD_some, Option.getD_none, ↓reduceIte, Bool.false_eq_true, Bool.true_eq_false, reduceCtorEq, resA, resOf, Option.some.injEq, exists_eq_left', beq_self_eq_true, decide_true, decide_false, decide_eq_true_eq, ne_eq, not_true_eq_false, not_false_eq_true, Bool.not_eq_true, beq_iff_eq, bin_add, bin_sub, bin_mul, bin_eql, bin_neq, bin_lss, bin_leq, bin_gtr, bin_geq, maxA, minA, Prod.mk.injEq, and_true, true_and, beq_eq_false_iff_ne, decide_eq_false_iff_not, Bool.true_beq, Bool.false_beq, beq_true, beq_false, Bool.not_true, Bool.not_false, List.getElem?_toArray]
    · intro E' H' nx' cs' s hs hsl hR hnx hold e0 e5
      have he2 := str_eql (.tmp 26) (.const (.string (ByteArray.mk #[]))) w []
      by_cases hn : w = []
      · subst hn
        simp only [↓wpS_skip, ↓wpS_ops, ↓wpS_seq, ↓wpS_cond, ↓wpS_block, ↓wpS_loop, ↓wpS_exit, ↓wpS_ret, condW_bool, ↓WOps_go, ↓WOps_skip, WOps_nil, stepA, opA, convA, isCall, put?, ev, Tr.get_put, Tr.get_nil, builtinA, callA, argEnv, wantedS, abs_int, abs_bool, abs_string, abs_nilp, abs_nili, abs_nilf, abs_nilm, abs_nils, un_not, List.zipIdx_cons, List.zipIdx_nil, List.foldl_cons, List.foldl_nil, List.map_cons, List.map_nil, List.map_toArray, List.nil_append, List.cons_append, List.append_nil, extractOp, List.getElem?_cons_zero, List.getElem?_cons_succ,
    Option.map_some, Option.map_none, Nat.reduceLT, Nat.reduceEqDiff, Nat.reduceAdd, Nat.zero_add, if_true, if_false, Option.getD_some, Option.getD_none, ↓reduceIte, Bool.false_eq_true, Bool.true_eq_false, reduceCtorEq, resA, resOf, Option.some.injEq, exists_eq_left', beq_self_eq_true, decide_true, decide_false, decide_eq_true_eq, ne_eq, not_true_eq_false, not_false_eq_true, Bool.not_eq_true, beq_iff_eq, bin_add, bin_sub, bin_mul, bin_eql, bin_neq, bin_lss, bin_leq, bin_gtr, bin_geq, maxA, minA, Prod.mk.injEq, and_true, true_and, beq_eq_false_iff_ne, decide_eq_false_iff_not, Bool.true_beq, Bool.false_beq, beq_true, beq_false, Bool.not_true, Bool.not_false, List.getElem?_toArray, lit_nil, e0, he2]
        rw [hs]
        simp only [if_true]
        refine ⟨rfl, by omega, fun c hc => ?_, hR.bld.fr⟩
        rw [hold c hc, Tr.get_put_ne _ _ _ _ (by omega)]
      · obtain ⟨H2, k1, k2, k3⟩ := bstr_cl hR.bld (by omega)
        simp only [↓wpS_skip, ↓wpS_ops, ↓wpS_seq, ↓wpS_cond, ↓wpS_block, ↓wpS_loop, ↓wpS_exit, ↓wpS_ret, condW_bool, ↓WOps_go, ↓WOps_skip, WOps_nil, stepA, opA, convA, isCall, put?, ev, Tr.get_put, Tr.get_nil, builtinA, callA, argEnv, wantedS, abs_int, abs_bool, abs_string, abs_nilp, abs_nili, abs_nilf, abs_nilm, abs_nils, un_not, List.zipIdx_cons, List.zipIdx_nil, List.foldl_cons, List.foldl_nil, List.map_cons, List.map_nil, List.map_toArray, List.nil_append, List.cons_append, List.append_nil, extractOp, List.getElem?_cons_zero, List.getElem?_cons_succ,
    Option.map_some, Option.map_none, Nat.reduceLT, Nat.reduceEqDiff, Nat.reduceAdd, Nat.zero_add, if_true, if_false, Option.getD_some, Option.getD_none, ↓reduceIte, Bool.false_eq_true, Bool.true_eq_false, reduceCtorEq, resA, resOf, Option.some.injEq, exists_eq_left', beq_self_eq_true, decide_true, decide_false, decide_eq_true_eq, ne_eq, not_true_eq_false, not_false_eq_true, Bool.not_eq_true, beq_iff_eq, bin_add, bin_sub, bin_mul, bin_eql, bin_neq, bin_lss, bin_leq, bin_gtr, bin_geq, maxA, minA, Prod.mk.injEq, and_true, true_and, beq_eq_false_iff_ne, decide_eq_false_iff_not, Bool.true_beq, Bool.false_beq, beq_true, beq_false, Bool.not_true, Bool.not_false, List.getElem?_toArray, x_none, lit_nil, e0, e5, he2, hn, nc_ptr, fa60_1, k1, str_len]
        rw [hs]
        simp only [if_neg hn]
        refine ⟨rfl, by omega, fun c hc => ?_, k3⟩
        rw [k2 c hc, hold c hc, Tr.get_put_ne _ _ _ _ (by omega)]
    · intro E' H' nx' k hs hnx hold hf e2 e3 e4
      simp only [↓wpS_skip, ↓wpS_ops, ↓wpS_seq, ↓wpS_cond, ↓wpS_block, ↓wpS_loop, ↓wpS_exit, ↓wpS_ret, condW_bool, ↓WOps_go, ↓WOps_skip, WOps_nil, stepA, opA, convA, isCall, put?, ev, Tr.get_put, Tr.get_nil, builtinA, callA, argEnv, wantedS, abs_int, abs_bool, abs_string, abs_nilp, abs_nili, abs_nilf, abs_nilm, abs_nils, un_not, List.zipIdx_cons, List.zipIdx_nil, List.foldl_cons, List.foldl_nil, List.map_cons, List.map_nil, List.map_toArray, List.nil_append, List.cons_append, List.append_nil, extractOp, List.getElem?_cons_zero, List.getElem?_cons_succ,
    Option.map_some, Option.map_none, Nat.reduceLT, Nat.reduceEqDiff, Nat.reduceAdd, Nat.zero_add, if_true, if_false, Option.getD_some, Option.getD_none, ↓reduceIte, Bool.false_eq_true, Bool.true_eq_false, reduceCtorEq, resA, resOf, Option.some.injEq, exists_eq_left', beq_self_eq_true, decide_true, decide_false, decide_eq_true_eq, ne_eq, not_true_eq_false, not_false_eq_true, Bool.not_eq_true, beq_iff_eq, bin_add, bin_sub, bin_mul, bin_eql, bin_neq, bin_lss, bin_leq, bin_gtr, bin_geq, maxA, minA, Prod.mk.injEq, and_true, true_and, beq_eq_false_iff_ne, decide_eq_false_iff_not, Bool.true_beq, Bool.false_beq, beq_true, beq_false, Bool.not_true, Bool.not_false, List.getElem?_toArray, e2, e3, e4]
      rw [hs]
      refine ⟨rfl, by omega, fun c hc => ?_, hf⟩
      rw [hold c hc, Tr.get_put_ne _ _ _ _ (by omega)]
end Seat
end CI
