/- strings.Join with blanks between, walked. -/
import Derived.Test.YtlejcpkedahphaaDoorWe
set_option linter.unusedVariables false
set_option linter.unusedSimpArgs false
set_option maxRecDepth 10000
namespace CI
open Go
namespace Seat
variable {H : Heap} {nx : Nat}
theorem al47 : allocOp cx.T H nx 47 = some (.ptr nx 0, H.put nx (some (.cells [.lit (.pointer none), .lit (.slice none 0 0)] 47 false)), nx + 1) := by kernel_rfl
theorem bld_new (h : ∀ b, nx ≤ b → H.get b = none) : Bld nx (H.put nx (some (.cells [.lit (.pointer none), .lit (.slice none 0 0)] 47 false))) (nx + 1) nx 0 [.lit (.pointer none), .lit (.slice none 0 0)] 47 [] where
  hp := Tr.get_put_same _ _ _
  p0 := Nat.le_refl _
  p1 := by omega
  lies := by kernel_rfl
  self := .inl rfl
  buf := .inl ⟨rfl, rfl⟩
  fr := fun b hb => by rw [Tr.get_put_ne _ _ _ _ (by omega)]; exact h b (by omega)
theorem ix23o {b o n i : Nat} {c : Option Nat} (h : i < n) : indexAddrOp cx.T 23 (.slice b o n c 1) (.lit (.int .i64 i)) = some (.ptr b (o + i)) := by
  unfold indexAddrOp
  simp only [T23, ti23, T9, ti9]
  rw [if_pos ⟨by omega, by omega, trivial⟩]
  simp
theorem ln23 (H : Heap) (b o n : Nat) (c : Option Nat) : lenOp cx.T H 23 (.slice b o n c 1) = some n := by kernel_rfl
theorem sl23f (b n : Nat) (h : 2 ≤ n) : sliceOp cx.P cx.T H 23 (.slice b 0 n (some n) 1) (some (.lit (.int .i64 1))) none none = some (.slice b 1 (n - 1) (some (n - 1)) 1) := by
  unfold sliceOp
  simp only [T23, ti23, T9, ti9]
  have e1 : ∀ k, bnd (some (.lit (.int .i64 1))) k = some 1 := fun _ => rfl
  have e2 : ∀ k, bnd none k = some k := fun _ => rfl
  rw [if_neg (by simp)]
  simp only [e1, e2]
  rw [if_pos ⟨Nat.le_refl _, Nat.le_refl _, by omega, by simp⟩]
  unfold cutTo
  rw [if_neg (by omega)]
section
variable {ws : List (List UInt8)} {QQ : Ex → St → Prop}
def lsum (ws : List (List UInt8)) (k : Nat) : Nat := ((ws.take k).map List.length).sum
theorem lsum_succ {k : Nat} (h : k < ws.length) : lsum ws (k + 1) = lsum ws k + (ws[k]).length := by
  have e : ws.take (k + 1) = ws.take k ++ [ws[k]] := by rw [List.take_add_one, List.getElem?_eq_getElem h]; rfl
  unfold lsum
  rw [e, List.map_append, List.sum_append]
  simp
theorem lsum_le (k : Nat) : lsum ws k ≤ lsum ws ws.length := by
  unfold lsum
  conv => rhs; rw [List.take_length]
  conv => rhs; rw [← List.take_append_drop k ws]
  rw [List.map_append, List.sum_append]
  omega
theorem wds_ld {b i : Nat} (hm : H.get b = some (.cells (ws.map strA) 9 false)) (h : i < ws.length) : loadOp cx.T H 9 (.ptr b i) = some (strA ws[i]) :=
  ld_at (by kernel_rfl) hm (by simp [List.getElem?_map, List.getElem?_eq_getElem h])
/-- What stands while the lengths are summed up. -/
structure JS (b : Nat) (ws : List (List UInt8)) (E : Tr AV) : Prop where
  t0 : E.get 0 = some (.slice b 0 ws.length (some ws.length) 1)
  t1 : E.get 1 = some (.lit (.string (ByteArray.mk #[32])))
theorem js_loop {b : Nat} {E : Tr AV} {base : Nat} (hm : H.get b = some (.cells (ws.map strA) 9 false)) (hn : ws.length ≤ 1000) (hl : lsum ws ws.length ≤ 1000) (hb : base ≤ 1000) (h : JS b ws E)
    (e39 : E.get 39 = some (.slice b 0 ws.length (some ws.length) 1)) (e40 : E.get 40 = some (.lit (.int .i64 ws.length))) (e41 : E.get 41 = some (.lit (.int .i64 ((0 : Nat) : Int)))) (e5 : E.get 5 = some (.lit (.int .i64 base)))
    (hQ : ∀ E', JS b ws E' → E'.get 5 = some (.lit (.int .i64 ((base + lsum ws ws.length : Nat) : Int))) → QQ (.exit 1) ⟨E', H, nx⟩) : Wp cx 75 (.loop s14_l0) ⟨E, H, nx⟩ QQ := by
  refine Wp_loop (fun n st => ∃ i, n = ws.length - i ∧ i ≤ ws.length ∧ st.H = H ∧ st.nx = nx ∧ JS b ws st.env ∧ st.env.get 39 = some (.slice b 0 ws.length (some ws.length) 1) ∧ st.env.get 40 = some (.lit (.int .i64 ws.length)) ∧
    st.env.get 41 = some (.lit (.int .i64 i)) ∧ st.env.get 5 = some (.lit (.int .i64 ((base + lsum ws i : Nat) : Int)))) ?_ ws.length _ ⟨0, by omega, by omega, rfl, rfl, h, e39, e40, e41, by simpa [lsum] using e5⟩
  rintro n ⟨E, H1, nx1⟩ ⟨i, hn1, hi, q1, q2, ⟨e0, e1⟩, e39, e40, e41, e5⟩
  simp only at q1 q2 e0 e1 e39 e40 e41 e5; subst q1; subst q2
  refine Wp_of ?_
  unfold s14_l0
  by_cases hlt : i < ws.length
  · have hls := lsum_succ hlt
    have hle := lsum_le (ws := ws) (i + 1)
    have hii : ((i : Int) < (ws.length : Int)) = True := by simp; omega
    have hix : indexAddrOp cx.T 23 (.slice b 0 ws.length (some ws.length) 1) (.lit (.int .i64 (i : Int))) = some (.ptr b i) := ix23 hlt
    have hw1 : IntKind.i64.wrap (9223372036854775807 - ((base + lsum ws i : Nat) : Int)) = 9223372036854775807 - ((base + lsum ws i : Nat) : Int) := wrapI (by constructor <;> omega)
    have hgt : (((ws[i]).length : Int) > 9223372036854775807 - ((base + lsum ws i : Nat) : Int)) = False := by simp; omega
    have hw2 : IntKind.i64.wrap (((base + lsum ws i : Nat) : Int) + ((ws[i]).length : Int)) = ((base + lsum ws (i + 1) : Nat) : Int) := by rw [wrapI (by constructor <;> omega), hls]; omega
    have hw3 := wrapS (i := i) (by omega)
    simp only [↓wpS_skip, ↓wpS_ops, ↓wpS_seq, ↓wpS_cond, ↓wpS_block, ↓wpS_loop, ↓wpS_exit, ↓wpS_ret, condW_bool, ↓WOps_go, ↓WOps_skip, WOps_nil, stepA, opA, convA, isCall, put?, ev, Tr.get_put, Tr.get_nil, builtinA, callA, argEnv, wantedS, abs_int, abs_bool, abs_string, abs_nilp, abs_nili, abs_nilf, abs_nilm, abs_nils, un_not, z_none, List.zipIdx_cons, List.zipIdx_nil, List.foldl_cons, List.foldl_nil, List.map_cons, List.map_nil, List.map_toArray, List.nil_append, List.cons_append, List.append_nil, extractOp, List.getElem?_cons_zero, List.getElem?_cons_succ,
    Option.map_some, Option.map_none, Nat.reduceLT, Nat.reduceEqDiff, Nat.reduceAdd, Nat.zero_add, if_true, if_false, Option.getD_some, Option.getD_none, ↓reduceIte, Bool.false_eq_true, Bool.true_eq_false, reduceCtorEq, resA, resOf, Option.some.injEq, exists_eq_left', beq_self_eq_true, decide_true, decide_false, decide_eq_true_eq, ne_eq, not_true_eq_false, not_false_eq_true, Bool.not_eq_true, beq_iff_eq, bin_add, bin_sub, bin_mul, bin_eql, bin_neq, bin_lss, bin_leq, bin_gtr, bin_geq, maxA, minA, Prod.mk.injEq, and_true, true_and, beq_eq_false_iff_ne, decide_eq_false_iff_not, Bool.true_beq, Bool.false_beq, beq_true, beq_false, Bool.not_true, Bool.not_false, List.getElem?_toArray, e0, e1, e39, e40, e41, e5, hii, hix, wds_ld hm hlt, str_len, hw1, hgt, hw2, hw3]
    refine ⟨ws.length - (i + 1), by omega, i + 1, rfl, by omega, ?_, rfl, rfl⟩
    constructor <;> simp only [↓wpS_skip, ↓wpS_ops, ↓wpS_seq, ↓wpS_cond, ↓wpS_block, ↓wpS_loop, ↓wpS_exit, ↓wpS_ret, condW_bool, ↓WOps_go, ↓WOps_skip, WOps_nil, stepA, opA, convA, isCall, put?, ev, Tr.get_put, Tr.get_nil, builtinA, callA, argEnv, wantedS, abs_int, abs_bool, abs_string, abs_nilp, abs_nili, abs_nilf, abs_nilm, abs_nils, un_not, z_none, List.zipIdx_cons, List.zipIdx_nil, List.foldl_cons, List.foldl_nil, List.map_cons, List.map_nil, List.map_toArray, List.nil_append, List.cons_append, List.append_nil, extractOp, List.getElem?_cons_zero, List.getElem?_cons_succ,
    Option.map_some, Option.map_none, Nat.reduceLT, Nat.reduceEqDiff, Nat.reduceAdd, Nat.zero_add, if_true, if_false, Option.getD_some, Option.getD_none, ↓reduceIte, Bool.false_eq_true, Bool.true_eq_false, reduceCtorEq, resA, resOf, Option.some.injEq, exists_eq_left', beq_self_eq_true, decide_true, decide_false, decide_eq_true_eq, ne_eq, not_true_eq_false, not_false_eq_true, Bool.not_eq_true, beq_iff_eq, bin_add, bin_sub, bin_mul, bin_eql, bin_neq, bin_lss, bin_leq, bin_gtr, bin_geq, maxA, minA, Prod.mk.injEq, and_true, true_and, beq_eq_false_iff_ne, decide_eq_false_iff_not, Bool.true_beq, Bool.false_beq, beq_true, beq_false, Bool.not_true, Bool.not_false, List.getElem?_toArray, e0, e1]
  · obtain rfl : i = ws.length := by omega
    have hii : ((ws.length : Int) < (ws.length : Int)) = False := by simp
    simp only [↓wpS_skip, ↓wpS_ops, ↓wpS_seq, ↓wpS_cond, ↓wpS_block, ↓wpS_loop, ↓wpS_exit, ↓wpS_ret, condW_bool, ↓WOps_go, ↓WOps_skip, WOps_nil, stepA, opA, convA, isCall, put?, ev, Tr.get_put, Tr.get_nil, builtinA, callA, argEnv, wantedS, abs_int, abs_bool, abs_string, abs_nilp, abs_nili, abs_nilf, abs_nilm, abs_nils, un_not, z_none, List.zipIdx_cons, List.zipIdx_nil, List.foldl_cons, List.foldl_nil, List.map_cons, List.map_nil, List.map_toArray, List.nil_append, List.cons_append, List.append_nil, extractOp, List.getElem?_cons_zero, List.getElem?_cons_succ,
    Option.map_some, Option.map_none, Nat.reduceLT, Nat.reduceEqDiff, Nat.reduceAdd, Nat.zero_add, if_true, if_false, Option.getD_some, Option.getD_none, ↓reduceIte, Bool.false_eq_true, Bool.true_eq_false, reduceCtorEq, resA, resOf, Option.some.injEq, exists_eq_left', beq_self_eq_true, decide_true, decide_false, decide_eq_true_eq, ne_eq, not_true_eq_false, not_false_eq_true, Bool.not_eq_true, beq_iff_eq, bin_add, bin_sub, bin_mul, bin_eql, bin_neq, bin_lss, bin_leq, bin_gtr, bin_geq, maxA, minA, Prod.mk.injEq, and_true, true_and, beq_eq_false_iff_ne, decide_eq_false_iff_not, Bool.true_beq, Bool.false_beq, beq_true, beq_false, Bool.not_true, Bool.not_false, List.getElem?_toArray, e0, e1, e39, e40, e41, e5, hii]
    refine hQ _ ?_ ?_
    · constructor <;> simp only [↓wpS_skip, ↓wpS_ops, ↓wpS_seq, ↓wpS_cond, ↓wpS_block, ↓wpS_loop, ↓wpS_exit, ↓wpS_ret, condW_bool, ↓WOps_go, ↓WOps_skip, WOps_nil, stepA, opA, convA, isCall, put?, ev, Tr.get_put, Tr.get_nil, builtinA, callA, argEnv, wantedS, abs_int, abs_bool, abs_string, abs_nilp, abs_nili, abs_nilf, abs_nilm, abs_nils, un_not, z_none, List.zipIdx_cons, List.zipIdx_nil, List.foldl_cons, List.foldl_nil, List.map_cons, List.map_nil, List.map_toArray, List.nil_append, List.cons_append, List.append_nil, extractOp, List.getElem?_cons_zero, List.getElem?_cons_succ,
    Option.map_some, Option.map_none, Nat.reduceLT, Nat.reduceEqDiff, Nat.reduceAdd, Nat.zero_add, if_true, if_false, Option.getD_some, Option.getD_none, ↓reduceIte, Bool.false_eq_true, Bool.true_eq_false, reduceCtorEq, resA, resOf, Option.some.injEq, exists_eq_left', beq_self_eq_true, decide_true, decide_false, decide_eq_true_eq, ne_eq, not_true_eq_false, not_false_eq_true, Bool.not_eq_true, beq_iff_eq, bin_add, bin_sub, bin_mul, bin_eql, bin_neq, bin_lss, bin_leq, bin_gtr, bin_geq, maxA, minA, Prod.mk.injEq, and_true, true_and, beq_eq_false_iff_ne, decide_eq_false_iff_not, Bool.true_beq, Bool.false_beq, beq_true, beq_false, Bool.not_true, Bool.not_false, List.getElem?_toArray, e0, e1]
    · simp only [↓wpS_skip, ↓wpS_ops, ↓wpS_seq, ↓wpS_cond, ↓wpS_block, ↓wpS_loop, ↓wpS_exit, ↓wpS_ret, condW_bool, ↓WOps_go, ↓WOps_skip, WOps_nil, stepA, opA, convA, isCall, put?, ev, Tr.get_put, Tr.get_nil, builtinA, callA, argEnv, wantedS, abs_int, abs_bool, abs_string, abs_nilp, abs_nili, abs_nilf, abs_nilm, abs_nils, un_not, z_none, List.zipIdx_cons, List.zipIdx_nil, List.foldl_cons, List.foldl_nil, List.map_cons, List.map_nil, List.map_toArray, List.nil_append, List.cons_append, List.append_nil, extractOp, List.getElem?_cons_zero, List.getElem?_cons_succ,
    Option.map_some, Option.map_none, Nat.reduceLT, Nat.reduceEqDiff, Nat.reduceAdd, Nat.zero_add, if_true, if_false, Option.getD_some, Option.getD_none, ↓reduceIte, Bool.false_eq_true, Bool.true_eq_false, reduceCtorEq, resA, resOf, Option.some.injEq, exists_eq_left', beq_self_eq_true, decide_true, decide_false, decide_eq_true_eq, ne_eq, not_true_eq_false, not_false_eq_true, Bool.not_eq_true, beq_iff_eq, bin_add, bin_sub, bin_mul, bin_eql, bin_neq, bin_lss, bin_leq, bin_gtr, bin_geq, maxA, minA, Prod.mk.injEq, and_true, true_and, beq_eq_false_iff_ne, decide_eq_false_iff_not, Bool.true_beq, Bool.false_beq, beq_true, beq_false, Bool.not_true, Bool.not_false, List.getElem?_toArray, e5]
theorem jw_loop {n0 p b : Nat} {cs : List AV} {w : List UInt8} {wt : List (List UInt8)} {E : Tr AV} (hm : H.get b = some (.cells ((w :: wt).map strA) 9 false)) (hbn : b < n0) (hl : (Spl.joi (w :: wt)).length ≤ 1000) (hwt : wt.length ≤ 1000)
    (hb : Bld n0 H nx p 0 cs 47 w) (e1 : E.get 1 = some (.lit (.string (ByteArray.mk #[32])))) (e8 : E.get 8 = some (.ptr p 0)) (e63 : E.get 63 = some (.slice b 1 wt.length (some wt.length) 1)) (e64 : E.get 64 = some (.lit (.int .i64 wt.length)))
    (e65 : E.get 65 = some (.lit (.int .i64 ((0 : Nat) : Int))))
    (hQ : ∀ E' H' nx' cs', E'.get 8 = some (.ptr p 0) → Bld n0 H' nx' p 0 cs' 47 (Spl.joi (w :: wt)) → QQ (.exit 3) ⟨E', H', nx'⟩) : Wp cx 75 (.loop s14_l1) ⟨E, H, nx⟩ QQ := by
  refine Wp_loop (fun n st => ∃ (i : Nat) (cs' : List AV), n = wt.length - i ∧ i ≤ wt.length ∧ Bld n0 st.H st.nx p 0 cs' 47 (w ++ Spl.joiT (wt.take i)) ∧ (∀ c, c < n0 → st.H.get c = H.get c) ∧ st.env.get 1 = some (.lit (.string (ByteArray.mk #[32]))) ∧
    st.env.get 8 = some (.ptr p 0) ∧ st.env.get 63 = some (.slice b 1 wt.length (some wt.length) 1) ∧ st.env.get 64 = some (.lit (.int .i64 wt.length)) ∧ st.env.get 65 = some (.lit (.int .i64 i))) ?_ wt.length _
    ⟨0, cs, by omega, by omega, by simpa [Spl.joiT] using hb, fun _ _ => rfl, e1, e8, e63, e64, e65⟩
  rintro n ⟨E, H1, nx1⟩ ⟨i, cs', hn1, hi, hb, hold, e1, e8, e63, e64, e65⟩
  simp only at hb hold e1 e8 e63 e64 e65
  have hjl : ∀ k, (w ++ Spl.joiT (wt.take k)).length ≤ 1000 := by
    intro k
    have h1 : Spl.joiT wt = Spl.joiT (wt.take k) ++ Spl.joiT (wt.drop k) := by rw [← Spl.joiT_app, List.take_append_drop]
    simp only [Spl.joi, h1, List.length_append] at hl
    rw [List.length_append]; omega
  refine Wp_of ?_
  unfold s14_l1
  by_cases hlt : i < wt.length
  · have hii : ((i : Int) < (wt.length : Int)) = True := by simp; omega
    have hix : indexAddrOp cx.T 23 (.slice b 1 wt.length (some wt.length) 1) (.lit (.int .i64 (i : Int))) = some (.ptr b (1 + i)) := ix23o hlt
    have hm1 : H1.get b = some (.cells ((w :: wt).map strA) 9 false) := (hold b hbn).trans hm
    have hld := wds_ld (ws := w :: wt) (i := 1 + i) hm1 (by simp; omega)
    have hwi : (w :: wt)[1 + i]'(by simp; omega) = wt[i] := by
      have : ∀ (j : Nat) (h : j < (w :: wt).length), j = i + 1 → (w :: wt)[j] = wt[i] := by
        rintro j h rfl; rfl
      exact this _ _ (by omega)
    rw [hwi] at hld
    have hw3 := wrapS (i := i) (by omega)
    have hj1 := hjl i
    have hj2 := hjl (i + 1)
    have hts : wt.take (i + 1) = wt.take i ++ [wt[i]] := by rw [List.take_add_one, List.getElem?_eq_getElem hlt]; rfl
    have hjs : w ++ Spl.joiT (wt.take (i + 1)) = w ++ Spl.joiT (wt.take i) ++ [32] ++ wt[i] := by
      rw [hts, Spl.joiT_app]; simp [Spl.joiT]
    rw [hjs] at hj2
    obtain ⟨H2, nx2, cs2, a1, a2, a3, a4, a5, a6⟩ := ws_cl hb [32] (by simp only [List.length_cons, List.length_nil]; omega)
    obtain ⟨H3, nx3, cs3, b1, b2, b3, b4, b5, b6⟩ := ws_cl a2 wt[i] (by simp only [List.length_append] at hj2 ⊢; omega)
    have ha1 : Cl cx 22 [.ptr p 0, .lit (.string (ByteArray.mk #[32]))] H1 nx1 = some (.tuple [.lit (.int .i64 (1 : Nat)), .lit .nilIface], H2, nx2) := a1
    simp only [↓wpS_skip, ↓wpS_ops, ↓wpS_seq, ↓wpS_cond, ↓wpS_block, ↓wpS_loop, ↓wpS_exit, ↓wpS_ret, condW_bool, ↓WOps_go, ↓WOps_skip, WOps_nil, stepA, opA, convA, isCall, put?, ev, Tr.get_put, Tr.get_nil, builtinA, callA, argEnv, wantedS, abs_int, abs_bool, abs_string, abs_nilp, abs_nili, abs_nilf, abs_nilm, abs_nils, un_not, z_none, List.zipIdx_cons, List.zipIdx_nil, List.foldl_cons, List.foldl_nil, List.map_cons, List.map_nil, List.map_toArray, List.nil_append, List.cons_append, List.append_nil, extractOp, List.getElem?_cons_zero, List.getElem?_cons_succ,
    Option.map_some, Option.map_none, Nat.reduceLT, Nat.reduceEqDiff, Nat.reduceAdd, Nat.zero_add, if_true, if_false, Option.getD_some, Option.getD_none, ↓reduceIte, Bool.false_eq_true, Bool.true_eq_false, reduceCtorEq, resA, resOf, Option.some.injEq, exists_eq_left', beq_self_eq_true, decide_true, decide_false, decide_eq_true_eq, ne_eq, not_true_eq_false, not_false_eq_true, Bool.not_eq_true, beq_iff_eq, bin_add, bin_sub, bin_mul, bin_eql, bin_neq, bin_lss, bin_leq, bin_gtr, bin_geq, maxA, minA, Prod.mk.injEq, and_true, true_and, beq_eq_false_iff_ne, decide_eq_false_iff_not, Bool.true_beq, Bool.false_beq, beq_true, beq_false, Bool.not_true, Bool.not_false, List.getElem?_toArray, x_none, e1, e8, e63, e64, e65, hii, hix, hld, ha1, b1, hw3]
    refine ⟨wt.length - (i + 1), by omega, i + 1, cs3, rfl, by omega, ?_, fun c hc => ?_, rfl⟩
    · rw [hjs]; exact b2
    · rw [b6 c hc, a6 c hc, hold c hc]
  · obtain rfl : i = wt.length := by omega
    have hii : ((wt.length : Int) < (wt.length : Int)) = False := by simp
    simp only [↓wpS_skip, ↓wpS_ops, ↓wpS_seq, ↓wpS_cond, ↓wpS_block, ↓wpS_loop, ↓wpS_exit, ↓wpS_ret, condW_bool, ↓WOps_go, ↓WOps_skip, WOps_nil, stepA, opA, convA, isCall, put?, ev, Tr.get_put, Tr.get_nil, builtinA, callA, argEnv, wantedS, abs_int, abs_bool, abs_string, abs_nilp, abs_nili, abs_nilf, abs_nilm, abs_nils, un_not, z_none, List.zipIdx_cons, List.zipIdx_nil, List.foldl_cons, List.foldl_nil, List.map_cons, List.map_nil, List.map_toArray, List.nil_append, List.cons_append, List.append_nil, extractOp, List.getElem?_cons_zero, List.getElem?_cons_succ,
    Option.map_some, Option.map_none, Nat.reduceLT, Nat.reduceEqDiff, Nat.reduceAdd, Nat.zero_add, if_true, if_false, Option.getD_some, Option.getD_none, ↓reduceIte, Bool.false_eq_true, Bool.true_eq_false, reduceCtorEq, resA, resOf, Option.some.injEq, exists_eq_left', beq_self_eq_true, decide_true, decide_false, decide_eq_true_eq, ne_eq, not_true_eq_false, not_false_eq_true, Bool.not_eq_true, beq_iff_eq, bin_add, bin_sub, bin_mul, bin_eql, bin_neq, bin_lss, bin_leq, bin_gtr, bin_geq, maxA, minA, Prod.mk.injEq, and_true, true_and, beq_eq_false_iff_ne, decide_eq_false_iff_not, Bool.true_beq, Bool.false_beq, beq_true, beq_false, Bool.not_true, Bool.not_false, List.getElem?_toArray, e1, e8, e63, e64, e65, hii]
    refine hQ _ _ _ cs' ?_ ?_
    · simp only [↓wpS_skip, ↓wpS_ops, ↓wpS_seq, ↓wpS_cond, ↓wpS_block, ↓wpS_loop, ↓wpS_exit, ↓wpS_ret, condW_bool, ↓WOps_go, ↓WOps_skip, WOps_nil, stepA, opA, convA, isCall, put?, ev, Tr.get_put, Tr.get_nil, builtinA, callA, argEnv, wantedS, abs_int, abs_bool, abs_string, abs_nilp, abs_nili, abs_nilf, abs_nilm, abs_nils, un_not, z_none, List.zipIdx_cons, List.zipIdx_nil, List.foldl_cons, List.foldl_nil, List.map_cons, List.map_nil, List.map_toArray, List.nil_append, List.cons_append, List.append_nil, extractOp, List.getElem?_cons_zero, List.getElem?_cons_succ,
    Option.map_some, Option.map_none, Nat.reduceLT, Nat.reduceEqDiff, Nat.reduceAdd, Nat.zero_add, if_true, if_false, Option.getD_some, Option.getD_none, ↓reduceIte, Bool.false_eq_true, Bool.true_eq_false, reduceCtorEq, resA, resOf, Option.some.injEq, exists_eq_left', beq_self_eq_true, decide_true, decide_false, decide_eq_true_eq, ne_eq, not_true_eq_false, not_false_eq_true, Bool.not_eq_true, beq_iff_eq, bin_add, bin_sub, bin_mul, bin_eql, bin_neq, bin_lss, bin_leq, bin_gtr, bin_geq, maxA, minA, Prod.mk.injEq, and_true, true_and, beq_eq_false_iff_ne, decide_eq_false_iff_not, Bool.true_beq, Bool.false_beq, beq_true, beq_false, Bool.not_true, Bool.not_false, List.getElem?_toArray, e8]
    · rw [List.take_length] at hb; exact hb
end
theorem join_cl {b : Nat} {w : List UInt8} {wt : List (List UInt8)} (hm : H.get b = some (.cells ((w :: wt).map strA) 9 false)) (hb : b < nx) (hfr : ∀ c, nx ≤ c → H.get c = none) (hwt : wt.length ≤ 999) (hl : (Spl.joi (w :: wt)).length ≤ 1000) :
    ∃ v H' nx', Cl cx 14 [.slice b 0 (wt.length + 1) (some (wt.length + 1)) 1, .lit (.string (ByteArray.mk #[32]))] H nx = some (v, H', nx') ∧ v = strA (Spl.joi (w :: wt)) := by
  refine wpP14 _ _ _ _ (by simp) ?_
  unfold s14
  have e0 : (((wt.length + 1 : Nat) : Int) = 0) = False := by simp; omega
  have hix0 : indexAddrOp cx.T 23 (.slice b 0 (wt.length + 1) (some (wt.length + 1)) 1) (.lit (.int .i64 0)) = some (.ptr b 0) := by
    have := ix23 (b := b) (n := wt.length + 1) (i := 0) (c := some (wt.length + 1)) (by omega)
    exact this
  have hld0 : loadOp cx.T H 9 (.ptr b 0) = some (strA w) := wds_ld (ws := w :: wt) (i := 0) hm (by simp)
  by_cases h1 : wt = []
  · subst h1
    have e1 : (((([] : List (List UInt8)).length + 1 : Nat) : Int) = 1) = True := by simp
    have hld0' := hld0
    simp only [↓wpS_skip, ↓wpS_ops, ↓wpS_seq, ↓wpS_cond, ↓wpS_block, ↓wpS_loop, ↓wpS_exit, ↓wpS_ret, condW_bool, ↓WOps_go, ↓WOps_skip, WOps_nil, stepA, opA, convA, isCall, put?, ev, Tr.get_put, Tr.get_nil, builtinA, callA, argEnv, wantedS, abs_int, abs_bool, abs_string, abs_nilp, abs_nili, abs_nilf, abs_nilm, abs_nils, un_not, z_none, List.zipIdx_cons, List.zipIdx_nil, List.foldl_cons, List.foldl_nil, List.map_cons, List.map_nil, List.map_toArray, List.nil_append, List.cons_append, List.append_nil, extractOp, List.getElem?_cons_zero, List.getElem?_cons_succ,
    Option.map_some, Option.map_none, Nat.reduceLT, Nat.reduceEqDiff, Nat.reduceAdd, Nat.zero_add, if_true, if_false, Option.getD_some, Option.getD_none, ↓reduceIte, Bool.false_eq_true, Bool.true_eq_false, reduceCtorEq, resA, resOf, Option.some.injEq, exists_eq_left', beq_self_eq_true, decide_true, decide_false, decide_eq_true_eq, ne_eq, not_true_eq_false, not_false_eq_true, Bool.not_eq_true, beq_iff_eq, bin_add, bin_sub, bin_mul, bin_eql, bin_neq, bin_lss, bin_leq, bin_gtr, bin_geq, maxA, minA, Prod.mk.injEq, and_true, true_and, beq_eq_false_iff_ne, decide_eq_false_iff_not, Bool.true_beq, Bool.false_beq, beq_true, beq_false, Bool.not_true, Bool.not_false, List.getElem?_toArray, ln23, e0, e1, hix0, hld0]
    simp [Spl.joi, Spl.joiT]
  · have hpos : 1 ≤ wt.length := List.length_pos_iff.2 h1
    have e1 : (((wt.length + 1 : Nat) : Int) = 1) = False := by simp; omega
    have e2 : (((1 : Nat) : Int) > 0) = True := by simp
    have hw1 : IntKind.i64.wrap (((wt.length + 1 : Nat) : Int) - 1) = (wt.length : Int) := wrapP (by omega)
    have hq : binOpA cx.P cx.T .quo 3 (.const (.int .i64 9223372036854775807)) (.tmp 27) (.lit (.int .i64 9223372036854775807)) (.lit (.int .i64 (wt.length : Int))) = some (.lit (.int .i64 (9223372036854775807 / (wt.length : Int)))) := by
      have hd : (9223372036854775807 : Int) / (wt.length : Int) ≤ 9223372036854775807 := Int.ediv_le_self _ (by omega)
      have hd0 : 0 ≤ (9223372036854775807 : Int) / (wt.length : Int) := Int.ediv_nonneg (by omega) (by omega)
      rw [bin_quo _ _ _ _ _ _ _ _ (by omega), Int.tdiv_eq_ediv_of_nonneg (by omega), wrapI (by constructor <;> omega)]
    have hge : ((((1 : Nat) : Int)) ≥ 9223372036854775807 / (wt.length : Int)) = False := by
      simp only [eq_iff_iff, iff_false, ge_iff_le, Int.not_le]
      have : (2 : Int) ≤ 9223372036854775807 / (wt.length : Int) := (Int.le_ediv_iff_mul_le (by omega)).2 (by omega)
      omega
    have hw2 : IntKind.i64.wrap (((1 : Nat) : Int) * (wt.length : Int)) = (wt.length : Int) := by rw [wrapI (by constructor <;> omega)]; omega
    have hw3 : IntKind.i64.wrap (0 + (wt.length : Int)) = (wt.length : Int) := by rw [wrapI (by constructor <;> omega)]; omega
    have hjl := Spl.joi_len (w :: wt)
    have hls : lsum (w :: wt) (w :: wt).length = ((w :: wt).map List.length).sum := by unfold lsum; rw [List.take_length]
    simp only [↓wpS_skip, ↓wpS_ops, ↓wpS_seq, ↓wpS_cond, ↓wpS_block, ↓wpS_loop, ↓wpS_exit, ↓wpS_ret, condW_bool, ↓WOps_go, ↓WOps_skip, WOps_nil, stepA, opA, convA, isCall, put?, ev, Tr.get_put, Tr.get_nil, builtinA, callA, argEnv, wantedS, abs_int, abs_bool, abs_string, abs_nilp, abs_nili, abs_nilf, abs_nilm, abs_nils, un_not, z_none, List.zipIdx_cons, List.zipIdx_nil, List.foldl_cons, List.foldl_nil, List.map_cons, List.map_nil, List.map_toArray, List.nil_append, List.cons_append, List.append_nil, extractOp, List.getElem?_cons_zero, List.getElem?_cons_succ,
    Option.map_some, Option.map_none, Nat.reduceLT, Nat.reduceEqDiff, Nat.reduceAdd, Nat.zero_add, if_true, if_false, Option.getD_some, Option.getD_none, ↓reduceIte, Bool.false_eq_true, Bool.true_eq_false, reduceCtorEq, resA, resOf, Option.some.injEq, exists_eq_left', beq_self_eq_true, decide_true, decide_false, decide_eq_true_eq, ne_eq, not_true_eq_false, not_false_eq_true, Bool.not_eq_true, beq_iff_eq, bin_add, bin_sub, bin_mul, bin_eql, bin_neq, bin_lss, bin_leq, bin_gtr, bin_geq, maxA, minA, Prod.mk.injEq, and_true, true_and, beq_eq_false_iff_ne, decide_eq_false_iff_not, Bool.true_beq, Bool.false_beq, beq_true, beq_false, Bool.not_true, Bool.not_false, List.getElem?_toArray, ln23, sep_len, e0, e1, e2, hw1, hq, hge, hw2, hw3]
    have hsum : wt.length + lsum (w :: wt) (w :: wt).length = (Spl.joi (w :: wt)).length := by rw [hls, hjl]; simp only [List.length_cons]; omega
    refine js_loop (ws := w :: wt) (base := wt.length) hm (by simp only [List.length_cons]; omega) (by omega) (by omega) ?_ ?_ ?_ ?_ ?_ ?_
    · constructor <;> simp only [↓wpS_skip, ↓wpS_ops, ↓wpS_seq, ↓wpS_cond, ↓wpS_block, ↓wpS_loop, ↓wpS_exit, ↓wpS_ret, condW_bool, ↓WOps_go, ↓WOps_skip, WOps_nil, stepA, opA, convA, isCall, put?, ev, Tr.get_put, Tr.get_nil, builtinA, callA, argEnv, wantedS, abs_int, abs_bool, abs_string, abs_nilp, abs_nili, abs_nilf, abs_nilm, abs_nils, un_not, z_none, List.zipIdx_cons, List.zipIdx_nil, List.foldl_cons, List.foldl_nil, List.map_cons, List.map_nil, List.map_toArray, List.nil_append, List.cons_append, List.append_nil, extractOp, List.getElem?_cons_zero, List.getElem?_cons_succ,
    Option.map_some, Option.map_none, Nat.reduceLT, Nat.reduceEqDiff, Nat.reduceAdd, Nat.zero_add, if_true, if_false, Option.getD_some, Option.getD_none, ↓reduceIte, Bool.false_eq_true, Bool.true_eq_false, reduceCtorEq, resA, resOf, Option.some.injEq, exists_eq_left', beq_self_eq_true, decide_true, decide_false, decide_eq_true_eq, ne_eq, not_true_eq_false, not_false_eq_true, Bool.not_eq_true, beq_iff_eq, bin_add, bin_sub, bin_mul, bin_eql, bin_neq, bin_lss, bin_leq, bin_gtr, bin_geq, maxA, minA, Prod.mk.injEq, and_true, true_and, beq_eq_false_iff_ne, decide_eq_false_iff_not, Bool.true_beq, Bool.false_beq, beq_true, beq_false, Bool.not_true, Bool.not_false, List.getElem?_toArray, List.length_cons]
    · simp only [↓wpS_skip, ↓wpS_ops, ↓wpS_seq, ↓wpS_cond, ↓wpS_block, ↓wpS_loop, ↓wpS_exit, ↓wpS_ret, condW_bool, ↓WOps_go, ↓WOps_skip, WOps_nil, stepA, opA, convA, isCall, put?, ev, Tr.get_put, Tr.get_nil, builtinA, callA, argEnv, wantedS, abs_int, abs_bool, abs_string, abs_nilp, abs_nili, abs_nilf, abs_nilm, abs_nils, un_not, z_none, List.zipIdx_cons, List.zipIdx_nil, List.foldl_cons, List.foldl_nil, List.map_cons, List.map_nil, List.map_toArray, List.nil_append, List.cons_append, List.append_nil, extractOp, List.getElem?_cons_zero, List.getElem?_cons_succ,
    Option.map_some, Option.map_none, Nat.reduceLT, Nat.reduceEqDiff, Nat.reduceAdd, Nat.zero_add, if_true, if_false, Option.getD_some, Option.getD_none, ↓reduceIte, Bool.false_eq_true, Bool.true_eq_false, reduceCtorEq, resA, resOf, Option.some.injEq, exists_eq_left', beq_self_eq_true, decide_true, decide_false, decide_eq_true_eq, ne_eq, not_true_eq_false, not_false_eq_true, Bool.not_eq_true, beq_iff_eq, bin_add, bin_sub, bin_mul, bin_eql, bin_neq, bin_lss, bin_leq, bin_gtr, bin_geq, maxA, minA, Prod.mk.injEq, and_true, true_and, beq_eq_false_iff_ne, decide_eq_false_iff_not, Bool.true_beq, Bool.false_beq, beq_true, beq_false, Bool.not_true, Bool.not_false, List.getElem?_toArray, List.length_cons]
    · simp only [↓wpS_skip, ↓wpS_ops, ↓wpS_seq, ↓wpS_cond, ↓wpS_block, ↓wpS_loop, ↓wpS_exit, ↓wpS_ret, condW_bool, ↓WOps_go, ↓WOps_skip, WOps_nil, stepA, opA, convA, isCall, put?, ev, Tr.get_put, Tr.get_nil, builtinA, callA, argEnv, wantedS, abs_int, abs_bool, abs_string, abs_nilp, abs_nili, abs_nilf, abs_nilm, abs_nils, un_not, z_none, List.zipIdx_cons, List.zipIdx_nil, List.foldl_cons, List.foldl_nil, List.map_cons, List.map_nil, List.map_toArray, List.nil_append, List.cons_append, List.append_nil, extractOp, List.getElem?_cons_zero, List.getElem?_cons_succ,
    Option.map_some, Option.map_none, Nat.reduceLT, Nat.reduceEqDiff, Nat.reduceAdd, Nat.zero_add, if_true, if_false, Option.getD_some, Option.getD_none, ↓reduceIte, Bool.false_eq_true, Bool.true_eq_false, reduceCtorEq, resA, resOf, Option.some.injEq, exists_eq_left', beq_self_eq_true, decide_true, decide_false, decide_eq_true_eq, ne_eq, not_true_eq_false, not_false_eq_true, Bool.not_eq_true, beq_iff_eq, bin_add, bin_sub, bin_mul, bin_eql, bin_neq, bin_lss, bin_leq, bin_gtr, bin_geq, maxA, minA, Prod.mk.injEq, and_true, true_and, beq_eq_false_iff_ne, decide_eq_false_iff_not, Bool.true_beq, Bool.false_beq, beq_true, beq_false, Bool.not_true, Bool.not_false, List.getElem?_toArray, List.length_cons]
    · simp only [↓wpS_skip, ↓wpS_ops, ↓wpS_seq, ↓wpS_cond, ↓wpS_block, ↓wpS_loop, ↓wpS_exit, ↓wpS_ret, condW_bool, ↓WOps_go, ↓WOps_skip, WOps_nil, stepA, opA, convA, isCall, put?, ev, Tr.get_put, Tr.get_nil, builtinA, callA, argEnv, wantedS, abs_int, abs_bool, abs_string, abs_nilp, abs_nili, abs_nilf, abs_nilm, abs_nils, un_not, z_none, List.zipIdx_cons, List.zipIdx_nil, List.foldl_cons, List.foldl_nil, List.map_cons, List.map_nil, List.map_toArray, List.nil_append, List.cons_append, List.append_nil, extractOp, List.getElem?_cons_zero, List.getElem?_cons_succ,
    Option.map_some, Option.map_none, Nat.reduceLT, Nat.reduceEqDiff, Nat.reduceAdd, Nat.zero_add, if_true, if_false, Option.getD_some, Option.getD_none, ↓reduceIte, Bool.false_eq_true, Bool.true_eq_false, reduceCtorEq, resA, resOf, Option.some.injEq, exists_eq_left', beq_self_eq_true, decide_true, decide_false, decide_eq_true_eq, ne_eq, not_true_eq_false, not_false_eq_true, Bool.not_eq_true, beq_iff_eq, bin_add, bin_sub, bin_mul, bin_eql, bin_neq, bin_lss, bin_leq, bin_gtr, bin_geq, maxA, minA, Prod.mk.injEq, and_true, true_and, beq_eq_false_iff_ne, decide_eq_false_iff_not, Bool.true_beq, Bool.false_beq, beq_true, beq_false, Bool.not_true, Bool.not_false, List.getElem?_toArray]; rfl
    · simp only [↓wpS_skip, ↓wpS_ops, ↓wpS_seq, ↓wpS_cond, ↓wpS_block, ↓wpS_loop, ↓wpS_exit, ↓wpS_ret, condW_bool, ↓WOps_go, ↓WOps_skip, WOps_nil, stepA, opA, convA, isCall, put?, ev, Tr.get_put, Tr.get_nil, builtinA, callA, argEnv, wantedS, abs_int, abs_bool, abs_string, abs_nilp, abs_nili, abs_nilf, abs_nilm, abs_nils, un_not, z_none, List.zipIdx_cons, List.zipIdx_nil, List.foldl_cons, List.foldl_nil, List.map_cons, List.map_nil, List.map_toArray, List.nil_append, List.cons_append, List.append_nil, extractOp, List.getElem?_cons_zero, List.getElem?_cons_succ,
    Option.map_some, Option.map_none, Nat.reduceLT, Nat.reduceEqDiff, Nat.reduceAdd, Nat.zero_add, if_true, if_false, Option.getD_some, Option.getD_none, ↓reduceIte, Bool.false_eq_true, Bool.true_eq_false, reduceCtorEq, resA, resOf, Option.some.injEq, exists_eq_left', beq_self_eq_true, decide_true, decide_false, decide_eq_true_eq, ne_eq, not_true_eq_false, not_false_eq_true, Bool.not_eq_true, beq_iff_eq, bin_add, bin_sub, bin_mul, bin_eql, bin_neq, bin_lss, bin_leq, bin_gtr, bin_geq, maxA, minA, Prod.mk.injEq, and_true, true_and, beq_eq_false_iff_ne, decide_eq_false_iff_not, Bool.true_beq, Bool.false_beq, beq_true, beq_false, Bool.not_true, Bool.not_false, List.getElem?_toArray]
    · rintro E' ⟨e0', e1'⟩ e5
      rw [hsum] at e5
      obtain ⟨H2, nx2, cs2, g1, g2, g3, g4, g5⟩ := Grow_cl (bld_new hfr) rfl (Spl.joi (w :: wt)).length (by omega) (by omega)
      obtain ⟨H3, nx3, cs3, k1, k2, k3, k4, k5, k6⟩ := ws_cl g2 w (by have := hl; simp only [Spl.joi, List.length_append, List.length_nil] at this ⊢; omega)
      have hm2 : H2.get b = some (.cells ((w :: wt).map strA) 9 false) := by
        rw [g5 b hb, Tr.get_put_ne _ _ _ _ (by omega)]; exact hm
      have hm3 : H3.get b = some (.cells ((w :: wt).map strA) 9 false) := by rw [k6 b hb]; exact hm2
      have hld2 : loadOp cx.T H2 9 (.ptr b 0) = some (strA w) := wds_ld (ws := w :: wt) (i := 0) hm2 (by simp)
      have hsl : sliceOp cx.P cx.T H3 23 (.slice b 0 (wt.length + 1) (some (wt.length + 1)) 1) (some (.lit (.int .i64 1))) none none = some (.slice b 1 wt.length (some wt.length) 1) := sl23f b (wt.length + 1) (by omega)
      simp only [List.length_cons] at e0'
      simp only [↓wpS_skip, ↓wpS_ops, ↓wpS_seq, ↓wpS_cond, ↓wpS_block, ↓wpS_loop, ↓wpS_exit, ↓wpS_ret, condW_bool, ↓WOps_go, ↓WOps_skip, WOps_nil, stepA, opA, convA, isCall, put?, ev, Tr.get_put, Tr.get_nil, builtinA, callA, argEnv, wantedS, abs_int, abs_bool, abs_string, abs_nilp, abs_nili, abs_nilf, abs_nilm, abs_nils, un_not, z_none, List.zipIdx_cons, List.zipIdx_nil, List.foldl_cons, List.foldl_nil, List.map_cons, List.map_nil, List.map_toArray, List.nil_append, List.cons_append, List.append_nil, extractOp, List.getElem?_cons_zero, List.getElem?_cons_succ,
    Option.map_some, Option.map_none, Nat.reduceLT, Nat.reduceEqDiff, Nat.reduceAdd, Nat.zero_add, if_true, if_false, Option.getD_some, Option.getD_none, ↓reduceIte, Bool.false_eq_true, Bool.true_eq_false, reduceCtorEq, resA, resOf, Option.some.injEq, exists_eq_left', beq_self_eq_true, decide_true, decide_false, decide_eq_true_eq, ne_eq, not_true_eq_false, not_false_eq_true, Bool.not_eq_true, beq_iff_eq, bin_add, bin_sub, bin_mul, bin_eql, bin_neq, bin_lss, bin_leq, bin_gtr, bin_geq, maxA, minA, Prod.mk.injEq, and_true, true_and, beq_eq_false_iff_ne, decide_eq_false_iff_not, Bool.true_beq, Bool.false_beq, beq_true, beq_false, Bool.not_true, Bool.not_false, List.getElem?_toArray, e0', e1', e5, al47, g1, x_none, hix0, hld2, k1, hsl, ln23]
      refine jw_loop (w := w) (wt := wt) (n0 := nx) (p := nx) (b := b) hm3 hb hl (by omega) (by simpa using k2) ?_ ?_ ?_ ?_ ?_ ?_
      · simp only [↓wpS_skip, ↓wpS_ops, ↓wpS_seq, ↓wpS_cond, ↓wpS_block, ↓wpS_loop, ↓wpS_exit, ↓wpS_ret, condW_bool, ↓WOps_go, ↓WOps_skip, WOps_nil, stepA, opA, convA, isCall, put?, ev, Tr.get_put, Tr.get_nil, builtinA, callA, argEnv, wantedS, abs_int, abs_bool, abs_string, abs_nilp, abs_nili, abs_nilf, abs_nilm, abs_nils, un_not, z_none, List.zipIdx_cons, List.zipIdx_nil, List.foldl_cons, List.foldl_nil, List.map_cons, List.map_nil, List.map_toArray, List.nil_append, List.cons_append, List.append_nil, extractOp, List.getElem?_cons_zero, List.getElem?_cons_succ,
    Option.map_some, Option.map_none, Nat.reduceLT, Nat.reduceEqDiff, Nat.reduceAdd, Nat.zero_add, if_true, if_false, Option.getD_some, Option.getD_none, ↓reduceIte, Bool.false_eq_true, Bool.true_eq_false, reduceCtorEq, resA, resOf, Option.some.injEq, exists_eq_left', beq_self_eq_true, decide_true, decide_false, decide_eq_true_eq, ne_eq, not_true_eq_false, not_false_eq_true, Bool.not_eq_true, beq_iff_eq, bin_add, bin_sub, bin_mul, bin_eql, bin_neq, bin_lss, bin_leq, bin_gtr, bin_geq, maxA, minA, Prod.mk.injEq, and_true, true_and, beq_eq_false_iff_ne, decide_eq_false_iff_not, Bool.true_beq, Bool.false_beq, beq_true, beq_false, Bool.not_true, Bool.not_false, List.getElem?_toArray, e1']
      · simp only [↓wpS_skip, ↓wpS_ops, ↓wpS_seq, ↓wpS_cond, ↓wpS_block, ↓wpS_loop, ↓wpS_exit, ↓wpS_ret, condW_bool, ↓WOps_go, ↓WOps_skip, WOps_nil, stepA, opA, convA, isCall, put?, ev, Tr.get_put, Tr.get_nil, builtinA, callA, argEnv, wantedS, abs_int, abs_bool, abs_string, abs_nilp, abs_nili, abs_nilf, abs_nilm, abs_nils, un_not, z_none, List.zipIdx_cons, List.zipIdx_nil, List.foldl_cons, List.foldl_nil, List.map_cons, List.map_nil, List.map_toArray, List.nil_append, List.cons_append, List.append_nil, extractOp, List.getElem?_cons_zero, List.getElem?_cons_succ,
    Option.map_some, Option.map_none, Nat.reduceLT, Nat.reduceEqDiff, Nat.reduceAdd, Nat.zero_add, if_true, if_false, Option.getD_some, Option.getD_none, ↓reduceIte, Bool.false_eq_true, Bool.true_eq_false, reduceCtorEq, resA, resOf, Option.some.injEq, exists_eq_left', beq_self_eq_true, decide_true, decide_false, decide_eq_true_eq, ne_eq, not_true_eq_false, not_false_eq_true, Bool.not_eq_true, beq_iff_eq, bin_add, bin_sub, bin_mul, bin_eql, bin_neq, bin_lss, bin_leq, bin_gtr, bin_geq, maxA, minA, Prod.mk.injEq, and_true, true_and, beq_eq_false_iff_ne, decide_eq_false_iff_not, Bool.true_beq, Bool.false_beq, beq_true, beq_false, Bool.not_true, Bool.not_false, List.getElem?_toArray]
      · simp only [↓wpS_skip, ↓wpS_ops, ↓wpS_seq, ↓wpS_cond, ↓wpS_block, ↓wpS_loop, ↓wpS_exit, ↓wpS_ret, condW_bool, ↓WOps_go, ↓WOps_skip, WOps_nil, stepA, opA, convA, isCall, put?, ev, Tr.get_put, Tr.get_nil, builtinA, callA, argEnv, wantedS, abs_int, abs_bool, abs_string, abs_nilp, abs_nili, abs_nilf, abs_nilm, abs_nils, un_not, z_none, List.zipIdx_cons, List.zipIdx_nil, List.foldl_cons, List.foldl_nil, List.map_cons, List.map_nil, List.map_toArray, List.nil_append, List.cons_append, List.append_nil, extractOp, List.getElem?_cons_zero, List.getElem?_cons_succ,
    Option.map_some, Option.map_none, Nat.reduceLT, Nat.reduceEqDiff, Nat.reduceAdd, Nat.zero_add, if_true, if_false, Option.getD_some, Option.getD_none, ↓reduceIte, Bool.false_eq_true, Bool.true_eq_false, reduceCtorEq, resA, resOf, Option.some.injEq, exists_eq_left', beq_self_eq_true, decide_true, decide_false, decide_eq_true_eq, ne_eq, not_true_eq_false, not_false_eq_true, Bool.not_eq_true, beq_iff_eq, bin_add, bin_sub, bin_mul, bin_eql, bin_neq, bin_lss, bin_leq, bin_gtr, bin_geq, maxA, minA, Prod.mk.injEq, and_true, true_and, beq_eq_false_iff_ne, decide_eq_false_iff_not, Bool.true_beq, Bool.false_beq, beq_true, beq_false, Bool.not_true, Bool.not_false, List.getElem?_toArray]
      · simp only [↓wpS_skip, ↓wpS_ops, ↓wpS_seq, ↓wpS_cond, ↓wpS_block, ↓wpS_loop, ↓wpS_exit, ↓wpS_ret, condW_bool, ↓WOps_go, ↓WOps_skip, WOps_nil, stepA, opA, convA, isCall, put?, ev, Tr.get_put, Tr.get_nil, builtinA, callA, argEnv, wantedS, abs_int, abs_bool, abs_string, abs_nilp, abs_nili, abs_nilf, abs_nilm, abs_nils, un_not, z_none, List.zipIdx_cons, List.zipIdx_nil, List.foldl_cons, List.foldl_nil, List.map_cons, List.map_nil, List.map_toArray, List.nil_append, List.cons_append, List.append_nil, extractOp, List.getElem?_cons_zero, List.getElem?_cons_succ,
    Option.map_some, Option.map_none, Nat.reduceLT, Nat.reduceEqDiff, Nat.reduceAdd, Nat.zero_add, if_true, if_false, Option.getD_some, Option.getD_none, ↓reduceIte, Bool.false_eq_true, Bool.true_eq_false, reduceCtorEq, resA, resOf, Option.some.injEq, exists_eq_left', beq_self_eq_true, decide_true, decide_false, decide_eq_true_eq, ne_eq, not_true_eq_false, not_false_eq_true, Bool.not_eq_true, beq_iff_eq, bin_add, bin_sub, bin_mul, bin_eql, bin_neq, bin_lss, bin_leq, bin_gtr, bin_geq, maxA, minA, Prod.mk.injEq, and_true, true_and, beq_eq_false_iff_ne, decide_eq_false_iff_not, Bool.true_beq, Bool.false_beq, beq_true, beq_false, Bool.not_true, Bool.not_false, List.getElem?_toArray]
      · simp only [↓wpS_skip, ↓wpS_ops, ↓wpS_seq, ↓wpS_cond, ↓wpS_block, ↓wpS_loop, ↓wpS_exit, ↓wpS_ret, condW_bool, ↓WOps_go, ↓WOps_skip, WOps_nil, stepA, opA, convA, isCall, put?, ev, Tr.get_put, Tr.get_nil, builtinA, callA, argEnv, wantedS, abs_int, abs_bool, abs_string, abs_nilp, abs_nili, abs_nilf, abs_nilm, abs_nils, un_not, z_none, List.zipIdx_cons, List.zipIdx_nil, List.foldl_cons, List.foldl_nil, List.map_cons, List.map_nil, List.map_toArray, List.nil_append, List.cons_append, List.append_nil, extractOp, List.getElem?_cons_zero, List.getElem?_cons_succ,
    Option.map_some, Option.map_none, Nat.reduceLT, Nat.reduceEqDiff, Nat.reduceAdd, Nat.zero_add, if_true, if_false, Option.getD_some, Option.getD_none, ↓reduceIte, Bool.false_eq_true, Bool.true_eq_false, reduceCtorEq, resA, resOf, Option.some.injEq, exists_eq_left', beq_self_eq_true, decide_true, decide_false, decide_eq_true_eq, ne_eq, not_true_eq_false, not_false_eq_true, Bool.not_eq_true, beq_iff_eq, bin_add, bin_sub, bin_mul, bin_eql, bin_neq, bin_lss, bin_leq, bin_gtr, bin_geq, maxA, minA, Prod.mk.injEq, and_true, true_and, beq_eq_false_iff_ne, decide_eq_false_iff_not, Bool.true_beq, Bool.false_beq, beq_true, beq_false, Bool.not_true, Bool.not_false, List.getElem?_toArray]; rfl
      · intro E2 H4 nx4 cs4 f8 hb4
        have hne : Spl.joi (w :: wt) ≠ [] := by
          intro hh
          have hz : (Spl.joi (w :: wt)).length = 0 := by rw [hh]; rfl
          omega
        obtain ⟨H5, s1, s2, s3⟩ := bstr_cl hb4 (by omega) hne
        simp only [↓wpS_skip, ↓wpS_ops, ↓wpS_seq, ↓wpS_cond, ↓wpS_block, ↓wpS_loop, ↓wpS_exit, ↓wpS_ret, condW_bool, ↓WOps_go, ↓WOps_skip, WOps_nil, stepA, opA, convA, isCall, put?, ev, Tr.get_put, Tr.get_nil, builtinA, callA, argEnv, wantedS, abs_int, abs_bool, abs_string, abs_nilp, abs_nili, abs_nilf, abs_nilm, abs_nils, un_not, z_none, List.zipIdx_cons, List.zipIdx_nil, List.foldl_cons, List.foldl_nil, List.map_cons, List.map_nil, List.map_toArray, List.nil_append, List.cons_append, List.append_nil, extractOp, List.getElem?_cons_zero, List.getElem?_cons_succ,
    Option.map_some, Option.map_none, Nat.reduceLT, Nat.reduceEqDiff, Nat.reduceAdd, Nat.zero_add, if_true, if_false, Option.getD_some, Option.getD_none, ↓reduceIte, Bool.false_eq_true, Bool.true_eq_false, reduceCtorEq, resA, resOf, Option.some.injEq, exists_eq_left', beq_self_eq_true, decide_true, decide_false, decide_eq_true_eq, ne_eq, not_true_eq_false, not_false_eq_true, Bool.not_eq_true, beq_iff_eq, bin_add, bin_sub, bin_mul, bin_eql, bin_neq, bin_lss, bin_leq, bin_gtr, bin_geq, maxA, minA, Prod.mk.injEq, and_true, true_and, beq_eq_false_iff_ne, decide_eq_false_iff_not, Bool.true_beq, Bool.false_beq, beq_true, beq_false, Bool.not_true, Bool.not_false, List.getElem?_toArray, f8, s1, x_none]
end Seat
end CI
