/- nat, walked: sums and products of lists. -/
import Derived.Test.YtlejcpkedahphaaNa
set_option linter.unusedVariables false
set_option linter.unusedSimpArgs false
namespace CI
open Go
/-- A slice of integers, and what it holds. -/
def Ints (H : Heap) (s : AV) (l : List Int) : Prop :=
  (∀ x ∈ l, I64 x) ∧ l.length < 9223372036854775808 ∧ ((∃ b o c cs t ro, s = .slice b o l.length c 1 ∧ H.get b = some (.cells cs t ro) ∧ ∀ (i : Nat) (x : Int), l[i]? = some x → cs[o + i]? = some (.lit (.int .i64 x))) ∨ ((s = .eslice ∨ s = .lit (.slice none 0 0)) ∧ l = []))
namespace Seat
variable {H : Heap} {nx : Nat}
theorem i64_0 : I64 0 := ⟨by decide, by decide⟩
theorem i64_1 : I64 1 := ⟨by decide, by decide⟩
theorem T22 : cx.T.get 22 = some ti22 := by kernel_rfl
theorem T3 : cx.T.get 3 = some ti3 := by kernel_rfl
theorem ints_len {s : AV} {l : List Int} (h : Ints H s l) {H' : Heap} : lenOp cx.T H' 22 s = some l.length := by
  unfold lenOp
  rw [T22]
  obtain ⟨_, _, ⟨b, o, c, cs, t, ro, rfl, _⟩ | ⟨rfl | rfl, rfl⟩⟩ := h <;> rfl
theorem ints_at {s : AV} {l : List Int} (h : Ints H s l) {i : Nat} {x : Int} (hi : l[i]? = some x) : ∃ p, indexAddrOp cx.T 22 s (.lit (.int .i64 i)) = some p ∧ loadOp cx.T H 3 p = some (.lit (.int .i64 x)) := by
  obtain ⟨_, _, ⟨b, o, c, cs, t, ro, rfl, hb, hc⟩ | ⟨_, rfl⟩⟩ := h
  · have hlt : i < l.length := by
      rcases Nat.lt_or_ge i l.length with h | h
      · exact h
      · rw [List.getElem?_eq_none h] at hi; cases hi
    refine ⟨.ptr b (o + i), ?_, ?_⟩
    · unfold indexAddrOp
      simp only [T22, ti22, T3, ti3]
      rw [if_pos ⟨by omega, by omega, trivial⟩]
      simp
    · unfold loadOp
      simp only [T3, ti3, hb]
      have := hc i x hi
      have hlt2 : o + i < cs.length := by
        rcases Nat.lt_or_ge (o + i) cs.length with h | h
        · exact h
        · rw [List.getElem?_eq_none h] at this; cases this
      show (cut cs (o + i) 1).bind (·[0]?) = _
      simp only [cut]
      rw [if_pos (by omega)]
      simp [this]
  · simp at hi
theorem fold_cl {k : Nat} {f : Int → Int → Int} (hk : ∀ {a b : Int}, I64 a → I64 b → Cl cx k [.lit (.int .i64 a), .lit (.int .i64 b)] H nx = some (.lit (.int .i64 (f a b)), H, nx)) (hx : (k == 38) = false) (hx9 : (k == 9) = false) (hf : ∀ a b, I64 (f a b))
    {s : AV} {l : List Int} (hl : Ints H s l) {a : Int} (ha : I64 a) : Cl cx 26 [.lit (.int .i64 a), s, .func (.func k) [] []] H nx = some (.lit (.int .i64 (l.foldl f a)), H, nx) := by
  refine wp26 _ _ _ _ (by simp) ?_
  unfold s26
  simp only [↓wpS_skip, ↓wpS_ops, ↓wpS_seq, ↓wpS_cond, ↓wpS_block, ↓wpS_loop, ↓wpS_exit, ↓wpS_ret, condW_bool, ↓WOps_go, ↓WOps_skip, WOps_nil, stepA, opA, isCall, put?, ev, Tr.get_put, Tr.get_nil, builtinA, callA, argEnv, wantedS, abs_int, abs_bool, abs_string, List.zipIdx_cons, List.zipIdx_nil, List.foldl_cons, List.foldl_nil, List.map_cons, List.map_nil, List.map_toArray, List.nil_append, List.cons_append, List.append_nil, extractOp, List.getElem?_cons_zero, List.getElem?_cons_succ,
    Option.map_some, Option.map_none, Nat.reduceLT, Nat.reduceEqDiff, Nat.reduceAdd, Nat.zero_add, if_true, if_false, Option.getD_some, Option.getD_none, ↓reduceIte, Bool.false_eq_true, Bool.true_eq_false, reduceCtorEq, resA, resOf, Option.some.injEq, exists_eq_left', beq_self_eq_true, decide_true, decide_false, decide_eq_true_eq, ne_eq, not_true_eq_false, not_false_eq_true, Bool.not_eq_true, beq_iff_eq, bin_add, bin_sub, bin_mul, bin_eql, bin_neq, bin_lss, bin_leq, bin_gtr, bin_geq, maxA, minA, Prod.mk.injEq, and_true, true_and, beq_eq_false_iff_ne, decide_eq_false_iff_not, Bool.true_beq, Bool.false_beq, beq_true, beq_false, Bool.not_true, Bool.not_false, List.getElem?_toArray, ints_len hl]
  refine Wp_loop (fun n st => ∃ (i : Nat) (acc : Int), n = l.length - i ∧ i ≤ l.length ∧ I64 acc ∧ (l.drop i).foldl f acc = l.foldl f a ∧ st.H = H ∧ st.nx = nx ∧ st.env.get 0 = some (.lit (.int .i64 acc)) ∧ st.env.get 2 = some (.func (.func k) [] []) ∧
    st.env.get 9 = some s ∧ st.env.get 10 = some (.lit (.int .i64 l.length)) ∧ st.env.get 11 = some (.lit (.int .i64 i))) ?_ l.length _ ⟨0, a, ?_⟩
  · rintro n ⟨E, H1, nx1⟩ ⟨i, acc, hn, hi, hacc, hfold, e1, e2, h0, h2, h9, h10, h11⟩
    simp only at e1 e2; subst e1; subst e2
    refine Wp_of ?_
    unfold s26_l0
    by_cases hlt : i < l.length
    · obtain ⟨p, hp1, hp2⟩ := ints_at hl (List.getElem?_eq_getElem hlt)
      have hw : IntKind.i64.wrap ((i : Int) + 1) = ((i + 1 : Nat) : Int) := by
        rw [wrapI]; · rfl
        have := hl.2.1
        constructor <;> omega
      have hg : I64 l[i] := hl.1 _ (List.getElem_mem hlt)
      simp only [↓wpS_skip, ↓wpS_ops, ↓wpS_seq, ↓wpS_cond, ↓wpS_block, ↓wpS_loop, ↓wpS_exit, ↓wpS_ret, condW_bool, ↓WOps_go, ↓WOps_skip, WOps_nil, stepA, opA, isCall, put?, ev, Tr.get_put, Tr.get_nil, builtinA, callA, argEnv, wantedS, abs_int, abs_bool, abs_string, List.zipIdx_cons, List.zipIdx_nil, List.foldl_cons, List.foldl_nil, List.map_cons, List.map_nil, List.map_toArray, List.nil_append, List.cons_append, List.append_nil, extractOp, List.getElem?_cons_zero, List.getElem?_cons_succ,
    Option.map_some, Option.map_none, Nat.reduceLT, Nat.reduceEqDiff, Nat.reduceAdd, Nat.zero_add, if_true, if_false, Option.getD_some, Option.getD_none, ↓reduceIte, Bool.false_eq_true, Bool.true_eq_false, reduceCtorEq, resA, resOf, Option.some.injEq, exists_eq_left', beq_self_eq_true, decide_true, decide_false, decide_eq_true_eq, ne_eq, not_true_eq_false, not_false_eq_true, Bool.not_eq_true, beq_iff_eq, bin_add, bin_sub, bin_mul, bin_eql, bin_neq, bin_lss, bin_leq, bin_gtr, bin_geq, maxA, minA, Prod.mk.injEq, and_true, true_and, beq_eq_false_iff_ne, decide_eq_false_iff_not, Bool.true_beq, Bool.false_beq, beq_true, beq_false, Bool.not_true, Bool.not_false, List.getElem?_toArray, x_none _ hx hx9, h0, h2, h9, h10, h11, hp1, hp2, Int.ofNat_lt, hlt, hk hacc hg, hw]
      refine ⟨l.length - (i + 1), by omega, i + 1, f acc l[i], rfl, by omega, hf _ _, ?_, rfl, rfl⟩
      rw [← hfold, List.drop_eq_getElem_cons hlt, List.foldl_cons]
    · have : i = l.length := by omega
      subst this
      simp only [↓wpS_skip, ↓wpS_ops, ↓wpS_seq, ↓wpS_cond, ↓wpS_block, ↓wpS_loop, ↓wpS_exit, ↓wpS_ret, condW_bool, ↓WOps_go, ↓WOps_skip, WOps_nil, stepA, opA, isCall, put?, ev, Tr.get_put, Tr.get_nil, builtinA, callA, argEnv, wantedS, abs_int, abs_bool, abs_string, List.zipIdx_cons, List.zipIdx_nil, List.foldl_cons, List.foldl_nil, List.map_cons, List.map_nil, List.map_toArray, List.nil_append, List.cons_append, List.append_nil, extractOp, List.getElem?_cons_zero, List.getElem?_cons_succ,
    Option.map_some, Option.map_none, Nat.reduceLT, Nat.reduceEqDiff, Nat.reduceAdd, Nat.zero_add, if_true, if_false, Option.getD_some, Option.getD_none, ↓reduceIte, Bool.false_eq_true, Bool.true_eq_false, reduceCtorEq, resA, resOf, Option.some.injEq, exists_eq_left', beq_self_eq_true, decide_true, decide_false, decide_eq_true_eq, ne_eq, not_true_eq_false, not_false_eq_true, Bool.not_eq_true, beq_iff_eq, bin_add, bin_sub, bin_mul, bin_eql, bin_neq, bin_lss, bin_leq, bin_gtr, bin_geq, maxA, minA, Prod.mk.injEq, and_true, true_and, beq_eq_false_iff_ne, decide_eq_false_iff_not, Bool.true_beq, Bool.false_beq, beq_true, beq_false, Bool.not_true, Bool.not_false, List.getElem?_toArray, x_none _ hx hx9, h0, h2, h9, h10, h11, Int.ofNat_lt, Nat.lt_irrefl]
      simpa using hfold.symm
  · simp only [↓wpS_skip, ↓wpS_ops, ↓wpS_seq, ↓wpS_cond, ↓wpS_block, ↓wpS_loop, ↓wpS_exit, ↓wpS_ret, condW_bool, ↓WOps_go, ↓WOps_skip, WOps_nil, stepA, opA, isCall, put?, ev, Tr.get_put, Tr.get_nil, builtinA, callA, argEnv, wantedS, abs_int, abs_bool, abs_string, List.zipIdx_cons, List.zipIdx_nil, List.foldl_cons, List.foldl_nil, List.map_cons, List.map_nil, List.map_toArray, List.nil_append, List.cons_append, List.append_nil, extractOp, List.getElem?_cons_zero, List.getElem?_cons_succ,
    Option.map_some, Option.map_none, Nat.reduceLT, Nat.reduceEqDiff, Nat.reduceAdd, Nat.zero_add, if_true, if_false, Option.getD_some, Option.getD_none, ↓reduceIte, Bool.false_eq_true, Bool.true_eq_false, reduceCtorEq, resA, resOf, Option.some.injEq, exists_eq_left', beq_self_eq_true, decide_true, decide_false, decide_eq_true_eq, ne_eq, not_true_eq_false, not_false_eq_true, Bool.not_eq_true, beq_iff_eq, bin_add, bin_sub, bin_mul, bin_eql, bin_neq, bin_lss, bin_leq, bin_gtr, bin_geq, maxA, minA, Prod.mk.injEq, and_true, true_and, beq_eq_false_iff_ne, decide_eq_false_iff_not, Bool.true_beq, Bool.false_beq, beq_true, beq_false, Bool.not_true, Bool.not_false, List.getElem?_toArray]
    refine ⟨by omega, by omega, ha, ?_⟩
    simp
theorem sum_cl {s : AV} {l : List Int} (hl : Ints H s l) : Cl cx 13 [s] H nx = some (.lit (.int .i64 (l.foldl satAdd 0)), H, nx) := by
  refine wp13 _ _ _ _ (by simp) ?_
  unfold s13
  simp only [↓wpS_skip, ↓wpS_ops, ↓wpS_seq, ↓wpS_cond, ↓wpS_block, ↓wpS_loop, ↓wpS_exit, ↓wpS_ret, condW_bool, ↓WOps_go, ↓WOps_skip, WOps_nil, stepA, opA, isCall, put?, ev, Tr.get_put, Tr.get_nil, builtinA, callA, argEnv, wantedS, abs_int, abs_bool, abs_string, List.zipIdx_cons, List.zipIdx_nil, List.foldl_cons, List.foldl_nil, List.map_cons, List.map_nil, List.map_toArray, List.nil_append, List.cons_append, List.append_nil, extractOp, List.getElem?_cons_zero, List.getElem?_cons_succ,
    Option.map_some, Option.map_none, Nat.reduceLT, Nat.reduceEqDiff, Nat.reduceAdd, Nat.zero_add, if_true, if_false, Option.getD_some, Option.getD_none, ↓reduceIte, Bool.false_eq_true, Bool.true_eq_false, reduceCtorEq, resA, resOf, Option.some.injEq, exists_eq_left', beq_self_eq_true, decide_true, decide_false, decide_eq_true_eq, ne_eq, not_true_eq_false, not_false_eq_true, Bool.not_eq_true, beq_iff_eq, bin_add, bin_sub, bin_mul, bin_eql, bin_neq, bin_lss, bin_leq, bin_gtr, bin_geq, maxA, minA, Prod.mk.injEq, and_true, true_and, beq_eq_false_iff_ne, decide_eq_false_iff_not, Bool.true_beq, Bool.false_beq, beq_true, beq_false, Bool.not_true, Bool.not_false, List.getElem?_toArray, x_none, fold_cl (k := 27) add_cl rfl rfl satAdd_i hl i64_0]
theorem addv_cl {s : AV} {l : List Int} (hl : Ints H s l) : Cl cx 12 [s] H nx = some (.lit (.int .i64 (l.foldl satAdd 0)), H, nx) := by
  refine wp12 _ _ _ _ (by simp) ?_
  unfold s12
  simp only [↓wpS_skip, ↓wpS_ops, ↓wpS_seq, ↓wpS_cond, ↓wpS_block, ↓wpS_loop, ↓wpS_exit, ↓wpS_ret, condW_bool, ↓WOps_go, ↓WOps_skip, WOps_nil, stepA, opA, isCall, put?, ev, Tr.get_put, Tr.get_nil, builtinA, callA, argEnv, wantedS, abs_int, abs_bool, abs_string, List.zipIdx_cons, List.zipIdx_nil, List.foldl_cons, List.foldl_nil, List.map_cons, List.map_nil, List.map_toArray, List.nil_append, List.cons_append, List.append_nil, extractOp, List.getElem?_cons_zero, List.getElem?_cons_succ,
    Option.map_some, Option.map_none, Nat.reduceLT, Nat.reduceEqDiff, Nat.reduceAdd, Nat.zero_add, if_true, if_false, Option.getD_some, Option.getD_none, ↓reduceIte, Bool.false_eq_true, Bool.true_eq_false, reduceCtorEq, resA, resOf, Option.some.injEq, exists_eq_left', beq_self_eq_true, decide_true, decide_false, decide_eq_true_eq, ne_eq, not_true_eq_false, not_false_eq_true, Bool.not_eq_true, beq_iff_eq, bin_add, bin_sub, bin_mul, bin_eql, bin_neq, bin_lss, bin_leq, bin_gtr, bin_geq, maxA, minA, Prod.mk.injEq, and_true, true_and, beq_eq_false_iff_ne, decide_eq_false_iff_not, Bool.true_beq, Bool.false_beq, beq_true, beq_false, Bool.not_true, Bool.not_false, List.getElem?_toArray, x_none, fold_cl (k := 27) add_cl rfl rfl satAdd_i hl i64_0]
theorem mulv_cl {s : AV} {l : List Int} (hl : Ints H s l) : Cl cx 14 [s] H nx = some (.lit (.int .i64 (if ∃ x ∈ l, x ≤ 0 then 0 else l.foldl satMul 1)), H, nx) := by
  refine wp14 _ _ _ _ (by simp) ?_
  unfold s14
  simp only [↓wpS_skip, ↓wpS_ops, ↓wpS_seq, ↓wpS_cond, ↓wpS_block, ↓wpS_loop, ↓wpS_exit, ↓wpS_ret, condW_bool, ↓WOps_go, ↓WOps_skip, WOps_nil, stepA, opA, isCall, put?, ev, Tr.get_put, Tr.get_nil, builtinA, callA, argEnv, wantedS, abs_int, abs_bool, abs_string, List.zipIdx_cons, List.zipIdx_nil, List.foldl_cons, List.foldl_nil, List.map_cons, List.map_nil, List.map_toArray, List.nil_append, List.cons_append, List.append_nil, extractOp, List.getElem?_cons_zero, List.getElem?_cons_succ,
    Option.map_some, Option.map_none, Nat.reduceLT, Nat.reduceEqDiff, Nat.reduceAdd, Nat.zero_add, if_true, if_false, Option.getD_some, Option.getD_none, ↓reduceIte, Bool.false_eq_true, Bool.true_eq_false, reduceCtorEq, resA, resOf, Option.some.injEq, exists_eq_left', beq_self_eq_true, decide_true, decide_false, decide_eq_true_eq, ne_eq, not_true_eq_false, not_false_eq_true, Bool.not_eq_true, beq_iff_eq, bin_add, bin_sub, bin_mul, bin_eql, bin_neq, bin_lss, bin_leq, bin_gtr, bin_geq, maxA, minA, Prod.mk.injEq, and_true, true_and, beq_eq_false_iff_ne, decide_eq_false_iff_not, Bool.true_beq, Bool.false_beq, beq_true, beq_false, Bool.not_true, Bool.not_false, List.getElem?_toArray, ints_len hl]
  refine Wp_loop (fun n st => ∃ (i : Nat), n = l.length - i ∧ i ≤ l.length ∧ (∀ x ∈ l.take i, ¬ x ≤ 0) ∧ st.H = H ∧ st.nx = nx ∧ st.env.get 0 = some s ∧
    st.env.get 5 = some s ∧ st.env.get 6 = some (.lit (.int .i64 l.length)) ∧ st.env.get 7 = some (.lit (.int .i64 i))) ?_ l.length _ ⟨0, ?_⟩
  · rintro n ⟨E, H1, nx1⟩ ⟨i, hn, hi, hpos, e1, e2, h0, h5, h6, h7⟩
    simp only at e1 e2; subst e1; subst e2
    refine Wp_of ?_
    unfold s14_l0
    by_cases hlt : i < l.length
    · obtain ⟨p, hp1, hp2⟩ := ints_at hl (List.getElem?_eq_getElem hlt)
      have hw : IntKind.i64.wrap ((i : Int) + 1) = ((i + 1 : Nat) : Int) := by
        rw [wrapI]; · rfl
        have := hl.2.1
        constructor <;> omega
      by_cases hz : l[i] ≤ 0
      · have hex : ∃ x ∈ l, x ≤ 0 := ⟨_, List.getElem_mem hlt, hz⟩
        simp only [↓wpS_skip, ↓wpS_ops, ↓wpS_seq, ↓wpS_cond, ↓wpS_block, ↓wpS_loop, ↓wpS_exit, ↓wpS_ret, condW_bool, ↓WOps_go, ↓WOps_skip, WOps_nil, stepA, opA, isCall, put?, ev, Tr.get_put, Tr.get_nil, builtinA, callA, argEnv, wantedS, abs_int, abs_bool, abs_string, List.zipIdx_cons, List.zipIdx_nil, List.foldl_cons, List.foldl_nil, List.map_cons, List.map_nil, List.map_toArray, List.nil_append, List.cons_append, List.append_nil, extractOp, List.getElem?_cons_zero, List.getElem?_cons_succ,
    Option.map_some, Option.map_none, Nat.reduceLT, Nat.reduceEqDiff, Nat.reduceAdd, Nat.zero_add, if_true, if_false, Option.getD_some, Option.getD_none, ↓reduceIte, Bool.false_eq_true, Bool.true_eq_false, reduceCtorEq, resA, resOf, Option.some.injEq, exists_eq_left', beq_self_eq_true, decide_true, decide_false, decide_eq_true_eq, ne_eq, not_true_eq_false, not_false_eq_true, Bool.not_eq_true, beq_iff_eq, bin_add, bin_sub, bin_mul, bin_eql, bin_neq, bin_lss, bin_leq, bin_gtr, bin_geq, maxA, minA, Prod.mk.injEq, and_true, true_and, beq_eq_false_iff_ne, decide_eq_false_iff_not, Bool.true_beq, Bool.false_beq, beq_true, beq_false, Bool.not_true, Bool.not_false, List.getElem?_toArray, h0, h5, h6, h7, hp1, hp2, Int.ofNat_lt, hlt, hz, hw, if_pos hex]
      · simp only [↓wpS_skip, ↓wpS_ops, ↓wpS_seq, ↓wpS_cond, ↓wpS_block, ↓wpS_loop, ↓wpS_exit, ↓wpS_ret, condW_bool, ↓WOps_go, ↓WOps_skip, WOps_nil, stepA, opA, isCall, put?, ev, Tr.get_put, Tr.get_nil, builtinA, callA, argEnv, wantedS, abs_int, abs_bool, abs_string, List.zipIdx_cons, List.zipIdx_nil, List.foldl_cons, List.foldl_nil, List.map_cons, List.map_nil, List.map_toArray, List.nil_append, List.cons_append, List.append_nil, extractOp, List.getElem?_cons_zero, List.getElem?_cons_succ,
    Option.map_some, Option.map_none, Nat.reduceLT, Nat.reduceEqDiff, Nat.reduceAdd, Nat.zero_add, if_true, if_false, Option.getD_some, Option.getD_none, ↓reduceIte, Bool.false_eq_true, Bool.true_eq_false, reduceCtorEq, resA, resOf, Option.some.injEq, exists_eq_left', beq_self_eq_true, decide_true, decide_false, decide_eq_true_eq, ne_eq, not_true_eq_false, not_false_eq_true, Bool.not_eq_true, beq_iff_eq, bin_add, bin_sub, bin_mul, bin_eql, bin_neq, bin_lss, bin_leq, bin_gtr, bin_geq, maxA, minA, Prod.mk.injEq, and_true, true_and, beq_eq_false_iff_ne, decide_eq_false_iff_not, Bool.true_beq, Bool.false_beq, beq_true, beq_false, Bool.not_true, Bool.not_false, List.getElem?_toArray, h0, h5, h6, h7, hp1, hp2, Int.ofNat_lt, hlt, hz, hw]
        refine ⟨l.length - (i + 1), by omega, i + 1, rfl, by omega, ?_, rfl⟩
        intro x hx
        rw [List.take_add_one, List.mem_append] at hx
        rcases hx with hx | hx
        · exact hpos x hx
        · rw [List.getElem?_eq_getElem hlt] at hx
          simp at hx; subst hx; exact hz
    · have : i = l.length := by omega
      subst this
      have hno : ¬ ∃ x ∈ l, x ≤ 0 := by
        rintro ⟨x, hx, hx2⟩
        exact hpos x (by rw [List.take_length]; exact hx) hx2
      simp only [↓wpS_skip, ↓wpS_ops, ↓wpS_seq, ↓wpS_cond, ↓wpS_block, ↓wpS_loop, ↓wpS_exit, ↓wpS_ret, condW_bool, ↓WOps_go, ↓WOps_skip, WOps_nil, stepA, opA, isCall, put?, ev, Tr.get_put, Tr.get_nil, builtinA, callA, argEnv, wantedS, abs_int, abs_bool, abs_string, List.zipIdx_cons, List.zipIdx_nil, List.foldl_cons, List.foldl_nil, List.map_cons, List.map_nil, List.map_toArray, List.nil_append, List.cons_append, List.append_nil, extractOp, List.getElem?_cons_zero, List.getElem?_cons_succ,
    Option.map_some, Option.map_none, Nat.reduceLT, Nat.reduceEqDiff, Nat.reduceAdd, Nat.zero_add, if_true, if_false, Option.getD_some, Option.getD_none, ↓reduceIte, Bool.false_eq_true, Bool.true_eq_false, reduceCtorEq, resA, resOf, Option.some.injEq, exists_eq_left', beq_self_eq_true, decide_true, decide_false, decide_eq_true_eq, ne_eq, not_true_eq_false, not_false_eq_true, Bool.not_eq_true, beq_iff_eq, bin_add, bin_sub, bin_mul, bin_eql, bin_neq, bin_lss, bin_leq, bin_gtr, bin_geq, maxA, minA, Prod.mk.injEq, and_true, true_and, beq_eq_false_iff_ne, decide_eq_false_iff_not, Bool.true_beq, Bool.false_beq, beq_true, beq_false, Bool.not_true, Bool.not_false, List.getElem?_toArray, h0, h5, h6, h7, Int.ofNat_lt, Nat.lt_irrefl, x_none, fold_cl (k := 28) mul_cl rfl rfl satMul_i hl i64_1, if_neg hno]
  · simp only [↓wpS_skip, ↓wpS_ops, ↓wpS_seq, ↓wpS_cond, ↓wpS_block, ↓wpS_loop, ↓wpS_exit, ↓wpS_ret, condW_bool, ↓WOps_go, ↓WOps_skip, WOps_nil, stepA, opA, isCall, put?, ev, Tr.get_put, Tr.get_nil, builtinA, callA, argEnv, wantedS, abs_int, abs_bool, abs_string, List.zipIdx_cons, List.zipIdx_nil, List.foldl_cons, List.foldl_nil, List.map_cons, List.map_nil, List.map_toArray, List.nil_append, List.cons_append, List.append_nil, extractOp, List.getElem?_cons_zero, List.getElem?_cons_succ,
    Option.map_some, Option.map_none, Nat.reduceLT, Nat.reduceEqDiff, Nat.reduceAdd, Nat.zero_add, if_true, if_false, Option.getD_some, Option.getD_none, ↓reduceIte, Bool.false_eq_true, Bool.true_eq_false, reduceCtorEq, resA, resOf, Option.some.injEq, exists_eq_left', beq_self_eq_true, decide_true, decide_false, decide_eq_true_eq, ne_eq, not_true_eq_false, not_false_eq_true, Bool.not_eq_true, beq_iff_eq, bin_add, bin_sub, bin_mul, bin_eql, bin_neq, bin_lss, bin_leq, bin_gtr, bin_geq, maxA, minA, Prod.mk.injEq, and_true, true_and, beq_eq_false_iff_ne, decide_eq_false_iff_not, Bool.true_beq, Bool.false_beq, beq_true, beq_false, Bool.not_true, Bool.not_false, List.getElem?_toArray]
    simp
end Seat
end CI
