/- strings.Split at blanks, walked. -/
import Derived.Test.YtlejcpkedahphaaDoorWs
set_option linter.unusedVariables false
set_option linter.unusedSimpArgs false
set_option maxRecDepth 10000
namespace CI
open Go
namespace Seat
variable {H : Heap} {nx : Nat}
theorem T23 : cx.T.get 23 = some ti23 := by kernel_rfl
theorem wrapS {i : Nat} (h : i < 9223372036854775807) : IntKind.i64.wrap ((i : Int) + 1) = ((i + 1 : Nat) : Int) := by
  rw [wrapI]; · rfl
  constructor <;> omega
theorem wrapS0 {i : Nat} (h : i < 9223372036854775807) : IntKind.i64.wrap ((i : Int) + 0) = (i : Int) := by
  rw [Int.add_zero, wrapI]; constructor <;> omega
theorem wrapP {i : Nat} (h : i < 9223372036854775807) : IntKind.i64.wrap (((i + 1 : Nat) : Int) - 1) = (i : Int) := by
  rw [wrapI]; · omega
  constructor <;> omega
theorem ix23 {b n i : Nat} {c : Option Nat} (h : i < n) : indexAddrOp cx.T 23 (.slice b 0 n c 1) (.lit (.int .i64 i)) = some (.ptr b i) := by
  unfold indexAddrOp
  simp only [T23, ti23, T9, ti9]
  rw [if_pos ⟨by omega, by omega, trivial⟩]
  simp
theorem mk23 (n : Nat) (h0 : 1 ≤ n) (h : n ≤ 1000000) : ∃ zs : List AV, zs.length = n ∧ makeSliceOp cx.T H nx 23 (.lit (.int .i64 n)) (.lit (.int .i64 n)) = some (.slice nx 0 n (some n) 1, H.put nx (some (.cells zs 9 false)), nx + 1) := by
  refine ⟨zrow n (cellsOf (abs (.string ⟨#[]⟩))), by simp [zrow], ?_⟩
  unfold makeSliceOp
  simp only [T23, ti23, T9, ti9]
  have hc : cellsOf (abs (.string ⟨#[]⟩)) ≠ [] := by intro h; cases h
  rw [if_pos ⟨by omega, by omega, by omega, by omega, hc, by simp⟩]
  simp
theorem sl23 (b n : Nat) (h : 1 ≤ n) : sliceOp cx.P cx.T H 23 (.slice b 0 n (some n) 1) none (some (.lit (.int .i64 (n : Nat)))) none = some (.slice b 0 n (some n) 1) := by
  unfold sliceOp
  simp only [T23, ti23, T9, ti9]
  have e1 : bnd (some (.lit (.int .i64 ((n : Nat) : Int)))) n = some n := by simp [bnd]
  have e2 : ∀ k, bnd none k = some k := fun _ => rfl
  rw [if_neg (by simp)]
  simp only [e1, e2]
  rw [if_pos ⟨Nat.le_refl _, Nat.le_refl _, Nat.zero_le _, by simp⟩]
  unfold cutTo
  rw [if_neg (by omega)]
  simp
theorem set_tail (A : List AV) (x v : AV) (t : List AV) : (A ++ x :: t).set A.length v = (A ++ [v]) ++ t := by
  rw [List.set_append_right _ _ (Nat.le_refl _), Nat.sub_self]
  simp
section
variable {l : List UInt8} {n0 : Nat} {QQ : Ex → St → Prop}
/-- What stands while a line is split: 'i' words lie there. -/
structure GS (H0 : Heap) (l : List UInt8) (b i : Nat) (rest : List UInt8) (E : Tr AV) (H : Heap) : Prop where
  t0 : E.get 0 = some (strA rest)
  t1 : E.get 1 = some (.lit (.string (ByteArray.mk #[32])))
  t2 : E.get 2 = some (.lit (.int .i64 0))
  t3 : E.get 3 = some (.lit (.int .i64 (((Spl.spl l).length - 1 : Nat) : Int)))
  t9 : E.get 9 = some (.slice b 0 (Spl.spl l).length (some (Spl.spl l).length) 1)
  t10 : E.get 10 = some (.lit (.int .i64 i))
  mem : ∃ done tail, Spl.spl l = done ++ Spl.spl rest ∧ done.length = i ∧ H.get b = some (.cells (done.map strA ++ tail) 9 false) ∧ done.length + tail.length = (Spl.spl l).length
  old : ∀ c, c ≠ b → H.get c = H0.get c
theorem gs_loop {H0 : Heap} {b nx : Nat} {E : Tr AV} {H : Heap} (w0 : World) (hl : l.length ≤ 500) (h : GS H0 l b 0 l E H)
    (hQ : ∀ E' H' rest i, GS H0 l b i rest E' H' → Spl.spl rest = [rest] → i + 1 = (Spl.spl l).length → QQ (.exit 0) ⟨E', H', nx⟩) : Wp cx 66 (.loop s23_l0) ⟨E, H, nx⟩ QQ := by
  refine Wp_loop (fun n st => ∃ rest i, n = (Spl.spl l).length - i ∧ rest.length ≤ l.length ∧ st.nx = nx ∧ GS H0 l b i rest st.env st.H) ?_ ((Spl.spl l).length) _ ⟨l, 0, rfl, Nat.le_refl _, rfl, h⟩
  rintro n ⟨E, H, nx1⟩ ⟨rest, i, hn, hr, q2, g⟩
  simp only at q2 g; subst q2
  have g' := g
  obtain ⟨e0, e1, e2, e3, e9, e10, ⟨done, tail, m1, m2, m3, m4⟩, ho⟩ := g
  have hlen : done.length + (Spl.spl rest).length = (Spl.spl l).length := by rw [m1, List.length_append]
  have hpos : 1 ≤ (Spl.spl rest).length := List.length_pos_iff.2 (Spl.spl_ne rest)
  have hcnt : (Spl.spl l).length ≤ 501 := by
    rw [Spl.spl_len]
    have := List.count_le_length (a := (32 : UInt8)) (l := l)
    omega
  refine Wp_of ?_
  unfold s23_l0
  by_cases hlt : i < (Spl.spl l).length - 1
  · have hge := Lib.indexByte_ge rest 32
    have hne : Lib.indexByte rest 32 ≠ -1 := by
      intro hh
      have := Spl.ix_none hh
      rw [this] at hlen
      simp at hlen
      omega
    obtain ⟨m, hm⟩ : ∃ m : Nat, Lib.indexByte rest 32 = m := ⟨(Lib.indexByte rest 32).toNat, by omega⟩
    obtain ⟨hm1, hm2⟩ := Spl.ix_some hm
    obtain ⟨x, t, rfl⟩ : ∃ x t, tail = x :: t := by
      cases tail with
      | nil => simp at m4; omega
      | cons x t => exact ⟨x, t, rfl⟩
    have hwi := wrapS (i := i) (by omega)
    have hwm := wrapS (i := m) (by omega)
    have hwm0 := wrapS0 (i := m) (by omega)
    have hwm1 : IntKind.i64.wrap ((m : Int) + ((1 : Nat) : Int)) = ((m + 1 : Nat) : Int) := hwm
    have hneg : (((m : Nat) : Int) < 0) = False := by simp
    have hii : ((i : Int) < (((Spl.spl l).length - 1 : Nat) : Int)) = True := by simp; omega
    have hix : indexAddrOp cx.T 23 (.slice b 0 (Spl.spl l).length (some (Spl.spl l).length) 1) (.lit (.int .i64 (i : Int))) = some (.ptr b i) := ix23 (by omega)
    have hst := st_at (t := 9) (v := strA (rest.take m)) (by kernel_rfl) m3 (o := i) (by simp; omega) rfl rfl
    have hset : (done.map strA ++ x :: t).set i (strA (rest.take m)) = (done ++ [rest.take m]).map strA ++ t := by
      have : i = (done.map strA).length := by simp [m2]
      rw [this, set_tail]
      simp
    rw [hset] at hst
    simp only [↓wpS_skip, ↓wpS_ops, ↓wpS_seq, ↓wpS_cond, ↓wpS_block, ↓wpS_loop, ↓wpS_exit, ↓wpS_ret, condW_bool, ↓WOps_go, ↓WOps_skip, WOps_nil, stepA, opA, convA, isCall, put?, ev, Tr.get_put, Tr.get_nil, builtinA, callA, argEnv, wantedS, abs_int, abs_bool, abs_string, abs_nilp, abs_nili, abs_nilf, abs_nilm, abs_nils, un_not, z_none, List.zipIdx_cons, List.zipIdx_nil, List.foldl_cons, List.foldl_nil, List.map_cons, List.map_nil, List.map_toArray, List.nil_append, List.cons_append, List.append_nil, extractOp, List.getElem?_cons_zero, List.getElem?_cons_succ,
    Option.map_some, Option.map_none, Nat.reduceLT, Nat.reduceEqDiff, Nat.reduceAdd, Nat.zero_add, if_true, if_false, Option.getD_some, Option.getD_none, ↓reduceIte, Bool.false_eq_true, Bool.true_eq_false, reduceCtorEq, resA, resOf, Option.some.injEq, exists_eq_left', beq_self_eq_true, decide_true, decide_false, decide_eq_true_eq, ne_eq, not_true_eq_false, not_false_eq_true, Bool.not_eq_true, beq_iff_eq, bin_add, bin_sub, bin_mul, bin_eql, bin_neq, bin_lss, bin_leq, bin_gtr, bin_geq, maxA, minA, Prod.mk.injEq, and_true, true_and, beq_eq_false_iff_ne, decide_eq_false_iff_not, Bool.true_beq, Bool.false_beq, beq_true, beq_false, Bool.not_true, Bool.not_false, List.getElem?_toArray, e0, e1, e2, e3, e9, e10, hii, x_none, ix_cl w0, hm, hneg, hwm0, str_to rest m (by omega), hix, hst, sep_len, hwm, hwm1, str_from rest (m + 1) (by omega), hwi]
    refine ⟨(Spl.spl l).length - (i + 1), by omega, rest.drop (m + 1), i + 1, rfl, by simp; omega, ?_⟩
    constructor <;> first
      | (simp only [↓wpS_skip, ↓wpS_ops, ↓wpS_seq, ↓wpS_cond, ↓wpS_block, ↓wpS_loop, ↓wpS_exit, ↓wpS_ret, condW_bool, ↓WOps_go, ↓WOps_skip, WOps_nil, stepA, opA, convA, isCall, put?, ev, Tr.get_put, Tr.get_nil, builtinA, callA, argEnv, wantedS, abs_int, abs_bool, abs_string, abs_nilp, abs_nili, abs_nilf, abs_nilm, abs_nils, un_not, z_none, List.zipIdx_cons, List.zipIdx_nil, List.foldl_cons, List.foldl_nil, List.map_cons, List.map_nil, List.map_toArray, List.nil_append, List.cons_append, List.append_nil, extractOp, List.getElem?_cons_zero, List.getElem?_cons_succ,
    Option.map_some, Option.map_none, Nat.reduceLT, Nat.reduceEqDiff, Nat.reduceAdd, Nat.zero_add, if_true, if_false, Option.getD_some, Option.getD_none, ↓reduceIte, Bool.false_eq_true, Bool.true_eq_false, reduceCtorEq, resA, resOf, Option.some.injEq, exists_eq_left', beq_self_eq_true, decide_true, decide_false, decide_eq_true_eq, ne_eq, not_true_eq_false, not_false_eq_true, Bool.not_eq_true, beq_iff_eq, bin_add, bin_sub, bin_mul, bin_eql, bin_neq, bin_lss, bin_leq, bin_gtr, bin_geq, maxA, minA, Prod.mk.injEq, and_true, true_and, beq_eq_false_iff_ne, decide_eq_false_iff_not, Bool.true_beq, Bool.false_beq, beq_true, beq_false, Bool.not_true, Bool.not_false, List.getElem?_toArray, e0, e1, e2, e3, e9, e10]; done)
      | (intro c hc; rw [Tr.get_put_ne _ _ _ _ hc]; exact ho c hc)
      | exact ⟨done ++ [rest.take m], t, by rw [m1, hm2]; simp, by simp [m2], Tr.get_put_same _ _ _, by simp at m4 ⊢; omega⟩
  · have hii : ((i : Int) < (((Spl.spl l).length - 1 : Nat) : Int)) = False := by simp; omega
    have h1 : (Spl.spl rest).length = 1 := by omega
    have hsp : Spl.spl rest = [rest] := by
      have := Spl.spl_joi rest
      revert this h1
      cases Spl.spl rest with
      | nil => intro h; simp at h
      | cons y ys => cases ys with
        | nil => intro _ hj; simp only [Spl.joi, Spl.joiT, List.append_nil] at hj; rw [hj]
        | cons => intro h; simp at h
    simp only [↓wpS_skip, ↓wpS_ops, ↓wpS_seq, ↓wpS_cond, ↓wpS_block, ↓wpS_loop, ↓wpS_exit, ↓wpS_ret, condW_bool, ↓WOps_go, ↓WOps_skip, WOps_nil, stepA, opA, convA, isCall, put?, ev, Tr.get_put, Tr.get_nil, builtinA, callA, argEnv, wantedS, abs_int, abs_bool, abs_string, abs_nilp, abs_nili, abs_nilf, abs_nilm, abs_nils, un_not, z_none, List.zipIdx_cons, List.zipIdx_nil, List.foldl_cons, List.foldl_nil, List.map_cons, List.map_nil, List.map_toArray, List.nil_append, List.cons_append, List.append_nil, extractOp, List.getElem?_cons_zero, List.getElem?_cons_succ,
    Option.map_some, Option.map_none, Nat.reduceLT, Nat.reduceEqDiff, Nat.reduceAdd, Nat.zero_add, if_true, if_false, Option.getD_some, Option.getD_none, ↓reduceIte, Bool.false_eq_true, Bool.true_eq_false, reduceCtorEq, resA, resOf, Option.some.injEq, exists_eq_left', beq_self_eq_true, decide_true, decide_false, decide_eq_true_eq, ne_eq, not_true_eq_false, not_false_eq_true, Bool.not_eq_true, beq_iff_eq, bin_add, bin_sub, bin_mul, bin_eql, bin_neq, bin_lss, bin_leq, bin_gtr, bin_geq, maxA, minA, Prod.mk.injEq, and_true, true_and, beq_eq_false_iff_ne, decide_eq_false_iff_not, Bool.true_beq, Bool.false_beq, beq_true, beq_false, Bool.not_true, Bool.not_false, List.getElem?_toArray, e0, e1, e2, e3, e9, e10, hii]
    refine hQ _ _ rest i ?_ hsp (by omega)
    constructor <;> first | (simp only [↓wpS_skip, ↓wpS_ops, ↓wpS_seq, ↓wpS_cond, ↓wpS_block, ↓wpS_loop, ↓wpS_exit, ↓wpS_ret, condW_bool, ↓WOps_go, ↓WOps_skip, WOps_nil, stepA, opA, convA, isCall, put?, ev, Tr.get_put, Tr.get_nil, builtinA, callA, argEnv, wantedS, abs_int, abs_bool, abs_string, abs_nilp, abs_nili, abs_nilf, abs_nilm, abs_nils, un_not, z_none, List.zipIdx_cons, List.zipIdx_nil, List.foldl_cons, List.foldl_nil, List.map_cons, List.map_nil, List.map_toArray, List.nil_append, List.cons_append, List.append_nil, extractOp, List.getElem?_cons_zero, List.getElem?_cons_succ,
    Option.map_some, Option.map_none, Nat.reduceLT, Nat.reduceEqDiff, Nat.reduceAdd, Nat.zero_add, if_true, if_false, Option.getD_some, Option.getD_none, ↓reduceIte, Bool.false_eq_true, Bool.true_eq_false, reduceCtorEq, resA, resOf, Option.some.injEq, exists_eq_left', beq_self_eq_true, decide_true, decide_false, decide_eq_true_eq, ne_eq, not_true_eq_false, not_false_eq_true, Bool.not_eq_true, beq_iff_eq, bin_add, bin_sub, bin_mul, bin_eql, bin_neq, bin_lss, bin_leq, bin_gtr, bin_geq, maxA, minA, Prod.mk.injEq, and_true, true_and, beq_eq_false_iff_ne, decide_eq_false_iff_not, Bool.true_beq, Bool.false_beq, beq_true, beq_false, Bool.not_true, Bool.not_false, List.getElem?_toArray, e0, e1, e2, e3, e9, e10]; done) | exact ho | exact ⟨done, tail, m1, m2, m3, m4⟩
end
/-- The memory of a list of words. -/
def Wds (H : Heap) (v : AV) (ws : List (List UInt8)) : Prop := ∃ b, v = .slice b 0 ws.length (some ws.length) 1 ∧ H.get b = some (.cells (ws.map strA) 9 false)
theorem gsplit_cl (w0 : World) (l : List UInt8) (hl : l.length ≤ 500) :
    ∃ v H' nx', Cl cx 23 [strA l, .lit (.string (ByteArray.mk #[32])), .lit (.int .i64 0), .lit (.int .i64 (-1))] H nx = some (v, H', nx') ∧
      (v = .slice nx 0 (Spl.spl l).length (some (Spl.spl l).length) 1 ∧ nx' = nx + 1 ∧ H'.get nx = some (.cells ((Spl.spl l).map strA) 9 false) ∧ ∀ c, c ≠ nx → H'.get c = H.get c) := by
  have hpos : 1 ≤ (Spl.spl l).length := List.length_pos_iff.2 (Spl.spl_ne l)
  have hcl : l.count 32 ≤ l.length := List.count_le_length
  have hcnt : (Spl.spl l).length = l.count 32 + 1 := Spl.spl_len l
  obtain ⟨zs, z1, z2⟩ := mk23 (H := H) (nx := nx) (Spl.spl l).length hpos (by omega)
  refine wpP23 _ _ _ _ (by simp) ?_
  unfold s23
  have e1 : (((-1 : Int)) = 0) = False := by simp
  have e2 : ((-1 : Int) < 0) = True := by simp
  have e3 : binOpA cx.P cx.T .eql 9 (.tmp 14) (.const (.string (ByteArray.mk #[]))) (.lit (.string (ByteArray.mk #[32]))) (.lit (.string (ByteArray.mk #[]))) = some (.lit (.bool false)) := by kernel_rfl
  have hw1 : IntKind.i64.wrap ((l.count 32 : Nat) + 1) = (((Spl.spl l).length : Nat) : Int) := by rw [hcnt]; exact wrapS (by omega)
  have hw2 : IntKind.i64.wrap (((l.length : Nat) : Int) + 1) = ((l.length + 1 : Nat) : Int) := wrapS (by omega)
  have hmin : min ((Spl.spl l).length : Int) ((l.length + 1 : Nat) : Int) = ((Spl.spl l).length : Int) := by omega
  have hw3 : IntKind.i64.wrap (((Spl.spl l).length : Int) - 1) = (((Spl.spl l).length - 1 : Nat) : Int) := by
    obtain ⟨k, hk⟩ : ∃ k, (Spl.spl l).length = k + 1 := ⟨(Spl.spl l).length - 1, by omega⟩
    rw [hk]; exact wrapP (by omega)
  simp only [↓wpS_skip, ↓wpS_ops, ↓wpS_seq, ↓wpS_cond, ↓wpS_block, ↓wpS_loop, ↓wpS_exit, ↓wpS_ret, condW_bool, ↓WOps_go, ↓WOps_skip, WOps_nil, stepA, opA, convA, isCall, put?, ev, Tr.get_put, Tr.get_nil, builtinA, callA, argEnv, wantedS, abs_int, abs_bool, abs_string, abs_nilp, abs_nili, abs_nilf, abs_nilm, abs_nils, un_not, z_none, List.zipIdx_cons, List.zipIdx_nil, List.foldl_cons, List.foldl_nil, List.map_cons, List.map_nil, List.map_toArray, List.nil_append, List.cons_append, List.append_nil, extractOp, List.getElem?_cons_zero, List.getElem?_cons_succ,
    Option.map_some, Option.map_none, Nat.reduceLT, Nat.reduceEqDiff, Nat.reduceAdd, Nat.zero_add, if_true, if_false, Option.getD_some, Option.getD_none, ↓reduceIte, Bool.false_eq_true, Bool.true_eq_false, reduceCtorEq, resA, resOf, Option.some.injEq, exists_eq_left', beq_self_eq_true, decide_true, decide_false, decide_eq_true_eq, ne_eq, not_true_eq_false, not_false_eq_true, Bool.not_eq_true, beq_iff_eq, bin_add, bin_sub, bin_mul, bin_eql, bin_neq, bin_lss, bin_leq, bin_gtr, bin_geq, maxA, minA, Prod.mk.injEq, and_true, true_and, beq_eq_false_iff_ne, decide_eq_false_iff_not, Bool.true_beq, Bool.false_beq, beq_true, beq_false, Bool.not_true, Bool.not_false, List.getElem?_toArray, e1, e2, e3, x_none, cnt_cl w0, hw1, hw2, str_len, hmin, z2, hw3]
  refine gs_loop (l := l) (H0 := H) (b := nx) w0 hl ?_ ?_
  · constructor
    all_goals first
      | (simp only [↓wpS_skip, ↓wpS_ops, ↓wpS_seq, ↓wpS_cond, ↓wpS_block, ↓wpS_loop, ↓wpS_exit, ↓wpS_ret, condW_bool, ↓WOps_go, ↓WOps_skip, WOps_nil, stepA, opA, convA, isCall, put?, ev, Tr.get_put, Tr.get_nil, builtinA, callA, argEnv, wantedS, abs_int, abs_bool, abs_string, abs_nilp, abs_nili, abs_nilf, abs_nilm, abs_nils, un_not, z_none, List.zipIdx_cons, List.zipIdx_nil, List.foldl_cons, List.foldl_nil, List.map_cons, List.map_nil, List.map_toArray, List.nil_append, List.cons_append, List.append_nil, extractOp, List.getElem?_cons_zero, List.getElem?_cons_succ,
    Option.map_some, Option.map_none, Nat.reduceLT, Nat.reduceEqDiff, Nat.reduceAdd, Nat.zero_add, if_true, if_false, Option.getD_some, Option.getD_none, ↓reduceIte, Bool.false_eq_true, Bool.true_eq_false, reduceCtorEq, resA, resOf, Option.some.injEq, exists_eq_left', beq_self_eq_true, decide_true, decide_false, decide_eq_true_eq, ne_eq, not_true_eq_false, not_false_eq_true, Bool.not_eq_true, beq_iff_eq, bin_add, bin_sub, bin_mul, bin_eql, bin_neq, bin_lss, bin_leq, bin_gtr, bin_geq, maxA, minA, Prod.mk.injEq, and_true, true_and, beq_eq_false_iff_ne, decide_eq_false_iff_not, Bool.true_beq, Bool.false_beq, beq_true, beq_false, Bool.not_true, Bool.not_false, List.getElem?_toArray]; done)
      | (simp only [↓wpS_skip, ↓wpS_ops, ↓wpS_seq, ↓wpS_cond, ↓wpS_block, ↓wpS_loop, ↓wpS_exit, ↓wpS_ret, condW_bool, ↓WOps_go, ↓WOps_skip, WOps_nil, stepA, opA, convA, isCall, put?, ev, Tr.get_put, Tr.get_nil, builtinA, callA, argEnv, wantedS, abs_int, abs_bool, abs_string, abs_nilp, abs_nili, abs_nilf, abs_nilm, abs_nils, un_not, z_none, List.zipIdx_cons, List.zipIdx_nil, List.foldl_cons, List.foldl_nil, List.map_cons, List.map_nil, List.map_toArray, List.nil_append, List.cons_append, List.append_nil, extractOp, List.getElem?_cons_zero, List.getElem?_cons_succ,
    Option.map_some, Option.map_none, Nat.reduceLT, Nat.reduceEqDiff, Nat.reduceAdd, Nat.zero_add, if_true, if_false, Option.getD_some, Option.getD_none, ↓reduceIte, Bool.false_eq_true, Bool.true_eq_false, reduceCtorEq, resA, resOf, Option.some.injEq, exists_eq_left', beq_self_eq_true, decide_true, decide_false, decide_eq_true_eq, ne_eq, not_true_eq_false, not_false_eq_true, Bool.not_eq_true, beq_iff_eq, bin_add, bin_sub, bin_mul, bin_eql, bin_neq, bin_lss, bin_leq, bin_gtr, bin_geq, maxA, minA, Prod.mk.injEq, and_true, true_and, beq_eq_false_iff_ne, decide_eq_false_iff_not, Bool.true_beq, Bool.false_beq, beq_true, beq_false, Bool.not_true, Bool.not_false, List.getElem?_toArray]; rfl)
      | (intro c hc; rw [Tr.get_put_ne _ _ _ _ hc]; done)
      | exact ⟨[], zs, by simp, rfl, by rw [Tr.get_put_same]; simp, by simp [z1]⟩
  · rintro E' H' rest i ⟨e0, e1, e2, e3, e9, e10, ⟨done, tail, m1, m2, m3, m4⟩, ho⟩ hr hi
    have hix : indexAddrOp cx.T 23 (.slice nx 0 (Spl.spl l).length (some (Spl.spl l).length) 1) (.lit (.int .i64 (i : Int))) = some (.ptr nx i) := ix23 (by omega)
    have hst := st_at (t := 9) (v := strA rest) (by kernel_rfl) m3 (o := i) (by simp; omega) rfl rfl
    obtain ⟨x, rfl⟩ : ∃ x, tail = [x] := by
      match tail, m4 with
      | [], h => simp at h; omega
      | [x], _ => exact ⟨x, rfl⟩
      | x :: y :: t, h => simp at h; omega
    have hset : (done.map strA ++ [x]).set i (strA rest) = (Spl.spl l).map strA := by
      have : i = (done.map strA).length := by simp [m2]
      rw [this, set_tail, m1, hr]
      simp
    rw [hset] at hst
    have hwi : IntKind.i64.wrap ((i : Int) + 1) = (((Spl.spl l).length : Nat) : Int) := by rw [← hi]; exact wrapS (by omega)
    simp only [↓wpS_skip, ↓wpS_ops, ↓wpS_seq, ↓wpS_cond, ↓wpS_block, ↓wpS_loop, ↓wpS_exit, ↓wpS_ret, condW_bool, ↓WOps_go, ↓WOps_skip, WOps_nil, stepA, opA, convA, isCall, put?, ev, Tr.get_put, Tr.get_nil, builtinA, callA, argEnv, wantedS, abs_int, abs_bool, abs_string, abs_nilp, abs_nili, abs_nilf, abs_nilm, abs_nils, un_not, z_none, List.zipIdx_cons, List.zipIdx_nil, List.foldl_cons, List.foldl_nil, List.map_cons, List.map_nil, List.map_toArray, List.nil_append, List.cons_append, List.append_nil, extractOp, List.getElem?_cons_zero, List.getElem?_cons_succ,
    Option.map_some, Option.map_none, Nat.reduceLT, Nat.reduceEqDiff, Nat.reduceAdd, Nat.zero_add, if_true, if_false, Option.getD_some, Option.getD_none, ↓reduceIte, Bool.false_eq_true, Bool.true_eq_false, reduceCtorEq, resA, resOf, Option.some.injEq, exists_eq_left', beq_self_eq_true, decide_true, decide_false, decide_eq_true_eq, ne_eq, not_true_eq_false, not_false_eq_true, Bool.not_eq_true, beq_iff_eq, bin_add, bin_sub, bin_mul, bin_eql, bin_neq, bin_lss, bin_leq, bin_gtr, bin_geq, maxA, minA, Prod.mk.injEq, and_true, true_and, beq_eq_false_iff_ne, decide_eq_false_iff_not, Bool.true_beq, Bool.false_beq, beq_true, beq_false, Bool.not_true, Bool.not_false, List.getElem?_toArray, e0, e1, e2, e3, e9, e10, hix, hst, hwi, sl23 nx _ hpos]
    intro c hc
    rw [if_neg hc]; exact ho c hc
theorem split_cl (w0 : World) (l : List UInt8) (hl : l.length ≤ 500) :
    ∃ H', Cl cx 6 [strA l] H nx = some (.slice nx 0 (Spl.spl l).length (some (Spl.spl l).length) 1, H', nx + 1) ∧ H'.get nx = some (.cells ((Spl.spl l).map strA) 9 false) ∧ ∀ c, c ≠ nx → H'.get c = H.get c := by
  obtain ⟨v, H', nx', h1, rfl, rfl, h2, h3⟩ := gsplit_cl (H := H) (nx := nx) w0 l hl
  refine ⟨H', ?_, h2, h3⟩
  have h13 : Cl cx 13 [strA l, .lit (.string (ByteArray.mk #[32]))] H nx = some (.slice nx 0 (Spl.spl l).length (some (Spl.spl l).length) 1, H', nx + 1) := by
    refine wp13 _ _ _ _ (by simp) ?_
    unfold s13
    simp only [↓wpS_skip, ↓wpS_ops, ↓wpS_seq, ↓wpS_cond, ↓wpS_block, ↓wpS_loop, ↓wpS_exit, ↓wpS_ret, condW_bool, ↓WOps_go, ↓WOps_skip, WOps_nil, stepA, opA, convA, isCall, put?, ev, Tr.get_put, Tr.get_nil, builtinA, callA, argEnv, wantedS, abs_int, abs_bool, abs_string, abs_nilp, abs_nili, abs_nilf, abs_nilm, abs_nils, un_not, z_none, List.zipIdx_cons, List.zipIdx_nil, List.foldl_cons, List.foldl_nil, List.map_cons, List.map_nil, List.map_toArray, List.nil_append, List.cons_append, List.append_nil, extractOp, List.getElem?_cons_zero, List.getElem?_cons_succ,
    Option.map_some, Option.map_none, Nat.reduceLT, Nat.reduceEqDiff, Nat.reduceAdd, Nat.zero_add, if_true, if_false, Option.getD_some, Option.getD_none, ↓reduceIte, Bool.false_eq_true, Bool.true_eq_false, reduceCtorEq, resA, resOf, Option.some.injEq, exists_eq_left', beq_self_eq_true, decide_true, decide_false, decide_eq_true_eq, ne_eq, not_true_eq_false, not_false_eq_true, Bool.not_eq_true, beq_iff_eq, bin_add, bin_sub, bin_mul, bin_eql, bin_neq, bin_lss, bin_leq, bin_gtr, bin_geq, maxA, minA, Prod.mk.injEq, and_true, true_and, beq_eq_false_iff_ne, decide_eq_false_iff_not, Bool.true_beq, Bool.false_beq, beq_true, beq_false, Bool.not_true, Bool.not_false, List.getElem?_toArray, x_none, h1]
  refine wp6 _ _ _ _ (by simp) ?_
  unfold s6
  simp only [↓wpS_skip, ↓wpS_ops, ↓wpS_seq, ↓wpS_cond, ↓wpS_block, ↓wpS_loop, ↓wpS_exit, ↓wpS_ret, condW_bool, ↓WOps_go, ↓WOps_skip, WOps_nil, stepA, opA, convA, isCall, put?, ev, Tr.get_put, Tr.get_nil, builtinA, callA, argEnv, wantedS, abs_int, abs_bool, abs_string, abs_nilp, abs_nili, abs_nilf, abs_nilm, abs_nils, un_not, z_none, List.zipIdx_cons, List.zipIdx_nil, List.foldl_cons, List.foldl_nil, List.map_cons, List.map_nil, List.map_toArray, List.nil_append, List.cons_append, List.append_nil, extractOp, List.getElem?_cons_zero, List.getElem?_cons_succ,
    Option.map_some, Option.map_none, Nat.reduceLT, Nat.reduceEqDiff, Nat.reduceAdd, Nat.zero_add, if_true, if_false, Option.getD_some, Option.getD_none, ↓reduceIte, Bool.false_eq_true, Bool.true_eq_false, reduceCtorEq, resA, resOf, Option.some.injEq, exists_eq_left', beq_self_eq_true, decide_true, decide_false, decide_eq_true_eq, ne_eq, not_true_eq_false, not_false_eq_true, Bool.not_eq_true, beq_iff_eq, bin_add, bin_sub, bin_mul, bin_eql, bin_neq, bin_lss, bin_leq, bin_gtr, bin_geq, maxA, minA, Prod.mk.injEq, and_true, true_and, beq_eq_false_iff_ne, decide_eq_false_iff_not, Bool.true_beq, Bool.false_beq, beq_true, beq_false, Bool.not_true, Bool.not_false, List.getElem?_toArray, x_none, h13]
end Seat
end CI
