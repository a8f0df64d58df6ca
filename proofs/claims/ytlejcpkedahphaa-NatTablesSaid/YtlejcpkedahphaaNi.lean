/- nat, walked: Matrix. -/
import Derived.Test.YtlejcpkedahphaaNh
set_option linter.unusedVariables false
set_option linter.unusedSimpArgs false
namespace CI
open Go
def wideN (L : List (List Int)) : Nat → Nat
  | 0 => 0
  | i + 1 => max (wideN L i) ((L.getD i []).length)
/-- A place of the product of two tables, of the first j terms. -/
def cellU (A B : List (List Int)) (i k : Nat) : Nat → Int := Seat.dotU (fun j => (A.getD i []).getD j 0) (fun j => (B.getD j []).getD k 0)
def rowA (n : Nat) (f : Nat → Int) : List AV := (List.range n).map fun x => .lit (.int .i64 (f x))
theorem rowA_len (n : Nat) (f : Nat → Int) : (rowA n f).length = n := by simp [rowA]
theorem rowA_get {n : Nat} {f : Nat → Int} {x : Nat} (h : x < n) : (rowA n f)[x]? = some (.lit (.int .i64 (f x))) := by simp [rowA, h]
theorem rowA_set {n : Nat} {f : Nat → Int} {k : Nat} (v : Int) : (rowA n f).set k (.lit (.int .i64 v)) = rowA n (fun x => if x = k then v else f x) := by
  apply List.ext_getElem?
  intro j
  rw [List.getElem?_set]
  by_cases hj : j < n
  · rw [rowA_get hj, rowA_len]
    by_cases h : k = j
    · subst h; rw [rowA_get hj]; simp [hj]
    · rw [if_neg h, rowA_get hj, if_neg (by omega)]
  · have h1 : (rowA n f)[j]? = none := List.getElem?_eq_none (by rw [rowA_len]; omega)
    have h2 : (rowA n (fun x => if x = k then v else f x))[j]? = none := List.getElem?_eq_none (by rw [rowA_len]; omega)
    rw [h1, h2]
    split
    · split
      · rename_i h3; rw [rowA_len] at h3; omega
      · rfl
    · rfl
theorem rowA_congr {n : Nat} {f g : Nat → Int} (h : ∀ x, x < n → f x = g x) : rowA n f = rowA n g := List.map_congr_left fun x hx => by rw [h x (by simpa using hx)]
theorem rowA_rep (n : Nat) : List.replicate n (.lit (.int .i64 0)) = rowA n fun _ => 0 := by
  apply List.ext_getElem
  · simp [rowA]
  · intro i h1 h2; simp [rowA]
theorem Ints.getD {H : Heap} {s : AV} {l : List Int} (h : Ints H s l) (i : Nat) : I64 (l.getD i 0) := by
  rw [List.getD_eq_getElem?_getD]
  cases hi : l[i]? with
  | none => exact Seat.i64_0
  | some x => exact h.1 x (List.mem_of_getElem? hi)
theorem ints_row {H : Heap} {b n : Nat} {f : Nat → Int} {t : TypeId} {ro : Bool} {c : Option Nat} (hb : H.get b = some (.cells (rowA n f) t ro)) (hf : ∀ i, I64 (f i)) (hn : n < 9223372036854775808) : Ints H (.slice b 0 n c 1) ((List.range n).map f) := by
  refine ⟨?_, by simpa using hn, .inl ⟨b, 0, c, _, _, _, by simp, hb, ?_⟩⟩
  · intro x hx; simp only [List.mem_map] at hx; obtain ⟨y, _, rfl⟩ := hx; exact hf y
  · intro i x hi
    simp only [List.getElem?_map, Option.map_eq_some_iff] at hi
    obtain ⟨y, hy, rfl⟩ := hi
    have hlt : i < n := by
      have := (List.getElem?_eq_some_iff.1 hy).1; simpa using this
    have : y = i := by simp [hlt] at hy; omega
    subst this
    rw [Nat.zero_add]; exact rowA_get hlt
def matL (A B : List (List Int)) : List (List Int) := (List.range A.length).map fun i => (List.range (wideN B B.length)).map fun k => cellU A B i k B.length
namespace Seat
theorem ix31 {b n i : Nat} {c : Option Nat} (h : i < n) : indexAddrOp cx.T 31 (.slice b 0 n c 1) (.lit (.int .i64 i)) = some (.ptr b i) := by
  unfold indexAddrOp
  simp only [T31, ti31, T22, ti22]
  rw [if_pos ⟨by omega, by omega, trivial⟩]
  simp
theorem ix22 {b n i : Nat} {c : Option Nat} (h : i < n) : indexAddrOp cx.T 22 (.slice b 0 n c 1) (.lit (.int .i64 i)) = some (.ptr b i) := by
  unfold indexAddrOp
  simp only [T22, ti22, T3, ti3]
  rw [if_pos ⟨by omega, by omega, trivial⟩]
  simp
theorem eqB_slice (b o n : Nat) (c : Option Nat) (e : Nat) : AV.eqB (.slice b o n c e) (.slice b o n c e) = true := by simp [AV.eqB]
theorem wrapS {i : Nat} (h : i < 9223372036854775807) : IntKind.i64.wrap ((i : Int) + 1) = ((i + 1 : Nat) : Int) := by
  rw [wrapI]; · rfl
  constructor <;> omega

section inner
variable {A B : List (List Int)} {a b : AV} {n0 nx i W : Nat} {H2 : Heap} {r : AV}
/-- One row of the product: what stands beside it does not change. -/
theorem matrix_row {E : Tr AV} {R : List AV} (hB : Tab n0 H2 b B) (hn0 : n0 ≤ nx) (hr : IntsB n0 H2 r (A.getD i [])) (hi : i < A.length) (hA : A.length ≤ 1000) (hW : W ≤ 1000)
    (hout : H2.get nx = some (.cells R 22 false)) (hR : R[i]? = some (.slice (nx + 1 + i) 0 W (some W) 1))
    (hrow : H2.get (nx + 1 + i) = some (.cells (rowA W fun _ => 0) 3 false))
    {QQ : Ex → St → Prop}
    (e1 : E.get 1 = some b) (e5 : E.get 5 = some (.lit (.int .i64 W))) (e8 : E.get 8 = some (.slice nx 0 A.length (some A.length) 1)) (e9 : E.get 9 = some (.lit (.int .i64 i))) (e10 : E.get 10 = some r)
    (e27 : E.get 27 = some a) (e28 : E.get 28 = some (.lit (.int .i64 A.length))) (e29 : E.get 29 = some (.lit (.int .i64 i)))
    (e39 : E.get 39 = some (.lit (.int .i64 W))) (e40 : E.get 40 = some (.lit (.int .i64 (0 : Nat))))
    (hQ : ∀ E' H', E'.get 1 = some b → E'.get 5 = some (.lit (.int .i64 W)) → E'.get 8 = some (.slice nx 0 A.length (some A.length) 1) → E'.get 27 = some a → E'.get 28 = some (.lit (.int .i64 A.length)) → E'.get 29 = some (.lit (.int .i64 i)) →
      (∀ c, c ≠ nx + 1 + i → H'.get c = H2.get c) → H'.get (nx + 1 + i) = some (.cells (rowA W fun k => cellU A B i k B.length) 3 false) → QQ (.exit 4) ⟨E', H', nx + 2 + i⟩) :
    Wp cx 76 (.loop s19_l2) ⟨E, H2, nx + 2 + i⟩ QQ := by
  refine Wp_loop (fun n st => ∃ k : Nat, n = W - k ∧ k ≤ W ∧ st.nx = nx + 2 + i ∧ (∀ c, c ≠ nx + 1 + i → st.H.get c = H2.get c) ∧
    st.H.get (nx + 1 + i) = some (.cells (rowA W fun x => if x < k then cellU A B i x B.length else 0) 3 false) ∧
    st.env.get 1 = some b ∧ st.env.get 5 = some (.lit (.int .i64 W)) ∧ st.env.get 8 = some (.slice nx 0 A.length (some A.length) 1) ∧ st.env.get 9 = some (.lit (.int .i64 i)) ∧ st.env.get 10 = some r ∧
    st.env.get 27 = some a ∧ st.env.get 28 = some (.lit (.int .i64 A.length)) ∧ st.env.get 29 = some (.lit (.int .i64 i)) ∧ st.env.get 39 = some (.lit (.int .i64 W)) ∧ st.env.get 40 = some (.lit (.int .i64 k))) ?_ W _
    ⟨0, by omega, by omega, rfl, fun _ _ => rfl, by simpa using hrow, e1, e5, e8, e9, e10, e27, e28, e29, e39, e40⟩
  rintro n ⟨E1, H1, nx1⟩ ⟨k, hn, hk, hnx, hH, hC, e1, e5, e8, e9, e10, e27, e28, e29, e39, e40⟩
  simp only at hnx hH hC; subst hnx
  refine Wp_of ?_
  unfold s19_l2
  by_cases hlt : k < W
  · have hwk := wrapS (i := k) (by omega)
    simp only [↓wpS_skip, ↓wpS_ops, ↓wpS_seq, ↓wpS_cond, ↓wpS_block, ↓wpS_loop, ↓wpS_exit, ↓wpS_ret, condW_bool, ↓WOps_go, ↓WOps_skip, WOps_nil, stepA, opA, isCall, put?, ev, Tr.get_put, Tr.get_nil, builtinA, callA, argEnv, wantedS, abs_int, abs_bool, abs_string, List.zipIdx_cons, List.zipIdx_nil, List.foldl_cons, List.foldl_nil, List.map_cons, List.map_nil, List.map_toArray, List.nil_append, List.cons_append, List.append_nil, extractOp, List.getElem?_cons_zero, List.getElem?_cons_succ,
    Option.map_some, Option.map_none, Nat.reduceLT, Nat.reduceEqDiff, Nat.reduceAdd, Nat.zero_add, if_true, if_false, Option.getD_some, Option.getD_none, ↓reduceIte, Bool.false_eq_true, Bool.true_eq_false, reduceCtorEq, resA, resOf, Option.some.injEq, exists_eq_left', beq_self_eq_true, decide_true, decide_false, decide_eq_true_eq, ne_eq, not_true_eq_false, not_false_eq_true, Bool.not_eq_true, beq_iff_eq, bin_add, bin_sub, bin_mul, bin_eql, bin_neq, bin_lss, bin_leq, bin_gtr, bin_geq, maxA, minA, Prod.mk.injEq, and_true, true_and, beq_eq_false_iff_ne, decide_eq_false_iff_not, Bool.true_beq, Bool.false_beq, beq_true, beq_false, Bool.not_true, Bool.not_false, List.getElem?_toArray, e1, e5, e8, e9, e10, e27, e28, e29, e39, e40, Int.ofNat_lt, hlt, tab_len hB]
    refine Wp_loop (fun n st => ∃ j : Nat, n = B.length - j ∧ j ≤ B.length ∧ st.nx = nx + 2 + i ∧ (∀ c, c ≠ nx + 1 + i → st.H.get c = H2.get c) ∧
      st.H.get (nx + 1 + i) = some (.cells (rowA W fun x => if x < k then cellU A B i x B.length else if x = k then cellU A B i k j else 0) 3 false) ∧
      st.env.get 1 = some b ∧ st.env.get 5 = some (.lit (.int .i64 W)) ∧ st.env.get 8 = some (.slice nx 0 A.length (some A.length) 1) ∧ st.env.get 9 = some (.lit (.int .i64 i)) ∧ st.env.get 10 = some r ∧
      st.env.get 27 = some a ∧ st.env.get 28 = some (.lit (.int .i64 A.length)) ∧ st.env.get 29 = some (.lit (.int .i64 i)) ∧ st.env.get 39 = some (.lit (.int .i64 W)) ∧ st.env.get 40 = some (.lit (.int .i64 k)) ∧
      st.env.get 11 = some (.lit (.int .i64 k)) ∧ st.env.get 44 = some (.lit (.int .i64 B.length)) ∧ st.env.get 45 = some (.lit (.int .i64 j))) ?_ B.length _ ⟨0, ?_⟩
    · rintro n ⟨E2, H3, nx3⟩ ⟨j, hn, hj, hnx3, hH3, hC3, f1, f5, f8, f9, f10, f27, f28, f29, f39, f40, f11, f44, f45⟩
      simp only at hnx3 hH3 hC3; subst hnx3
      refine Wp_of ?_
      unfold s19_l1
      have hfr : Fr n0 H2 H3 := fun c hc => hH3 c (by omega)
      by_cases hjl : j < B.length
      · have hwj := wrapS (i := j) (by have := hB.1; omega)
        obtain ⟨p2, r2, hp2, hl2, hi2⟩ := tab_at (hB.fr hfr) (List.getElem?_eq_getElem hjl)
        have hr3 := hr.fr hfr
        have lo : loadOp cx.T H3 22 (.ptr nx i) = some (.slice (nx + 1 + i) 0 W (some W) 1) := load_at T22 rfl (by rw [hH3 nx (by omega)]; exact hout) hR
        have la : loadOp cx.T H3 3 (.ptr (nx + 1 + i) k) = some (.lit (.int .i64 (cellU A B i k j))) := load_at T3 rfl hC3 (by rw [rowA_get hlt]; simp)
        have hcu : I64 (cellU A B i k j) := dotU_i _ _ _
        have hBj : B.getD j [] = B[j] := by simp [List.getD_eq_getElem?_getD, hjl]
        have st := fun v : Int => store_at (T := cx.T) (v := .lit (.int .i64 v)) T3 rfl hC3 (show k < _ by rw [rowA_len]; exact hlt) rfl rfl
        have bb : AV.belowB (nx + 2 + i) r2 = true := hi2.below (by omega)
        have bs : decide (nx + 1 + i < nx + 2 + i) = true := decide_eq_true (by omega)
        have hd : satAdd (cellU A B i k j) (satMul ((A.getD i []).getD j 0) (B[j].getD k 0)) = cellU A B i k (j + 1) := by
          rw [← hBj]; rfl
        simp only [↓wpS_skip, ↓wpS_ops, ↓wpS_seq, ↓wpS_cond, ↓wpS_block, ↓wpS_loop, ↓wpS_exit, ↓wpS_ret, condW_bool, ↓WOps_go, ↓WOps_skip, WOps_nil, stepA, opA, isCall, put?, ev, Tr.get_put, Tr.get_nil, builtinA, callA, argEnv, wantedS, abs_int, abs_bool, abs_string, List.zipIdx_cons, List.zipIdx_nil, List.foldl_cons, List.foldl_nil, List.map_cons, List.map_nil, List.map_toArray, List.nil_append, List.cons_append, List.append_nil, extractOp, List.getElem?_cons_zero, List.getElem?_cons_succ,
    Option.map_some, Option.map_none, Nat.reduceLT, Nat.reduceEqDiff, Nat.reduceAdd, Nat.zero_add, if_true, if_false, Option.getD_some, Option.getD_none, ↓reduceIte, Bool.false_eq_true, Bool.true_eq_false, reduceCtorEq, resA, resOf, Option.some.injEq, exists_eq_left', beq_self_eq_true, decide_true, decide_false, decide_eq_true_eq, ne_eq, not_true_eq_false, not_false_eq_true, Bool.not_eq_true, beq_iff_eq, bin_add, bin_sub, bin_mul, bin_eql, bin_neq, bin_lss, bin_leq, bin_gtr, bin_geq, maxA, minA, Prod.mk.injEq, and_true, true_and, beq_eq_false_iff_ne, decide_eq_false_iff_not, Bool.true_beq, Bool.false_beq, beq_true, beq_false, Bool.not_true, Bool.not_false, List.getElem?_toArray, f1, f5, f8, f9, f10, f27, f28, f29, f39, f40, f11, f44, f45, Int.ofNat_lt, hjl]
        refine s19_d0_wp ?_
        unfold s19_d0s
        simp only [↓wpS_skip, ↓wpS_ops, ↓wpS_seq, ↓wpS_cond, ↓wpS_block, ↓wpS_loop, ↓wpS_exit, ↓wpS_ret, condW_bool, ↓WOps_go, ↓WOps_skip, WOps_nil, stepA, opA, isCall, put?, ev, Tr.get_put, Tr.get_nil, builtinA, callA, argEnv, wantedS, abs_int, abs_bool, abs_string, List.zipIdx_cons, List.zipIdx_nil, List.foldl_cons, List.foldl_nil, List.map_cons, List.map_nil, List.map_toArray, List.nil_append, List.cons_append, List.append_nil, extractOp, List.getElem?_cons_zero, List.getElem?_cons_succ,
    Option.map_some, Option.map_none, Nat.reduceLT, Nat.reduceEqDiff, Nat.reduceAdd, Nat.zero_add, if_true, if_false, Option.getD_some, Option.getD_none, ↓reduceIte, Bool.false_eq_true, Bool.true_eq_false, reduceCtorEq, resA, resOf, Option.some.injEq, exists_eq_left', beq_self_eq_true, decide_true, decide_false, decide_eq_true_eq, ne_eq, not_true_eq_false, not_false_eq_true, Bool.not_eq_true, beq_iff_eq, bin_add, bin_sub, bin_mul, bin_eql, bin_neq, bin_lss, bin_leq, bin_gtr, bin_geq, maxA, minA, Prod.mk.injEq, and_true, true_and, beq_eq_false_iff_ne, decide_eq_false_iff_not, Bool.true_beq, Bool.false_beq, beq_true, beq_false, Bool.not_true, Bool.not_false, List.getElem?_toArray, ↓WD_cons, ↓WD_one, txS, dk_read, dk_still, dk_eff, dk_skip, dkLast_still, dkLast_eff, dkLast_skip, loadOp_ro, loadOp_nil, isEff, eqB_int, AV.belowB, Nat.le_refl, nx_succ, x_none, f1, f5, f8, f9, f10, f27, f28, f29, f39, f40, f11, f44, f45, ix31 hi, ix22 hlt, lo, la, eqB_slice, bs, hp2, hl2, hi2.2.1, bb, at_cl hr3.1 j, at_cl hi2.1 k, mul_cl (hr3.1.getD j) (hi2.1.getD k), add_cl hcu (satMul_i _ _), st, hd, hwj]
        refine ⟨B.length - (j + 1), by omega, j + 1, rfl, by omega, fun c hc => ?_, ?_, rfl⟩
        · rw [if_neg hc]; exact hH3 c hc
        · rw [rowA_set]
          congr 1
          refine rowA_congr fun x _ => ?_
          by_cases hx : x = k
          · subst hx; simp
          · simp [hx]
      · have hjB : j = B.length := by omega
        subst hjB
        simp only [↓wpS_skip, ↓wpS_ops, ↓wpS_seq, ↓wpS_cond, ↓wpS_block, ↓wpS_loop, ↓wpS_exit, ↓wpS_ret, condW_bool, ↓WOps_go, ↓WOps_skip, WOps_nil, stepA, opA, isCall, put?, ev, Tr.get_put, Tr.get_nil, builtinA, callA, argEnv, wantedS, abs_int, abs_bool, abs_string, List.zipIdx_cons, List.zipIdx_nil, List.foldl_cons, List.foldl_nil, List.map_cons, List.map_nil, List.map_toArray, List.nil_append, List.cons_append, List.append_nil, extractOp, List.getElem?_cons_zero, List.getElem?_cons_succ,
    Option.map_some, Option.map_none, Nat.reduceLT, Nat.reduceEqDiff, Nat.reduceAdd, Nat.zero_add, if_true, if_false, Option.getD_some, Option.getD_none, ↓reduceIte, Bool.false_eq_true, Bool.true_eq_false, reduceCtorEq, resA, resOf, Option.some.injEq, exists_eq_left', beq_self_eq_true, decide_true, decide_false, decide_eq_true_eq, ne_eq, not_true_eq_false, not_false_eq_true, Bool.not_eq_true, beq_iff_eq, bin_add, bin_sub, bin_mul, bin_eql, bin_neq, bin_lss, bin_leq, bin_gtr, bin_geq, maxA, minA, Prod.mk.injEq, and_true, true_and, beq_eq_false_iff_ne, decide_eq_false_iff_not, Bool.true_beq, Bool.false_beq, beq_true, beq_false, Bool.not_true, Bool.not_false, List.getElem?_toArray, f1, f5, f8, f9, f10, f27, f28, f29, f39, f40, f11, f44, f45, Int.ofNat_lt, Nat.lt_irrefl, hwk]
        refine ⟨W - (k + 1), by omega, k + 1, rfl, by omega, hH3, ?_, rfl⟩
        rw [hC3]
        congr 3
        funext x
        by_cases hx : x < k
        · simp [hx, show x < k + 1 by omega]
        · by_cases hx2 : x = k
          · subst hx2; simp
          · simp [hx, hx2, show ¬ x < k + 1 by omega]
    · simp only [↓wpS_skip, ↓wpS_ops, ↓wpS_seq, ↓wpS_cond, ↓wpS_block, ↓wpS_loop, ↓wpS_exit, ↓wpS_ret, condW_bool, ↓WOps_go, ↓WOps_skip, WOps_nil, stepA, opA, isCall, put?, ev, Tr.get_put, Tr.get_nil, builtinA, callA, argEnv, wantedS, abs_int, abs_bool, abs_string, List.zipIdx_cons, List.zipIdx_nil, List.foldl_cons, List.foldl_nil, List.map_cons, List.map_nil, List.map_toArray, List.nil_append, List.cons_append, List.append_nil, extractOp, List.getElem?_cons_zero, List.getElem?_cons_succ,
    Option.map_some, Option.map_none, Nat.reduceLT, Nat.reduceEqDiff, Nat.reduceAdd, Nat.zero_add, if_true, if_false, Option.getD_some, Option.getD_none, ↓reduceIte, Bool.false_eq_true, Bool.true_eq_false, reduceCtorEq, resA, resOf, Option.some.injEq, exists_eq_left', beq_self_eq_true, decide_true, decide_false, decide_eq_true_eq, ne_eq, not_true_eq_false, not_false_eq_true, Bool.not_eq_true, beq_iff_eq, bin_add, bin_sub, bin_mul, bin_eql, bin_neq, bin_lss, bin_leq, bin_gtr, bin_geq, maxA, minA, Prod.mk.injEq, and_true, true_and, beq_eq_false_iff_ne, decide_eq_false_iff_not, Bool.true_beq, Bool.false_beq, beq_true, beq_false, Bool.not_true, Bool.not_false, List.getElem?_toArray, e1, e5, e8, e9, e10, e27, e28, e29, e39, e40]
      refine ⟨by omega, by omega, hH, ?_, rfl⟩
      rw [hC]
      congr 3
      funext x
      by_cases hx : x = k
      · subst hx; simp [cellU, dotU]
      · simp [hx]
  · have hkW : k = W := by omega
    subst hkW
    simp only [↓wpS_skip, ↓wpS_ops, ↓wpS_seq, ↓wpS_cond, ↓wpS_block, ↓wpS_loop, ↓wpS_exit, ↓wpS_ret, condW_bool, ↓WOps_go, ↓WOps_skip, WOps_nil, stepA, opA, isCall, put?, ev, Tr.get_put, Tr.get_nil, builtinA, callA, argEnv, wantedS, abs_int, abs_bool, abs_string, List.zipIdx_cons, List.zipIdx_nil, List.foldl_cons, List.foldl_nil, List.map_cons, List.map_nil, List.map_toArray, List.nil_append, List.cons_append, List.append_nil, extractOp, List.getElem?_cons_zero, List.getElem?_cons_succ,
    Option.map_some, Option.map_none, Nat.reduceLT, Nat.reduceEqDiff, Nat.reduceAdd, Nat.zero_add, if_true, if_false, Option.getD_some, Option.getD_none, ↓reduceIte, Bool.false_eq_true, Bool.true_eq_false, reduceCtorEq, resA, resOf, Option.some.injEq, exists_eq_left', beq_self_eq_true, decide_true, decide_false, decide_eq_true_eq, ne_eq, not_true_eq_false, not_false_eq_true, Bool.not_eq_true, beq_iff_eq, bin_add, bin_sub, bin_mul, bin_eql, bin_neq, bin_lss, bin_leq, bin_gtr, bin_geq, maxA, minA, Prod.mk.injEq, and_true, true_and, beq_eq_false_iff_ne, decide_eq_false_iff_not, Bool.true_beq, Bool.false_beq, beq_true, beq_false, Bool.not_true, Bool.not_false, List.getElem?_toArray, e1, e5, e8, e9, e10, e27, e28, e29, e39, e40, Int.ofNat_lt, Nat.lt_irrefl]
    refine hQ _ _ ?_ ?_ ?_ ?_ ?_ ?_ hH ?_
    all_goals first
      | (simp only [↓wpS_skip, ↓wpS_ops, ↓wpS_seq, ↓wpS_cond, ↓wpS_block, ↓wpS_loop, ↓wpS_exit, ↓wpS_ret, condW_bool, ↓WOps_go, ↓WOps_skip, WOps_nil, stepA, opA, isCall, put?, ev, Tr.get_put, Tr.get_nil, builtinA, callA, argEnv, wantedS, abs_int, abs_bool, abs_string, List.zipIdx_cons, List.zipIdx_nil, List.foldl_cons, List.foldl_nil, List.map_cons, List.map_nil, List.map_toArray, List.nil_append, List.cons_append, List.append_nil, extractOp, List.getElem?_cons_zero, List.getElem?_cons_succ,
    Option.map_some, Option.map_none, Nat.reduceLT, Nat.reduceEqDiff, Nat.reduceAdd, Nat.zero_add, if_true, if_false, Option.getD_some, Option.getD_none, ↓reduceIte, Bool.false_eq_true, Bool.true_eq_false, reduceCtorEq, resA, resOf, Option.some.injEq, exists_eq_left', beq_self_eq_true, decide_true, decide_false, decide_eq_true_eq, ne_eq, not_true_eq_false, not_false_eq_true, Bool.not_eq_true, beq_iff_eq, bin_add, bin_sub, bin_mul, bin_eql, bin_neq, bin_lss, bin_leq, bin_gtr, bin_geq, maxA, minA, Prod.mk.injEq, and_true, true_and, beq_eq_false_iff_ne, decide_eq_false_iff_not, Bool.true_beq, Bool.false_beq, beq_true, beq_false, Bool.not_true, Bool.not_false, List.getElem?_toArray, e1, e5, e8, e9, e10, e27, e28, e29, e39, e40]; done)
      | skip
    rw [hC, rowA_congr fun x hx => if_pos hx]
end inner

theorem wideN_le {L : List (List Int)} {m : Nat} (h : ∀ l ∈ L, l.length ≤ m) : ∀ i, wideN L i ≤ m
  | 0 => Nat.zero_le _
  | i + 1 => by
    have := wideN_le h i
    simp only [wideN]
    rw [List.getD_eq_getElem?_getD]
    cases hl : L[i]? with
    | none => simpa using this
    | some l => have := h l (List.mem_of_getElem? hl); simp only [Option.getD_some]; omega
theorem matrix_cl {A B : List (List Int)} {a b : AV} {n0 nx : Nat} {H : Heap} (hA : Tab n0 H a A) (hB : Tab n0 H b B) (hn0 : n0 ≤ nx) (hAl : A.length ≤ 1000) (hBl : ∀ l ∈ B, l.length ≤ 1000) :
    ∃ v H' nx', Cl cx 19 [a, b] H nx = some (v, H', nx') ∧ Fr nx H H' ∧ nx ≤ nx' ∧ Tab nx' H' v (matL A B) := by
  refine wpP19 _ _ _ (fun v H' nx' => Fr nx H H' ∧ nx ≤ nx' ∧ Tab nx' H' v (matL A B)) (by simp) ?_
  unfold s19
  simp only [↓wpS_skip, ↓wpS_ops, ↓wpS_seq, ↓wpS_cond, ↓wpS_block, ↓wpS_loop, ↓wpS_exit, ↓wpS_ret, condW_bool, ↓WOps_go, ↓WOps_skip, WOps_nil, stepA, opA, isCall, put?, ev, Tr.get_put, Tr.get_nil, builtinA, callA, argEnv, wantedS, abs_int, abs_bool, abs_string, List.zipIdx_cons, List.zipIdx_nil, List.foldl_cons, List.foldl_nil, List.map_cons, List.map_nil, List.map_toArray, List.nil_append, List.cons_append, List.append_nil, extractOp, List.getElem?_cons_zero, List.getElem?_cons_succ,
    Option.map_some, Option.map_none, Nat.reduceLT, Nat.reduceEqDiff, Nat.reduceAdd, Nat.zero_add, if_true, if_false, Option.getD_some, Option.getD_none, ↓reduceIte, Bool.false_eq_true, Bool.true_eq_false, reduceCtorEq, resA, resOf, Option.some.injEq, exists_eq_left', beq_self_eq_true, decide_true, decide_false, decide_eq_true_eq, ne_eq, not_true_eq_false, not_false_eq_true, Bool.not_eq_true, beq_iff_eq, bin_add, bin_sub, bin_mul, bin_eql, bin_neq, bin_lss, bin_leq, bin_gtr, bin_geq, maxA, minA, Prod.mk.injEq, and_true, true_and, beq_eq_false_iff_ne, decide_eq_false_iff_not, Bool.true_beq, Bool.false_beq, beq_true, beq_false, Bool.not_true, Bool.not_false, List.getElem?_toArray, tab_len hB]
  refine Wp_loop (fun n st => ∃ i : Nat, n = B.length - i ∧ i ≤ B.length ∧ st.nx = nx ∧ st.H = H ∧ st.env.get 0 = some a ∧ st.env.get 1 = some b ∧ st.env.get 5 = some (.lit (.int .i64 (wideN B i))) ∧
    st.env.get 13 = some b ∧ st.env.get 14 = some (.lit (.int .i64 B.length)) ∧ st.env.get 15 = some (.lit (.int .i64 i))) ?_ B.length _ ⟨0, ?_⟩
  · rintro n ⟨E, H1, nx1⟩ ⟨i, hn, hi, q1, q2, e0, e1, e5, e13, e14, e15⟩
    simp only at q1 q2; subst q1; subst q2
    refine Wp_of ?_
    unfold s19_l0
    by_cases hlt : i < B.length
    · obtain ⟨p, r, hp, hr, hri⟩ := tab_at hB (List.getElem?_eq_getElem hlt)
      have hw := wrapS (i := i) (by have := hB.1; omega)
      have hm : max ((wideN B i : Nat) : Int) (B[i].length : Nat) = ((wideN B (i + 1) : Nat) : Int) := by
        simp only [wideN, List.getD_eq_getElem?_getD, List.getElem?_eq_getElem hlt, Option.getD_some]; omega
      simp only [↓wpS_skip, ↓wpS_ops, ↓wpS_seq, ↓wpS_cond, ↓wpS_block, ↓wpS_loop, ↓wpS_exit, ↓wpS_ret, condW_bool, ↓WOps_go, ↓WOps_skip, WOps_nil, stepA, opA, isCall, put?, ev, Tr.get_put, Tr.get_nil, builtinA, callA, argEnv, wantedS, abs_int, abs_bool, abs_string, List.zipIdx_cons, List.zipIdx_nil, List.foldl_cons, List.foldl_nil, List.map_cons, List.map_nil, List.map_toArray, List.nil_append, List.cons_append, List.append_nil, extractOp, List.getElem?_cons_zero, List.getElem?_cons_succ,
    Option.map_some, Option.map_none, Nat.reduceLT, Nat.reduceEqDiff, Nat.reduceAdd, Nat.zero_add, if_true, if_false, Option.getD_some, Option.getD_none, ↓reduceIte, Bool.false_eq_true, Bool.true_eq_false, reduceCtorEq, resA, resOf, Option.some.injEq, exists_eq_left', beq_self_eq_true, decide_true, decide_false, decide_eq_true_eq, ne_eq, not_true_eq_false, not_false_eq_true, Bool.not_eq_true, beq_iff_eq, bin_add, bin_sub, bin_mul, bin_eql, bin_neq, bin_lss, bin_leq, bin_gtr, bin_geq, maxA, minA, Prod.mk.injEq, and_true, true_and, beq_eq_false_iff_ne, decide_eq_false_iff_not, Bool.true_beq, Bool.false_beq, beq_true, beq_false, Bool.not_true, Bool.not_false, List.getElem?_toArray, e0, e1, e5, e13, e14, e15, Int.ofNat_lt, hlt, hp, hr, ints_len hri.1, hm, hw]
      refine ⟨B.length - (i + 1), by omega, i + 1, rfl, by omega, rfl, rfl⟩
    · have hiB : i = B.length := by omega
      subst hiB
      have hW : wideN B B.length ≤ 1000 := wideN_le hBl _
      generalize hWW : wideN B B.length = W at *
      simp only [↓wpS_skip, ↓wpS_ops, ↓wpS_seq, ↓wpS_cond, ↓wpS_block, ↓wpS_loop, ↓wpS_exit, ↓wpS_ret, condW_bool, ↓WOps_go, ↓WOps_skip, WOps_nil, stepA, opA, isCall, put?, ev, Tr.get_put, Tr.get_nil, builtinA, callA, argEnv, wantedS, abs_int, abs_bool, abs_string, List.zipIdx_cons, List.zipIdx_nil, List.foldl_cons, List.foldl_nil, List.map_cons, List.map_nil, List.map_toArray, List.nil_append, List.cons_append, List.append_nil, extractOp, List.getElem?_cons_zero, List.getElem?_cons_succ,
    Option.map_some, Option.map_none, Nat.reduceLT, Nat.reduceEqDiff, Nat.reduceAdd, Nat.zero_add, if_true, if_false, Option.getD_some, Option.getD_none, ↓reduceIte, Bool.false_eq_true, Bool.true_eq_false, reduceCtorEq, resA, resOf, Option.some.injEq, exists_eq_left', beq_self_eq_true, decide_true, decide_false, decide_eq_true_eq, ne_eq, not_true_eq_false, not_false_eq_true, Bool.not_eq_true, beq_iff_eq, bin_add, bin_sub, bin_mul, bin_eql, bin_neq, bin_lss, bin_leq, bin_gtr, bin_geq, maxA, minA, Prod.mk.injEq, and_true, true_and, beq_eq_false_iff_ne, decide_eq_false_iff_not, Bool.true_beq, Bool.false_beq, beq_true, beq_false, Bool.not_true, Bool.not_false, List.getElem?_toArray, e0, e1, e5, e13, e14, e15, Int.ofNat_lt, Nat.lt_irrefl, tab_len hA, ms31 hAl]
      refine Wp_loop (fun n st => ∃ i : Nat, n = A.length - i ∧ i ≤ A.length ∧ st.nx = nx1 + 1 + i ∧ Fr nx1 H1 st.H ∧
        (∃ R, st.H.get nx1 = some (.cells R 22 false) ∧ R.length = A.length ∧ ∀ j, j < i → R[j]? = some (.slice (nx1 + 1 + j) 0 W (some W) 1)) ∧
        (∀ j, j < i → st.H.get (nx1 + 1 + j) = some (.cells (rowA W fun k => cellU A B j k B.length) 3 false)) ∧
        st.env.get 1 = some b ∧ st.env.get 5 = some (.lit (.int .i64 W)) ∧ st.env.get 8 = some (.slice nx1 0 A.length (some A.length) 1) ∧ st.env.get 27 = some a ∧ st.env.get 28 = some (.lit (.int .i64 A.length)) ∧
        st.env.get 29 = some (.lit (.int .i64 i))) ?_ A.length _ ⟨0, ?_⟩
      · rintro n ⟨E3, H3, nx3⟩ ⟨i, hn, hi, q1, hfr, ⟨R, hR, hRl, hRj⟩, hrows, e1, e5, e8, e27, e28, e29⟩
        simp only at q1 hfr hR hrows; subst q1
        refine Wp_of ?_
        unfold s19_l3
        by_cases hlt : i < A.length
        · obtain ⟨p, r, hp, hr, hri⟩ := tab_at (hA.fr (fun c hc => hfr c (by omega))) (List.getElem?_eq_getElem hlt)
          have hw := wrapS (i := i) (by omega)
          have st := store_at (T := cx.T) (H := H3.put (nx1 + 1 + i) (some (.cells (List.replicate W (.lit (.int .i64 0))) 3 false))) (v := .slice (nx1 + 1 + i) 0 W (some W) 1) T22 rfl (b := nx1) (o := i) (cs := R) (t' := 22)
            (by rw [Tr.get_put_ne _ _ _ _ (by omega)]; exact hR) (by omega) rfl rfl
          simp only [↓wpS_skip, ↓wpS_ops, ↓wpS_seq, ↓wpS_cond, ↓wpS_block, ↓wpS_loop, ↓wpS_exit, ↓wpS_ret, condW_bool, ↓WOps_go, ↓WOps_skip, WOps_nil, stepA, opA, isCall, put?, ev, Tr.get_put, Tr.get_nil, builtinA, callA, argEnv, wantedS, abs_int, abs_bool, abs_string, List.zipIdx_cons, List.zipIdx_nil, List.foldl_cons, List.foldl_nil, List.map_cons, List.map_nil, List.map_toArray, List.nil_append, List.cons_append, List.append_nil, extractOp, List.getElem?_cons_zero, List.getElem?_cons_succ,
    Option.map_some, Option.map_none, Nat.reduceLT, Nat.reduceEqDiff, Nat.reduceAdd, Nat.zero_add, if_true, if_false, Option.getD_some, Option.getD_none, ↓reduceIte, Bool.false_eq_true, Bool.true_eq_false, reduceCtorEq, resA, resOf, Option.some.injEq, exists_eq_left', beq_self_eq_true, decide_true, decide_false, decide_eq_true_eq, ne_eq, not_true_eq_false, not_false_eq_true, Bool.not_eq_true, beq_iff_eq, bin_add, bin_sub, bin_mul, bin_eql, bin_neq, bin_lss, bin_leq, bin_gtr, bin_geq, maxA, minA, Prod.mk.injEq, and_true, true_and, beq_eq_false_iff_ne, decide_eq_false_iff_not, Bool.true_beq, Bool.false_beq, beq_true, beq_false, Bool.not_true, Bool.not_false, List.getElem?_toArray, e1, e5, e8, e27, e28, e29, Int.ofNat_lt, hlt, hp, hr, ms22 hW, ix31 hlt, st]
          have e2 : nx1 + 1 + i + 1 = nx1 + 2 + i := by omega
          rw [e2]
          have hf2 : Fr n0 H3 ((H3.put (nx1 + 1 + i) (some (.cells (List.replicate W (.lit (.int .i64 0))) 3 false))).put nx1 (some (.cells (R.set i (.slice (nx1 + 1 + i) 0 W (some W) 1)) 22 false))) :=
            ((Fr.refl n0 H3).put (by omega) _).put (by omega) _
          have hgi : A.getD i [] = A[i] := by simp [List.getD_eq_getElem?_getD, hlt]
          refine matrix_row (A := A) (B := B) (a := a) (b := b) (n0 := n0) (nx := nx1) (i := i) (W := W) (r := r) (R := R.set i (.slice (nx1 + 1 + i) 0 W (some W) 1))
            ((hB.fr (fun c hc => hfr c (by omega))).fr hf2) hn0 (by rw [hgi]; exact hri.fr hf2) hlt hAl hW (Tr.get_put_same _ _ _) (by rw [List.getElem?_set]; simp; omega)
            (by rw [Tr.get_put_ne _ _ _ _ (by omega), Tr.get_put_same, rowA_rep]) ?_ ?_ ?_ ?_ ?_ ?_ ?_ ?_ ?_ ?_ ?_
          all_goals first
            | (simp only [↓wpS_skip, ↓wpS_ops, ↓wpS_seq, ↓wpS_cond, ↓wpS_block, ↓wpS_loop, ↓wpS_exit, ↓wpS_ret, condW_bool, ↓WOps_go, ↓WOps_skip, WOps_nil, stepA, opA, isCall, put?, ev, Tr.get_put, Tr.get_nil, builtinA, callA, argEnv, wantedS, abs_int, abs_bool, abs_string, List.zipIdx_cons, List.zipIdx_nil, List.foldl_cons, List.foldl_nil, List.map_cons, List.map_nil, List.map_toArray, List.nil_append, List.cons_append, List.append_nil, extractOp, List.getElem?_cons_zero, List.getElem?_cons_succ,
    Option.map_some, Option.map_none, Nat.reduceLT, Nat.reduceEqDiff, Nat.reduceAdd, Nat.zero_add, if_true, if_false, Option.getD_some, Option.getD_none, ↓reduceIte, Bool.false_eq_true, Bool.true_eq_false, reduceCtorEq, resA, resOf, Option.some.injEq, exists_eq_left', beq_self_eq_true, decide_true, decide_false, decide_eq_true_eq, ne_eq, not_true_eq_false, not_false_eq_true, Bool.not_eq_true, beq_iff_eq, bin_add, bin_sub, bin_mul, bin_eql, bin_neq, bin_lss, bin_leq, bin_gtr, bin_geq, maxA, minA, Prod.mk.injEq, and_true, true_and, beq_eq_false_iff_ne, decide_eq_false_iff_not, Bool.true_beq, Bool.false_beq, beq_true, beq_false, Bool.not_true, Bool.not_false, List.getElem?_toArray, e1, e5, e8, e27, e28, e29]; done)
            | exact Tr.get_put_same _ _ _
            | skip
          intro E' H' f1 f5 f8 f27 f28 f29 hne hrow
          simp only [↓wpS_skip, ↓wpS_ops, ↓wpS_seq, ↓wpS_cond, ↓wpS_block, ↓wpS_loop, ↓wpS_exit, ↓wpS_ret, condW_bool, ↓WOps_go, ↓WOps_skip, WOps_nil, stepA, opA, isCall, put?, ev, Tr.get_put, Tr.get_nil, builtinA, callA, argEnv, wantedS, abs_int, abs_bool, abs_string, List.zipIdx_cons, List.zipIdx_nil, List.foldl_cons, List.foldl_nil, List.map_cons, List.map_nil, List.map_toArray, List.nil_append, List.cons_append, List.append_nil, extractOp, List.getElem?_cons_zero, List.getElem?_cons_succ,
    Option.map_some, Option.map_none, Nat.reduceLT, Nat.reduceEqDiff, Nat.reduceAdd, Nat.zero_add, if_true, if_false, Option.getD_some, Option.getD_none, ↓reduceIte, Bool.false_eq_true, Bool.true_eq_false, reduceCtorEq, resA, resOf, Option.some.injEq, exists_eq_left', beq_self_eq_true, decide_true, decide_false, decide_eq_true_eq, ne_eq, not_true_eq_false, not_false_eq_true, Bool.not_eq_true, beq_iff_eq, bin_add, bin_sub, bin_mul, bin_eql, bin_neq, bin_lss, bin_leq, bin_gtr, bin_geq, maxA, minA, Prod.mk.injEq, and_true, true_and, beq_eq_false_iff_ne, decide_eq_false_iff_not, Bool.true_beq, Bool.false_beq, beq_true, beq_false, Bool.not_true, Bool.not_false, List.getElem?_toArray, f1, f5, f8, f27, f28, f29, hw]
          refine ⟨A.length - (i + 1), by omega, i + 1, rfl, by omega, by omega, ?_, ?_, ?_, rfl⟩
          · intro c hc
            rw [hne c (by omega), Tr.get_put_ne _ _ _ _ (by omega), Tr.get_put_ne _ _ _ _ (by omega)]
            exact hfr c hc
          · refine ⟨_, by rw [hne nx1 (by omega), Tr.get_put_same], by simpa using hRl, ?_⟩
            intro j hj
            rw [List.getElem?_set]
            by_cases hij : i = j
            · subst hij; simp; omega
            · rw [if_neg hij]; exact hRj j (by omega)
          · intro j hj
            by_cases hij : j = i
            · subst hij; exact hrow
            · rw [hne _ (by omega), Tr.get_put_ne _ _ _ _ (by omega), Tr.get_put_ne _ _ _ _ (by omega)]
              exact hrows j (by omega)
        · have hiA : i = A.length := by omega
          subst hiA
          simp only [↓wpS_skip, ↓wpS_ops, ↓wpS_seq, ↓wpS_cond, ↓wpS_block, ↓wpS_loop, ↓wpS_exit, ↓wpS_ret, condW_bool, ↓WOps_go, ↓WOps_skip, WOps_nil, stepA, opA, isCall, put?, ev, Tr.get_put, Tr.get_nil, builtinA, callA, argEnv, wantedS, abs_int, abs_bool, abs_string, List.zipIdx_cons, List.zipIdx_nil, List.foldl_cons, List.foldl_nil, List.map_cons, List.map_nil, List.map_toArray, List.nil_append, List.cons_append, List.append_nil, extractOp, List.getElem?_cons_zero, List.getElem?_cons_succ,
    Option.map_some, Option.map_none, Nat.reduceLT, Nat.reduceEqDiff, Nat.reduceAdd, Nat.zero_add, if_true, if_false, Option.getD_some, Option.getD_none, ↓reduceIte, Bool.false_eq_true, Bool.true_eq_false, reduceCtorEq, resA, resOf, Option.some.injEq, exists_eq_left', beq_self_eq_true, decide_true, decide_false, decide_eq_true_eq, ne_eq, not_true_eq_false, not_false_eq_true, Bool.not_eq_true, beq_iff_eq, bin_add, bin_sub, bin_mul, bin_eql, bin_neq, bin_lss, bin_leq, bin_gtr, bin_geq, maxA, minA, Prod.mk.injEq, and_true, true_and, beq_eq_false_iff_ne, decide_eq_false_iff_not, Bool.true_beq, Bool.false_beq, beq_true, beq_false, Bool.not_true, Bool.not_false, List.getElem?_toArray, e1, e5, e8, e27, e28, e29, Int.ofNat_lt, Nat.lt_irrefl]
          refine ⟨hfr, by omega, by simp [matL]; omega, .inl ⟨nx1, 0, some A.length, R, 22, false, by simp [matL], by omega, hR, ?_⟩⟩
          intro j l hj
          simp only [matL, List.getElem?_map, Option.map_eq_some_iff] at hj
          obtain ⟨y, hy, rfl⟩ := hj
          have hlt : j < A.length := by
            have := (List.getElem?_eq_some_iff.1 hy).1; simpa using this
          have : y = j := by simp [hlt] at hy; omega
          subst this
          rw [Nat.zero_add]
          refine ⟨_, hRj y hlt, intsB_mk (by omega) ?_⟩
          rw [hWW]
          exact ints_row (hrows y hlt) (fun k => dotU_i _ _ _) (by omega)
      · simp only [↓wpS_skip, ↓wpS_ops, ↓wpS_seq, ↓wpS_cond, ↓wpS_block, ↓wpS_loop, ↓wpS_exit, ↓wpS_ret, condW_bool, ↓WOps_go, ↓WOps_skip, WOps_nil, stepA, opA, isCall, put?, ev, Tr.get_put, Tr.get_nil, builtinA, callA, argEnv, wantedS, abs_int, abs_bool, abs_string, List.zipIdx_cons, List.zipIdx_nil, List.foldl_cons, List.foldl_nil, List.map_cons, List.map_nil, List.map_toArray, List.nil_append, List.cons_append, List.append_nil, extractOp, List.getElem?_cons_zero, List.getElem?_cons_succ,
    Option.map_some, Option.map_none, Nat.reduceLT, Nat.reduceEqDiff, Nat.reduceAdd, Nat.zero_add, if_true, if_false, Option.getD_some, Option.getD_none, ↓reduceIte, Bool.false_eq_true, Bool.true_eq_false, reduceCtorEq, resA, resOf, Option.some.injEq, exists_eq_left', beq_self_eq_true, decide_true, decide_false, decide_eq_true_eq, ne_eq, not_true_eq_false, not_false_eq_true, Bool.not_eq_true, beq_iff_eq, bin_add, bin_sub, bin_mul, bin_eql, bin_neq, bin_lss, bin_leq, bin_gtr, bin_geq, maxA, minA, Prod.mk.injEq, and_true, true_and, beq_eq_false_iff_ne, decide_eq_false_iff_not, Bool.true_beq, Bool.false_beq, beq_true, beq_false, Bool.not_true, Bool.not_false, List.getElem?_toArray, e0, e1, e5, e13, e14, e15]
        refine ⟨by omega, by omega, (Fr.refl nx1 H1).put (Nat.le_refl _) _, ⟨_, rfl, by simp, fun j hj => absurd hj (by omega)⟩, fun j hj => absurd hj (by omega), rfl⟩
  · simp only [↓wpS_skip, ↓wpS_ops, ↓wpS_seq, ↓wpS_cond, ↓wpS_block, ↓wpS_loop, ↓wpS_exit, ↓wpS_ret, condW_bool, ↓WOps_go, ↓WOps_skip, WOps_nil, stepA, opA, isCall, put?, ev, Tr.get_put, Tr.get_nil, builtinA, callA, argEnv, wantedS, abs_int, abs_bool, abs_string, List.zipIdx_cons, List.zipIdx_nil, List.foldl_cons, List.foldl_nil, List.map_cons, List.map_nil, List.map_toArray, List.nil_append, List.cons_append, List.append_nil, extractOp, List.getElem?_cons_zero, List.getElem?_cons_succ,
    Option.map_some, Option.map_none, Nat.reduceLT, Nat.reduceEqDiff, Nat.reduceAdd, Nat.zero_add, if_true, if_false, Option.getD_some, Option.getD_none, ↓reduceIte, Bool.false_eq_true, Bool.true_eq_false, reduceCtorEq, resA, resOf, Option.some.injEq, exists_eq_left', beq_self_eq_true, decide_true, decide_false, decide_eq_true_eq, ne_eq, not_true_eq_false, not_false_eq_true, Bool.not_eq_true, beq_iff_eq, bin_add, bin_sub, bin_mul, bin_eql, bin_neq, bin_lss, bin_leq, bin_gtr, bin_geq, maxA, minA, Prod.mk.injEq, and_true, true_and, beq_eq_false_iff_ne, decide_eq_false_iff_not, Bool.true_beq, Bool.false_beq, beq_true, beq_false, Bool.not_true, Bool.not_false, List.getElem?_toArray]
    refine ⟨by omega, by omega, rfl, rfl⟩
end Seat
end CI
