/- Merged: Ta Tb Tn. -/
import Derived.Test.YtbdlpeldglggkaaGreatDoorCiz
import Derived.Test.YtbdlpeldglggkaaGreatDoorCj
import Derived.Test.YtbdlpeldglggkaaGreatDoorCwg
import Derived.Lib.ItoaNum
import Derived.Laws.Strings
/- Series, as the interpreter sees them. -/
set_option linter.unusedVariables false
set_option linter.unusedSimpArgs false
namespace CI
open Go
def intA (n : Int) : AV := .lit (.int .i64 n)
def Fr (n : Nat) (H H' : Heap) : Prop := ∀ b, b < n → H'.get b = H.get b
theorem Fr.refl (n : Nat) (H : Heap) : Fr n H H := fun _ _ => rfl
theorem Fr.trans {n : Nat} {H H' H'' : Heap} (h : Fr n H H') (k : Fr n H' H'') : Fr n H H'' := fun b hb => (k b hb).trans (h b hb)
theorem Fr.put {n : Nat} {H H' : Heap} (h : Fr n H H') {b : Nat} (hb : n ≤ b) (o : Option AObj) : Fr n H (H'.put b o) := fun c hc => by
  rw [Tr.get_put_ne _ _ _ _ (by omega)]; exact h c hc
theorem Fr.le {n m : Nat} {H H' : Heap} (h : Fr n H H') (hm : m ≤ n) : Fr m H H' := fun b hb => h b (by omega)
/-- A slice of integers, below a block, and what it holds. -/
def IB (n : Nat) (H : Heap) (s : AV) (l : List Int) : Prop :=
  (∀ x ∈ l, I64 x) ∧ l.length < 9223372036854775808 ∧ ((∃ b o c cs t ro, s = .slice b o l.length c 1 ∧ b < n ∧ H.get b = some (.cells cs t ro) ∧ ∀ (i : Nat) (x : Int), l[i]? = some x → cs[o + i]? = some (intA x)) ∨ ((s = .eslice ∨ s = .lit (.slice none 0 0)) ∧ l = []))
theorem IB.fr {n : Nat} {H H' : Heap} {s : AV} {l : List Int} (h : IB n H s l) (f : Fr n H H') : IB n H' s l := by
  obtain ⟨h1, h2, h3⟩ := h
  refine ⟨h1, h2, ?_⟩
  rcases h3 with ⟨b, o, c, cs, t, ro, rfl, hlt, hb, hc⟩ | h3
  · exact .inl ⟨b, o, c, cs, t, ro, rfl, hlt, by rw [f b hlt]; exact hb, hc⟩
  · exact .inr h3
theorem IB.le {n m : Nat} {H : Heap} {s : AV} {l : List Int} (h : IB n H s l) (hm : n ≤ m) : IB m H s l := by
  obtain ⟨h1, h2, h3⟩ := h
  refine ⟨h1, h2, ?_⟩
  rcases h3 with ⟨b, o, c, cs, t, ro, rfl, hlt, hb, hc⟩ | h3
  · exact .inl ⟨b, o, c, cs, t, ro, rfl, by omega, hb, hc⟩
  · exact .inr h3
theorem wrapS {i : Nat} (h : i < 9223372036854775807) : IntKind.i64.wrap ((i : Int) + 1) = ((i + 1 : Nat) : Int) := by
  rw [wrapI]; · rfl
  constructor <;> omega
/-- What append has built, behind 'n0'. -/
def Buf (n0 : Nat) (H : Heap) (nx : Nat) (s : AV) (l : List Int) : Prop := (s = .lit (.slice none 0 0) ∧ l = []) ∨ ∃ b, n0 ≤ b ∧ b < nx ∧ s = .slice b 0 l.length none 1 ∧ H.get b = some (.cells (l.map intA) 3 false)
theorem Buf.ib {n0 nx : Nat} {H : Heap} {s : AV} {l : List Int} (h : Buf n0 H nx s l) (hI : ∀ x ∈ l, I64 x) (hl : l.length < 9223372036854775808) : IB nx H s l := by
  refine ⟨hI, hl, ?_⟩
  rcases h with ⟨rfl, rfl⟩ | ⟨b, h1, h2, rfl, h4⟩
  · exact .inr ⟨.inr rfl, rfl⟩
  · refine .inl ⟨b, 0, none, _, 3, false, rfl, h2, h4, fun i x hx => ?_⟩
    rw [Nat.zero_add, List.getElem?_map, hx]; rfl
theorem Buf.le {n0 nx nx' : Nat} {H : Heap} {s : AV} {l : List Int} (h : Buf n0 H nx s l) (hn : nx ≤ nx') : Buf n0 H nx' s l := by
  rcases h with h | ⟨b, h1, h2, h3, h4⟩
  · exact .inl h
  · exact .inr ⟨b, h1, by omega, h3, h4⟩
namespace Seat
theorem x_none (k : Nat) (h94 : (k == 94) = false) (h149 : (k == 149) = false) (h50 : (k == 50) = false) (h8 : (k == 8) = false) (h29 : (k == 29) = false) (h32 : (k == 32) = false) (args : List AV) : cx.X k args = none := by
  show extX4 Go.Proofs.Tryz.prog exts sums idents cons k args = none
  have e1 : exts.get k = none := by simp only [exts, Tr.get_put, if_neg (show k ≠ 94 by simpa using h94), if_neg (show k ≠ 149 by simpa using h149), Tr.get_nil]
  have e2 : sums.get k = none := by simp only [sums, Tr.get_put, if_neg (show k ≠ 8 by simpa using h8), Tr.get_nil]
  have e3 : idents.get k = none := by simp only [idents, Tr.get_put, if_neg (show k ≠ 50 by simpa using h50), Tr.get_nil]
  have e4 : cons.get k = none := by simp only [cons, Tr.get_put, if_neg (show k ≠ 29 by simpa using h29), if_neg (show k ≠ 32 by simpa using h32), Tr.get_nil]
  simp [extX4, extX3, extX2, extX, e1, e2, e3, e4]
theorem x32 (n : Int) (h : -9223372036854775808 ≤ n ∧ n ≤ 9223372036854775807) : cx.X 32 [.lit (.int .i64 n)] = some (.lit (.string ⟨(Lib.itoa n).toArray⟩)) := by
  have h0 : cx.X 32 [.lit (.int .i64 n)] = (itoaC [.int .i64 n]).map abs := by kernel_rfl
  rw [h0]
  unfold itoaC
  simp only
  rw [if_pos h]
  rfl
theorem x_awake : cx.X 8 [] = some (.lit (.bool true)) := by kernel_rfl
variable {H : Heap} {nx : Nat}
theorem T22 : cx.T.get 22 = some ti22 := by kernel_rfl
theorem T3 : cx.T.get 3 = some ti3 := by kernel_rfl
theorem ib_len {n : Nat} {s : AV} {l : List Int} (h : IB n H s l) {H' : Heap} : lenOp cx.T H' 22 s = some l.length := by
  unfold lenOp
  rw [T22]
  obtain ⟨_, _, ⟨b, o, c, cs, t, ro, rfl, _⟩ | ⟨rfl | rfl, rfl⟩⟩ := h <;> rfl
theorem buf_len {n0 : Nat} {s : AV} {l : List Int} (h : Buf n0 H nx s l) {H' : Heap} : lenOp cx.T H' 22 s = some l.length := by
  unfold lenOp
  rw [T22]
  rcases h with ⟨rfl, rfl⟩ | ⟨b, _, _, rfl, _⟩ <;> rfl
theorem ib_at {n : Nat} {s : AV} {l : List Int} (h : IB n H s l) {i : Nat} {x : Int} (hi : l[i]? = some x) : ∃ p, indexAddrOp cx.T 22 s (.lit (.int .i64 i)) = some p ∧ (∀ H', Fr n H H' → loadOp cx.T H' 3 p = some (.lit (.int .i64 x))) ∧ loadOp cx.T .nil 3 p = none := by
  obtain ⟨_, _, ⟨b, o, c, cs, t, ro, rfl, hlt, hb, hc⟩ | ⟨_, rfl⟩⟩ := h
  · have hil : i < l.length := (List.getElem?_eq_some_iff.1 hi).1
    refine ⟨.ptr b (o + i), ?_, fun H' hf => ?_, loadOp_nil _ _ _ _⟩
    · unfold indexAddrOp
      simp only [T22, ti22, T3, ti3]
      rw [if_pos ⟨by omega, by omega, trivial⟩]
      simp
    · unfold loadOp
      simp only [T3, ti3, hf b hlt, hb]
      have := hc i x hi
      have hlt2 : o + i < cs.length := (List.getElem?_eq_some_iff.1 this).1
      show (cut cs (o + i) 1).bind (·[0]?) = _
      simp only [cut]
      rw [if_pos (by omega)]
      simp [this, intA]
  · simp at hi
theorem bs22 (v : Int) : buildSliceOp cx.T H nx 22 1 [(0, .lit (.int .i64 v))] = some (.slice nx 0 1 (some 1) 1, H.put nx (some (.cells [intA v] 3 false)), nx + 1) := by kernel_rfl
theorem src1 (v : Int) : srcCells (H.put nx (some (.cells [intA v] 3 false))) 1 (.slice nx 0 1 (some 1) 1) = some (1, [intA v]) := by
  unfold srcCells
  simp [Tr.get_put_same, cut]
theorem appLim8 {n m : Nat} (h : n + m ≤ 1000000) : appLim n m 8 = true := by
  unfold appLim
  simp only [decide_eq_true_eq]
  omega
theorem one_intA : ∀ v, one (intA v) = true := fun _ => rfl
theorem buf_app {n0 : Nat} {s : AV} {l : List Int} (h : Buf n0 H nx s l) (hl : l.length ≤ 1000) (hn : n0 ≤ nx) (v : Int) :
    ∃ s' H', appendOp cx.T (H.put nx (some (.cells [intA v] 3 false))) (nx + 1) 22 s 22 (.slice nx 0 1 (some 1) 1) = some (s', H', nx + 2) ∧ Buf n0 H' (nx + 2) s' (l ++ [v]) ∧ Fr n0 H H' ∧ ((∀ c, nx ≤ c → H.get c = none) → ∀ c, nx + 2 ≤ c → H'.get c = none) := by
  have hs := src1 (H := H) (nx := nx) v
  rcases h with ⟨rfl, rfl⟩ | ⟨b, h1, h2, rfl, h4⟩
  · refine ⟨.slice (nx + 1) 0 1 none 1, (H.put nx (some (.cells [intA v] 3 false))).put (nx + 1) (some (.cells [intA v] 3 false)), ?_, .inr ⟨nx + 1, by omega, by omega, rfl, ?_⟩, ?_, fun hf c hc => ?_⟩
    · unfold appendOp
      simp only [T22, T3, ti22, ti3, isIntD, hs, Bool.false_eq_true, if_false]
      rw [if_neg (by omega), if_pos (appLim8 (by omega))]
    · rw [Tr.get_put_same]; rfl
    · exact ((Fr.refl n0 H).put hn _).put (by omega) _
    · rw [Tr.get_put_ne _ _ _ _ (by omega), Tr.get_put_ne _ _ _ _ (by omega)]; exact hf c (by omega)
  · have hb : (H.put nx (some (.cells [intA v] 3 false))).get b = some (.cells (l.map intA) 3 false) := by rw [Tr.get_put_ne _ _ _ _ (by omega)]; exact h4
    have htk : (l.map intA).take l.length = l.map intA := List.take_of_length_le (by simp)
    have hcut : cut (l.map intA) 0 (l.length * 1) = some (l.map intA) := by simp [cut, htk]
    refine ⟨.slice (nx + 1) 0 (l.length + 1) none 1, ((H.put nx (some (.cells [intA v] 3 false))).put b none).put (nx + 1) (some (.cells (l.map intA ++ [intA v]) 3 false)), ?_, .inr ⟨nx + 1, by omega, by omega, by rw [List.length_append]; rfl, ?_⟩, ?_, fun hf c hc => ?_⟩
    · unfold appendOp
      simp only [T22, T3, ti22, ti3, isIntD, hs, Bool.false_eq_true, if_false, hb]
      rw [if_neg (by omega), if_neg (by simp), if_neg (by simp), hcut]
      simp only
      rw [if_pos (by simp [appLim8 (show l.length + 1 ≤ 1000000 by omega), one_intA])]
    · rw [Tr.get_put_same]; simp
    · exact (((Fr.refl n0 H).put hn _).put h1 _).put (by omega) _
    · rw [Tr.get_put_ne _ _ _ _ (by omega), Tr.get_put_ne _ _ _ _ (by omega), Tr.get_put_ne _ _ _ _ (by omega)]; exact hf c (by omega)
end Seat
end CI
/- small, walked. -/
set_option linter.unusedVariables false
set_option linter.unusedSimpArgs false
set_option maxRecDepth 10000
namespace CI
open Go
/-- The numbers, brought to a span. -/
def sm (l : List Int) : List Int := (l.take 60).map (·.tmod 1000000)
theorem sm_abs {l : List Int} {x : Int} (h : x ∈ sm l) : x.natAbs ≤ 1000000 := by
  unfold sm at h
  rw [List.mem_map] at h
  obtain ⟨y, _, rfl⟩ := h
  rw [Int.natAbs_tmod]
  have := Nat.mod_lt y.natAbs (show 0 < (1000000 : Int).natAbs by decide)
  have e : (1000000 : Int).natAbs = 1000000 := rfl
  omega
theorem getD_lt {l : List Int} {j : Nat} (h : j < l.length) : l.getD j 0 = l[j] := by rw [List.getD_eq_getElem?_getD, List.getElem?_eq_getElem h, Option.getD_some]
theorem sm_len (l : List Int) : (sm l).length ≤ 60 := by
  unfold sm
  rw [List.length_map, List.length_take]; omega
theorem i64_abs {x : Int} (h : x.natAbs ≤ 1000000000000) : I64 x := by constructor <;> omega
theorem sm_i64 (l : List Int) : ∀ x ∈ sm l, I64 x := fun x hx => i64_abs (by have := sm_abs hx; omega)
theorem take_map_succ {l : List Int} {f : Int → Int} {i : Nat} (h : i < l.length) : (l.take (i + 1)).map f = (l.take i).map f ++ [f l[i]] := by
  rw [List.take_add_one, List.getElem?_eq_getElem h, List.map_append]
  rfl
theorem range_map_succ (f : Nat → Int) (n : Nat) : (List.range (n + 1)).map f = (List.range n).map f ++ [f n] := by
  rw [List.range_succ, List.map_append]; rfl
namespace Seat
variable {H : Heap} {nx : Nat}
theorem small_cl {s : AV} {l : List Int} (h : IB nx H s l) (hfh : ∀ c, nx ≤ c → H.get c = none) : ∃ v H' nx', Cl cx 5 [s] H nx = some (v, H', nx') ∧ (Buf nx H' nx' v (sm l) ∧ Fr nx H H' ∧ nx ≤ nx' ∧ ∀ c, nx' ≤ c → H'.get c = none) := by
  refine wpP5 _ _ _ _ (by simp) ?_
  unfold s5
  simp only [↓wpS_skip, ↓wpS_ops, ↓wpS_seq, ↓wpS_cond, ↓wpS_block, ↓wpS_loop, ↓wpS_exit, ↓wpS_ret, condW_bool, ↓WOps_go, ↓WOps_skip, WOps_nil, stepA, opA, convA, isCall, put?, ev, Tr.get_put, Tr.get_nil, builtinA, callA, argEnv, wantedS, abs_int, abs_bool, abs_string, abs_nilp, abs_nili, abs_nilf, abs_nilm, abs_nils, un_not, undef, z_none, List.zipIdx_cons, List.zipIdx_nil, List.foldl_cons, List.foldl_nil, List.map_cons, List.map_nil, List.map_toArray, List.nil_append, List.cons_append, List.append_nil, extractOp, List.getElem?_cons_zero, List.getElem?_cons_succ,
    Option.map_some, Option.map_none, Nat.reduceLT, Nat.reduceEqDiff, Nat.reduceAdd, Nat.zero_add, if_true, if_false, Option.getD_some, Option.getD_none, ↓reduceIte, Bool.false_eq_true, Bool.true_eq_false, reduceCtorEq, resA, resOf, Option.some.injEq, exists_eq_left', beq_self_eq_true, decide_true, decide_false, decide_eq_true_eq, ne_eq, not_true_eq_false, not_false_eq_true, Bool.not_eq_true, beq_iff_eq, bin_add, bin_sub, bin_mul, bin_eql, bin_neq, bin_lss, bin_leq, bin_gtr, bin_geq, maxA, minA, Prod.mk.injEq, and_true, true_and, beq_eq_false_iff_ne, decide_eq_false_iff_not, Bool.true_beq, Bool.false_beq, beq_true, beq_false, Bool.not_true, Bool.not_false, List.getElem?_toArray]
  refine Wp_loop (fun n st => ∃ i : Nat, n = 60 - i ∧ i ≤ 60 ∧ i ≤ l.length ∧ st.env.get 0 = some s ∧ st.env.get 4 = some (.lit (.int .i64 i)) ∧ nx ≤ st.nx ∧ Fr nx H st.H ∧ (∀ c, st.nx ≤ c → st.H.get c = none) ∧ ∃ v, st.env.get 3 = some v ∧ Buf nx st.H st.nx v ((l.take i).map (·.tmod 1000000))) ?_ 60 _ ⟨0, ?_⟩
  · rintro n ⟨E, H1, nx1⟩ ⟨i, hn, hi, hil, e0, e4, hnx, hfr, hf, v, e3, hb⟩
    simp only at e0 e4 hnx hfr hf e3 hb
    refine Wp_of ?_
    unfold s5_l0
    have hw := wrapS (i := i) (by omega)
    by_cases hlt : i < l.length
    · have h1 : ((i : Int) < (l.length : Int)) = True := by simp; omega
      by_cases h60 : i < 60
      · have h2 : ((i : Int) < 60) = True := by simp; omega
        obtain ⟨p, hp1, hp2, hp3⟩ := ib_at h (List.getElem?_eq_getElem hlt)
        have hrem : binOpA cx.P cx.T .rem 3 (.tmp 19) (.const (.int .i64 1000000)) (.lit (.int .i64 l[i])) (.lit (.int .i64 1000000)) = some (.lit (.int .i64 (l[i].tmod 1000000))) := bin_rem _ _ _ _ _ _ _ _ (by decide)
        obtain ⟨s', H', a1, a2, a3, a4⟩ := buf_app hb (by rw [List.length_map, List.length_take]; omega) hnx (l[i].tmod 1000000)
        rw [← take_map_succ hlt] at a2
        simp only [↓wpS_skip, ↓wpS_ops, ↓wpS_seq, ↓wpS_cond, ↓wpS_block, ↓wpS_loop, ↓wpS_exit, ↓wpS_ret, condW_bool, ↓WOps_go, ↓WOps_skip, WOps_nil, stepA, opA, convA, isCall, put?, ev, Tr.get_put, Tr.get_nil, builtinA, callA, argEnv, wantedS, abs_int, abs_bool, abs_string, abs_nilp, abs_nili, abs_nilf, abs_nilm, abs_nils, un_not, undef, z_none, List.zipIdx_cons, List.zipIdx_nil, List.foldl_cons, List.foldl_nil, List.map_cons, List.map_nil, List.map_toArray, List.nil_append, List.cons_append, List.append_nil, extractOp, List.getElem?_cons_zero, List.getElem?_cons_succ,
    Option.map_some, Option.map_none, Nat.reduceLT, Nat.reduceEqDiff, Nat.reduceAdd, Nat.zero_add, if_true, if_false, Option.getD_some, Option.getD_none, ↓reduceIte, Bool.false_eq_true, Bool.true_eq_false, reduceCtorEq, resA, resOf, Option.some.injEq, exists_eq_left', beq_self_eq_true, decide_true, decide_false, decide_eq_true_eq, ne_eq, not_true_eq_false, not_false_eq_true, Bool.not_eq_true, beq_iff_eq, bin_add, bin_sub, bin_mul, bin_eql, bin_neq, bin_lss, bin_leq, bin_gtr, bin_geq, maxA, minA, Prod.mk.injEq, and_true, true_and, beq_eq_false_iff_ne, decide_eq_false_iff_not, Bool.true_beq, Bool.false_beq, beq_true, beq_false, Bool.not_true, Bool.not_false, List.getElem?_toArray, e0, e3, e4, ib_len h, h1, h2, hp1, hp2 H1 hfr, hrem, partsA, bs22, a1, hw]
        exact ⟨60 - (i + 1), by omega, i + 1, rfl, by omega, by omega, rfl, by omega, hfr.trans a3, a4 hf, a2⟩
      · have h2 : ((i : Int) < 60) = False := by simp; omega
        have he : sm l = (l.take i).map (·.tmod 1000000) := by
          unfold sm
          rw [show i = 60 by omega]
        simp only [↓wpS_skip, ↓wpS_ops, ↓wpS_seq, ↓wpS_cond, ↓wpS_block, ↓wpS_loop, ↓wpS_exit, ↓wpS_ret, condW_bool, ↓WOps_go, ↓WOps_skip, WOps_nil, stepA, opA, convA, isCall, put?, ev, Tr.get_put, Tr.get_nil, builtinA, callA, argEnv, wantedS, abs_int, abs_bool, abs_string, abs_nilp, abs_nili, abs_nilf, abs_nilm, abs_nils, un_not, undef, z_none, List.zipIdx_cons, List.zipIdx_nil, List.foldl_cons, List.foldl_nil, List.map_cons, List.map_nil, List.map_toArray, List.nil_append, List.cons_append, List.append_nil, extractOp, List.getElem?_cons_zero, List.getElem?_cons_succ,
    Option.map_some, Option.map_none, Nat.reduceLT, Nat.reduceEqDiff, Nat.reduceAdd, Nat.zero_add, if_true, if_false, Option.getD_some, Option.getD_none, ↓reduceIte, Bool.false_eq_true, Bool.true_eq_false, reduceCtorEq, resA, resOf, Option.some.injEq, exists_eq_left', beq_self_eq_true, decide_true, decide_false, decide_eq_true_eq, ne_eq, not_true_eq_false, not_false_eq_true, Bool.not_eq_true, beq_iff_eq, bin_add, bin_sub, bin_mul, bin_eql, bin_neq, bin_lss, bin_leq, bin_gtr, bin_geq, maxA, minA, Prod.mk.injEq, and_true, true_and, beq_eq_false_iff_ne, decide_eq_false_iff_not, Bool.true_beq, Bool.false_beq, beq_true, beq_false, Bool.not_true, Bool.not_false, List.getElem?_toArray, e0, e3, e4, ib_len h, h1, h2]
        rw [he]
        exact ⟨hb, hfr, hnx, hf⟩
    · have h1 : ((i : Int) < (l.length : Int)) = False := by simp; omega
      have he : sm l = (l.take i).map (·.tmod 1000000) := by
        unfold sm
        rw [List.take_of_length_le (by omega), List.take_of_length_le (by omega)]
      simp only [↓wpS_skip, ↓wpS_ops, ↓wpS_seq, ↓wpS_cond, ↓wpS_block, ↓wpS_loop, ↓wpS_exit, ↓wpS_ret, condW_bool, ↓WOps_go, ↓WOps_skip, WOps_nil, stepA, opA, convA, isCall, put?, ev, Tr.get_put, Tr.get_nil, builtinA, callA, argEnv, wantedS, abs_int, abs_bool, abs_string, abs_nilp, abs_nili, abs_nilf, abs_nilm, abs_nils, un_not, undef, z_none, List.zipIdx_cons, List.zipIdx_nil, List.foldl_cons, List.foldl_nil, List.map_cons, List.map_nil, List.map_toArray, List.nil_append, List.cons_append, List.append_nil, extractOp, List.getElem?_cons_zero, List.getElem?_cons_succ,
    Option.map_some, Option.map_none, Nat.reduceLT, Nat.reduceEqDiff, Nat.reduceAdd, Nat.zero_add, if_true, if_false, Option.getD_some, Option.getD_none, ↓reduceIte, Bool.false_eq_true, Bool.true_eq_false, reduceCtorEq, resA, resOf, Option.some.injEq, exists_eq_left', beq_self_eq_true, decide_true, decide_false, decide_eq_true_eq, ne_eq, not_true_eq_false, not_false_eq_true, Bool.not_eq_true, beq_iff_eq, bin_add, bin_sub, bin_mul, bin_eql, bin_neq, bin_lss, bin_leq, bin_gtr, bin_geq, maxA, minA, Prod.mk.injEq, and_true, true_and, beq_eq_false_iff_ne, decide_eq_false_iff_not, Bool.true_beq, Bool.false_beq, beq_true, beq_false, Bool.not_true, Bool.not_false, List.getElem?_toArray, e0, e3, e4, ib_len h, h1]
      rw [he]
      exact ⟨hb, hfr, hnx, hf⟩
  · simp only [↓wpS_skip, ↓wpS_ops, ↓wpS_seq, ↓wpS_cond, ↓wpS_block, ↓wpS_loop, ↓wpS_exit, ↓wpS_ret, condW_bool, ↓WOps_go, ↓WOps_skip, WOps_nil, stepA, opA, convA, isCall, put?, ev, Tr.get_put, Tr.get_nil, builtinA, callA, argEnv, wantedS, abs_int, abs_bool, abs_string, abs_nilp, abs_nili, abs_nilf, abs_nilm, abs_nils, un_not, undef, z_none, List.zipIdx_cons, List.zipIdx_nil, List.foldl_cons, List.foldl_nil, List.map_cons, List.map_nil, List.map_toArray, List.nil_append, List.cons_append, List.append_nil, extractOp, List.getElem?_cons_zero, List.getElem?_cons_succ,
    Option.map_some, Option.map_none, Nat.reduceLT, Nat.reduceEqDiff, Nat.reduceAdd, Nat.zero_add, if_true, if_false, Option.getD_some, Option.getD_none, ↓reduceIte, Bool.false_eq_true, Bool.true_eq_false, reduceCtorEq, resA, resOf, Option.some.injEq, exists_eq_left', beq_self_eq_true, decide_true, decide_false, decide_eq_true_eq, ne_eq, not_true_eq_false, not_false_eq_true, Bool.not_eq_true, beq_iff_eq, bin_add, bin_sub, bin_mul, bin_eql, bin_neq, bin_lss, bin_leq, bin_gtr, bin_geq, maxA, minA, Prod.mk.injEq, and_true, true_and, beq_eq_false_iff_ne, decide_eq_false_iff_not, Bool.true_beq, Bool.false_beq, beq_true, beq_false, Bool.not_true, Bool.not_false, List.getElem?_toArray]
    exact ⟨by omega, by omega, rfl, Nat.le_refl _, Fr.refl _ _, hfh, .inl ⟨rfl, by simp⟩⟩
end Seat
end CI
/- nat.Mul, walked. -/
set_option linter.unusedVariables false
set_option linter.unusedSimpArgs false
namespace CI
open Go
namespace Seat
variable {H : Heap} {nx : Nat}
theorem conv_3_81 (a : Int) : convOp cx.P cx.T H nx 3 81 (.lit (.int .i64 a)) = some (.lit (.int .u64 (IntKind.u64.wrap a)), H, nx) := by kernel_rfl
theorem conv_81_3 (a : Int) : convOp cx.P cx.T H nx 81 3 (.lit (.int .u64 a)) = some (.lit (.int .i64 (IntKind.i64.wrap a)), H, nx) := by kernel_rfl
theorem least_cl (a : Int) : Cl cx 53 [.lit (.int .i64 a)] H nx = some (.lit (.int .u64 (IntKind.u64.wrap (max a 0))), H, nx) := by
  refine wp53 _ _ _ _ (by simp) ?_
  unfold s53
  simp only [↓wpS_skip, ↓wpS_ops, ↓wpS_seq, ↓wpS_cond, ↓wpS_block, ↓wpS_loop, ↓wpS_exit, ↓wpS_ret, condW_bool, ↓WOps_go, ↓WOps_skip, WOps_nil, stepA, opA, convA, isCall, put?, ev, Tr.get_put, Tr.get_nil, builtinA, callA, argEnv, wantedS, abs_int, abs_bool, abs_string, abs_nilp, abs_nili, abs_nilf, abs_nilm, abs_nils, un_not, undef, z_none, List.zipIdx_cons, List.zipIdx_nil, List.foldl_cons, List.foldl_nil, List.map_cons, List.map_nil, List.map_toArray, List.nil_append, List.cons_append, List.append_nil, extractOp, List.getElem?_cons_zero, List.getElem?_cons_succ,
    Option.map_some, Option.map_none, Nat.reduceLT, Nat.reduceEqDiff, Nat.reduceAdd, Nat.zero_add, if_true, if_false, Option.getD_some, Option.getD_none, ↓reduceIte, Bool.false_eq_true, Bool.true_eq_false, reduceCtorEq, resA, resOf, Option.some.injEq, exists_eq_left', beq_self_eq_true, decide_true, decide_false, decide_eq_true_eq, ne_eq, not_true_eq_false, not_false_eq_true, Bool.not_eq_true, beq_iff_eq, bin_add, bin_sub, bin_mul, bin_eql, bin_neq, bin_lss, bin_leq, bin_gtr, bin_geq, maxA, minA, Prod.mk.injEq, and_true, true_and, beq_eq_false_iff_ne, decide_eq_false_iff_not, Bool.true_beq, Bool.false_beq, beq_true, beq_false, Bool.not_true, Bool.not_false, List.getElem?_toArray, conv_3_81]
theorem least_i {a : Int} (h : I64 a) : Cl cx 53 [.lit (.int .i64 a)] H nx = some (.lit (.int .u64 (max a 0)), H, nx) := by
  rw [least_cl, wrapU] <;> (have := h.2; omega)
theorem most_cl (hi lo : Int) : Cl cx 54 [.lit (.int .u64 hi), .lit (.int .u64 lo)] H nx = some (.lit (.int .i64 (if hi ≠ 0 ∨ lo > 9223372036854775807 then 9223372036854775807 else IntKind.i64.wrap lo)), H, nx) := by
  refine wp54 _ _ _ _ (by simp) ?_
  unfold s54
  by_cases h1 : hi = 0 <;> by_cases h2 : lo > 9223372036854775807 <;>
  simp only [↓wpS_skip, ↓wpS_ops, ↓wpS_seq, ↓wpS_cond, ↓wpS_block, ↓wpS_loop, ↓wpS_exit, ↓wpS_ret, condW_bool, ↓WOps_go, ↓WOps_skip, WOps_nil, stepA, opA, convA, isCall, put?, ev, Tr.get_put, Tr.get_nil, builtinA, callA, argEnv, wantedS, abs_int, abs_bool, abs_string, abs_nilp, abs_nili, abs_nilf, abs_nilm, abs_nils, un_not, undef, z_none, List.zipIdx_cons, List.zipIdx_nil, List.foldl_cons, List.foldl_nil, List.map_cons, List.map_nil, List.map_toArray, List.nil_append, List.cons_append, List.append_nil, extractOp, List.getElem?_cons_zero, List.getElem?_cons_succ,
    Option.map_some, Option.map_none, Nat.reduceLT, Nat.reduceEqDiff, Nat.reduceAdd, Nat.zero_add, if_true, if_false, Option.getD_some, Option.getD_none, ↓reduceIte, Bool.false_eq_true, Bool.true_eq_false, reduceCtorEq, resA, resOf, Option.some.injEq, exists_eq_left', beq_self_eq_true, decide_true, decide_false, decide_eq_true_eq, ne_eq, not_true_eq_false, not_false_eq_true, Bool.not_eq_true, beq_iff_eq, bin_add, bin_sub, bin_mul, bin_eql, bin_neq, bin_lss, bin_leq, bin_gtr, bin_geq, maxA, minA, Prod.mk.injEq, and_true, true_and, beq_eq_false_iff_ne, decide_eq_false_iff_not, Bool.true_beq, Bool.false_beq, beq_true, beq_false, Bool.not_true, Bool.not_false, List.getElem?_toArray, conv_81_3, h1, h2, or_true, true_or, or_false, false_or]
def satMul (a b : Int) : Int := min (max a 0 * max b 0) 9223372036854775807
theorem mul64_cl {x y : Int} (hx : 0 ≤ x) (hx2 : x < 18446744073709551616) (hy : 0 ≤ y) (hy2 : y < 18446744073709551616) :
    Cl cx 52 [.lit (.int .u64 x), .lit (.int .u64 y)] H nx = some (.tuple [.lit (.int .u64 (x * y / 18446744073709551616)), .lit (.int .u64 (x * y % 18446744073709551616))], H, nx) := by
  refine wp52 _ _ _ _ (by simp) ?_
  unfold s52
  simp only [↓wpS_skip, ↓wpS_ops, ↓wpS_seq, ↓wpS_cond, ↓wpS_block, ↓wpS_loop, ↓wpS_exit, ↓wpS_ret, condW_bool, ↓WOps_go, ↓WOps_skip, WOps_nil, stepA, opA, convA, isCall, put?, ev, Tr.get_put, Tr.get_nil, builtinA, callA, argEnv, wantedS, abs_int, abs_bool, abs_string, abs_nilp, abs_nili, abs_nilf, abs_nilm, abs_nils, un_not, undef, z_none, List.zipIdx_cons, List.zipIdx_nil, List.foldl_cons, List.foldl_nil, List.map_cons, List.map_nil, List.map_toArray, List.nil_append, List.cons_append, List.append_nil, extractOp, List.getElem?_cons_zero, List.getElem?_cons_succ,
    Option.map_some, Option.map_none, Nat.reduceLT, Nat.reduceEqDiff, Nat.reduceAdd, Nat.zero_add, if_true, if_false, Option.getD_some, Option.getD_none, ↓reduceIte, Bool.false_eq_true, Bool.true_eq_false, reduceCtorEq, resA, resOf, Option.some.injEq, exists_eq_left', beq_self_eq_true, decide_true, decide_false, decide_eq_true_eq, ne_eq, not_true_eq_false, not_false_eq_true, Bool.not_eq_true, beq_iff_eq, bin_add, bin_sub, bin_mul, bin_eql, bin_neq, bin_lss, bin_leq, bin_gtr, bin_geq, maxA, minA, Prod.mk.injEq, and_true, true_and, beq_eq_false_iff_ne, decide_eq_false_iff_not, Bool.true_beq, Bool.false_beq, beq_true, beq_false, Bool.not_true, Bool.not_false, List.getElem?_toArray, bin_and32, bin_shr32, wrapU_eq, AV.tuple.injEq, List.cons.injEq, AV.lit.injEq, Value.int.injEq]
  obtain ⟨x0, hx0⟩ : ∃ x0, x % 4294967296 = x0 := ⟨_, rfl⟩
  obtain ⟨x1, hx1⟩ : ∃ x1, x / 4294967296 = x1 := ⟨_, rfl⟩
  obtain ⟨y0, hy0⟩ : ∃ y0, y % 4294967296 = y0 := ⟨_, rfl⟩
  obtain ⟨y1, hy1⟩ : ∃ y1, y / 4294967296 = y1 := ⟨_, rfl⟩
  have bx0 : 0 ≤ x0 ∧ x0 ≤ 4294967295 := by omega
  have bx1 : 0 ≤ x1 ∧ x1 ≤ 4294967295 := by omega
  have by0 : 0 ≤ y0 ∧ y0 ≤ 4294967295 := by omega
  have by1 : 0 ≤ y1 ∧ y1 ≤ 4294967295 := by omega
  have hxx : x = x1 * 4294967296 + x0 := by omega
  have hyy : y = y1 * 4294967296 + y0 := by omega
  have hp : x * y = (x1 * y1) * 18446744073709551616 + (x1 * y0 + x0 * y1) * 4294967296 + x0 * y0 := by
    rw [hxx, hyy]
    grind
  rw [hx0, hx1, hy0, hy1, hp]
  have b00 : 0 ≤ x0 * y0 ∧ x0 * y0 ≤ 4294967295 * 4294967295 := ⟨Int.mul_nonneg bx0.1 by0.1, Int.mul_le_mul bx0.2 by0.2 by0.1 (by decide)⟩
  have b10 : 0 ≤ x1 * y0 ∧ x1 * y0 ≤ 4294967295 * 4294967295 := ⟨Int.mul_nonneg bx1.1 by0.1, Int.mul_le_mul bx1.2 by0.2 by0.1 (by decide)⟩
  have b01 : 0 ≤ x0 * y1 ∧ x0 * y1 ≤ 4294967295 * 4294967295 := ⟨Int.mul_nonneg bx0.1 by1.1, Int.mul_le_mul bx0.2 by1.2 by1.1 (by decide)⟩
  have b11 : 0 ≤ x1 * y1 ∧ x1 * y1 ≤ 4294967295 * 4294967295 := ⟨Int.mul_nonneg bx1.1 by1.1, Int.mul_le_mul bx1.2 by1.2 by1.1 (by decide)⟩
  generalize x0 * y0 = p00 at *
  generalize x1 * y0 = p10 at *
  generalize x0 * y1 = p01 at *
  generalize x1 * y1 = p11 at *
  clear hxx hyy hp bx0 bx1 by0 by1 hx0 hx1 hy0 hy1
  omega
theorem mul_cl {a b : Int} (ha : I64 a) (hb : I64 b) : Cl cx 34 [.lit (.int .i64 a), .lit (.int .i64 b)] H nx = some (.lit (.int .i64 (satMul a b)), H, nx) := by
  refine wp34 _ _ _ _ (by simp) ?_
  unfold s34
  have hm := mul64_cl (H := H) (nx := nx) (Int.le_max_right a 0) (show max a 0 < 18446744073709551616 by have := ha.2; omega) (Int.le_max_right b 0) (show max b 0 < 18446744073709551616 by have := hb.2; omega)
  simp only [↓wpS_skip, ↓wpS_ops, ↓wpS_seq, ↓wpS_cond, ↓wpS_block, ↓wpS_loop, ↓wpS_exit, ↓wpS_ret, condW_bool, ↓WOps_go, ↓WOps_skip, WOps_nil, stepA, opA, convA, isCall, put?, ev, Tr.get_put, Tr.get_nil, builtinA, callA, argEnv, wantedS, abs_int, abs_bool, abs_string, abs_nilp, abs_nili, abs_nilf, abs_nilm, abs_nils, un_not, undef, z_none, List.zipIdx_cons, List.zipIdx_nil, List.foldl_cons, List.foldl_nil, List.map_cons, List.map_nil, List.map_toArray, List.nil_append, List.cons_append, List.append_nil, extractOp, List.getElem?_cons_zero, List.getElem?_cons_succ,
    Option.map_some, Option.map_none, Nat.reduceLT, Nat.reduceEqDiff, Nat.reduceAdd, Nat.zero_add, if_true, if_false, Option.getD_some, Option.getD_none, ↓reduceIte, Bool.false_eq_true, Bool.true_eq_false, reduceCtorEq, resA, resOf, Option.some.injEq, exists_eq_left', beq_self_eq_true, decide_true, decide_false, decide_eq_true_eq, ne_eq, not_true_eq_false, not_false_eq_true, Bool.not_eq_true, beq_iff_eq, bin_add, bin_sub, bin_mul, bin_eql, bin_neq, bin_lss, bin_leq, bin_gtr, bin_geq, maxA, minA, Prod.mk.injEq, and_true, true_and, beq_eq_false_iff_ne, decide_eq_false_iff_not, Bool.true_beq, Bool.false_beq, beq_true, beq_false, Bool.not_true, Bool.not_false, List.getElem?_toArray, x_none, least_i ha, least_i hb, hm, most_cl]
  have hp : 0 ≤ max a 0 * max b 0 := Int.mul_nonneg (by omega) (by omega)
  simp only [satMul]
  generalize max a 0 * max b 0 = p at *
  congr 2
  split
  · omega
  · rw [wrapI] <;> first | constructor | skip
    all_goals omega
theorem satMul_range (a b : Int) : 0 ≤ satMul a b ∧ satMul a b ≤ 9223372036854775807 := by
  have hp : 0 ≤ max a 0 * max b 0 := Int.mul_nonneg (by omega) (by omega)
  unfold satMul; omega
theorem satMul_i (a b : Int) : I64 (satMul a b) := by have := satMul_range a b; constructor <;> omega
theorem i64_1 : I64 1 := ⟨by decide, by decide⟩
theorem fold_cl {k : Nat} {f : Int → Int → Int} (hk : ∀ {a b : Int}, I64 a → I64 b → Cl cx k [.lit (.int .i64 a), .lit (.int .i64 b)] H nx = some (.lit (.int .i64 (f a b)), H, nx)) (hk94 : (k == 94) = false) (hk149 : (k == 149) = false) (hk50 : (k == 50) = false) (hk8 : (k == 8) = false) (hk29 : (k == 29) = false) (hk32 : (k == 32) = false) (hkz : k ≠ 95) (hf : ∀ a b, I64 (f a b))
    {s : AV} {l : List Int} (hl : IB nx H s l) {a : Int} (ha : I64 a) : Cl cx 33 [.lit (.int .i64 a), s, .func (.func k) [] []] H nx = some (.lit (.int .i64 (l.foldl f a)), H, nx) := by
  refine wp33 _ _ _ _ (by simp) ?_
  unfold s33
  simp only [↓wpS_skip, ↓wpS_ops, ↓wpS_seq, ↓wpS_cond, ↓wpS_block, ↓wpS_loop, ↓wpS_exit, ↓wpS_ret, condW_bool, ↓WOps_go, ↓WOps_skip, WOps_nil, stepA, opA, convA, isCall, put?, ev, Tr.get_put, Tr.get_nil, builtinA, callA, argEnv, wantedS, abs_int, abs_bool, abs_string, abs_nilp, abs_nili, abs_nilf, abs_nilm, abs_nils, un_not, undef, z_none, List.zipIdx_cons, List.zipIdx_nil, List.foldl_cons, List.foldl_nil, List.map_cons, List.map_nil, List.map_toArray, List.nil_append, List.cons_append, List.append_nil, extractOp, List.getElem?_cons_zero, List.getElem?_cons_succ,
    Option.map_some, Option.map_none, Nat.reduceLT, Nat.reduceEqDiff, Nat.reduceAdd, Nat.zero_add, if_true, if_false, Option.getD_some, Option.getD_none, ↓reduceIte, Bool.false_eq_true, Bool.true_eq_false, reduceCtorEq, resA, resOf, Option.some.injEq, exists_eq_left', beq_self_eq_true, decide_true, decide_false, decide_eq_true_eq, ne_eq, not_true_eq_false, not_false_eq_true, Bool.not_eq_true, beq_iff_eq, bin_add, bin_sub, bin_mul, bin_eql, bin_neq, bin_lss, bin_leq, bin_gtr, bin_geq, maxA, minA, Prod.mk.injEq, and_true, true_and, beq_eq_false_iff_ne, decide_eq_false_iff_not, Bool.true_beq, Bool.false_beq, beq_true, beq_false, Bool.not_true, Bool.not_false, List.getElem?_toArray, ib_len hl]
  refine Wp_loop (fun n st => ∃ (i : Nat) (acc : Int), n = l.length - i ∧ i ≤ l.length ∧ I64 acc ∧ (l.drop i).foldl f acc = l.foldl f a ∧ st.H = H ∧ st.nx = nx ∧ st.env.get 0 = some (.lit (.int .i64 acc)) ∧ st.env.get 2 = some (.func (.func k) [] []) ∧
    st.env.get 9 = some s ∧ st.env.get 10 = some (.lit (.int .i64 l.length)) ∧ st.env.get 11 = some (.lit (.int .i64 i))) ?_ l.length _ ⟨0, a, ?_⟩
  · rintro n ⟨E, H1, nx1⟩ ⟨i, acc, hn, hi, hacc, hfold, e1, e2, h0, h2, h9, h10, h11⟩
    simp only at e1 e2; subst e1; subst e2
    refine Wp_of ?_
    unfold s33_l0
    by_cases hlt : i < l.length
    · obtain ⟨p, hp1, hp2, hp3⟩ := ib_at hl (List.getElem?_eq_getElem hlt)
      have hw : IntKind.i64.wrap ((i : Int) + 1) = ((i + 1 : Nat) : Int) := by
        rw [wrapI]; · rfl
        have := hl.2.1
        constructor <;> omega
      have hg : I64 l[i] := hl.1 _ (List.getElem_mem hlt)
      simp only [↓wpS_skip, ↓wpS_ops, ↓wpS_seq, ↓wpS_cond, ↓wpS_block, ↓wpS_loop, ↓wpS_exit, ↓wpS_ret, condW_bool, ↓WOps_go, ↓WOps_skip, WOps_nil, stepA, opA, convA, isCall, put?, ev, Tr.get_put, Tr.get_nil, builtinA, callA, argEnv, wantedS, abs_int, abs_bool, abs_string, abs_nilp, abs_nili, abs_nilf, abs_nilm, abs_nils, un_not, undef, z_none, List.zipIdx_cons, List.zipIdx_nil, List.foldl_cons, List.foldl_nil, List.map_cons, List.map_nil, List.map_toArray, List.nil_append, List.cons_append, List.append_nil, extractOp, List.getElem?_cons_zero, List.getElem?_cons_succ,
    Option.map_some, Option.map_none, Nat.reduceLT, Nat.reduceEqDiff, Nat.reduceAdd, Nat.zero_add, if_true, if_false, Option.getD_some, Option.getD_none, ↓reduceIte, Bool.false_eq_true, Bool.true_eq_false, reduceCtorEq, resA, resOf, Option.some.injEq, exists_eq_left', beq_self_eq_true, decide_true, decide_false, decide_eq_true_eq, ne_eq, not_true_eq_false, not_false_eq_true, Bool.not_eq_true, beq_iff_eq, bin_add, bin_sub, bin_mul, bin_eql, bin_neq, bin_lss, bin_leq, bin_gtr, bin_geq, maxA, minA, Prod.mk.injEq, and_true, true_and, beq_eq_false_iff_ne, decide_eq_false_iff_not, Bool.true_beq, Bool.false_beq, beq_true, beq_false, Bool.not_true, Bool.not_false, List.getElem?_toArray, x_none _ hk94 hk149 hk50 hk8 hk29 hk32, z_none _ _ _ _ hkz, h0, h2, h9, h10, h11, hp1, hp2 _ (Fr.refl _ _), Int.ofNat_lt, hlt, hk hacc hg, hw]
      refine ⟨l.length - (i + 1), by omega, i + 1, f acc l[i], rfl, by omega, hf _ _, ?_, rfl, rfl⟩
      rw [← hfold, List.drop_eq_getElem_cons hlt, List.foldl_cons]
    · have : i = l.length := by omega
      subst this
      simp only [↓wpS_skip, ↓wpS_ops, ↓wpS_seq, ↓wpS_cond, ↓wpS_block, ↓wpS_loop, ↓wpS_exit, ↓wpS_ret, condW_bool, ↓WOps_go, ↓WOps_skip, WOps_nil, stepA, opA, convA, isCall, put?, ev, Tr.get_put, Tr.get_nil, builtinA, callA, argEnv, wantedS, abs_int, abs_bool, abs_string, abs_nilp, abs_nili, abs_nilf, abs_nilm, abs_nils, un_not, undef, z_none, List.zipIdx_cons, List.zipIdx_nil, List.foldl_cons, List.foldl_nil, List.map_cons, List.map_nil, List.map_toArray, List.nil_append, List.cons_append, List.append_nil, extractOp, List.getElem?_cons_zero, List.getElem?_cons_succ,
    Option.map_some, Option.map_none, Nat.reduceLT, Nat.reduceEqDiff, Nat.reduceAdd, Nat.zero_add, if_true, if_false, Option.getD_some, Option.getD_none, ↓reduceIte, Bool.false_eq_true, Bool.true_eq_false, reduceCtorEq, resA, resOf, Option.some.injEq, exists_eq_left', beq_self_eq_true, decide_true, decide_false, decide_eq_true_eq, ne_eq, not_true_eq_false, not_false_eq_true, Bool.not_eq_true, beq_iff_eq, bin_add, bin_sub, bin_mul, bin_eql, bin_neq, bin_lss, bin_leq, bin_gtr, bin_geq, maxA, minA, Prod.mk.injEq, and_true, true_and, beq_eq_false_iff_ne, decide_eq_false_iff_not, Bool.true_beq, Bool.false_beq, beq_true, beq_false, Bool.not_true, Bool.not_false, List.getElem?_toArray, x_none _ hk94 hk149 hk50 hk8 hk29 hk32, z_none _ _ _ _ hkz, h0, h2, h9, h10, h11, Int.ofNat_lt, Nat.lt_irrefl]
      simpa using hfold.symm
  · simp only [↓wpS_skip, ↓wpS_ops, ↓wpS_seq, ↓wpS_cond, ↓wpS_block, ↓wpS_loop, ↓wpS_exit, ↓wpS_ret, condW_bool, ↓WOps_go, ↓WOps_skip, WOps_nil, stepA, opA, convA, isCall, put?, ev, Tr.get_put, Tr.get_nil, builtinA, callA, argEnv, wantedS, abs_int, abs_bool, abs_string, abs_nilp, abs_nili, abs_nilf, abs_nilm, abs_nils, un_not, undef, z_none, List.zipIdx_cons, List.zipIdx_nil, List.foldl_cons, List.foldl_nil, List.map_cons, List.map_nil, List.map_toArray, List.nil_append, List.cons_append, List.append_nil, extractOp, List.getElem?_cons_zero, List.getElem?_cons_succ,
    Option.map_some, Option.map_none, Nat.reduceLT, Nat.reduceEqDiff, Nat.reduceAdd, Nat.zero_add, if_true, if_false, Option.getD_some, Option.getD_none, ↓reduceIte, Bool.false_eq_true, Bool.true_eq_false, reduceCtorEq, resA, resOf, Option.some.injEq, exists_eq_left', beq_self_eq_true, decide_true, decide_false, decide_eq_true_eq, ne_eq, not_true_eq_false, not_false_eq_true, Bool.not_eq_true, beq_iff_eq, bin_add, bin_sub, bin_mul, bin_eql, bin_neq, bin_lss, bin_leq, bin_gtr, bin_geq, maxA, minA, Prod.mk.injEq, and_true, true_and, beq_eq_false_iff_ne, decide_eq_false_iff_not, Bool.true_beq, Bool.false_beq, beq_true, beq_false, Bool.not_true, Bool.not_false, List.getElem?_toArray]
    refine ⟨by omega, by omega, ha, ?_⟩
    simp
theorem mulv_cl {s : AV} {l : List Int} (hl : IB nx H s l) : Cl cx 24 [s] H nx = some (.lit (.int .i64 (if ∃ x ∈ l, x ≤ 0 then 0 else l.foldl satMul 1)), H, nx) := by
  refine wp24 _ _ _ _ (by simp) ?_
  unfold s24
  simp only [↓wpS_skip, ↓wpS_ops, ↓wpS_seq, ↓wpS_cond, ↓wpS_block, ↓wpS_loop, ↓wpS_exit, ↓wpS_ret, condW_bool, ↓WOps_go, ↓WOps_skip, WOps_nil, stepA, opA, convA, isCall, put?, ev, Tr.get_put, Tr.get_nil, builtinA, callA, argEnv, wantedS, abs_int, abs_bool, abs_string, abs_nilp, abs_nili, abs_nilf, abs_nilm, abs_nils, un_not, undef, z_none, List.zipIdx_cons, List.zipIdx_nil, List.foldl_cons, List.foldl_nil, List.map_cons, List.map_nil, List.map_toArray, List.nil_append, List.cons_append, List.append_nil, extractOp, List.getElem?_cons_zero, List.getElem?_cons_succ,
    Option.map_some, Option.map_none, Nat.reduceLT, Nat.reduceEqDiff, Nat.reduceAdd, Nat.zero_add, if_true, if_false, Option.getD_some, Option.getD_none, ↓reduceIte, Bool.false_eq_true, Bool.true_eq_false, reduceCtorEq, resA, resOf, Option.some.injEq, exists_eq_left', beq_self_eq_true, decide_true, decide_false, decide_eq_true_eq, ne_eq, not_true_eq_false, not_false_eq_true, Bool.not_eq_true, beq_iff_eq, bin_add, bin_sub, bin_mul, bin_eql, bin_neq, bin_lss, bin_leq, bin_gtr, bin_geq, maxA, minA, Prod.mk.injEq, and_true, true_and, beq_eq_false_iff_ne, decide_eq_false_iff_not, Bool.true_beq, Bool.false_beq, beq_true, beq_false, Bool.not_true, Bool.not_false, List.getElem?_toArray, ib_len hl]
  refine Wp_loop (fun n st => ∃ (i : Nat), n = l.length - i ∧ i ≤ l.length ∧ (∀ x ∈ l.take i, ¬ x ≤ 0) ∧ st.H = H ∧ st.nx = nx ∧ st.env.get 0 = some s ∧
    st.env.get 5 = some s ∧ st.env.get 6 = some (.lit (.int .i64 l.length)) ∧ st.env.get 7 = some (.lit (.int .i64 i))) ?_ l.length _ ⟨0, ?_⟩
  · rintro n ⟨E, H1, nx1⟩ ⟨i, hn, hi, hpos, e1, e2, h0, h5, h6, h7⟩
    simp only at e1 e2; subst e1; subst e2
    refine Wp_of ?_
    unfold s24_l0
    by_cases hlt : i < l.length
    · obtain ⟨p, hp1, hp2, hp3⟩ := ib_at hl (List.getElem?_eq_getElem hlt)
      have hw : IntKind.i64.wrap ((i : Int) + 1) = ((i + 1 : Nat) : Int) := by
        rw [wrapI]; · rfl
        have := hl.2.1
        constructor <;> omega
      by_cases hz : l[i] ≤ 0
      · have hex : ∃ x ∈ l, x ≤ 0 := ⟨_, List.getElem_mem hlt, hz⟩
        simp only [↓wpS_skip, ↓wpS_ops, ↓wpS_seq, ↓wpS_cond, ↓wpS_block, ↓wpS_loop, ↓wpS_exit, ↓wpS_ret, condW_bool, ↓WOps_go, ↓WOps_skip, WOps_nil, stepA, opA, convA, isCall, put?, ev, Tr.get_put, Tr.get_nil, builtinA, callA, argEnv, wantedS, abs_int, abs_bool, abs_string, abs_nilp, abs_nili, abs_nilf, abs_nilm, abs_nils, un_not, undef, z_none, List.zipIdx_cons, List.zipIdx_nil, List.foldl_cons, List.foldl_nil, List.map_cons, List.map_nil, List.map_toArray, List.nil_append, List.cons_append, List.append_nil, extractOp, List.getElem?_cons_zero, List.getElem?_cons_succ,
    Option.map_some, Option.map_none, Nat.reduceLT, Nat.reduceEqDiff, Nat.reduceAdd, Nat.zero_add, if_true, if_false, Option.getD_some, Option.getD_none, ↓reduceIte, Bool.false_eq_true, Bool.true_eq_false, reduceCtorEq, resA, resOf, Option.some.injEq, exists_eq_left', beq_self_eq_true, decide_true, decide_false, decide_eq_true_eq, ne_eq, not_true_eq_false, not_false_eq_true, Bool.not_eq_true, beq_iff_eq, bin_add, bin_sub, bin_mul, bin_eql, bin_neq, bin_lss, bin_leq, bin_gtr, bin_geq, maxA, minA, Prod.mk.injEq, and_true, true_and, beq_eq_false_iff_ne, decide_eq_false_iff_not, Bool.true_beq, Bool.false_beq, beq_true, beq_false, Bool.not_true, Bool.not_false, List.getElem?_toArray, h0, h5, h6, h7, hp1, hp2 _ (Fr.refl _ _), Int.ofNat_lt, hlt, hz, hw, if_pos hex]
      · simp only [↓wpS_skip, ↓wpS_ops, ↓wpS_seq, ↓wpS_cond, ↓wpS_block, ↓wpS_loop, ↓wpS_exit, ↓wpS_ret, condW_bool, ↓WOps_go, ↓WOps_skip, WOps_nil, stepA, opA, convA, isCall, put?, ev, Tr.get_put, Tr.get_nil, builtinA, callA, argEnv, wantedS, abs_int, abs_bool, abs_string, abs_nilp, abs_nili, abs_nilf, abs_nilm, abs_nils, un_not, undef, z_none, List.zipIdx_cons, List.zipIdx_nil, List.foldl_cons, List.foldl_nil, List.map_cons, List.map_nil, List.map_toArray, List.nil_append, List.cons_append, List.append_nil, extractOp, List.getElem?_cons_zero, List.getElem?_cons_succ,
    Option.map_some, Option.map_none, Nat.reduceLT, Nat.reduceEqDiff, Nat.reduceAdd, Nat.zero_add, if_true, if_false, Option.getD_some, Option.getD_none, ↓reduceIte, Bool.false_eq_true, Bool.true_eq_false, reduceCtorEq, resA, resOf, Option.some.injEq, exists_eq_left', beq_self_eq_true, decide_true, decide_false, decide_eq_true_eq, ne_eq, not_true_eq_false, not_false_eq_true, Bool.not_eq_true, beq_iff_eq, bin_add, bin_sub, bin_mul, bin_eql, bin_neq, bin_lss, bin_leq, bin_gtr, bin_geq, maxA, minA, Prod.mk.injEq, and_true, true_and, beq_eq_false_iff_ne, decide_eq_false_iff_not, Bool.true_beq, Bool.false_beq, beq_true, beq_false, Bool.not_true, Bool.not_false, List.getElem?_toArray, h0, h5, h6, h7, hp1, hp2 _ (Fr.refl _ _), Int.ofNat_lt, hlt, hz, hw]
        refine ⟨l.length - (i + 1), by omega, i + 1, rfl, by omega, ?_, rfl⟩
        intro x hx
        rw [List.take_add_one, List.mem_append] at hx
        rcases hx with hx | hx
        · exact hpos x hx
        · rw [List.getElem?_eq_getElem hlt] at hx
          simp at hx; subst hx; exact hz
    · have : i = l.length := by omega
      subst this
      have hno : ¬ ∃ x ∈ l, x ≤ 0 := by
        rintro ⟨x, hx, hx2⟩
        exact hpos x (by rw [List.take_length]; exact hx) hx2
      simp only [↓wpS_skip, ↓wpS_ops, ↓wpS_seq, ↓wpS_cond, ↓wpS_block, ↓wpS_loop, ↓wpS_exit, ↓wpS_ret, condW_bool, ↓WOps_go, ↓WOps_skip, WOps_nil, stepA, opA, convA, isCall, put?, ev, Tr.get_put, Tr.get_nil, builtinA, callA, argEnv, wantedS, abs_int, abs_bool, abs_string, abs_nilp, abs_nili, abs_nilf, abs_nilm, abs_nils, un_not, undef, z_none, List.zipIdx_cons, List.zipIdx_nil, List.foldl_cons, List.foldl_nil, List.map_cons, List.map_nil, List.map_toArray, List.nil_append, List.cons_append, List.append_nil, extractOp, List.getElem?_cons_zero, List.getElem?_cons_succ,
    Option.map_some, Option.map_none, Nat.reduceLT, Nat.reduceEqDiff, Nat.reduceAdd, Nat.zero_add, if_true, if_false, Option.getD_some, Option.getD_none, ↓reduceIte, Bool.false_eq_true, Bool.true_eq_false, reduceCtorEq, resA, resOf, Option.some.injEq, exists_eq_left', beq_self_eq_true, decide_true, decide_false, decide_eq_true_eq, ne_eq, not_true_eq_false, not_false_eq_true, Bool.not_eq_true, beq_iff_eq, bin_add, bin_sub, bin_mul, bin_eql, bin_neq, bin_lss, bin_leq, bin_gtr, bin_geq, maxA, minA, Prod.mk.injEq, and_true, true_and, beq_eq_false_iff_ne, decide_eq_false_iff_not, Bool.true_beq, Bool.false_beq, beq_true, beq_false, Bool.not_true, Bool.not_false, List.getElem?_toArray, h0, h5, h6, h7, Int.ofNat_lt, Nat.lt_irrefl, x_none, fold_cl (k := 34) mul_cl rfl rfl rfl rfl rfl rfl (by decide) satMul_i hl i64_1, if_neg hno]
  · simp only [↓wpS_skip, ↓wpS_ops, ↓wpS_seq, ↓wpS_cond, ↓wpS_block, ↓wpS_loop, ↓wpS_exit, ↓wpS_ret, condW_bool, ↓WOps_go, ↓WOps_skip, WOps_nil, stepA, opA, convA, isCall, put?, ev, Tr.get_put, Tr.get_nil, builtinA, callA, argEnv, wantedS, abs_int, abs_bool, abs_string, abs_nilp, abs_nili, abs_nilf, abs_nilm, abs_nils, un_not, undef, z_none, List.zipIdx_cons, List.zipIdx_nil, List.foldl_cons, List.foldl_nil, List.map_cons, List.map_nil, List.map_toArray, List.nil_append, List.cons_append, List.append_nil, extractOp, List.getElem?_cons_zero, List.getElem?_cons_succ,
    Option.map_some, Option.map_none, Nat.reduceLT, Nat.reduceEqDiff, Nat.reduceAdd, Nat.zero_add, if_true, if_false, Option.getD_some, Option.getD_none, ↓reduceIte, Bool.false_eq_true, Bool.true_eq_false, reduceCtorEq, resA, resOf, Option.some.injEq, exists_eq_left', beq_self_eq_true, decide_true, decide_false, decide_eq_true_eq, ne_eq, not_true_eq_false, not_false_eq_true, Bool.not_eq_true, beq_iff_eq, bin_add, bin_sub, bin_mul, bin_eql, bin_neq, bin_lss, bin_leq, bin_gtr, bin_geq, maxA, minA, Prod.mk.injEq, and_true, true_and, beq_eq_false_iff_ne, decide_eq_false_iff_not, Bool.true_beq, Bool.false_beq, beq_true, beq_false, Bool.not_true, Bool.not_false, List.getElem?_toArray]
    simp
end Seat
end CI
