/- quote, walked: Write, and the document's. -/
import Derived.Test.YtlejcpkedahphaaQc
set_option linter.unusedVariables false
set_option linter.unusedSimpArgs false
namespace CI
open Go
namespace Seat
open Quo
variable {H : Heap} {nx : Nat}
theorem eqB_strA (l : List UInt8) : AV.eqB (strA l) (strA l) = true := eqB_str _
theorem below_strA (n : Nat) (l : List UInt8) : AV.belowB n (strA l) = true := rfl
/-! ### constants -/
theorem lit_e : AV.lit (.string (ByteArray.mk #[92, 101])) = strA [92, 101] := rfl
theorem lit_ss : AV.lit (.string (ByteArray.mk #[92, 92])) = strA [92, 92] := rfl
theorem lit_x : AV.lit (.string (ByteArray.mk #[92, 120])) = strA [92, 120] := rfl
theorem lit_nil : AV.lit (.string (ByteArray.mk #[])) = strA [] := rfl
theorem ix_hex (k : IntKind) (i : Nat) (h : i < 16) :
    indexOp cx.P cx.T 9 (.lit (.string (ByteArray.mk #[48, 49, 50, 51, 52, 53, 54, 55, 56, 57, 97, 98, 99, 100, 101, 102]))) (.lit (.int k i)) = some (byteA (hexC i)) := by
  refine str_ix [48, 49, 50, 51, 52, 53, 54, 55, 56, 57, 97, 98, 99, 100, 101, 102] i (hexC i) k ?_
  have : ∀ i : Fin 16, ([48, 49, 50, 51, 52, 53, 54, 55, 56, 57, 97, 98, 99, 100, 101, 102] : List UInt8)[i.val]? = some (hexC i.val) := by decide
  exact this ⟨i, h⟩
theorem bin_shr4 (P : Program) (T : Tr TInfo) (t : TypeId) (x y : Operand) (a : Nat) : binOpA P T .shr t x y (.lit (.int .u8 a)) (.lit (.int .u64 4)) = some (.lit (.int .u8 ((a / 16 : Nat) : Int))) := by
  rw [bin_shr P T t x y .u8 .u64 a 4 (by decide)]
  have : (2 : Int) ^ (min (4 : Int).toNat IntKind.u8.bits) = 16 := by decide
  rw [this]
  congr 3
theorem bin_and15 (P : Program) (T : Tr TInfo) (t : TypeId) (x y : Operand) (a : Nat) : binOpA P T .and t x y (.lit (.int .u8 a)) (.lit (.int .u8 15)) = some (.lit (.int .u8 ((a % 16 : Nat) : Int))) := by
  have : binOpA P T .and t x y (.lit (.int .u8 a)) (.lit (.int .u8 15)) = some (.lit (.int .u8 (IntKind.u8.wrap ((BitVec.ofInt 8 a &&& BitVec.ofInt 8 15).toNat : Int)))) := rfl
  rw [this]
  have e : (BitVec.ofInt 8 15).toNat = 2 ^ 4 - 1 := by decide
  rw [BitVec.toNat_and, e, Nat.and_two_pow_sub_one_eq_mod, BitVec.toNat_ofInt]
  simp only [IntKind.wrap, IntKind.signed, IntKind.bits, Bool.false_and, Bool.false_eq_true, if_false]
  congr 3
  omega
/-- Bytes, as a text. -/
theorem cv_bytes {X : Heap} {n c m : Nat} {k : Option Nat} {l : List UInt8} {t : TypeId} {ro : Bool} (hc : X.get c = some (.cells (l.map byteA) t ro)) (hm : l.length = m) :
    convOp cx.P cx.T X n 46 9 (.slice c 0 m k 1) = some (strA l, X, n) := by
  have e : plain1 cx.P (convert 46 9) (.slice c 0 m k 1) = none := by kernel_rfl
  have hcut : cut (l.map byteA) 0 m = some (l.map byteA) := by
    have : (l.map byteA).take m = l.map byteA := List.take_of_length_le (by simp [hm])
    simp [cut, hm, this]
  unfold convOp
  rw [e]
  simp only [T46, T9, ti46, ti9, T5, ti5, hc, hcut, Option.bind_some, bytesOf_map, Option.map_some, fold_bytes]
  rfl
theorem cv_nil {n c m : Nat} {k : Option Nat} : convOp cx.P cx.T .nil n 46 9 (.slice c 0 m k 1) = none := by kernel_rfl
theorem cu_nil {c m : Nat} {k : Option Nat} : convU cx.P cx.T .nil 46 9 (.slice c 0 m k 1) = none := by kernel_rfl
theorem ro_two (a b : UInt8) : (roAll (H.put nx (some (.cells [byteA a, byteA b] 5 false)))).get nx = some (.cells ([a, b].map byteA) 5 true) := by
  rw [roAll_get, Tr.get_put_same]; rfl
theorem Bld.put {n0 p o : Nat} {cs : List AV} {t : TypeId} {bs : List UInt8} (hb : Bld n0 H nx p o cs t bs) (ob : Option AObj) : Bld n0 (H.put nx ob) (nx + 1) p o cs t bs where
  hp := by rw [Tr.get_put_ne _ _ _ _ (by have := hb.p1; omega)]; exact hb.hp
  p0 := hb.p0
  p1 := by have := hb.p1; omega
  lies := hb.lies
  self := hb.self
  buf := by
    rcases hb.buf with h | ⟨c, h1, h2, h3, h4, h5, h6⟩
    · exact .inl h
    · exact .inr ⟨c, h1, h2, by omega, h4, h5, by rw [Tr.get_put_ne _ _ _ _ (by omega)]; exact h6⟩
  fr := fun b h => by rw [Tr.get_put_ne _ _ _ _ (by omega)]; exact hb.fr b (by omega)
theorem oneW_len (l : List UInt8) : (l.flatMap oneW).length ≤ 4 * l.length := by
  induction l with
  | nil => simp
  | cons b l ih =>
    have := oneW_le b
    simp only [List.flatMap_cons, List.length_append, List.length_cons]
    omega
theorem flat_succ {l : List UInt8} {i : Nat} (h : i < l.length) : (l.take (i + 1)).flatMap oneW = (l.take i).flatMap oneW ++ oneW l[i] := by
  rw [List.take_add_one, List.getElem?_eq_getElem h, List.flatMap_append]
  simp only [Option.toList_some, List.flatMap_cons, List.flatMap_nil, List.append_nil]
theorem write_l0 {n0 p : Nat} {cs : List AV} {s : List UInt8} {E : Tr AV} {QQ : Ex → St → Prop} (hs : s.length ≤ 1000000) (hb : Bld n0 H nx p 0 cs 48 []) (e0 : E.get 0 = some (strA s)) (e3 : E.get 3 = some (.ptr p 0))
    (e9 : E.get 9 = some (.lit (.int .i64 s.length))) (e10 : E.get 10 = some (.lit (.int .i64 0)))
    (hQ : ∀ E' H' nx' cs', E'.get 3 = some (.ptr p 0) → Bld n0 H' nx' p 0 cs' 48 (s.flatMap oneW) → nx ≤ nx' → (∀ c, c < n0 → H'.get c = H.get c) → QQ (.exit 0) ⟨E', H', nx'⟩) :
    Wp cx 37 (.loop s22_l0) ⟨E, H, nx⟩ QQ := by
  refine Wp_loop (fun n st => ∃ (i : Nat) (cs' : List AV), n = s.length - i ∧ i ≤ s.length ∧ Bld n0 st.H st.nx p 0 cs' 48 ((s.take i).flatMap oneW) ∧ nx ≤ st.nx ∧ (∀ c, c < n0 → st.H.get c = H.get c) ∧
    st.env.get 0 = some (strA s) ∧ st.env.get 3 = some (.ptr p 0) ∧ st.env.get 9 = some (.lit (.int .i64 s.length)) ∧ st.env.get 10 = some (.lit (.int .i64 i))) ?_ s.length _ ⟨0, cs, by omega, by omega, by simpa using hb, Nat.le_refl _, fun _ _ => rfl, e0, e3, e9, e10⟩
  rintro n ⟨E, H1, nx1⟩ ⟨i, cs', hn, hi, hb, hnx, hold, e0, e3, e9, e10⟩
  simp only at hb hnx hold e0 e3 e9 e10
  refine Wp_of ?_
  unfold s22_l0
  by_cases hlt : i < s.length
  · have hix := str_ix s i s[i] .i64 (List.getElem?_eq_getElem hlt)
    have hw : IntKind.i64.wrap ((i : Int) + 1) = ((i + 1 : Nat) : Int) := by rw [wrapI (by constructor <;> omega)]; rfl
    have hlen := oneW_len (s.take i)
    have hlen2 : (s.take i).length ≤ s.length := by rw [List.length_take]; omega
    have hfl := flat_succ hlt
    have hbt : s[i].toNat < 256 := s[i].toNat_lt
    by_cases hp : plainN s[i].toNat = true
    · have h1 : oneW s[i] = [s[i]] := by
        unfold oneW oneN
        have := (plainN_ok _ hbt).1 hp
        rw [if_neg this.2.2, if_pos ⟨this.1, this.2.1⟩, UInt8.ofNat_toNat]
      obtain ⟨H2, nx2, cs2, w1, w2, w3, w4, w5, w6⟩ := wb_cl hb (by omega) s[i]
      simp only [↓wpS_skip, ↓wpS_ops, ↓wpS_seq, ↓wpS_cond, ↓wpS_block, ↓wpS_loop, ↓wpS_exit, ↓wpS_ret, condW_bool, ↓WOps_go, ↓WOps_skip, WOps_nil, stepA, opA, convA, isCall, put?, ev, Tr.get_put, Tr.get_nil, builtinA, callA, argEnv, wantedS, abs_int, abs_bool, abs_string, abs_nilp, abs_nili, abs_nilf, abs_nilm, abs_nils, un_not, List.zipIdx_cons, List.zipIdx_nil, List.foldl_cons, List.foldl_nil, List.map_cons, List.map_nil, List.map_toArray, List.nil_append, List.cons_append, List.append_nil, extractOp, List.getElem?_cons_zero, List.getElem?_cons_succ,
    Option.map_some, Option.map_none, Nat.reduceLT, Nat.reduceEqDiff, Nat.reduceAdd, Nat.zero_add, if_true, if_false, Option.getD_some, Option.getD_none, ↓reduceIte, Bool.false_eq_true, Bool.true_eq_false, reduceCtorEq, resA, resOf, Option.some.injEq, exists_eq_left', beq_self_eq_true, decide_true, decide_false, decide_eq_true_eq, ne_eq, not_true_eq_false, not_false_eq_true, Bool.not_eq_true, beq_iff_eq, bin_add, bin_sub, bin_mul, bin_eql, bin_neq, bin_lss, bin_leq, bin_gtr, bin_geq, maxA, minA, Prod.mk.injEq, and_true, true_and, beq_eq_false_iff_ne, decide_eq_false_iff_not, Bool.true_beq, Bool.false_beq, beq_true, beq_false, Bool.not_true, Bool.not_false, List.getElem?_toArray, x_none, e0, e3, e9, e10, Int.ofNat_lt, hlt, hix, plain_cl, hp, w1, hw]
      refine ⟨s.length - (i + 1), by omega, i + 1, cs2, rfl, by omega, ?_, by omega, fun c hc => (w6 c hc).trans (hold c hc), rfl⟩
      rw [hfl, h1]; exact w2
    · simp only [Bool.not_eq_true] at hp
      by_cases h92 : s[i].toNat = 92
      · have h1 : oneW s[i] = [92, 92] := by unfold oneW oneN; rw [if_pos h92]
        have hb92 : byteA s[i] = .lit (.int .u8 92) := by unfold byteA; rw [h92]; rfl
        obtain ⟨H2, nx2, cs2, w1, w2, w3, w4, w5, w6⟩ := ws_cl hb [92, 92] (by simp only [List.length_cons, List.length_nil]; omega)
        have hpl := plain_cl (H := H1) (nx := nx1) s[i]
        rw [hp, hb92] at hpl
        rw [hb92] at hix
        simp only [↓wpS_skip, ↓wpS_ops, ↓wpS_seq, ↓wpS_cond, ↓wpS_block, ↓wpS_loop, ↓wpS_exit, ↓wpS_ret, condW_bool, ↓WOps_go, ↓WOps_skip, WOps_nil, stepA, opA, convA, isCall, put?, ev, Tr.get_put, Tr.get_nil, builtinA, callA, argEnv, wantedS, abs_int, abs_bool, abs_string, abs_nilp, abs_nili, abs_nilf, abs_nilm, abs_nils, un_not, List.zipIdx_cons, List.zipIdx_nil, List.foldl_cons, List.foldl_nil, List.map_cons, List.map_nil, List.map_toArray, List.nil_append, List.cons_append, List.append_nil, extractOp, List.getElem?_cons_zero, List.getElem?_cons_succ,
    Option.map_some, Option.map_none, Nat.reduceLT, Nat.reduceEqDiff, Nat.reduceAdd, Nat.zero_add, if_true, if_false, Option.getD_some, Option.getD_none, ↓reduceIte, Bool.false_eq_true, Bool.true_eq_false, reduceCtorEq, resA, resOf, Option.some.injEq, exists_eq_left', beq_self_eq_true, decide_true, decide_false, decide_eq_true_eq, ne_eq, not_true_eq_false, not_false_eq_true, Bool.not_eq_true, beq_iff_eq, bin_add, bin_sub, bin_mul, bin_eql, bin_neq, bin_lss, bin_leq, bin_gtr, bin_geq, maxA, minA, Prod.mk.injEq, and_true, true_and, beq_eq_false_iff_ne, decide_eq_false_iff_not, Bool.true_beq, Bool.false_beq, beq_true, beq_false, Bool.not_true, Bool.not_false, List.getElem?_toArray, x_none, e0, e3, e9, e10, Int.ofNat_lt, hlt, hix, hpl, lit_ss, w1, hw]
        refine ⟨s.length - (i + 1), by omega, i + 1, cs2, rfl, by omega, ?_, by omega, fun c hc => (w6 c hc).trans (hold c hc), rfl⟩
        rw [hfl, h1]; exact w2
      · have h1 : oneW s[i] = [92, 120, hexC (s[i].toNat / 16), hexC (s[i].toNat % 16)] := by
          unfold oneW oneN
          rw [if_neg h92, if_neg ?_]
          rintro ⟨h3, h4⟩
          have := (plainN_ok _ hbt).2 ⟨h3, h4, h92⟩
          rw [hp] at this; cases this
        have hb2 := hb.put (some (.cells [byteA (hexC (s[i].toNat / 16)), byteA (hexC (s[i].toNat % 16))] 5 false))
        obtain ⟨H2, nx2, cs2, w1, w2, w3, w4, w5, w6⟩ := ws_cl hb2 [92, 120, hexC (s[i].toNat / 16), hexC (s[i].toNat % 16)] (by simp only [List.length_cons, List.length_nil]; omega)
        have hpl := plain_cl (H := H1) (nx := nx1) s[i]
        rw [hp] at hpl
        have h92' : ¬ ((s[i].toNat : Nat) : Int) = 92 := by omega
        have hst := str_add (.const (.string (ByteArray.mk #[92, 120]))) (.tmp 23) [92, 120] [hexC (s[i].toNat / 16), hexC (s[i].toNat % 16)] (by simp)
        have e23 : binOpA cx.P cx.T .eql 5 (.tmp 32) (.const (.int .u8 92)) (byteA s[i]) (.lit (.int .u8 92)) = some (.lit (.bool false)) := by
          unfold byteA; rw [bin_eql]; simp [h92']
        simp only [↓wpS_skip, ↓wpS_ops, ↓wpS_seq, ↓wpS_cond, ↓wpS_block, ↓wpS_loop, ↓wpS_exit, ↓wpS_ret, condW_bool, ↓WOps_go, ↓WOps_skip, WOps_nil, stepA, opA, convA, isCall, put?, ev, Tr.get_put, Tr.get_nil, builtinA, callA, argEnv, wantedS, abs_int, abs_bool, abs_string, abs_nilp, abs_nili, abs_nilf, abs_nilm, abs_nils, un_not, List.zipIdx_cons, List.zipIdx_nil, List.foldl_cons, List.foldl_nil, List.map_cons, List.map_nil, List.map_toArray, List.nil_append, List.cons_append, List.append_nil, extractOp, List.getElem?_cons_zero, List.getElem?_cons_succ,
    Option.map_some, Option.map_none, Nat.reduceLT, Nat.reduceEqDiff, Nat.reduceAdd, Nat.zero_add, if_true, if_false, Option.getD_some, Option.getD_none, ↓reduceIte, Bool.false_eq_true, Bool.true_eq_false, reduceCtorEq, resA, resOf, Option.some.injEq, exists_eq_left', beq_self_eq_true, decide_true, decide_false, decide_eq_true_eq, ne_eq, not_true_eq_false, not_false_eq_true, Bool.not_eq_true, beq_iff_eq, bin_add, bin_sub, bin_mul, bin_eql, bin_neq, bin_lss, bin_leq, bin_gtr, bin_geq, maxA, minA, Prod.mk.injEq, and_true, true_and, beq_eq_false_iff_ne, decide_eq_false_iff_not, Bool.true_beq, Bool.false_beq, beq_true, beq_false, Bool.not_true, Bool.not_false, List.getElem?_toArray, x_none, e0, e3, e9, e10, Int.ofNat_lt, hlt, hix, hpl, e23, hw]
        refine s22_d0_wq ?_
        unfold s22_d0s
        have hb5 : byteA s[i] = .lit (.int .u8 s[i].toNat) := rfl
        have i1 := ix_hex .u8 (s[i].toNat / 16) (by omega)
        have i2 := ix_hex .u8 (s[i].toNat % 16) (by omega)
        have hcv := cv_bytes (n := nx1 + 1) (k := some 2) (ro_two (H := H1) (nx := nx1) (hexC (s[i].toNat / 16)) (hexC (s[i].toNat % 16))) (m := 2) rfl
        have hle : nx1 + 1 ≤ nx2 := w3
        simp only [↓wpS_skip, ↓wpS_ops, ↓wpS_seq, ↓wpS_cond, ↓wpS_block, ↓wpS_loop, ↓wpS_exit, ↓wpS_ret, condW_bool, ↓WOps_go, ↓WOps_skip, WOps_nil, stepA, opA, convA, isCall, put?, ev, Tr.get_put, Tr.get_nil, builtinA, callA, argEnv, wantedS, abs_int, abs_bool, abs_string, abs_nilp, abs_nili, abs_nilf, abs_nilm, abs_nils, un_not, List.zipIdx_cons, List.zipIdx_nil, List.foldl_cons, List.foldl_nil, List.map_cons, List.map_nil, List.map_toArray, List.nil_append, List.cons_append, List.append_nil, extractOp, List.getElem?_cons_zero, List.getElem?_cons_succ,
    Option.map_some, Option.map_none, Nat.reduceLT, Nat.reduceEqDiff, Nat.reduceAdd, Nat.zero_add, if_true, if_false, Option.getD_some, Option.getD_none, ↓reduceIte, Bool.false_eq_true, Bool.true_eq_false, reduceCtorEq, resA, resOf, Option.some.injEq, exists_eq_left', beq_self_eq_true, decide_true, decide_false, decide_eq_true_eq, ne_eq, not_true_eq_false, not_false_eq_true, Bool.not_eq_true, beq_iff_eq, bin_add, bin_sub, bin_mul, bin_eql, bin_neq, bin_lss, bin_leq, bin_gtr, bin_geq, maxA, minA, Prod.mk.injEq, and_true, true_and, beq_eq_false_iff_ne, decide_eq_false_iff_not, Bool.true_beq, Bool.false_beq, beq_true, beq_false, Bool.not_true, Bool.not_false, List.getElem?_toArray, ↓WQ_cons, ↓WQ_nil, txS, ph0_still, ph0_skip, ph0_new, ph0_read, ph0_eff, ph1_still, ph1_skip, ph1_read, ph1_eff, ph2_still, ph2_skip, loadOp_ro, loadOp_nil, isEff, eqB_int, eqB_str, eqB_bool, eqB_ptr, eqB_slice, eqB_nils, AV.belowB, Nat.le_refl, nx_succ, x_none, e0, e3, e9, e10, hw, eqB_strA, below_strA, hb5, bin_shr4, bin_and15, i1, i2, partsA, bs_two, cv_nil, cu_nil, hcv, lit_x, hst, w1, hle]
        refine ⟨s.length - (i + 1), by omega, i + 1, cs2, rfl, by omega, ?_, by omega, fun c hc => ?_, rfl⟩
        · rw [hfl, h1]; exact w2
        · rw [w6 c hc, Tr.get_put_ne _ _ _ _ (by have := hb.p0; have := hb.p1; omega)]; exact hold c hc
  · have hi2 : i = s.length := by omega
    subst hi2
    simp only [↓wpS_skip, ↓wpS_ops, ↓wpS_seq, ↓wpS_cond, ↓wpS_block, ↓wpS_loop, ↓wpS_exit, ↓wpS_ret, condW_bool, ↓WOps_go, ↓WOps_skip, WOps_nil, stepA, opA, convA, isCall, put?, ev, Tr.get_put, Tr.get_nil, builtinA, callA, argEnv, wantedS, abs_int, abs_bool, abs_string, abs_nilp, abs_nili, abs_nilf, abs_nilm, abs_nils, un_not, List.zipIdx_cons, List.zipIdx_nil, List.foldl_cons, List.foldl_nil, List.map_cons, List.map_nil, List.map_toArray, List.nil_append, List.cons_append, List.append_nil, extractOp, List.getElem?_cons_zero, List.getElem?_cons_succ,
    Option.map_some, Option.map_none, Nat.reduceLT, Nat.reduceEqDiff, Nat.reduceAdd, Nat.zero_add, if_true, if_false, Option.getD_some, Option.getD_none, ↓reduceIte, Bool.false_eq_true, Bool.true_eq_false, reduceCtorEq, resA, resOf, Option.some.injEq, exists_eq_left', beq_self_eq_true, decide_true, decide_false, decide_eq_true_eq, ne_eq, not_true_eq_false, not_false_eq_true, Bool.not_eq_true, beq_iff_eq, bin_add, bin_sub, bin_mul, bin_eql, bin_neq, bin_lss, bin_leq, bin_gtr, bin_geq, maxA, minA, Prod.mk.injEq, and_true, true_and, beq_eq_false_iff_ne, decide_eq_false_iff_not, Bool.true_beq, Bool.false_beq, beq_true, beq_false, Bool.not_true, Bool.not_false, List.getElem?_toArray, e0, e3, e9, e10, Int.ofNat_lt, Nat.lt_irrefl]
    refine hQ _ _ _ cs' ?_ ?_ hnx hold
    · simp only [↓wpS_skip, ↓wpS_ops, ↓wpS_seq, ↓wpS_cond, ↓wpS_block, ↓wpS_loop, ↓wpS_exit, ↓wpS_ret, condW_bool, ↓WOps_go, ↓WOps_skip, WOps_nil, stepA, opA, convA, isCall, put?, ev, Tr.get_put, Tr.get_nil, builtinA, callA, argEnv, wantedS, abs_int, abs_bool, abs_string, abs_nilp, abs_nili, abs_nilf, abs_nilm, abs_nils, un_not, List.zipIdx_cons, List.zipIdx_nil, List.foldl_cons, List.foldl_nil, List.map_cons, List.map_nil, List.map_toArray, List.nil_append, List.cons_append, List.append_nil, extractOp, List.getElem?_cons_zero, List.getElem?_cons_succ,
    Option.map_some, Option.map_none, Nat.reduceLT, Nat.reduceEqDiff, Nat.reduceAdd, Nat.zero_add, if_true, if_false, Option.getD_some, Option.getD_none, ↓reduceIte, Bool.false_eq_true, Bool.true_eq_false, reduceCtorEq, resA, resOf, Option.some.injEq, exists_eq_left', beq_self_eq_true, decide_true, decide_false, decide_eq_true_eq, ne_eq, not_true_eq_false, not_false_eq_true, Bool.not_eq_true, beq_iff_eq, bin_add, bin_sub, bin_mul, bin_eql, bin_neq, bin_lss, bin_leq, bin_gtr, bin_geq, maxA, minA, Prod.mk.injEq, and_true, true_and, beq_eq_false_iff_ne, decide_eq_false_iff_not, Bool.true_beq, Bool.false_beq, beq_true, beq_false, Bool.not_true, Bool.not_false, List.getElem?_toArray, e3]
    · simpa using hb
end Seat
end CI
