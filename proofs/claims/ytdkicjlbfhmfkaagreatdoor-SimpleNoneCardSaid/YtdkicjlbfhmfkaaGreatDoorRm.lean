/- Merged: Rx Ry Rz. -/
import Derived.Test.YtdkicjlbfhmfkaaGreatDoorCiz
import Derived.Test.YtdkicjlbfhmfkaaGreatDoorCj
import Derived.Test.YtdkicjlbfhmfkaaGreatDoorCwg
/- SimpleNone: what stands outside the loop. -/
set_option linter.unusedVariables false
set_option linter.unusedSimpArgs false
set_option maxRecDepth 10000
namespace CI
open Go
namespace Seat
theorem x_awake : cx.X 13 [] = some (.lit (.bool true)) := by kernel_rfl
variable {H : Heap} {nx : Nat}
def np : AV := .lit (.pointer none)
theorem step_nil : Cl cx 9 [np] H nx = some (.tuple [np, .lit (.int .i64 0)], H, nx) := Cl_of (n := 40) (by rw [← callF_eq]; kernel_rfl)
theorem pat_nil : Cl cx 10 [np] H nx = some (.tuple [.lit (.string ByteArray.empty), .lit (.int .i64 1)], H, nx) := Cl_of (n := 40) (by rw [← callF_eq]; kernel_rfl)
theorem simp_nil : Cl cx 11 [np] H nx = some (np, H, nx) := Cl_of (n := 40) (by rw [← callF_eq]; kernel_rfl)
theorem saved_nil : Cl cx 12 [np] H nx = some (.lit (.int .i64 0), H, nx) := Cl_of (n := 40) (by rw [← callF_eq]; kernel_rfl)
end Seat
end CI
/- SimpleNone: what is printed of a chain of Stars, walked. -/
set_option linter.unusedVariables false
set_option linter.unusedSimpArgs false
set_option maxRecDepth 100000
namespace CI
open Go
namespace Seat
theorem x_none (k : Nat) (h171 : (k == 171) = false) (h294 : (k == 294) = false) (h235 : (k == 235) = false) (h13 : (k == 13) = false) (h75 : (k == 75) = false) (h102 : (k == 102) = false) (hO : exts.get k = none) (args : List AV) : cx.X k args = none := by
  show extX4 Go.Proofs.Tryz.prog exts sums idents consF k args = none
  have e2 : sums.get k = none := by simp only [sums, Tr.get_put, if_neg (show k ≠ 13 by simpa using h13), Tr.get_nil]
  have e3 : idents.get k = none := by simp only [idents, Tr.get_put, if_neg (show k ≠ 235 by simpa using h235), Tr.get_nil]
  have e4 : consF.get k = none := by simp only [consF, cons, Tr.get_put, if_neg (show k ≠ 75 by simpa using h75), if_neg (show k ≠ 102 by simpa using h102), Tr.get_nil]
  simp [extX4, extX3, extX2, extX, hO, e2, e3, e4]
theorem x9 (args : List AV) : cx.X 9 args = none := x_none 9 rfl rfl rfl rfl rfl rfl (by simp [exts, Tr.get_put, Tr.get_nil]) args
theorem x10 (args : List AV) : cx.X 10 args = none := x_none 10 rfl rfl rfl rfl rfl rfl (by simp [exts, Tr.get_put, Tr.get_nil]) args
theorem x11 (args : List AV) : cx.X 11 args = none := x_none 11 rfl rfl rfl rfl rfl rfl (by simp [exts, Tr.get_put, Tr.get_nil]) args
theorem x12 (args : List AV) : cx.X 12 args = none := x_none 12 rfl rfl rfl rfl rfl rfl (by simp [exts, Tr.get_put, Tr.get_nil]) args
theorem x46 (args : List AV) : cx.X 46 args = none := x_none 46 rfl rfl rfl rfl rfl rfl (by simp [exts, Tr.get_put, Tr.get_nil]) args
theorem x103 (args : List AV) : cx.X 103 args = none := x_none 103 rfl rfl rfl rfl rfl rfl (by simp [exts, Tr.get_put, Tr.get_nil]) args
theorem x156 (args : List AV) : cx.X 156 args = none := x_none 156 rfl rfl rfl rfl rfl rfl (by simp [exts, Tr.get_put, Tr.get_nil]) args
def B (l : List UInt8) : ByteArray := ⟨l.toArray⟩
def strA (l : List UInt8) : AV := .lit (.string (B l))
theorem B_size (l : List UInt8) : (B l).size = l.length := by simp [B, ByteArray.size]
theorem B_append (l m : List UInt8) : B l ++ B m = B (l ++ m) := by
  apply ByteArray.ext
  simp [B, ByteArray.data_append]
theorem str_add (x y : Operand) (l m : List UInt8) (h : l.length + m.length ≤ 1000000000) : binOpA cx.P cx.T .add 9 x y (strA l) (strA m) = some (strA (l ++ m)) := by
  have e : plain2 cx.P (fun p q => do eqGuard .add 9 x y p q; binOp .add 9 p q) (strA l) (strA m) = (pureRun cx.P (Op.stringOp .add (B l) (B m))).map abs := rfl
  unfold binOpA
  rw [e]
  simp only [Op.stringOp, B_size]
  rw [if_neg (by
    have e : IntKind.i64.max = 9223372036854775807 := by decide
    rw [e]; omega)]
  rw [B_append]
  rfl
def none_ : List UInt8 := [91, 94, 92, 120, 48, 48, 45, 92, 120, 102, 102, 93]
def zset : AV := .agg [.lit (.int .u64 0), .lit (.int .u64 0), .lit (.int .u64 0), .lit (.int .u64 0)]
theorem x102 : cx.X 102 [zset] = some (strA none_) := by
  have h : cx.X 102 [zset] = (cat102 cat102_xs).map abs := by kernel_rfl
  rw [h]
  unfold cat102
  rw [if_pos rfl]
  rfl
def node0 : List AV := [.lit (.int .i64 1), .lit (.int .u64 0), .lit (.int .u64 0), .lit (.int .u64 0), .lit (.int .u64 0), .lit (.bool false), np, np]
def starC (p : AV) : List AV := [.lit (.int .i64 4), .lit (.int .u64 0), .lit (.int .u64 0), .lit (.int .u64 0), .lit (.int .u64 0), .lit (.bool false), p, np]
theorem bld0 : buildOp cx.T 32 [(0, .lit (.int .i64 1))] = some (.agg node0) := by kernel_rfl
theorem bldS (b : Nat) : buildOp cx.T 32 [(0, .lit (.int .i64 4)), (3, .ptr b 0)] = some (.agg (starC (.ptr b 0))) := by kernel_rfl
def Nodes (H : Heap) (i : Nat) : Prop := H.get 0 = some (.cells node0 32 false) ∧ ∀ j, j < i → H.get (j + 1) = some (.cells (starC (.ptr j 0)) 32 false)
theorem Nodes.fr {H H' : Heap} {i pw : Nat} (h : Nodes H i) (hf : ∀ c, c ≤ i → H'.get c = H.get c) : Nodes H' i :=
  ⟨by rw [hf 0 (by omega)]; exact h.1, fun j hj => by rw [hf (j + 1) (by omega)]; exact h.2 j hj⟩
theorem Nodes.le {H : Heap} {i : Nat} (h : Nodes H (i + 1)) : Nodes H i := ⟨h.1, fun j hj => h.2 j (by omega)⟩
def Wc (d m : Nat) : AObj := .cells [.lit (.int .i64 d), .lit (.int .i64 m)] 89 false
theorem nc_ptr (p o : Nat) : nilCheckOp (.ptr p o) = some (.ptr p o) := rfl
theorem fa32_0 (p : Nat) : fieldAddrOp cx.T 32 (.ptr p 0) 0 = some (.ptr p 0) := by kernel_rfl
theorem fa32_1 (p : Nat) : fieldAddrOp cx.T 32 (.ptr p 0) 1 = some (.ptr p 1) := by kernel_rfl
theorem fa32_2 (p : Nat) : fieldAddrOp cx.T 32 (.ptr p 0) 2 = some (.ptr p 5) := by kernel_rfl
theorem fa32_3 (p : Nat) : fieldAddrOp cx.T 32 (.ptr p 0) 3 = some (.ptr p 6) := by kernel_rfl
theorem fa89_0 (p : Nat) : fieldAddrOp cx.T 89 (.ptr p 0) 0 = some (.ptr p 0) := by kernel_rfl
theorem fa89_1 (p : Nat) : fieldAddrOp cx.T 89 (.ptr p 0) 1 = some (.ptr p 1) := by kernel_rfl
theorem T3 : cx.T.get 3 = some ti3 := by kernel_rfl
theorem T4 : cx.T.get 4 = some ti4 := by kernel_rfl
theorem T22 : cx.T.get 22 = some ti22 := by kernel_rfl
theorem T30 : cx.T.get 30 = some ti30 := by kernel_rfl
theorem load_at {T : Tr TInfo} {H : Heap} {t : TypeId} {i : TInfo} (hT : T.get t = some i) (ha : i.agg = false) {b o : Nat} {cs : List AV} {t' : TypeId} {ro : Bool} {v : AV} (hb : H.get b = some (.cells cs t' ro)) (hc : cs[o]? = some v) :
    loadOp T H t (.ptr b o) = some v := by
  unfold loadOp
  simp only [hT, hb, ha]
  have : o < cs.length := (List.getElem?_eq_some_iff.1 hc).1
  rw [if_neg (by simp)]
  simp only [cut]
  rw [if_pos (by omega)]
  simp [hc]
variable {H : Heap} {nx : Nat}
theorem ld_kind0 (h : Nodes H 0) : loadOp cx.T H 3 (.ptr 0 0) = some (.lit (.int .i64 1)) := load_at T3 rfl h.1 rfl
theorem ld_set0 (h : Nodes H 0) : loadOp cx.T H 30 (.ptr 0 1) = some zset := by
  unfold loadOp
  simp only [T30, h.1]
  kernel_rfl
theorem ld_kindS {i : Nat} (h : Nodes H (i + 1)) : loadOp cx.T H 3 (.ptr (i + 1) 0) = some (.lit (.int .i64 4)) := load_at T3 rfl (h.2 i (by omega)) rfl
theorem ld_aS {i : Nat} (h : Nodes H (i + 1)) : loadOp cx.T H 22 (.ptr (i + 1) 6) = some (.ptr i 0) := load_at T22 rfl (h.2 i (by omega)) rfl
theorem ld_lazyS {i : Nat} (h : Nodes H (i + 1)) : loadOp cx.T H 4 (.ptr (i + 1) 5) = some (.lit (.bool false)) := load_at T4 rfl (h.2 i (by omega)) rfl
theorem ld_deep {pw d m : Nat} (h : H.get pw = some (Wc d m)) : loadOp cx.T H 3 (.ptr pw 0) = some (.lit (.int .i64 d)) := load_at T3 rfl h rfl
theorem ld_most {pw d m : Nat} (h : H.get pw = some (Wc d m)) : loadOp cx.T H 3 (.ptr pw 1) = some (.lit (.int .i64 m)) := load_at T3 rfl h rfl
theorem st_deep {pw d m : Nat} (h : H.get pw = some (Wc d m)) (k : Nat) : storeOp cx.T H 3 (.ptr pw 0) (.lit (.int .i64 (k : Nat))) = some (H.put pw (some (Wc k m))) := by
  unfold storeOp
  unfold Wc at h
  simp only [T3, ti3, h]
  rfl
theorem st_most {pw d m : Nat} (h : H.get pw = some (Wc d m)) (k : Nat) : storeOp cx.T H 3 (.ptr pw 1) (.lit (.int .i64 (k : Nat))) = some (H.put pw (some (Wc d k))) := by
  unfold storeOp
  unfold Wc at h
  simp only [T3, ti3, h]
  rfl
def kinds : List AV := [.lit (.int .i64 0), .lit (.int .i64 2), .lit (.int .i64 3), .lit (.int .i64 4)]
theorem bs4 : buildSliceOp cx.T H nx 40 4 [(0, .lit (.int .i64 0)), (1, .lit (.int .i64 2)), (2, .lit (.int .i64 3)), (3, .lit (.int .i64 4))] = some (.slice nx 0 4 (some 4) 1, H.put nx (some (.cells kinds 3 false)), nx + 1) := by kernel_rfl
theorem ln40 (b : Nat) : lenOp cx.T H 40 (.slice b 0 4 (some 4) 1) = some 4 := by kernel_rfl
theorem wrapS {i : Nat} (h : i < 9223372036854775807) : IntKind.i64.wrap ((i : Int) + 1) = ((i + 1 : Nat) : Int) := by
  rw [wrapI]; · rfl
  constructor <;> omega
/-- What write answers. -/
def WOK (pw i : Nat) : Prop := ∀ (d m : Nat) (H : Heap) (nx : Nat), Nodes H i → H.get pw = some (Wc d m) → i < pw → pw < nx → d ≤ m → d + i ≤ 300 → m ≤ 300 →
  ∃ (str : List UInt8) (H' : Heap) (nx' : Nat), Cl cx 46 [.ptr pw 0, .ptr i 0] H nx = some (strA str, H', nx') ∧ H'.get pw = some (Wc d (max m (d + i - 1))) ∧ (∀ c, c < nx → c ≠ pw → H'.get c = H.get c) ∧ nx ≤ nx' ∧ str.length ≤ 20 + 5 * i
theorem write0 (pw : Nat) : WOK pw 0 := by
  intro d m H nx hN hW h1 h2 h3 h4 h5
  refine ⟨none_, H, nx, ?_, by rw [hW]; congr 2; omega, fun _ _ _ => rfl, Nat.le_refl _, by decide⟩
  refine wp46 _ _ _ _ (by simp) ?_
  unfold s46
  simp only [↓wpS_skip, ↓wpS_ops, ↓wpS_seq, ↓wpS_cond, ↓wpS_block, ↓wpS_loop, ↓wpS_exit, ↓wpS_ret, condW_bool, ↓WOps_go, ↓WOps_skip, WOps_nil, stepA, opA, convA, isCall, put?, ev, Tr.get_put, Tr.get_nil, builtinA, callA, argEnv, wantedS, abs_int, abs_bool, abs_string, abs_nilp, abs_nili, abs_nilf, abs_nilm, abs_nils, un_not, undef, z_none, List.zipIdx_cons, List.zipIdx_nil, List.foldl_cons, List.foldl_nil, List.map_cons, List.map_nil, List.map_toArray, List.nil_append, List.cons_append, List.append_nil, extractOp, List.getElem?_cons_zero, List.getElem?_cons_succ,
    Option.map_some, Option.map_none, Nat.reduceLT, Nat.reduceEqDiff, Nat.reduceAdd, Nat.zero_add, if_true, if_false, Option.getD_some, Option.getD_none, ↓reduceIte, Bool.false_eq_true, Bool.true_eq_false, reduceCtorEq, resA, resOf, Option.some.injEq, exists_eq_left', beq_self_eq_true, decide_true, decide_false, decide_eq_true_eq, ne_eq, not_true_eq_false, not_false_eq_true, Bool.not_eq_true, beq_iff_eq, bin_add, bin_sub, bin_mul, bin_eql, bin_neq, bin_lss, bin_leq, bin_gtr, bin_geq, maxA, minA, Prod.mk.injEq, and_true, true_and, beq_eq_false_iff_ne, decide_eq_false_iff_not, Bool.true_beq, Bool.false_beq, beq_true, beq_false, Bool.not_true, Bool.not_false, List.getElem?_toArray, nc_ptr, fa32_0, fa32_1, ld_kind0 hN, ld_set0 hN, x102]
theorem group_cl {pw i : Nat} (hw : WOK pw i) {d m : Nat} (hN : Nodes H i) (hW : H.get pw = some (Wc d m)) (h1 : i < pw) (h2 : pw < nx) (h3 : d ≤ m) (h4 : d + 1 + i ≤ 300) (h5 : m ≤ 300) :
    ∃ (str : List UInt8) (H' : Heap) (nx' : Nat), Cl cx 156 [.ptr pw 0, .ptr i 0] H nx = some (strA str, H', nx') ∧ H'.get pw = some (Wc d (max (max m (d + 1)) (d + 1 + i - 1))) ∧ (∀ c, c < nx → c ≠ pw → H'.get c = H.get c) ∧ nx ≤ nx' ∧ str.length ≤ 24 + 5 * i := by
  have g1 : (H.put pw (some (Wc (d + 1) m))).get pw = some (Wc (d + 1) m) := Tr.get_put_same _ _ _
  have g2 : ((H.put pw (some (Wc (d + 1) m))).put pw (some (Wc (d + 1) (max m (d + 1))))).get pw = some (Wc (d + 1) (max m (d + 1))) := Tr.get_put_same _ _ _
  have hfr : ∀ c, c ≠ pw → ((H.put pw (some (Wc (d + 1) m))).put pw (some (Wc (d + 1) (max m (d + 1))))).get c = H.get c := fun c hc => by
    rw [Tr.get_put_ne _ _ _ _ hc, Tr.get_put_ne _ _ _ _ hc]
  obtain ⟨str, H3, nx3, c1, c2, c3, c4, c5⟩ := hw (d + 1) (max m (d + 1)) _ nx (Nodes.fr (pw := pw) hN (fun c hc => hfr c (by omega))) g2 h1 h2 (by omega) (by omega) (by omega)
  have hmx : max (m : Int) ((d + 1 : Nat) : Int) = ((max m (d + 1) : Nat) : Int) := by omega
  have ha1 := str_add (.const (.string (ByteArray.mk #[40, 63, 58]))) (.tmp 27) [40, 63, 58] str (by simp only [List.length_cons, List.length_nil]; omega)
  have ha2 := str_add (.tmp 28) (.const (.string (ByteArray.mk #[41]))) ([40, 63, 58] ++ str) [41] (by simp only [List.length_append, List.length_cons, List.length_nil]; omega)
  have ha1' : binOpA cx.P cx.T .add 9 (.const (.string (ByteArray.mk #[40, 63, 58]))) (.tmp 27) (.lit (.string (ByteArray.mk #[40, 63, 58]))) (strA str) = some (strA ([40, 63, 58] ++ str)) := ha1
  have ha2' : binOpA cx.P cx.T .add 9 (.tmp 28) (.const (.string (ByteArray.mk #[41]))) (strA (40 :: 63 :: 58 :: str)) (.lit (.string (ByteArray.mk #[41]))) = some (strA (40 :: 63 :: 58 :: (str ++ [41]))) := ha2
  have hw1 := wrapS (i := d) (by omega)
  have hw2 : IntKind.i64.wrap (((d + 1 : Nat) : Int) - 1) = ((d : Nat) : Int) := by rw [wrapI (by constructor <;> omega)]; omega
  refine ⟨[40, 63, 58] ++ str ++ [41], H3.put pw (some (Wc d (max (max m (d + 1)) (d + 1 + i - 1)))), nx3, ?_, Tr.get_put_same _ _ _, fun c hc hne => ?_, c4, by simp only [List.length_append, List.length_cons, List.length_nil]; omega⟩
  · refine wp156 _ _ _ _ (by simp) ?_
    unfold s156
    simp only [↓wpS_skip, ↓wpS_ops, ↓wpS_seq, ↓wpS_cond, ↓wpS_block, ↓wpS_loop, ↓wpS_exit, ↓wpS_ret, condW_bool, ↓WOps_go, ↓WOps_skip, WOps_nil, stepA, opA, convA, isCall, put?, ev, Tr.get_put, Tr.get_nil, builtinA, callA, argEnv, wantedS, abs_int, abs_bool, abs_string, abs_nilp, abs_nili, abs_nilf, abs_nilm, abs_nils, un_not, undef, z_none, List.zipIdx_cons, List.zipIdx_nil, List.foldl_cons, List.foldl_nil, List.map_cons, List.map_nil, List.map_toArray, List.nil_append, List.cons_append, List.append_nil, extractOp, List.getElem?_cons_zero, List.getElem?_cons_succ,
    Option.map_some, Option.map_none, Nat.reduceLT, Nat.reduceEqDiff, Nat.reduceAdd, Nat.zero_add, if_true, if_false, Option.getD_some, Option.getD_none, ↓reduceIte, Bool.false_eq_true, Bool.true_eq_false, reduceCtorEq, resA, resOf, Option.some.injEq, exists_eq_left', beq_self_eq_true, decide_true, decide_false, decide_eq_true_eq, ne_eq, not_true_eq_false, not_false_eq_true, Bool.not_eq_true, beq_iff_eq, bin_add, bin_sub, bin_mul, bin_eql, bin_neq, bin_lss, bin_leq, bin_gtr, bin_geq, maxA, minA, Prod.mk.injEq, and_true, true_and, beq_eq_false_iff_ne, decide_eq_false_iff_not, Bool.true_beq, Bool.false_beq, beq_true, beq_false, Bool.not_true, Bool.not_false, List.getElem?_toArray, nc_ptr, fa89_0, ld_deep hW, hw1, st_deep hW]
    refine s156_d0_wq ?_
    unfold s156_d0s
    simp only [↓wpS_skip, ↓wpS_ops, ↓wpS_seq, ↓wpS_cond, ↓wpS_block, ↓wpS_loop, ↓wpS_exit, ↓wpS_ret, condW_bool, ↓WOps_go, ↓WOps_skip, WOps_nil, stepA, opA, convA, isCall, put?, ev, Tr.get_put, Tr.get_nil, builtinA, callA, argEnv, wantedS, abs_int, abs_bool, abs_string, abs_nilp, abs_nili, abs_nilf, abs_nilm, abs_nils, un_not, undef, z_none, List.zipIdx_cons, List.zipIdx_nil, List.foldl_cons, List.foldl_nil, List.map_cons, List.map_nil, List.map_toArray, List.nil_append, List.cons_append, List.append_nil, extractOp, List.getElem?_cons_zero, List.getElem?_cons_succ,
    Option.map_some, Option.map_none, Nat.reduceLT, Nat.reduceEqDiff, Nat.reduceAdd, Nat.zero_add, if_true, if_false, Option.getD_some, Option.getD_none, ↓reduceIte, Bool.false_eq_true, Bool.true_eq_false, reduceCtorEq, resA, resOf, Option.some.injEq, exists_eq_left', beq_self_eq_true, decide_true, decide_false, decide_eq_true_eq, ne_eq, not_true_eq_false, not_false_eq_true, Bool.not_eq_true, beq_iff_eq, bin_add, bin_sub, bin_mul, bin_eql, bin_neq, bin_lss, bin_leq, bin_gtr, bin_geq, maxA, minA, Prod.mk.injEq, and_true, true_and, beq_eq_false_iff_ne, decide_eq_false_iff_not, Bool.true_beq, Bool.false_beq, beq_true, beq_false, Bool.not_true, Bool.not_false, List.getElem?_toArray, ↓WQ_cons, ↓WQ_nil, txS, ph0_still, ph0_skip, ph0_new, ph0_read, ph0_eff, ph1_still, ph1_skip, ph1_read, ph1_eff, ph2_still, ph2_skip, loadOp_ro, loadOp_nil, isEff, eqB_int, eqB_str, eqB_bool, eqB_ptr, eqB_slice, eqB_nils, AV.belowB, Nat.le_refl, nx_succ, nc_ptr, fa89_0, fa89_1, ld_deep g1, ld_most g1, hmx, st_most g1, x46, c1, ha1', ha2', ld_deep c2, hw2, st_deep c2]
  · rw [Tr.get_put_ne _ _ _ _ hne, c3 c hc hne, hfr c hne]
theorem T40 : cx.T.get 40 = some ti40 := by kernel_rfl
theorem ix40 {b i : Nat} (h : i < 4) : indexAddrOp cx.T 40 (.slice b 0 4 (some 4) 1) (.lit (.int .i64 i)) = some (.ptr b i) := by
  unfold indexAddrOp
  simp only [T40, ti40, T3, ti3]
  rw [if_pos ⟨by omega, by omega, trivial⟩]
  simp
def kn : Nat → Int
  | 0 => 0
  | 1 => 2
  | 2 => 3
  | _ => 4
theorem ld_kn {b j : Nat} (hb : H.get b = some (.cells kinds 3 false)) (hj : j < 4) : loadOp cx.T H 3 (.ptr b j) = some (.lit (.int .i64 (kn j))) := by
  refine load_at T3 rfl hb ?_
  match j, hj with
  | 0, _ => rfl
  | 1, _ => rfl
  | 2, _ => rfl
  | 3, _ => rfl
theorem part_loop {pw i b : Nat} {QQ : Ex → St → Prop} {E : Tr AV} (kd : Int) (hk : loadOp cx.T H 3 (.ptr i 0) = some (.lit (.int .i64 kd))) (hb : H.get b = some (.cells kinds 3 false))
    (e0 : E.get 0 = some (.ptr pw 0)) (e1 : E.get 1 = some (.ptr i 0)) (e9 : E.get 9 = some (.slice b 0 4 (some 4) 1)) (e10 : E.get 10 = some (.lit (.int .i64 ((4 : Nat) : Int)))) (e11 : E.get 11 = some (.lit (.int .i64 ((0 : Nat) : Int))))
    (hyes : kd = 4 → ∃ v H' nx', Cl cx 156 [.ptr pw 0, .ptr i 0] H nx = some (v, H', nx') ∧ ∀ E', E'.get 6 = some v → QQ .ret ⟨E', H', nx'⟩)
    (hno : kd = 1 → ∀ E', E'.get 0 = some (.ptr pw 0) → E'.get 1 = some (.ptr i 0) → QQ (.exit 0) ⟨E', H, nx⟩) (hkd : kd = 1 ∨ kd = 4) : Wp cx 28 (.loop s103_l0) ⟨E, H, nx⟩ QQ := by
  refine Wp_loop (fun n st => ∃ j : Nat, n = 4 - j ∧ j ≤ 4 ∧ (kd = 4 → j ≤ 3) ∧ st.H = H ∧ st.nx = nx ∧ st.env.get 0 = some (.ptr pw 0) ∧ st.env.get 1 = some (.ptr i 0) ∧ st.env.get 9 = some (.slice b 0 4 (some 4) 1) ∧ st.env.get 10 = some (.lit (.int .i64 ((4 : Nat) : Int))) ∧ st.env.get 11 = some (.lit (.int .i64 j))) ?_ 4 _
    ⟨0, by omega, by omega, fun _ => by omega, rfl, rfl, e0, e1, e9, e10, e11⟩
  rintro n ⟨E, H1, nx1⟩ ⟨j, hn, hj, hj4, q1, q2, e0, e1, e9, e10, e11⟩
  simp only at q1 q2 e0 e1 e9 e10 e11; subst q1; subst q2
  refine Wp_of ?_
  unfold s103_l0
  by_cases hlt : j < 4
  · have hm : 4 - (j + 1) < n := by omega
    have h1 : ((j : Int) < ((4 : Nat) : Int)) = True := by simp; omega
    have hld := ld_kn hb hlt
    have hix := ix40 (b := b) hlt
    by_cases he : kd = kn j
    · have h2 : (kd = kn j) = True := by simp [he]
      have hkd4 : kd = 4 := by
        rcases hkd with h | h
        · exfalso
          rw [h] at he
          match j, hlt with
          | 0, _ => simp [kn] at he
          | 1, _ => simp [kn] at he
          | 2, _ => simp [kn] at he
          | 3, _ => simp [kn] at he
        · exact h
      obtain ⟨v, H', nx', c1, c2⟩ := hyes hkd4
      simp only [↓wpS_skip, ↓wpS_ops, ↓wpS_seq, ↓wpS_cond, ↓wpS_block, ↓wpS_loop, ↓wpS_exit, ↓wpS_ret, condW_bool, ↓WOps_go, ↓WOps_skip, WOps_nil, stepA, opA, convA, isCall, put?, ev, Tr.get_put, Tr.get_nil, builtinA, callA, argEnv, wantedS, abs_int, abs_bool, abs_string, abs_nilp, abs_nili, abs_nilf, abs_nilm, abs_nils, un_not, undef, z_none, List.zipIdx_cons, List.zipIdx_nil, List.foldl_cons, List.foldl_nil, List.map_cons, List.map_nil, List.map_toArray, List.nil_append, List.cons_append, List.append_nil, extractOp, List.getElem?_cons_zero, List.getElem?_cons_succ,
    Option.map_some, Option.map_none, Nat.reduceLT, Nat.reduceEqDiff, Nat.reduceAdd, Nat.zero_add, if_true, if_false, Option.getD_some, Option.getD_none, ↓reduceIte, Bool.false_eq_true, Bool.true_eq_false, reduceCtorEq, resA, resOf, Option.some.injEq, exists_eq_left', beq_self_eq_true, decide_true, decide_false, decide_eq_true_eq, ne_eq, not_true_eq_false, not_false_eq_true, Bool.not_eq_true, beq_iff_eq, bin_add, bin_sub, bin_mul, bin_eql, bin_neq, bin_lss, bin_leq, bin_gtr, bin_geq, maxA, minA, Prod.mk.injEq, and_true, true_and, beq_eq_false_iff_ne, decide_eq_false_iff_not, Bool.true_beq, Bool.false_beq, beq_true, beq_false, Bool.not_true, Bool.not_false, List.getElem?_toArray, e0, e1, e9, e10, e11, h1, hix, hld, nc_ptr, fa32_0, hk, h2, x156, c1]
      refine c2 _ ?_
      simp only [↓wpS_skip, ↓wpS_ops, ↓wpS_seq, ↓wpS_cond, ↓wpS_block, ↓wpS_loop, ↓wpS_exit, ↓wpS_ret, condW_bool, ↓WOps_go, ↓WOps_skip, WOps_nil, stepA, opA, convA, isCall, put?, ev, Tr.get_put, Tr.get_nil, builtinA, callA, argEnv, wantedS, abs_int, abs_bool, abs_string, abs_nilp, abs_nili, abs_nilf, abs_nilm, abs_nils, un_not, undef, z_none, List.zipIdx_cons, List.zipIdx_nil, List.foldl_cons, List.foldl_nil, List.map_cons, List.map_nil, List.map_toArray, List.nil_append, List.cons_append, List.append_nil, extractOp, List.getElem?_cons_zero, List.getElem?_cons_succ,
    Option.map_some, Option.map_none, Nat.reduceLT, Nat.reduceEqDiff, Nat.reduceAdd, Nat.zero_add, if_true, if_false, Option.getD_some, Option.getD_none, ↓reduceIte, Bool.false_eq_true, Bool.true_eq_false, reduceCtorEq, resA, resOf, Option.some.injEq, exists_eq_left', beq_self_eq_true, decide_true, decide_false, decide_eq_true_eq, ne_eq, not_true_eq_false, not_false_eq_true, Bool.not_eq_true, beq_iff_eq, bin_add, bin_sub, bin_mul, bin_eql, bin_neq, bin_lss, bin_leq, bin_gtr, bin_geq, maxA, minA, Prod.mk.injEq, and_true, true_and, beq_eq_false_iff_ne, decide_eq_false_iff_not, Bool.true_beq, Bool.false_beq, beq_true, beq_false, Bool.not_true, Bool.not_false, List.getElem?_toArray]
    · have h2 : (kd = kn j) = False := by simp [he]
      have hj' : kd = 4 → j + 1 ≤ 3 := by
        intro h
        match j, hlt with
        | 0, _ => omega
        | 1, _ => omega
        | 2, _ => omega
        | 3, _ => exact absurd h he
      have hw := wrapS (i := j) (by omega)
      simp only [↓wpS_skip, ↓wpS_ops, ↓wpS_seq, ↓wpS_cond, ↓wpS_block, ↓wpS_loop, ↓wpS_exit, ↓wpS_ret, condW_bool, ↓WOps_go, ↓WOps_skip, WOps_nil, stepA, opA, convA, isCall, put?, ev, Tr.get_put, Tr.get_nil, builtinA, callA, argEnv, wantedS, abs_int, abs_bool, abs_string, abs_nilp, abs_nili, abs_nilf, abs_nilm, abs_nils, un_not, undef, z_none, List.zipIdx_cons, List.zipIdx_nil, List.foldl_cons, List.foldl_nil, List.map_cons, List.map_nil, List.map_toArray, List.nil_append, List.cons_append, List.append_nil, extractOp, List.getElem?_cons_zero, List.getElem?_cons_succ,
    Option.map_some, Option.map_none, Nat.reduceLT, Nat.reduceEqDiff, Nat.reduceAdd, Nat.zero_add, if_true, if_false, Option.getD_some, Option.getD_none, ↓reduceIte, Bool.false_eq_true, Bool.true_eq_false, reduceCtorEq, resA, resOf, Option.some.injEq, exists_eq_left', beq_self_eq_true, decide_true, decide_false, decide_eq_true_eq, ne_eq, not_true_eq_false, not_false_eq_true, Bool.not_eq_true, beq_iff_eq, bin_add, bin_sub, bin_mul, bin_eql, bin_neq, bin_lss, bin_leq, bin_gtr, bin_geq, maxA, minA, Prod.mk.injEq, and_true, true_and, beq_eq_false_iff_ne, decide_eq_false_iff_not, Bool.true_beq, Bool.false_beq, beq_true, beq_false, Bool.not_true, Bool.not_false, List.getElem?_toArray, e0, e1, e9, e10, e11, h1, hix, hld, nc_ptr, fa32_0, hk, h2, hw]
      exact ⟨4 - (j + 1), hm, j + 1, rfl, hlt, hj', rfl⟩
  · obtain rfl : j = 4 := by omega
    have h1 : (((4 : Nat) : Int) < ((4 : Nat) : Int)) = False := by simp
    have hkd1 : kd = 1 := by
      rcases hkd with h | h
      · exact h
      · have := hj4 h; omega
    simp only [↓wpS_skip, ↓wpS_ops, ↓wpS_seq, ↓wpS_cond, ↓wpS_block, ↓wpS_loop, ↓wpS_exit, ↓wpS_ret, condW_bool, ↓WOps_go, ↓WOps_skip, WOps_nil, stepA, opA, convA, isCall, put?, ev, Tr.get_put, Tr.get_nil, builtinA, callA, argEnv, wantedS, abs_int, abs_bool, abs_string, abs_nilp, abs_nili, abs_nilf, abs_nilm, abs_nils, un_not, undef, z_none, List.zipIdx_cons, List.zipIdx_nil, List.foldl_cons, List.foldl_nil, List.map_cons, List.map_nil, List.map_toArray, List.nil_append, List.cons_append, List.append_nil, extractOp, List.getElem?_cons_zero, List.getElem?_cons_succ,
    Option.map_some, Option.map_none, Nat.reduceLT, Nat.reduceEqDiff, Nat.reduceAdd, Nat.zero_add, if_true, if_false, Option.getD_some, Option.getD_none, ↓reduceIte, Bool.false_eq_true, Bool.true_eq_false, reduceCtorEq, resA, resOf, Option.some.injEq, exists_eq_left', beq_self_eq_true, decide_true, decide_false, decide_eq_true_eq, ne_eq, not_true_eq_false, not_false_eq_true, Bool.not_eq_true, beq_iff_eq, bin_add, bin_sub, bin_mul, bin_eql, bin_neq, bin_lss, bin_leq, bin_gtr, bin_geq, maxA, minA, Prod.mk.injEq, and_true, true_and, beq_eq_false_iff_ne, decide_eq_false_iff_not, Bool.true_beq, Bool.false_beq, beq_true, beq_false, Bool.not_true, Bool.not_false, List.getElem?_toArray, e0, e1, e9, e10, e11, h1]
    refine hno hkd1 _ ?_ ?_
    · simp only [↓wpS_skip, ↓wpS_ops, ↓wpS_seq, ↓wpS_cond, ↓wpS_block, ↓wpS_loop, ↓wpS_exit, ↓wpS_ret, condW_bool, ↓WOps_go, ↓WOps_skip, WOps_nil, stepA, opA, convA, isCall, put?, ev, Tr.get_put, Tr.get_nil, builtinA, callA, argEnv, wantedS, abs_int, abs_bool, abs_string, abs_nilp, abs_nili, abs_nilf, abs_nilm, abs_nils, un_not, undef, z_none, List.zipIdx_cons, List.zipIdx_nil, List.foldl_cons, List.foldl_nil, List.map_cons, List.map_nil, List.map_toArray, List.nil_append, List.cons_append, List.append_nil, extractOp, List.getElem?_cons_zero, List.getElem?_cons_succ,
    Option.map_some, Option.map_none, Nat.reduceLT, Nat.reduceEqDiff, Nat.reduceAdd, Nat.zero_add, if_true, if_false, Option.getD_some, Option.getD_none, ↓reduceIte, Bool.false_eq_true, Bool.true_eq_false, reduceCtorEq, resA, resOf, Option.some.injEq, exists_eq_left', beq_self_eq_true, decide_true, decide_false, decide_eq_true_eq, ne_eq, not_true_eq_false, not_false_eq_true, Bool.not_eq_true, beq_iff_eq, bin_add, bin_sub, bin_mul, bin_eql, bin_neq, bin_lss, bin_leq, bin_gtr, bin_geq, maxA, minA, Prod.mk.injEq, and_true, true_and, beq_eq_false_iff_ne, decide_eq_false_iff_not, Bool.true_beq, Bool.false_beq, beq_true, beq_false, Bool.not_true, Bool.not_false, List.getElem?_toArray, e0]
    · simp only [↓wpS_skip, ↓wpS_ops, ↓wpS_seq, ↓wpS_cond, ↓wpS_block, ↓wpS_loop, ↓wpS_exit, ↓wpS_ret, condW_bool, ↓WOps_go, ↓WOps_skip, WOps_nil, stepA, opA, convA, isCall, put?, ev, Tr.get_put, Tr.get_nil, builtinA, callA, argEnv, wantedS, abs_int, abs_bool, abs_string, abs_nilp, abs_nili, abs_nilf, abs_nilm, abs_nils, un_not, undef, z_none, List.zipIdx_cons, List.zipIdx_nil, List.foldl_cons, List.foldl_nil, List.map_cons, List.map_nil, List.map_toArray, List.nil_append, List.cons_append, List.append_nil, extractOp, List.getElem?_cons_zero, List.getElem?_cons_succ,
    Option.map_some, Option.map_none, Nat.reduceLT, Nat.reduceEqDiff, Nat.reduceAdd, Nat.zero_add, if_true, if_false, Option.getD_some, Option.getD_none, ↓reduceIte, Bool.false_eq_true, Bool.true_eq_false, reduceCtorEq, resA, resOf, Option.some.injEq, exists_eq_left', beq_self_eq_true, decide_true, decide_false, decide_eq_true_eq, ne_eq, not_true_eq_false, not_false_eq_true, Bool.not_eq_true, beq_iff_eq, bin_add, bin_sub, bin_mul, bin_eql, bin_neq, bin_lss, bin_leq, bin_gtr, bin_geq, maxA, minA, Prod.mk.injEq, and_true, true_and, beq_eq_false_iff_ne, decide_eq_false_iff_not, Bool.true_beq, Bool.false_beq, beq_true, beq_false, Bool.not_true, Bool.not_false, List.getElem?_toArray, e1]
theorem part_cl {pw i : Nat} (hw : WOK pw i) {d m b : Nat} (hN : Nodes H i) (hW : H.get pw = some (Wc d m)) (hb : H.get b = some (.cells kinds 3 false)) (h1 : i < pw) (h2 : pw < nx) (h3 : d ≤ m) (h4 : d + 1 + i ≤ 300) (h5 : m ≤ 300) :
    ∃ (v : AV) (H' : Heap) (nx' : Nat), Cl cx 103 [.ptr pw 0, .ptr i 0, .slice b 0 4 (some 4) 1] H nx = some (v, H', nx') ∧ ∃ str : List UInt8, v = strA str ∧ H'.get pw = some (Wc d (max m (d + (i + 1) - 1))) ∧ (∀ c, c < nx → c ≠ pw → H'.get c = H.get c) ∧ nx ≤ nx' ∧ str.length ≤ 24 + 5 * i := by
  refine wpP103 _ _ _ _ (by simp) ?_
  unfold s103
  simp only [↓wpS_skip, ↓wpS_ops, ↓wpS_seq, ↓wpS_cond, ↓wpS_block, ↓wpS_loop, ↓wpS_exit, ↓wpS_ret, condW_bool, ↓WOps_go, ↓WOps_skip, WOps_nil, stepA, opA, convA, isCall, put?, ev, Tr.get_put, Tr.get_nil, builtinA, callA, argEnv, wantedS, abs_int, abs_bool, abs_string, abs_nilp, abs_nili, abs_nilf, abs_nilm, abs_nils, un_not, undef, z_none, List.zipIdx_cons, List.zipIdx_nil, List.foldl_cons, List.foldl_nil, List.map_cons, List.map_nil, List.map_toArray, List.nil_append, List.cons_append, List.append_nil, extractOp, List.getElem?_cons_zero, List.getElem?_cons_succ,
    Option.map_some, Option.map_none, Nat.reduceLT, Nat.reduceEqDiff, Nat.reduceAdd, Nat.zero_add, if_true, if_false, Option.getD_some, Option.getD_none, ↓reduceIte, Bool.false_eq_true, Bool.true_eq_false, reduceCtorEq, resA, resOf, Option.some.injEq, exists_eq_left', beq_self_eq_true, decide_true, decide_false, decide_eq_true_eq, ne_eq, not_true_eq_false, not_false_eq_true, Bool.not_eq_true, beq_iff_eq, bin_add, bin_sub, bin_mul, bin_eql, bin_neq, bin_lss, bin_leq, bin_gtr, bin_geq, maxA, minA, Prod.mk.injEq, and_true, true_and, beq_eq_false_iff_ne, decide_eq_false_iff_not, Bool.true_beq, Bool.false_beq, beq_true, beq_false, Bool.not_true, Bool.not_false, List.getElem?_toArray, ln40]
  cases i with
  | zero =>
    obtain ⟨str, H', nx', c1, c2, c3, c4, c5⟩ := hw d m H nx hN hW h1 h2 h3 (by omega) (by omega)
    refine part_loop (pw := pw) (i := 0) (b := b) 1 (ld_kind0 hN) hb ?_ ?_ ?_ ?_ ?_ (fun h => absurd h (by decide)) (fun _ E' f0 f1 => ?_) (.inl rfl)
    · simp only [↓wpS_skip, ↓wpS_ops, ↓wpS_seq, ↓wpS_cond, ↓wpS_block, ↓wpS_loop, ↓wpS_exit, ↓wpS_ret, condW_bool, ↓WOps_go, ↓WOps_skip, WOps_nil, stepA, opA, convA, isCall, put?, ev, Tr.get_put, Tr.get_nil, builtinA, callA, argEnv, wantedS, abs_int, abs_bool, abs_string, abs_nilp, abs_nili, abs_nilf, abs_nilm, abs_nils, un_not, undef, z_none, List.zipIdx_cons, List.zipIdx_nil, List.foldl_cons, List.foldl_nil, List.map_cons, List.map_nil, List.map_toArray, List.nil_append, List.cons_append, List.append_nil, extractOp, List.getElem?_cons_zero, List.getElem?_cons_succ,
    Option.map_some, Option.map_none, Nat.reduceLT, Nat.reduceEqDiff, Nat.reduceAdd, Nat.zero_add, if_true, if_false, Option.getD_some, Option.getD_none, ↓reduceIte, Bool.false_eq_true, Bool.true_eq_false, reduceCtorEq, resA, resOf, Option.some.injEq, exists_eq_left', beq_self_eq_true, decide_true, decide_false, decide_eq_true_eq, ne_eq, not_true_eq_false, not_false_eq_true, Bool.not_eq_true, beq_iff_eq, bin_add, bin_sub, bin_mul, bin_eql, bin_neq, bin_lss, bin_leq, bin_gtr, bin_geq, maxA, minA, Prod.mk.injEq, and_true, true_and, beq_eq_false_iff_ne, decide_eq_false_iff_not, Bool.true_beq, Bool.false_beq, beq_true, beq_false, Bool.not_true, Bool.not_false, List.getElem?_toArray]
    · simp only [↓wpS_skip, ↓wpS_ops, ↓wpS_seq, ↓wpS_cond, ↓wpS_block, ↓wpS_loop, ↓wpS_exit, ↓wpS_ret, condW_bool, ↓WOps_go, ↓WOps_skip, WOps_nil, stepA, opA, convA, isCall, put?, ev, Tr.get_put, Tr.get_nil, builtinA, callA, argEnv, wantedS, abs_int, abs_bool, abs_string, abs_nilp, abs_nili, abs_nilf, abs_nilm, abs_nils, un_not, undef, z_none, List.zipIdx_cons, List.zipIdx_nil, List.foldl_cons, List.foldl_nil, List.map_cons, List.map_nil, List.map_toArray, List.nil_append, List.cons_append, List.append_nil, extractOp, List.getElem?_cons_zero, List.getElem?_cons_succ,
    Option.map_some, Option.map_none, Nat.reduceLT, Nat.reduceEqDiff, Nat.reduceAdd, Nat.zero_add, if_true, if_false, Option.getD_some, Option.getD_none, ↓reduceIte, Bool.false_eq_true, Bool.true_eq_false, reduceCtorEq, resA, resOf, Option.some.injEq, exists_eq_left', beq_self_eq_true, decide_true, decide_false, decide_eq_true_eq, ne_eq, not_true_eq_false, not_false_eq_true, Bool.not_eq_true, beq_iff_eq, bin_add, bin_sub, bin_mul, bin_eql, bin_neq, bin_lss, bin_leq, bin_gtr, bin_geq, maxA, minA, Prod.mk.injEq, and_true, true_and, beq_eq_false_iff_ne, decide_eq_false_iff_not, Bool.true_beq, Bool.false_beq, beq_true, beq_false, Bool.not_true, Bool.not_false, List.getElem?_toArray]
    · simp only [↓wpS_skip, ↓wpS_ops, ↓wpS_seq, ↓wpS_cond, ↓wpS_block, ↓wpS_loop, ↓wpS_exit, ↓wpS_ret, condW_bool, ↓WOps_go, ↓WOps_skip, WOps_nil, stepA, opA, convA, isCall, put?, ev, Tr.get_put, Tr.get_nil, builtinA, callA, argEnv, wantedS, abs_int, abs_bool, abs_string, abs_nilp, abs_nili, abs_nilf, abs_nilm, abs_nils, un_not, undef, z_none, List.zipIdx_cons, List.zipIdx_nil, List.foldl_cons, List.foldl_nil, List.map_cons, List.map_nil, List.map_toArray, List.nil_append, List.cons_append, List.append_nil, extractOp, List.getElem?_cons_zero, List.getElem?_cons_succ,
    Option.map_some, Option.map_none, Nat.reduceLT, Nat.reduceEqDiff, Nat.reduceAdd, Nat.zero_add, if_true, if_false, Option.getD_some, Option.getD_none, ↓reduceIte, Bool.false_eq_true, Bool.true_eq_false, reduceCtorEq, resA, resOf, Option.some.injEq, exists_eq_left', beq_self_eq_true, decide_true, decide_false, decide_eq_true_eq, ne_eq, not_true_eq_false, not_false_eq_true, Bool.not_eq_true, beq_iff_eq, bin_add, bin_sub, bin_mul, bin_eql, bin_neq, bin_lss, bin_leq, bin_gtr, bin_geq, maxA, minA, Prod.mk.injEq, and_true, true_and, beq_eq_false_iff_ne, decide_eq_false_iff_not, Bool.true_beq, Bool.false_beq, beq_true, beq_false, Bool.not_true, Bool.not_false, List.getElem?_toArray]
    · simp only [↓wpS_skip, ↓wpS_ops, ↓wpS_seq, ↓wpS_cond, ↓wpS_block, ↓wpS_loop, ↓wpS_exit, ↓wpS_ret, condW_bool, ↓WOps_go, ↓WOps_skip, WOps_nil, stepA, opA, convA, isCall, put?, ev, Tr.get_put, Tr.get_nil, builtinA, callA, argEnv, wantedS, abs_int, abs_bool, abs_string, abs_nilp, abs_nili, abs_nilf, abs_nilm, abs_nils, un_not, undef, z_none, List.zipIdx_cons, List.zipIdx_nil, List.foldl_cons, List.foldl_nil, List.map_cons, List.map_nil, List.map_toArray, List.nil_append, List.cons_append, List.append_nil, extractOp, List.getElem?_cons_zero, List.getElem?_cons_succ,
    Option.map_some, Option.map_none, Nat.reduceLT, Nat.reduceEqDiff, Nat.reduceAdd, Nat.zero_add, if_true, if_false, Option.getD_some, Option.getD_none, ↓reduceIte, Bool.false_eq_true, Bool.true_eq_false, reduceCtorEq, resA, resOf, Option.some.injEq, exists_eq_left', beq_self_eq_true, decide_true, decide_false, decide_eq_true_eq, ne_eq, not_true_eq_false, not_false_eq_true, Bool.not_eq_true, beq_iff_eq, bin_add, bin_sub, bin_mul, bin_eql, bin_neq, bin_lss, bin_leq, bin_gtr, bin_geq, maxA, minA, Prod.mk.injEq, and_true, true_and, beq_eq_false_iff_ne, decide_eq_false_iff_not, Bool.true_beq, Bool.false_beq, beq_true, beq_false, Bool.not_true, Bool.not_false, List.getElem?_toArray] <;> rfl
    · simp only [↓wpS_skip, ↓wpS_ops, ↓wpS_seq, ↓wpS_cond, ↓wpS_block, ↓wpS_loop, ↓wpS_exit, ↓wpS_ret, condW_bool, ↓WOps_go, ↓WOps_skip, WOps_nil, stepA, opA, convA, isCall, put?, ev, Tr.get_put, Tr.get_nil, builtinA, callA, argEnv, wantedS, abs_int, abs_bool, abs_string, abs_nilp, abs_nili, abs_nilf, abs_nilm, abs_nils, un_not, undef, z_none, List.zipIdx_cons, List.zipIdx_nil, List.foldl_cons, List.foldl_nil, List.map_cons, List.map_nil, List.map_toArray, List.nil_append, List.cons_append, List.append_nil, extractOp, List.getElem?_cons_zero, List.getElem?_cons_succ,
    Option.map_some, Option.map_none, Nat.reduceLT, Nat.reduceEqDiff, Nat.reduceAdd, Nat.zero_add, if_true, if_false, Option.getD_some, Option.getD_none, ↓reduceIte, Bool.false_eq_true, Bool.true_eq_false, reduceCtorEq, resA, resOf, Option.some.injEq, exists_eq_left', beq_self_eq_true, decide_true, decide_false, decide_eq_true_eq, ne_eq, not_true_eq_false, not_false_eq_true, Bool.not_eq_true, beq_iff_eq, bin_add, bin_sub, bin_mul, bin_eql, bin_neq, bin_lss, bin_leq, bin_gtr, bin_geq, maxA, minA, Prod.mk.injEq, and_true, true_and, beq_eq_false_iff_ne, decide_eq_false_iff_not, Bool.true_beq, Bool.false_beq, beq_true, beq_false, Bool.not_true, Bool.not_false, List.getElem?_toArray] <;> rfl
    · simp only [↓wpS_skip, ↓wpS_ops, ↓wpS_seq, ↓wpS_cond, ↓wpS_block, ↓wpS_loop, ↓wpS_exit, ↓wpS_ret, condW_bool, ↓WOps_go, ↓WOps_skip, WOps_nil, stepA, opA, convA, isCall, put?, ev, Tr.get_put, Tr.get_nil, builtinA, callA, argEnv, wantedS, abs_int, abs_bool, abs_string, abs_nilp, abs_nili, abs_nilf, abs_nilm, abs_nils, un_not, undef, z_none, List.zipIdx_cons, List.zipIdx_nil, List.foldl_cons, List.foldl_nil, List.map_cons, List.map_nil, List.map_toArray, List.nil_append, List.cons_append, List.append_nil, extractOp, List.getElem?_cons_zero, List.getElem?_cons_succ,
    Option.map_some, Option.map_none, Nat.reduceLT, Nat.reduceEqDiff, Nat.reduceAdd, Nat.zero_add, if_true, if_false, Option.getD_some, Option.getD_none, ↓reduceIte, Bool.false_eq_true, Bool.true_eq_false, reduceCtorEq, resA, resOf, Option.some.injEq, exists_eq_left', beq_self_eq_true, decide_true, decide_false, decide_eq_true_eq, ne_eq, not_true_eq_false, not_false_eq_true, Bool.not_eq_true, beq_iff_eq, bin_add, bin_sub, bin_mul, bin_eql, bin_neq, bin_lss, bin_leq, bin_gtr, bin_geq, maxA, minA, Prod.mk.injEq, and_true, true_and, beq_eq_false_iff_ne, decide_eq_false_iff_not, Bool.true_beq, Bool.false_beq, beq_true, beq_false, Bool.not_true, Bool.not_false, List.getElem?_toArray, f0, f1, x46, c1]
      refine ⟨str, rfl, ?_, c3, c4, by omega⟩
      rw [c2]; congr 2; omega
  | succ i =>
    obtain ⟨str, H', nx', c1, c2, c3, c4, c5⟩ := group_cl hw hN hW h1 h2 h3 h4 h5
    refine part_loop (pw := pw) (i := i + 1) (b := b) 4 (ld_kindS hN) hb ?_ ?_ ?_ ?_ ?_ (fun _ => ⟨_, _, _, c1, fun E' f6 => ?_⟩) (fun h => absurd h (by decide)) (.inr rfl)
    · simp only [↓wpS_skip, ↓wpS_ops, ↓wpS_seq, ↓wpS_cond, ↓wpS_block, ↓wpS_loop, ↓wpS_exit, ↓wpS_ret, condW_bool, ↓WOps_go, ↓WOps_skip, WOps_nil, stepA, opA, convA, isCall, put?, ev, Tr.get_put, Tr.get_nil, builtinA, callA, argEnv, wantedS, abs_int, abs_bool, abs_string, abs_nilp, abs_nili, abs_nilf, abs_nilm, abs_nils, un_not, undef, z_none, List.zipIdx_cons, List.zipIdx_nil, List.foldl_cons, List.foldl_nil, List.map_cons, List.map_nil, List.map_toArray, List.nil_append, List.cons_append, List.append_nil, extractOp, List.getElem?_cons_zero, List.getElem?_cons_succ,
    Option.map_some, Option.map_none, Nat.reduceLT, Nat.reduceEqDiff, Nat.reduceAdd, Nat.zero_add, if_true, if_false, Option.getD_some, Option.getD_none, ↓reduceIte, Bool.false_eq_true, Bool.true_eq_false, reduceCtorEq, resA, resOf, Option.some.injEq, exists_eq_left', beq_self_eq_true, decide_true, decide_false, decide_eq_true_eq, ne_eq, not_true_eq_false, not_false_eq_true, Bool.not_eq_true, beq_iff_eq, bin_add, bin_sub, bin_mul, bin_eql, bin_neq, bin_lss, bin_leq, bin_gtr, bin_geq, maxA, minA, Prod.mk.injEq, and_true, true_and, beq_eq_false_iff_ne, decide_eq_false_iff_not, Bool.true_beq, Bool.false_beq, beq_true, beq_false, Bool.not_true, Bool.not_false, List.getElem?_toArray]
    · simp only [↓wpS_skip, ↓wpS_ops, ↓wpS_seq, ↓wpS_cond, ↓wpS_block, ↓wpS_loop, ↓wpS_exit, ↓wpS_ret, condW_bool, ↓WOps_go, ↓WOps_skip, WOps_nil, stepA, opA, convA, isCall, put?, ev, Tr.get_put, Tr.get_nil, builtinA, callA, argEnv, wantedS, abs_int, abs_bool, abs_string, abs_nilp, abs_nili, abs_nilf, abs_nilm, abs_nils, un_not, undef, z_none, List.zipIdx_cons, List.zipIdx_nil, List.foldl_cons, List.foldl_nil, List.map_cons, List.map_nil, List.map_toArray, List.nil_append, List.cons_append, List.append_nil, extractOp, List.getElem?_cons_zero, List.getElem?_cons_succ,
    Option.map_some, Option.map_none, Nat.reduceLT, Nat.reduceEqDiff, Nat.reduceAdd, Nat.zero_add, if_true, if_false, Option.getD_some, Option.getD_none, ↓reduceIte, Bool.false_eq_true, Bool.true_eq_false, reduceCtorEq, resA, resOf, Option.some.injEq, exists_eq_left', beq_self_eq_true, decide_true, decide_false, decide_eq_true_eq, ne_eq, not_true_eq_false, not_false_eq_true, Bool.not_eq_true, beq_iff_eq, bin_add, bin_sub, bin_mul, bin_eql, bin_neq, bin_lss, bin_leq, bin_gtr, bin_geq, maxA, minA, Prod.mk.injEq, and_true, true_and, beq_eq_false_iff_ne, decide_eq_false_iff_not, Bool.true_beq, Bool.false_beq, beq_true, beq_false, Bool.not_true, Bool.not_false, List.getElem?_toArray]
    · simp only [↓wpS_skip, ↓wpS_ops, ↓wpS_seq, ↓wpS_cond, ↓wpS_block, ↓wpS_loop, ↓wpS_exit, ↓wpS_ret, condW_bool, ↓WOps_go, ↓WOps_skip, WOps_nil, stepA, opA, convA, isCall, put?, ev, Tr.get_put, Tr.get_nil, builtinA, callA, argEnv, wantedS, abs_int, abs_bool, abs_string, abs_nilp, abs_nili, abs_nilf, abs_nilm, abs_nils, un_not, undef, z_none, List.zipIdx_cons, List.zipIdx_nil, List.foldl_cons, List.foldl_nil, List.map_cons, List.map_nil, List.map_toArray, List.nil_append, List.cons_append, List.append_nil, extractOp, List.getElem?_cons_zero, List.getElem?_cons_succ,
    Option.map_some, Option.map_none, Nat.reduceLT, Nat.reduceEqDiff, Nat.reduceAdd, Nat.zero_add, if_true, if_false, Option.getD_some, Option.getD_none, ↓reduceIte, Bool.false_eq_true, Bool.true_eq_false, reduceCtorEq, resA, resOf, Option.some.injEq, exists_eq_left', beq_self_eq_true, decide_true, decide_false, decide_eq_true_eq, ne_eq, not_true_eq_false, not_false_eq_true, Bool.not_eq_true, beq_iff_eq, bin_add, bin_sub, bin_mul, bin_eql, bin_neq, bin_lss, bin_leq, bin_gtr, bin_geq, maxA, minA, Prod.mk.injEq, and_true, true_and, beq_eq_false_iff_ne, decide_eq_false_iff_not, Bool.true_beq, Bool.false_beq, beq_true, beq_false, Bool.not_true, Bool.not_false, List.getElem?_toArray]
    · simp only [↓wpS_skip, ↓wpS_ops, ↓wpS_seq, ↓wpS_cond, ↓wpS_block, ↓wpS_loop, ↓wpS_exit, ↓wpS_ret, condW_bool, ↓WOps_go, ↓WOps_skip, WOps_nil, stepA, opA, convA, isCall, put?, ev, Tr.get_put, Tr.get_nil, builtinA, callA, argEnv, wantedS, abs_int, abs_bool, abs_string, abs_nilp, abs_nili, abs_nilf, abs_nilm, abs_nils, un_not, undef, z_none, List.zipIdx_cons, List.zipIdx_nil, List.foldl_cons, List.foldl_nil, List.map_cons, List.map_nil, List.map_toArray, List.nil_append, List.cons_append, List.append_nil, extractOp, List.getElem?_cons_zero, List.getElem?_cons_succ,
    Option.map_some, Option.map_none, Nat.reduceLT, Nat.reduceEqDiff, Nat.reduceAdd, Nat.zero_add, if_true, if_false, Option.getD_some, Option.getD_none, ↓reduceIte, Bool.false_eq_true, Bool.true_eq_false, reduceCtorEq, resA, resOf, Option.some.injEq, exists_eq_left', beq_self_eq_true, decide_true, decide_false, decide_eq_true_eq, ne_eq, not_true_eq_false, not_false_eq_true, Bool.not_eq_true, beq_iff_eq, bin_add, bin_sub, bin_mul, bin_eql, bin_neq, bin_lss, bin_leq, bin_gtr, bin_geq, maxA, minA, Prod.mk.injEq, and_true, true_and, beq_eq_false_iff_ne, decide_eq_false_iff_not, Bool.true_beq, Bool.false_beq, beq_true, beq_false, Bool.not_true, Bool.not_false, List.getElem?_toArray] <;> rfl
    · simp only [↓wpS_skip, ↓wpS_ops, ↓wpS_seq, ↓wpS_cond, ↓wpS_block, ↓wpS_loop, ↓wpS_exit, ↓wpS_ret, condW_bool, ↓WOps_go, ↓WOps_skip, WOps_nil, stepA, opA, convA, isCall, put?, ev, Tr.get_put, Tr.get_nil, builtinA, callA, argEnv, wantedS, abs_int, abs_bool, abs_string, abs_nilp, abs_nili, abs_nilf, abs_nilm, abs_nils, un_not, undef, z_none, List.zipIdx_cons, List.zipIdx_nil, List.foldl_cons, List.foldl_nil, List.map_cons, List.map_nil, List.map_toArray, List.nil_append, List.cons_append, List.append_nil, extractOp, List.getElem?_cons_zero, List.getElem?_cons_succ,
    Option.map_some, Option.map_none, Nat.reduceLT, Nat.reduceEqDiff, Nat.reduceAdd, Nat.zero_add, if_true, if_false, Option.getD_some, Option.getD_none, ↓reduceIte, Bool.false_eq_true, Bool.true_eq_false, reduceCtorEq, resA, resOf, Option.some.injEq, exists_eq_left', beq_self_eq_true, decide_true, decide_false, decide_eq_true_eq, ne_eq, not_true_eq_false, not_false_eq_true, Bool.not_eq_true, beq_iff_eq, bin_add, bin_sub, bin_mul, bin_eql, bin_neq, bin_lss, bin_leq, bin_gtr, bin_geq, maxA, minA, Prod.mk.injEq, and_true, true_and, beq_eq_false_iff_ne, decide_eq_false_iff_not, Bool.true_beq, Bool.false_beq, beq_true, beq_false, Bool.not_true, Bool.not_false, List.getElem?_toArray] <;> rfl
    · simp only [↓wpS_skip, ↓wpS_ops, ↓wpS_seq, ↓wpS_cond, ↓wpS_block, ↓wpS_loop, ↓wpS_exit, ↓wpS_ret, condW_bool, ↓WOps_go, ↓WOps_skip, WOps_nil, stepA, opA, convA, isCall, put?, ev, Tr.get_put, Tr.get_nil, builtinA, callA, argEnv, wantedS, abs_int, abs_bool, abs_string, abs_nilp, abs_nili, abs_nilf, abs_nilm, abs_nils, un_not, undef, z_none, List.zipIdx_cons, List.zipIdx_nil, List.foldl_cons, List.foldl_nil, List.map_cons, List.map_nil, List.map_toArray, List.nil_append, List.cons_append, List.append_nil, extractOp, List.getElem?_cons_zero, List.getElem?_cons_succ,
    Option.map_some, Option.map_none, Nat.reduceLT, Nat.reduceEqDiff, Nat.reduceAdd, Nat.zero_add, if_true, if_false, Option.getD_some, Option.getD_none, ↓reduceIte, Bool.false_eq_true, Bool.true_eq_false, reduceCtorEq, resA, resOf, Option.some.injEq, exists_eq_left', beq_self_eq_true, decide_true, decide_false, decide_eq_true_eq, ne_eq, not_true_eq_false, not_false_eq_true, Bool.not_eq_true, beq_iff_eq, bin_add, bin_sub, bin_mul, bin_eql, bin_neq, bin_lss, bin_leq, bin_gtr, bin_geq, maxA, minA, Prod.mk.injEq, and_true, true_and, beq_eq_false_iff_ne, decide_eq_false_iff_not, Bool.true_beq, Bool.false_beq, beq_true, beq_false, Bool.not_true, Bool.not_false, List.getElem?_toArray, f6]
      refine ⟨str, rfl, ?_, c3, c4, c5⟩
      rw [c2]; congr 2; omega
theorem writeS {pw i : Nat} (hw : WOK pw i) : WOK pw (i + 1) := by
  intro d m H nx hN hW h1 h2 h3 h4 h5
  have f1 : ∀ c, c < nx → (H.put nx (some (.cells kinds 3 false))).get c = H.get c := fun c hc => Tr.get_put_ne _ _ _ _ (by omega)
  have hN2 : Nodes (H.put nx (some (.cells kinds 3 false))) (i + 1) := Nodes.fr (pw := pw) hN (fun c hc => f1 c (by omega))
  have hW2 : (H.put nx (some (.cells kinds 3 false))).get pw = some (Wc d m) := by rw [f1 pw h2]; exact hW
  have hb : (H.put nx (some (.cells kinds 3 false))).get nx = some (.cells kinds 3 false) := Tr.get_put_same _ _ _
  have hm := h5
  · obtain ⟨v, H', nx', c1, str, rfl, c2, c3, c4, c5⟩ := part_cl (nx := nx + 1) hw hN2.le hW2 hb (by omega) (by omega) h3 (by omega) hm
    have hN3 : Nodes H' (i + 1) := Nodes.fr (pw := pw) hN2 (fun c hc => c3 c (by omega) (by omega))
    have ha := str_add (.tmp 59) (.const (.string (ByteArray.mk #[42]))) str [42] (by simp only [List.length_cons, List.length_nil]; omega)
    have ha' : binOpA cx.P cx.T .add 9 (.tmp 59) (.const (.string (ByteArray.mk #[42]))) (strA str) (.lit (.string (ByteArray.mk #[42]))) = some (strA (str ++ [42])) := ha
    refine ⟨str ++ [42], H', nx', ?_, c2, fun c hc hne => by rw [c3 c (by omega) hne, f1 c hc], by omega, by simp only [List.length_append, List.length_cons, List.length_nil]; omega⟩
    refine wp46 _ _ _ _ (by simp) ?_
    unfold s46
    have k1 : ((4 : Int) = 1) = False := by simp
    have k2 : ((4 : Int) = 2) = False := by simp
    have k3 : ((4 : Int) = 3) = False := by simp
    simp only [↓wpS_skip, ↓wpS_ops, ↓wpS_seq, ↓wpS_cond, ↓wpS_block, ↓wpS_loop, ↓wpS_exit, ↓wpS_ret, condW_bool, ↓WOps_go, ↓WOps_skip, WOps_nil, stepA, opA, convA, isCall, put?, ev, Tr.get_put, Tr.get_nil, builtinA, callA, argEnv, wantedS, abs_int, abs_bool, abs_string, abs_nilp, abs_nili, abs_nilf, abs_nilm, abs_nils, un_not, undef, z_none, List.zipIdx_cons, List.zipIdx_nil, List.foldl_cons, List.foldl_nil, List.map_cons, List.map_nil, List.map_toArray, List.nil_append, List.cons_append, List.append_nil, extractOp, List.getElem?_cons_zero, List.getElem?_cons_succ,
    Option.map_some, Option.map_none, Nat.reduceLT, Nat.reduceEqDiff, Nat.reduceAdd, Nat.zero_add, if_true, if_false, Option.getD_some, Option.getD_none, ↓reduceIte, Bool.false_eq_true, Bool.true_eq_false, reduceCtorEq, resA, resOf, Option.some.injEq, exists_eq_left', beq_self_eq_true, decide_true, decide_false, decide_eq_true_eq, ne_eq, not_true_eq_false, not_false_eq_true, Bool.not_eq_true, beq_iff_eq, bin_add, bin_sub, bin_mul, bin_eql, bin_neq, bin_lss, bin_leq, bin_gtr, bin_geq, maxA, minA, Prod.mk.injEq, and_true, true_and, beq_eq_false_iff_ne, decide_eq_false_iff_not, Bool.true_beq, Bool.false_beq, beq_true, beq_false, Bool.not_true, Bool.not_false, List.getElem?_toArray, nc_ptr, fa32_0, fa32_2, fa32_3, ld_kindS hN, k1, k2, k3, ld_aS hN, partsA, bs4, x103, c1, ha', ld_lazyS hN3]
theorem write_all (pw : Nat) : ∀ i, WOK pw i
  | 0 => write0 pw
  | i + 1 => writeS (write_all pw i)
end Seat
end CI
/- The law SimpleNone, walked. -/
set_option linter.unusedVariables false
set_option linter.unusedSimpArgs false
set_option maxRecDepth 100000
namespace CI
open Go
namespace Seat
noncomputable def chain : Nat → Heap
  | 0 => Tr.nil.put 0 (some (.cells node0 32 false))
  | i + 1 => (chain i).put (i + 1) (some (.cells (starC (.ptr i 0)) 32 false))
theorem chain_nodes : ∀ i, Nodes (chain i) i
  | 0 => ⟨Tr.get_put_same _ _ _, fun j hj => by omega⟩
  | i + 1 => by
    have h := chain_nodes i
    refine ⟨?_, fun j hj => ?_⟩
    · show (Tr.put (chain i) (i + 1) _).get 0 = _
      rw [Tr.get_put_ne _ _ _ _ (by omega)]; exact h.1
    · show (Tr.put (chain i) (i + 1) _).get (j + 1) = _
      by_cases e : j = i
      · subst e; exact Tr.get_put_same _ _ _
      · rw [Tr.get_put_ne _ _ _ _ (by omega)]; exact h.2 j (by omega)
theorem bldW : buildOp cx.T 89 [] = some (.agg [.lit (.int .i64 ((0 : Nat) : Int)), .lit (.int .i64 ((0 : Nat) : Int))]) := by kernel_rfl
theorem eql22p (x y : Operand) (p : Nat) : binOpA cx.P cx.T .eql 22 x y (.ptr p 0) (.lit (.pointer none)) = some (.lit (.bool false)) := by kernel_rfl
theorem eql22n (x y : Operand) : binOpA cx.P cx.T .eql 22 x y (.lit (.pointer none)) (.lit (.pointer none)) = some (.lit (.bool true)) := by
  cases x <;> cases y <;> kernel_rfl
/-- What Pattern tells of a chain. -/
theorem pattern_cl (i : Nat) (hi : 1 ≤ i) (hi2 : i ≤ 300) : ∃ (str : List UInt8) (e : Int) (H' : Heap) (nx' : Nat), Cl cx 10 [.ptr i 0] (chain i) (i + 1) = some (.tuple [strA str, .lit (.int .i64 e)], H', nx') ∧ (e = 0 ↔ i ≤ 201) := by
  have f1 : ∀ c, c < i + 1 → ((chain i).put (i + 1) (some (Wc 0 0))).get c = (chain i).get c := fun c hc => Tr.get_put_ne _ _ _ _ (by omega)
  have hN : Nodes ((chain i).put (i + 1) (some (Wc 0 0))) i := Nodes.fr (pw := i + 1) (chain_nodes i) (fun c hc => f1 c (by omega))
  have hW : ((chain i).put (i + 1) (some (Wc 0 0))).get (i + 1) = some (Wc 0 0) := Tr.get_put_same _ _ _
  obtain ⟨str, H', nx', c1, c2, -, -, -⟩ := write_all (i + 1) i 0 0 _ (i + 2) hN hW (by omega) (by omega) (Nat.le_refl _) (by omega) (by omega)
  have hm : max 0 (0 + i - 1) = i - 1 := by omega
  rw [hm] at c2
  have c1' : Cl cx 46 [.ptr (i + 1) 0, .ptr i 0] (Tr.put (chain i) (i + 1) (some (AObj.cells [.lit (.int .i64 ((0 : Nat) : Int)), .lit (.int .i64 ((0 : Nat) : Int))] 89 false))) (i + 1 + 1) = some (strA str, H', nx') := c1
  by_cases hle : i ≤ 201
  · refine ⟨str, 0, H', nx', ?_, by simp [hle]⟩
    refine wp10 _ _ _ _ (by simp) ?_
    unfold s10
    have e1 : (((i - 1 : Nat) : Int) > 200) = False := by simp; omega
    simp only [↓wpS_skip, ↓wpS_ops, ↓wpS_seq, ↓wpS_cond, ↓wpS_block, ↓wpS_loop, ↓wpS_exit, ↓wpS_ret, condW_bool, ↓WOps_go, ↓WOps_skip, WOps_nil, stepA, opA, convA, isCall, put?, ev, Tr.get_put, Tr.get_nil, builtinA, callA, argEnv, wantedS, abs_int, abs_bool, abs_string, abs_nilp, abs_nili, abs_nilf, abs_nilm, abs_nils, un_not, undef, z_none, List.zipIdx_cons, List.zipIdx_nil, List.foldl_cons, List.foldl_nil, List.map_cons, List.map_nil, List.map_toArray, List.nil_append, List.cons_append, List.append_nil, extractOp, List.getElem?_cons_zero, List.getElem?_cons_succ,
    Option.map_some, Option.map_none, Nat.reduceLT, Nat.reduceEqDiff, Nat.reduceAdd, Nat.zero_add, if_true, if_false, Option.getD_some, Option.getD_none, ↓reduceIte, Bool.false_eq_true, Bool.true_eq_false, reduceCtorEq, resA, resOf, Option.some.injEq, exists_eq_left', beq_self_eq_true, decide_true, decide_false, decide_eq_true_eq, ne_eq, not_true_eq_false, not_false_eq_true, Bool.not_eq_true, beq_iff_eq, bin_add, bin_sub, bin_mul, bin_eql, bin_neq, bin_lss, bin_leq, bin_gtr, bin_geq, maxA, minA, Prod.mk.injEq, and_true, true_and, beq_eq_false_iff_ne, decide_eq_false_iff_not, Bool.true_beq, Bool.false_beq, beq_true, beq_false, Bool.not_true, Bool.not_false, List.getElem?_toArray, eql22p, partsA, bldW, boxOp, allocA, cellsOf, x46, nc_ptr, fa89_1, c1', ld_most c2, e1]
  · refine ⟨[], 3, H', nx', ?_, by simp [hle]⟩
    refine wp10 _ _ _ _ (by simp) ?_
    unfold s10
    have e1 : (((i - 1 : Nat) : Int) > 200) = True := by simp; omega
    simp only [↓wpS_skip, ↓wpS_ops, ↓wpS_seq, ↓wpS_cond, ↓wpS_block, ↓wpS_loop, ↓wpS_exit, ↓wpS_ret, condW_bool, ↓WOps_go, ↓WOps_skip, WOps_nil, stepA, opA, convA, isCall, put?, ev, Tr.get_put, Tr.get_nil, builtinA, callA, argEnv, wantedS, abs_int, abs_bool, abs_string, abs_nilp, abs_nili, abs_nilf, abs_nilm, abs_nils, un_not, undef, z_none, List.zipIdx_cons, List.zipIdx_nil, List.foldl_cons, List.foldl_nil, List.map_cons, List.map_nil, List.map_toArray, List.nil_append, List.cons_append, List.append_nil, extractOp, List.getElem?_cons_zero, List.getElem?_cons_succ,
    Option.map_some, Option.map_none, Nat.reduceLT, Nat.reduceEqDiff, Nat.reduceAdd, Nat.zero_add, if_true, if_false, Option.getD_some, Option.getD_none, ↓reduceIte, Bool.false_eq_true, Bool.true_eq_false, reduceCtorEq, resA, resOf, Option.some.injEq, exists_eq_left', beq_self_eq_true, decide_true, decide_false, decide_eq_true_eq, ne_eq, not_true_eq_false, not_false_eq_true, Bool.not_eq_true, beq_iff_eq, bin_add, bin_sub, bin_mul, bin_eql, bin_neq, bin_lss, bin_leq, bin_gtr, bin_geq, maxA, minA, Prod.mk.injEq, and_true, true_and, beq_eq_false_iff_ne, decide_eq_false_iff_not, Bool.true_beq, Bool.false_beq, beq_true, beq_false, Bool.not_true, Bool.not_false, List.getElem?_toArray, eql22p, partsA, bldW, boxOp, allocA, cellsOf, x46, nc_ptr, fa89_1, c1', ld_most c2, e1]
    rfl
theorem cv53 {H : Heap} {nx : Nat} (x : Nat) (h : x < 256) : convOp cx.P cx.T H nx 5 3 (.lit (.int .u8 x)) = some (.lit (.int .i64 x), H, nx) := by
  have : convOp cx.P cx.T H nx 5 3 (.lit (.int .u8 x)) = some (.lit (.int .i64 (IntKind.i64.wrap x)), H, nx) := by kernel_rfl
  rw [this, wrapI (by constructor <;> omega)]
theorem rem12 (n : Nat) (x y : Operand) : binOpA cx.P cx.T .rem 5 x y (.lit (.int .u8 n)) (.lit (.int .u8 12)) = some (.lit (.int .u8 ((n % 12 : Nat) : Int))) := by
  rw [bin_rem _ _ _ _ _ _ _ _ (by decide), Int.tmod_eq_emod_of_nonneg (by omega)]
  rfl
theorem eqB4 (x y : Operand) (a b : Bool) : binOpA cx.P cx.T .eql 4 x y (.lit (.bool a)) (.lit (.bool b)) = some (.lit (.bool (a == b))) := by
  cases a <;> cases b <;> kernel_rfl
theorem empty_eq (x y : Operand) : binOpA cx.P cx.T .eql 9 x y (.lit (.string ByteArray.empty)) (.lit (.string (ByteArray.mk #[]))) = some (.lit (.bool true)) := by
  cases x <;> cases y <;> kernel_rfl
section
variable {QQ : Ex → St → Prop} {n : Nat}
structure LS (n : Nat) (E : Tr AV) : Prop where
  t0 : E.get 0 = some (.lit (.int .u8 n))
  t3 : E.get 3 = some (.lit (.pointer none))
  t4 : E.get 4 = some (.lit (.int .i64 0))
  t5 : E.get 5 = some (.lit (.string ByteArray.empty))
  t6 : E.get 6 = some (.lit (.int .i64 1))
theorem chain_loop {E : Tr AV} (hn : n < 256) (h : LS n E) (e7 : E.get 7 = some (.ptr 0 0)) (e8 : E.get 8 = some (.lit (.int .i64 ((0 : Nat) : Int))))
    (hQ : ∀ E', LS n E' → E'.get 7 = some (.ptr (195 + n % 12) 0) → QQ (.exit 0) ⟨E', chain (195 + n % 12), 195 + n % 12 + 1⟩) : Wp cx 74 (.loop s3_l0) ⟨E, chain 0, 1⟩ QQ := by
  have hr : n % 12 < 12 := Nat.mod_lt _ (by omega)
  generalize hrr : n % 12 = r at *
  refine Wp_loop (fun k st => ∃ i : Nat, k = 195 + r - i ∧ i ≤ 195 + r ∧ st.H = chain i ∧ st.nx = i + 1 ∧ LS n st.env ∧ st.env.get 7 = some (.ptr i 0) ∧ st.env.get 8 = some (.lit (.int .i64 i))) ?_ (195 + r) _
    ⟨0, by omega, by omega, rfl, rfl, h, e7, e8⟩
  rintro k ⟨E, H1, nx1⟩ ⟨i, hk, hi, q1, q2, ⟨e0, e3, e4, e5, e6⟩, e7, e8⟩
  simp only at q1 q2 e0 e3 e4 e5 e6 e7 e8; subst q1; subst q2
  refine Wp_of ?_
  unfold s3_l0
  have hm : i < 195 + r → 195 + r - (i + 1) < k := by omega
  have hw := wrapS (i := i) (by omega)
  have hw2 : IntKind.i64.wrap (195 + (r : Int)) = ((195 + r : Nat) : Int) := by rw [wrapI (by constructor <;> omega)]; omega
  by_cases hlt : i < 195 + r
  · have h1 : ((i : Int) < ((195 + r : Nat) : Int)) = True := by simp; omega
    simp only [↓wpS_skip, ↓wpS_ops, ↓wpS_seq, ↓wpS_cond, ↓wpS_block, ↓wpS_loop, ↓wpS_exit, ↓wpS_ret, condW_bool, ↓WOps_go, ↓WOps_skip, WOps_nil, stepA, opA, convA, isCall, put?, ev, Tr.get_put, Tr.get_nil, builtinA, callA, argEnv, wantedS, abs_int, abs_bool, abs_string, abs_nilp, abs_nili, abs_nilf, abs_nilm, abs_nils, un_not, undef, z_none, List.zipIdx_cons, List.zipIdx_nil, List.foldl_cons, List.foldl_nil, List.map_cons, List.map_nil, List.map_toArray, List.nil_append, List.cons_append, List.append_nil, extractOp, List.getElem?_cons_zero, List.getElem?_cons_succ,
    Option.map_some, Option.map_none, Nat.reduceLT, Nat.reduceEqDiff, Nat.reduceAdd, Nat.zero_add, if_true, if_false, Option.getD_some, Option.getD_none, ↓reduceIte, Bool.false_eq_true, Bool.true_eq_false, reduceCtorEq, resA, resOf, Option.some.injEq, exists_eq_left', beq_self_eq_true, decide_true, decide_false, decide_eq_true_eq, ne_eq, not_true_eq_false, not_false_eq_true, Bool.not_eq_true, beq_iff_eq, bin_add, bin_sub, bin_mul, bin_eql, bin_neq, bin_lss, bin_leq, bin_gtr, bin_geq, maxA, minA, Prod.mk.injEq, and_true, true_and, beq_eq_false_iff_ne, decide_eq_false_iff_not, Bool.true_beq, Bool.false_beq, beq_true, beq_false, Bool.not_true, Bool.not_false, List.getElem?_toArray, e0, e3, e4, e5, e6, e7, e8, rem12, hrr, cv53 r (by omega), hw2, h1, partsA, bldS, boxOp, allocA, cellsOf, hw]
    refine ⟨195 + r - (i + 1), hm hlt, i + 1, rfl, hlt, rfl, rfl, ?_, rfl, rfl⟩
    constructor <;> simp only [↓wpS_skip, ↓wpS_ops, ↓wpS_seq, ↓wpS_cond, ↓wpS_block, ↓wpS_loop, ↓wpS_exit, ↓wpS_ret, condW_bool, ↓WOps_go, ↓WOps_skip, WOps_nil, stepA, opA, convA, isCall, put?, ev, Tr.get_put, Tr.get_nil, builtinA, callA, argEnv, wantedS, abs_int, abs_bool, abs_string, abs_nilp, abs_nili, abs_nilf, abs_nilm, abs_nils, un_not, undef, z_none, List.zipIdx_cons, List.zipIdx_nil, List.foldl_cons, List.foldl_nil, List.map_cons, List.map_nil, List.map_toArray, List.nil_append, List.cons_append, List.append_nil, extractOp, List.getElem?_cons_zero, List.getElem?_cons_succ,
    Option.map_some, Option.map_none, Nat.reduceLT, Nat.reduceEqDiff, Nat.reduceAdd, Nat.zero_add, if_true, if_false, Option.getD_some, Option.getD_none, ↓reduceIte, Bool.false_eq_true, Bool.true_eq_false, reduceCtorEq, resA, resOf, Option.some.injEq, exists_eq_left', beq_self_eq_true, decide_true, decide_false, decide_eq_true_eq, ne_eq, not_true_eq_false, not_false_eq_true, Bool.not_eq_true, beq_iff_eq, bin_add, bin_sub, bin_mul, bin_eql, bin_neq, bin_lss, bin_leq, bin_gtr, bin_geq, maxA, minA, Prod.mk.injEq, and_true, true_and, beq_eq_false_iff_ne, decide_eq_false_iff_not, Bool.true_beq, Bool.false_beq, beq_true, beq_false, Bool.not_true, Bool.not_false, List.getElem?_toArray, e0, e3, e4, e5, e6]
  · obtain rfl : i = 195 + r := by omega
    have h1 : (((195 + r : Nat) : Int) < ((195 + r : Nat) : Int)) = False := by simp
    simp only [↓wpS_skip, ↓wpS_ops, ↓wpS_seq, ↓wpS_cond, ↓wpS_block, ↓wpS_loop, ↓wpS_exit, ↓wpS_ret, condW_bool, ↓WOps_go, ↓WOps_skip, WOps_nil, stepA, opA, convA, isCall, put?, ev, Tr.get_put, Tr.get_nil, builtinA, callA, argEnv, wantedS, abs_int, abs_bool, abs_string, abs_nilp, abs_nili, abs_nilf, abs_nilm, abs_nils, un_not, undef, z_none, List.zipIdx_cons, List.zipIdx_nil, List.foldl_cons, List.foldl_nil, List.map_cons, List.map_nil, List.map_toArray, List.nil_append, List.cons_append, List.append_nil, extractOp, List.getElem?_cons_zero, List.getElem?_cons_succ,
    Option.map_some, Option.map_none, Nat.reduceLT, Nat.reduceEqDiff, Nat.reduceAdd, Nat.zero_add, if_true, if_false, Option.getD_some, Option.getD_none, ↓reduceIte, Bool.false_eq_true, Bool.true_eq_false, reduceCtorEq, resA, resOf, Option.some.injEq, exists_eq_left', beq_self_eq_true, decide_true, decide_false, decide_eq_true_eq, ne_eq, not_true_eq_false, not_false_eq_true, Bool.not_eq_true, beq_iff_eq, bin_add, bin_sub, bin_mul, bin_eql, bin_neq, bin_lss, bin_leq, bin_gtr, bin_geq, maxA, minA, Prod.mk.injEq, and_true, true_and, beq_eq_false_iff_ne, decide_eq_false_iff_not, Bool.true_beq, Bool.false_beq, beq_true, beq_false, Bool.not_true, Bool.not_false, List.getElem?_toArray, e0, e3, e4, e5, e6, e7, e8, rem12, hrr, cv53 r (by omega), hw2, h1]
    refine hQ _ ?_ ?_
    · constructor <;> simp only [↓wpS_skip, ↓wpS_ops, ↓wpS_seq, ↓wpS_cond, ↓wpS_block, ↓wpS_loop, ↓wpS_exit, ↓wpS_ret, condW_bool, ↓WOps_go, ↓WOps_skip, WOps_nil, stepA, opA, convA, isCall, put?, ev, Tr.get_put, Tr.get_nil, builtinA, callA, argEnv, wantedS, abs_int, abs_bool, abs_string, abs_nilp, abs_nili, abs_nilf, abs_nilm, abs_nils, un_not, undef, z_none, List.zipIdx_cons, List.zipIdx_nil, List.foldl_cons, List.foldl_nil, List.map_cons, List.map_nil, List.map_toArray, List.nil_append, List.cons_append, List.append_nil, extractOp, List.getElem?_cons_zero, List.getElem?_cons_succ,
    Option.map_some, Option.map_none, Nat.reduceLT, Nat.reduceEqDiff, Nat.reduceAdd, Nat.zero_add, if_true, if_false, Option.getD_some, Option.getD_none, ↓reduceIte, Bool.false_eq_true, Bool.true_eq_false, reduceCtorEq, resA, resOf, Option.some.injEq, exists_eq_left', beq_self_eq_true, decide_true, decide_false, decide_eq_true_eq, ne_eq, not_true_eq_false, not_false_eq_true, Bool.not_eq_true, beq_iff_eq, bin_add, bin_sub, bin_mul, bin_eql, bin_neq, bin_lss, bin_leq, bin_gtr, bin_geq, maxA, minA, Prod.mk.injEq, and_true, true_and, beq_eq_false_iff_ne, decide_eq_false_iff_not, Bool.true_beq, Bool.false_beq, beq_true, beq_false, Bool.not_true, Bool.not_false, List.getElem?_toArray, e0, e3, e4, e5, e6]
    · simp only [↓wpS_skip, ↓wpS_ops, ↓wpS_seq, ↓wpS_cond, ↓wpS_block, ↓wpS_loop, ↓wpS_exit, ↓wpS_ret, condW_bool, ↓WOps_go, ↓WOps_skip, WOps_nil, stepA, opA, convA, isCall, put?, ev, Tr.get_put, Tr.get_nil, builtinA, callA, argEnv, wantedS, abs_int, abs_bool, abs_string, abs_nilp, abs_nili, abs_nilf, abs_nilm, abs_nils, un_not, undef, z_none, List.zipIdx_cons, List.zipIdx_nil, List.foldl_cons, List.foldl_nil, List.map_cons, List.map_nil, List.map_toArray, List.nil_append, List.cons_append, List.append_nil, extractOp, List.getElem?_cons_zero, List.getElem?_cons_succ,
    Option.map_some, Option.map_none, Nat.reduceLT, Nat.reduceEqDiff, Nat.reduceAdd, Nat.zero_add, if_true, if_false, Option.getD_some, Option.getD_none, ↓reduceIte, Bool.false_eq_true, Bool.true_eq_false, reduceCtorEq, resA, resOf, Option.some.injEq, exists_eq_left', beq_self_eq_true, decide_true, decide_false, decide_eq_true_eq, ne_eq, not_true_eq_false, not_false_eq_true, Bool.not_eq_true, beq_iff_eq, bin_add, bin_sub, bin_mul, bin_eql, bin_neq, bin_lss, bin_leq, bin_gtr, bin_geq, maxA, minA, Prod.mk.injEq, and_true, true_and, beq_eq_false_iff_ne, decide_eq_false_iff_not, Bool.true_beq, Bool.false_beq, beq_true, beq_false, Bool.not_true, Bool.not_false, List.getElem?_toArray, e7]
end
/-- The law SimpleNone. -/
theorem law3 (n : Nat) (hn : n < 256) : ∃ v H' nx', Cl cx 3 [.lit (.int .u8 n)] .nil 0 = some (v, H', nx') ∧ v = .lit (.bool true) := by
  have c9 : Cl cx 9 [.lit (.pointer none)] .nil 0 = some (.tuple [.lit (.pointer none), .lit (.int .i64 0)], .nil, 0) := step_nil
  have c10 : Cl cx 10 [.lit (.pointer none)] .nil 0 = some (.tuple [.lit (.string ByteArray.empty), .lit (.int .i64 1)], .nil, 0) := pat_nil
  have c11 : ∀ {H : Heap} {nx : Nat}, Cl cx 11 [.lit (.pointer none)] H nx = some (.lit (.pointer none), H, nx) := simp_nil
  have c12 : ∀ {H : Heap} {nx : Nat}, Cl cx 12 [.lit (.pointer none)] H nx = some (.lit (.int .i64 0), H, nx) := saved_nil
  have hr : n % 12 < 12 := Nat.mod_lt _ (by omega)
  refine wpP3 _ _ _ _ (by simp) ?_
  unfold s3
  simp only [↓wpS_skip, ↓wpS_ops, ↓wpS_seq, ↓wpS_cond, ↓wpS_block, ↓wpS_loop, ↓wpS_exit, ↓wpS_ret, condW_bool, ↓WOps_go, ↓WOps_skip, WOps_nil, stepA, opA, convA, isCall, put?, ev, Tr.get_put, Tr.get_nil, builtinA, callA, argEnv, wantedS, abs_int, abs_bool, abs_string, abs_nilp, abs_nili, abs_nilf, abs_nilm, abs_nils, un_not, undef, z_none, List.zipIdx_cons, List.zipIdx_nil, List.foldl_cons, List.foldl_nil, List.map_cons, List.map_nil, List.map_toArray, List.nil_append, List.cons_append, List.append_nil, extractOp, List.getElem?_cons_zero, List.getElem?_cons_succ,
    Option.map_some, Option.map_none, Nat.reduceLT, Nat.reduceEqDiff, Nat.reduceAdd, Nat.zero_add, if_true, if_false, Option.getD_some, Option.getD_none, ↓reduceIte, Bool.false_eq_true, Bool.true_eq_false, reduceCtorEq, resA, resOf, Option.some.injEq, exists_eq_left', beq_self_eq_true, decide_true, decide_false, decide_eq_true_eq, ne_eq, not_true_eq_false, not_false_eq_true, Bool.not_eq_true, beq_iff_eq, bin_add, bin_sub, bin_mul, bin_eql, bin_neq, bin_lss, bin_leq, bin_gtr, bin_geq, maxA, minA, Prod.mk.injEq, and_true, true_and, beq_eq_false_iff_ne, decide_eq_false_iff_not, Bool.true_beq, Bool.false_beq, beq_true, beq_false, Bool.not_true, Bool.not_false, List.getElem?_toArray, x9, c9, x10, c10, partsA, bld0, boxOp, allocA, cellsOf]
  refine chain_loop (n := n) hn ?_ ?_ ?_ ?_
  · constructor <;> simp only [↓wpS_skip, ↓wpS_ops, ↓wpS_seq, ↓wpS_cond, ↓wpS_block, ↓wpS_loop, ↓wpS_exit, ↓wpS_ret, condW_bool, ↓WOps_go, ↓WOps_skip, WOps_nil, stepA, opA, convA, isCall, put?, ev, Tr.get_put, Tr.get_nil, builtinA, callA, argEnv, wantedS, abs_int, abs_bool, abs_string, abs_nilp, abs_nili, abs_nilf, abs_nilm, abs_nils, un_not, undef, z_none, List.zipIdx_cons, List.zipIdx_nil, List.foldl_cons, List.foldl_nil, List.map_cons, List.map_nil, List.map_toArray, List.nil_append, List.cons_append, List.append_nil, extractOp, List.getElem?_cons_zero, List.getElem?_cons_succ,
    Option.map_some, Option.map_none, Nat.reduceLT, Nat.reduceEqDiff, Nat.reduceAdd, Nat.zero_add, if_true, if_false, Option.getD_some, Option.getD_none, ↓reduceIte, Bool.false_eq_true, Bool.true_eq_false, reduceCtorEq, resA, resOf, Option.some.injEq, exists_eq_left', beq_self_eq_true, decide_true, decide_false, decide_eq_true_eq, ne_eq, not_true_eq_false, not_false_eq_true, Bool.not_eq_true, beq_iff_eq, bin_add, bin_sub, bin_mul, bin_eql, bin_neq, bin_lss, bin_leq, bin_gtr, bin_geq, maxA, minA, Prod.mk.injEq, and_true, true_and, beq_eq_false_iff_ne, decide_eq_false_iff_not, Bool.true_beq, Bool.false_beq, beq_true, beq_false, Bool.not_true, Bool.not_false, List.getElem?_toArray]
  · simp only [↓wpS_skip, ↓wpS_ops, ↓wpS_seq, ↓wpS_cond, ↓wpS_block, ↓wpS_loop, ↓wpS_exit, ↓wpS_ret, condW_bool, ↓WOps_go, ↓WOps_skip, WOps_nil, stepA, opA, convA, isCall, put?, ev, Tr.get_put, Tr.get_nil, builtinA, callA, argEnv, wantedS, abs_int, abs_bool, abs_string, abs_nilp, abs_nili, abs_nilf, abs_nilm, abs_nils, un_not, undef, z_none, List.zipIdx_cons, List.zipIdx_nil, List.foldl_cons, List.foldl_nil, List.map_cons, List.map_nil, List.map_toArray, List.nil_append, List.cons_append, List.append_nil, extractOp, List.getElem?_cons_zero, List.getElem?_cons_succ,
    Option.map_some, Option.map_none, Nat.reduceLT, Nat.reduceEqDiff, Nat.reduceAdd, Nat.zero_add, if_true, if_false, Option.getD_some, Option.getD_none, ↓reduceIte, Bool.false_eq_true, Bool.true_eq_false, reduceCtorEq, resA, resOf, Option.some.injEq, exists_eq_left', beq_self_eq_true, decide_true, decide_false, decide_eq_true_eq, ne_eq, not_true_eq_false, not_false_eq_true, Bool.not_eq_true, beq_iff_eq, bin_add, bin_sub, bin_mul, bin_eql, bin_neq, bin_lss, bin_leq, bin_gtr, bin_geq, maxA, minA, Prod.mk.injEq, and_true, true_and, beq_eq_false_iff_ne, decide_eq_false_iff_not, Bool.true_beq, Bool.false_beq, beq_true, beq_false, Bool.not_true, Bool.not_false, List.getElem?_toArray]
  · simp only [↓wpS_skip, ↓wpS_ops, ↓wpS_seq, ↓wpS_cond, ↓wpS_block, ↓wpS_loop, ↓wpS_exit, ↓wpS_ret, condW_bool, ↓WOps_go, ↓WOps_skip, WOps_nil, stepA, opA, convA, isCall, put?, ev, Tr.get_put, Tr.get_nil, builtinA, callA, argEnv, wantedS, abs_int, abs_bool, abs_string, abs_nilp, abs_nili, abs_nilf, abs_nilm, abs_nils, un_not, undef, z_none, List.zipIdx_cons, List.zipIdx_nil, List.foldl_cons, List.foldl_nil, List.map_cons, List.map_nil, List.map_toArray, List.nil_append, List.cons_append, List.append_nil, extractOp, List.getElem?_cons_zero, List.getElem?_cons_succ,
    Option.map_some, Option.map_none, Nat.reduceLT, Nat.reduceEqDiff, Nat.reduceAdd, Nat.zero_add, if_true, if_false, Option.getD_some, Option.getD_none, ↓reduceIte, Bool.false_eq_true, Bool.true_eq_false, reduceCtorEq, resA, resOf, Option.some.injEq, exists_eq_left', beq_self_eq_true, decide_true, decide_false, decide_eq_true_eq, ne_eq, not_true_eq_false, not_false_eq_true, Bool.not_eq_true, beq_iff_eq, bin_add, bin_sub, bin_mul, bin_eql, bin_neq, bin_lss, bin_leq, bin_gtr, bin_geq, maxA, minA, Prod.mk.injEq, and_true, true_and, beq_eq_false_iff_ne, decide_eq_false_iff_not, Bool.true_beq, Bool.false_beq, beq_true, beq_false, Bool.not_true, Bool.not_false, List.getElem?_toArray] <;> rfl
  · rintro E' ⟨f0, f3, f4, f5, f6⟩ f7
    obtain ⟨str, e, H', nx', p1, p2⟩ := pattern_cl (195 + n % 12) (by omega) (by omega)
    have hw2 : IntKind.i64.wrap (194 + ((n % 12 : Nat) : Int)) = ((194 + n % 12 : Nat) : Int) := by rw [wrapI (by constructor <;> omega)]; omega
    by_cases hle : 195 + n % 12 ≤ 201
    · have he : (e = 0) = True := by simp [p2.2 hle]
      have h1 : (((194 + n % 12 : Nat) : Int) ≤ 200) = True := by simp; omega
      simp only [↓wpS_skip, ↓wpS_ops, ↓wpS_seq, ↓wpS_cond, ↓wpS_block, ↓wpS_loop, ↓wpS_exit, ↓wpS_ret, condW_bool, ↓WOps_go, ↓WOps_skip, WOps_nil, stepA, opA, convA, isCall, put?, ev, Tr.get_put, Tr.get_nil, builtinA, callA, argEnv, wantedS, abs_int, abs_bool, abs_string, abs_nilp, abs_nili, abs_nilf, abs_nilm, abs_nils, un_not, undef, z_none, List.zipIdx_cons, List.zipIdx_nil, List.foldl_cons, List.foldl_nil, List.map_cons, List.map_nil, List.map_toArray, List.nil_append, List.cons_append, List.append_nil, extractOp, List.getElem?_cons_zero, List.getElem?_cons_succ,
    Option.map_some, Option.map_none, Nat.reduceLT, Nat.reduceEqDiff, Nat.reduceAdd, Nat.zero_add, if_true, if_false, Option.getD_some, Option.getD_none, ↓reduceIte, Bool.false_eq_true, Bool.true_eq_false, reduceCtorEq, resA, resOf, Option.some.injEq, exists_eq_left', beq_self_eq_true, decide_true, decide_false, decide_eq_true_eq, ne_eq, not_true_eq_false, not_false_eq_true, Bool.not_eq_true, beq_iff_eq, bin_add, bin_sub, bin_mul, bin_eql, bin_neq, bin_lss, bin_leq, bin_gtr, bin_geq, maxA, minA, Prod.mk.injEq, and_true, true_and, beq_eq_false_iff_ne, decide_eq_false_iff_not, Bool.true_beq, Bool.false_beq, beq_true, beq_false, Bool.not_true, Bool.not_false, List.getElem?_toArray, f0, f3, f4, f5, f6, f7, x10, p1, rem12, cv53 (n % 12) (by omega), hw2, eql22n, empty_eq, x11, c11, x12, c12, he, h1, eqB4, x_awake]
    · have he : (e = 0) = False := by
        simp only [eq_iff_iff, iff_false]
        intro h; exact hle (p2.1 h)
      have h1 : (((194 + n % 12 : Nat) : Int) ≤ 200) = False := by simp; omega
      simp only [↓wpS_skip, ↓wpS_ops, ↓wpS_seq, ↓wpS_cond, ↓wpS_block, ↓wpS_loop, ↓wpS_exit, ↓wpS_ret, condW_bool, ↓WOps_go, ↓WOps_skip, WOps_nil, stepA, opA, convA, isCall, put?, ev, Tr.get_put, Tr.get_nil, builtinA, callA, argEnv, wantedS, abs_int, abs_bool, abs_string, abs_nilp, abs_nili, abs_nilf, abs_nilm, abs_nils, un_not, undef, z_none, List.zipIdx_cons, List.zipIdx_nil, List.foldl_cons, List.foldl_nil, List.map_cons, List.map_nil, List.map_toArray, List.nil_append, List.cons_append, List.append_nil, extractOp, List.getElem?_cons_zero, List.getElem?_cons_succ,
    Option.map_some, Option.map_none, Nat.reduceLT, Nat.reduceEqDiff, Nat.reduceAdd, Nat.zero_add, if_true, if_false, Option.getD_some, Option.getD_none, ↓reduceIte, Bool.false_eq_true, Bool.true_eq_false, reduceCtorEq, resA, resOf, Option.some.injEq, exists_eq_left', beq_self_eq_true, decide_true, decide_false, decide_eq_true_eq, ne_eq, not_true_eq_false, not_false_eq_true, Bool.not_eq_true, beq_iff_eq, bin_add, bin_sub, bin_mul, bin_eql, bin_neq, bin_lss, bin_leq, bin_gtr, bin_geq, maxA, minA, Prod.mk.injEq, and_true, true_and, beq_eq_false_iff_ne, decide_eq_false_iff_not, Bool.true_beq, Bool.false_beq, beq_true, beq_false, Bool.not_true, Bool.not_false, List.getElem?_toArray, f0, f3, f4, f5, f6, f7, x10, p1, rem12, cv53 (n % 12) (by omega), hw2, eql22n, empty_eq, x11, c11, x12, c12, he, h1, eqB4, x_awake]
end Seat
end CI
