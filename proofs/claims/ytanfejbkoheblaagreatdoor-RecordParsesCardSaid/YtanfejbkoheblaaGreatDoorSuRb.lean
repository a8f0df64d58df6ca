/- record, walked: its small functions, words that are built, and a record's line. -/
import Derived.Test.YtanfejbkoheblaaGreatDoorSuM3
import Derived.Test.YtanfejbkoheblaaGreatDoorSuM13
import Derived.Test.YtanfejbkoheblaaGreatDoorSuM14
import Derived.Test.YtanfejbkoheblaaGreatDoorSuM5
set_option linter.unusedVariables false
set_option linter.unusedSimpArgs false
set_option maxRecDepth 10000
namespace CI
open Go
namespace Seat
open Quo Rcd Spl
variable {H : Heap} {nx : Nat}
def SL (n0 : Nat) (H : Heap) (nx : Nat) (v : AV) (ws : List W) : Prop :=
  (v = .lit (.slice none 0 0) ∧ ws = []) ∨ ∃ c k, n0 ≤ c ∧ c < nx ∧ v = .slice c 0 ws.length k 1 ∧ (k = none ∨ k = some ws.length) ∧ ws ≠ [] ∧ H.get c = some (.cells (ws.map strA) 9 false)
theorem one_strA : ∀ l : List W, (l.map strA).all one = true
  | [] => rfl
  | b :: l => by simp only [List.map_cons, List.all_cons, one_strA l, Bool.and_true]; rfl
theorem cut_all {l : List AV} {n : Nat} (h : l.length = n) : cut l 0 n = some l := by
  have : l.take n = l := List.take_of_length_le (by omega)
  simp [cut, this, h]
theorem SL.src {n0 : Nat} {v : AV} {ws : List W} (h : SL n0 H nx v ws) : srcCells H 1 v = some (ws.length, ws.map strA) := by
  rcases h with ⟨rfl, rfl⟩ | ⟨c, k, _, _, rfl, _, _, hc⟩
  · rfl
  · simp only [srcCells, hc, if_true, Nat.mul_one]
    rw [cut_all (by simp)]
    rfl
theorem SL.mono {n0 : Nat} {v : AV} {ws : List W} (h : SL n0 H nx v ws) {H' : Heap} {nx' : Nat} (hF : Fr H nx H' nx') : SL n0 H' nx' v ws := by
  rcases h with h | ⟨c, k, h1, h2, h3, h4, h5, h6⟩
  · exact .inl h
  · exact .inr ⟨c, k, h1, by have := hF.le; omega, h3, h4, h5, (hF.old c h2).trans h6⟩
structure FrO (n0 : Nat) (H : Heap) (nx : Nat) (H' : Heap) (nx' : Nat) : Prop where
  le : nx ≤ nx'
  old : ∀ c, c < n0 → H'.get c = H.get c
  fr : ∀ b, nx' ≤ b → H'.get b = none
theorem Fr.toO {n0 : Nat} {H' : Heap} {nx' : Nat} (h : Fr H nx H' nx') (hn : n0 ≤ nx) : FrO n0 H nx H' nx' := ⟨h.le, fun c hc => h.old c (by omega), h.fr⟩
theorem FrO.trans {n0 : Nat} {H1 H2 : Heap} {n1 n2 : Nat} (a : FrO n0 H nx H1 n1) (b : FrO n0 H1 n1 H2 n2) : FrO n0 H nx H2 n2 :=
  ⟨Nat.le_trans a.le b.le, fun c hc => (b.old c hc).trans (a.old c hc), b.fr⟩
theorem FrO.toFr {H' : Heap} {nx' : Nat} (h : FrO nx H nx H' nx') : Fr H nx H' nx' := ⟨h.le, h.old, h.fr⟩
theorem sl_app {n0 : Nat} {v x : AV} {ws more : List W} (h : SL n0 H nx v ws) (hs : srcCells H 1 x = some (more.length, more.map strA)) (hm : ws.length + more.length ≤ 100000000) (hn0 : n0 ≤ nx) (hfr : ∀ b, nx ≤ b → H.get b = none) :
    ∃ v' H' nx', appendOp cx.T H nx 100 v 100 x = some (v', H', nx') ∧ SL n0 H' nx' v' (ws ++ more) ∧ FrO n0 H nx H' nx' := by
  by_cases hz : more = []
  · subst hz
    refine ⟨v, H, nx, ?_, by simpa using h, ⟨Nat.le_refl _, fun _ _ => rfl, hfr⟩⟩
    unfold appendOp
    simp only [T100, ti100, T9, ti9, isIntD, hs, Bool.false_eq_true, if_false, List.length_nil]
    rcases h with ⟨rfl, rfl⟩ | ⟨c, k, _, _, rfl, _, _, hc⟩ <;> rfl
  · have hmne : more.length ≠ 0 := by simpa using hz
    rcases h with ⟨rfl, rfl⟩ | ⟨c, k, c1, c2, rfl, hk, hne, hc⟩
    · refine ⟨.slice nx 0 more.length none 1, H.put nx (some (.cells (more.map strA) 9 false)), nx + 1, ?_, .inr ⟨nx, none, hn0, by omega, by simp, .inl rfl, by simpa using hz, by rw [Tr.get_put_same]; simp⟩, ⟨by omega, fun c hc => Tr.get_put_ne _ _ _ _ (by omega), fun b hb => by rw [Tr.get_put_ne _ _ _ _ (by omega)]; exact hfr b (by omega)⟩⟩
      unfold appendOp
      simp only [T100, ti100, T9, ti9, isIntD, hs, Bool.false_eq_true, if_false]
      rw [if_neg hmne, if_pos (by unfold appLim; simp only [decide_eq_true_eq]; simp at hm; omega)]
    · have hal : ∀ b, 0 < b → b ≤ 16 → appLim ws.length more.length b = true := fun b h1 h2 => by
        unfold appLim
        simp only [decide_eq_true_eq]
        refine ⟨?_, h1⟩
        calc (2 * (ws.length + more.length) + 1000) * b ≤ (2 * (ws.length + more.length) + 1000) * 16 := Nat.mul_le_mul_left _ h2
          _ ≤ 140737488355328 := by omega
      have hcut : cut (ws.map strA) 0 (ws.length * 1) = some (ws.map strA) := cut_all (by simp)
      have hl : (ws ++ more).map strA = ws.map strA ++ more.map strA := by simp
      rcases hk with rfl | rfl
      · refine ⟨.slice nx 0 (ws.length + more.length) none 1, (H.put c none).put nx (some (.cells (ws.map strA ++ more.map strA) 9 false)), nx + 1, ?_, .inr ⟨nx, none, hn0, by omega, by simp, .inl rfl, by simp [hz], by rw [Tr.get_put_same, hl]⟩,
          ⟨by omega, fun b hb => by rw [Tr.get_put_ne _ _ _ _ (by omega), Tr.get_put_ne _ _ _ _ (by omega)], fun b hb => by rw [Tr.get_put_ne _ _ _ _ (by omega), Tr.get_put_ne _ _ _ _ (by omega)]; exact hfr b (by omega)⟩⟩
        unfold appendOp
        simp only [T100, ti100, T9, ti9, isIntD, hs, Bool.false_eq_true, if_false, hc]
        rw [if_neg hmne, if_neg (by simp), if_neg (by simp; omega), hcut]
        simp only
        rw [if_pos ⟨hal _ (by omega) (by omega), trivial, trivial, one_strA _, trivial⟩]
      · refine ⟨.slice nx 0 (ws.length + more.length) none 1, H.put nx (some (.cells (ws.map strA ++ more.map strA) 9 false)), nx + 1, ?_, .inr ⟨nx, none, hn0, by omega, by simp, .inl rfl, by simp [hz], by rw [Tr.get_put_same, hl]⟩,
          ⟨by omega, fun b hb => by rw [Tr.get_put_ne _ _ _ _ (by omega)], fun b hb => by rw [Tr.get_put_ne _ _ _ _ (by omega)]; exact hfr b (by omega)⟩⟩
        unfold appendOp
        simp only [T100, ti100, T9, ti9, isIntD, hs, Bool.false_eq_true, if_false, hc]
        rw [if_neg hmne, if_neg (by simp), if_neg (by omega), hcut]
        simp only
        rw [if_pos (hal _ (by omega) (by omega))]
theorem bsl1 (s : W) : buildSliceOp cx.T H nx 100 1 [(0, strA s)] = some (.slice nx 0 1 (some 1) 1, H.put nx (some (.cells [strA s] 9 false)), nx + 1) := by kernel_rfl
theorem bsl4 (a b c d : W) : buildSliceOp cx.T H nx 100 4 [(0, strA a), (1, strA b), (2, strA c), (3, strA d)] = some (.slice nx 0 4 (some 4) 1, H.put nx (some (.cells [strA a, strA b, strA c, strA d] 9 false)), nx + 1) := by kernel_rfl
theorem src_put {ws : List W} {n : Nat} {k : Option Nat} (h : ws.length = n) : srcCells (H.put nx (some (.cells (ws.map strA) 9 false))) 1 (.slice nx 0 n k 1) = some (ws.length, ws.map strA) := by
  simp only [srcCells, Tr.get_put_same, if_true, Nat.mul_one]
  rw [cut_all (by simp [h]), h]
  rfl
theorem SL.lit (ws : List W) (hz : ws ≠ []) {n : Nat} (h : ws.length = n) : SL nx (H.put nx (some (.cells (ws.map strA) 9 false))) (nx + 1) (.slice nx 0 n (some n) 1) ws :=
  .inr ⟨nx, some n, Nat.le_refl _, by omega, by rw [h], .inr (by rw [h]), hz, Tr.get_put_same _ _ _⟩
def intA (n : Int) : AV := .lit (.int .i64 n)
theorem ix_int {b n i : Nat} {c : Option Nat} (h : i < n) : indexAddrOp cx.T 117 (.slice b 0 n c 1) (.lit (.int .i64 i)) = some (.ptr b i) := by
  have t1 : cx.T.get 117 = some ti117 := by kernel_rfl
  have t2 : cx.T.get 3 = some ti3 := by kernel_rfl
  unfold indexAddrOp
  simp only [t1, t2, ti117, ti3]
  rw [if_pos ⟨by omega, by omega, trivial⟩]
  simp
theorem ln_int (H : Heap) (b o n : Nat) (c : Option Nat) : lenOp cx.T H 117 (.slice b o n c 1) = some n := by kernel_rfl
theorem numbers_cl {b n : Nat} {k : Option Nat} {l : List Int} (hl : ∀ n ∈ l, -9223372036854775808 ≤ n ∧ n ≤ 9223372036854775807) (hn : l.length = n) (hn2 : n ≤ 1000) (hb : H.get b = some (.cells (l.map intA) 3 false)) (hbn : b < nx) (hfr : ∀ b, nx ≤ b → H.get b = none) :
    ∃ v H' nx', Cl cx 75 [.slice b 0 n k 1] H nx = some (v, H', nx') ∧ (SL nx H' nx' v (l.map num) ∧ Fr H nx H' nx') := by
  refine wpP75 _ _ _ _ (by simp) ?_
  unfold s75
  simp only [↓aD, ↓aE, ↓aF, ↓aG, ↓aH, ↓aI, ↓aJ, ↓aK, aL, ↓aM, ↓aN, aO, stepA, opA, convA, isCall, put?, ev, aA, aQ, builtinA, callA, argEnv, wantedS, aR, aS, aT, aU, aV, aW, aX, aY, undef, z_none, bA, bB, bC, bD, bH, bI, extractOp, bK, bL, bM, bN, Nat.reduceLT, Nat.reduceEqDiff, Nat.reduceAdd, bR, bS, ↓reduceIte, reduceCtorEq, resA, resOf, cB, maxA, minA, ln_int]
  refine Wp_loop (fun m st => ∃ (i : Nat) (v : AV), m = n - i ∧ i ≤ n ∧ SL nx st.H st.nx v ((l.take i).map num) ∧ FrO nx H nx st.H st.nx ∧ st.env.get 3 = some v ∧ st.env.get 6 = some (.slice b 0 n k 1) ∧ st.env.get 7 = some (.lit (.int .i64 n)) ∧ st.env.get 8 = some (.lit (.int .i64 i))) ?_ n _
    ⟨0, .lit (.slice none 0 0), by omega, by omega, .inl ⟨rfl, rfl⟩, ⟨Nat.le_refl _, fun _ _ => rfl, hfr⟩, ?_⟩
  · rintro m ⟨E, H1, nx1⟩ ⟨i, v, hm, hi, hS, hF, e3, e6, e7, e8⟩
    simp only at hS hF e3 e6 e7 e8
    refine Wp_of ?_
    unfold s75_l0
    by_cases hlt : i < n
    · have hii : ((i : Int) < (n : Int)) = True := by simp; omega
      have hil : i < l.length := by omega
      have hb1 : H1.get b = _ := (hF.old b hbn).trans hb
      have hld : loadOp cx.T H1 3 (.ptr b i) = some (.lit (.int .i64 l[i])) := ld_at (by kernel_rfl) hb1 (by simp [List.getElem?_map, List.getElem?_eq_getElem hil, intA])
      have hnm := num_cl (H := H1) (nx := nx1) l[i] (hl _ (List.getElem_mem hil))
      obtain ⟨v2, H2, nx2, a1, a2, a3⟩ := sl_app (H := H1.put nx1 (some (.cells [strA (num l[i])] 9 false))) (nx := nx1 + 1) (n0 := nx) (v := v) (x := .slice nx1 0 1 (some 1) 1) (ws := (l.take i).map num) (more := [num l[i]])
        (hS.mono (Fr.put hF.fr _)) (src_put (ws := [num l[i]]) rfl) (by simp; omega) (by have := hF.le; omega) (Fr.put hF.fr _).fr
      have hw3 := wrapS (i := i) (by omega)
      have hbs := bsl1 (H := H1) (nx := nx1) (num l[i])
      unfold num at hbs a1
      simp only [↓aD, ↓aE, ↓aF, ↓aG, ↓aH, ↓aI, ↓aJ, ↓aK, aL, ↓aM, ↓aN, aO, stepA, opA, convA, isCall, put?, ev, aA, aQ, builtinA, callA, argEnv, wantedS, aR, aS, aT, aU, aV, aW, aX, aY, undef, z_none, bA, bB, bC, bD, bH, bI, extractOp, bK, bL, bM, bN, Nat.reduceLT, Nat.reduceEqDiff, Nat.reduceAdd, bR, bS, ↓reduceIte, reduceCtorEq, resA, resOf, cB, maxA, minA, x_none, e3, e6, e7, e8, hii, ix_int hlt, hld, hnm, partsA, hbs, a1, hw3]
      refine ⟨n - (i + 1), by omega, i + 1, v2, rfl, by omega, ?_, hF.trans (((Fr.put hF.fr _).toO hF.le).trans a3), rfl, rfl⟩
      rw [List.take_add_one, List.getElem?_eq_getElem hil, List.map_append]
      exact a2
    · obtain rfl : i = n := by omega
      have hii : ((i : Int) < (i : Int)) = False := by simp
      simp only [↓aD, ↓aE, ↓aF, ↓aG, ↓aH, ↓aI, ↓aJ, ↓aK, aL, ↓aM, ↓aN, aO, stepA, opA, convA, isCall, put?, ev, aA, aQ, builtinA, callA, argEnv, wantedS, aR, aS, aT, aU, aV, aW, aX, aY, undef, z_none, bA, bB, bC, bD, bH, bI, extractOp, bK, bL, bM, bN, Nat.reduceLT, Nat.reduceEqDiff, Nat.reduceAdd, bR, bS, ↓reduceIte, reduceCtorEq, resA, resOf, cB, maxA, minA, e3, e6, e7, e8, hii]
      rw [List.take_of_length_le (by omega)] at hS
      exact ⟨hS, hF.toFr⟩
  · simp only [↓aD, ↓aE, ↓aF, ↓aG, ↓aH, ↓aI, ↓aJ, ↓aK, aL, ↓aM, ↓aN, aO, stepA, opA, convA, isCall, put?, ev, aA, aQ, builtinA, callA, argEnv, wantedS, aR, aS, aT, aU, aV, aW, aX, aY, undef, z_none, bA, bB, bC, bD, bH, bI, extractOp, bK, bL, bM, bN, Nat.reduceLT, Nat.reduceEqDiff, Nat.reduceAdd, bR, bS, ↓reduceIte, reduceCtorEq, resA, resOf, cB, maxA, minA]
    simp
def recC (r : Rec) : List AV := [.lit (.int .i64 r.err), .lit (.int .i64 r.at_), .lit (.int .i64 r.kind), .lit (.int .i64 r.degree), .lit (.int .i64 r.most), strA r.x, strA r.y, strA r.z, .lit (.bool r.stops), .lit (.int .i64 r.places), .lit (.int .i64 r.live), .lit (.int .i64 r.pairs), .lit (.int .i64 r.triples), .lit (.int .i64 r.vectors)]
theorem fa39_0 (p o : Nat) : fieldAddrOp cx.T 39 (.ptr p o) 0 = some (.ptr p (o + 0)) := by kernel_rfl
theorem fa39_1 (p o : Nat) : fieldAddrOp cx.T 39 (.ptr p o) 1 = some (.ptr p (o + 1)) := by kernel_rfl
theorem fa39_2 (p o : Nat) : fieldAddrOp cx.T 39 (.ptr p o) 2 = some (.ptr p (o + 2)) := by kernel_rfl
theorem fa39_3 (p o : Nat) : fieldAddrOp cx.T 39 (.ptr p o) 3 = some (.ptr p (o + 3)) := by kernel_rfl
theorem fa39_4 (p o : Nat) : fieldAddrOp cx.T 39 (.ptr p o) 4 = some (.ptr p (o + 4)) := by kernel_rfl
theorem fa39_5 (p o : Nat) : fieldAddrOp cx.T 39 (.ptr p o) 5 = some (.ptr p (o + 5)) := by kernel_rfl
theorem fa39_6 (p o : Nat) : fieldAddrOp cx.T 39 (.ptr p o) 6 = some (.ptr p (o + 6)) := by kernel_rfl
theorem fa39_7 (p o : Nat) : fieldAddrOp cx.T 39 (.ptr p o) 7 = some (.ptr p (o + 7)) := by kernel_rfl
theorem fa39_8 (p o : Nat) : fieldAddrOp cx.T 39 (.ptr p o) 8 = some (.ptr p (o + 8)) := by kernel_rfl
theorem fa39_9 (p o : Nat) : fieldAddrOp cx.T 39 (.ptr p o) 9 = some (.ptr p (o + 9)) := by kernel_rfl
theorem fa39_10 (p o : Nat) : fieldAddrOp cx.T 39 (.ptr p o) 10 = some (.ptr p (o + 10)) := by kernel_rfl
theorem fa39_11 (p o : Nat) : fieldAddrOp cx.T 39 (.ptr p o) 11 = some (.ptr p (o + 11)) := by kernel_rfl
theorem fa39_12 (p o : Nat) : fieldAddrOp cx.T 39 (.ptr p o) 12 = some (.ptr p (o + 12)) := by kernel_rfl
theorem fa39_13 (p o : Nat) : fieldAddrOp cx.T 39 (.ptr p o) 13 = some (.ptr p (o + 13)) := by kernel_rfl
theorem rec_lds {p : Nat} {t : TypeId} {ro : Bool} {r : Rec} (h : H.get p = some (.cells (recC r) t ro)) :
    loadOp cx.T H 24 (.ptr p 0) = some (.lit (.int .i64 r.err)) ∧
    loadOp cx.T H 3 (.ptr p 1) = some (.lit (.int .i64 r.at_)) ∧
    loadOp cx.T H 3 (.ptr p 2) = some (.lit (.int .i64 r.kind)) ∧
    loadOp cx.T H 3 (.ptr p 3) = some (.lit (.int .i64 r.degree)) ∧
    loadOp cx.T H 3 (.ptr p 4) = some (.lit (.int .i64 r.most)) ∧
    loadOp cx.T H 9 (.ptr p 5) = some (strA r.x) ∧
    loadOp cx.T H 9 (.ptr p 6) = some (strA r.y) ∧
    loadOp cx.T H 9 (.ptr p 7) = some (strA r.z) ∧
    loadOp cx.T H 4 (.ptr p 8) = some (.lit (.bool r.stops)) ∧
    loadOp cx.T H 3 (.ptr p 9) = some (.lit (.int .i64 r.places)) ∧
    loadOp cx.T H 3 (.ptr p 10) = some (.lit (.int .i64 r.live)) ∧
    loadOp cx.T H 3 (.ptr p 11) = some (.lit (.int .i64 r.pairs)) ∧
    loadOp cx.T H 3 (.ptr p 12) = some (.lit (.int .i64 r.triples)) ∧
    loadOp cx.T H 3 (.ptr p 13) = some (.lit (.int .i64 r.vectors)) :=
  ⟨ld_at (by kernel_rfl) h rfl, ld_at (by kernel_rfl) h rfl, ld_at (by kernel_rfl) h rfl, ld_at (by kernel_rfl) h rfl, ld_at (by kernel_rfl) h rfl, ld_at (by kernel_rfl) h rfl, ld_at (by kernel_rfl) h rfl, ld_at (by kernel_rfl) h rfl, ld_at (by kernel_rfl) h rfl, ld_at (by kernel_rfl) h rfl, ld_at (by kernel_rfl) h rfl, ld_at (by kernel_rfl) h rfl, ld_at (by kernel_rfl) h rfl, ld_at (by kernel_rfl) h rfl⟩
theorem bx39 (r : Rec) : boxOp H nx 39 (.agg (recC r)) = some (.ptr nx 0, H.put nx (some (.cells (recC r) 39 false)), nx + 1) := by kernel_rfl
theorem min_if (a b : Int) : min a b = if b < a then b else a := by rw [Int.min_def]; split <;> split <;> omega
theorem min9 (P : Program) (a b c d e f g h i : Int) : foldOp P Builtin.min2 [.lit (.int .i64 a), .lit (.int .i64 b), .lit (.int .i64 c), .lit (.int .i64 d), .lit (.int .i64 e), .lit (.int .i64 f), .lit (.int .i64 g), .lit (.int .i64 h), .lit (.int .i64 i)] =
    some (.lit (.int .i64 (min (min (min (min (min (min (min (min a b) c) d) e) f) g) h) i))) := by
  simp only [min_if]
  rfl
theorem lit_yes : AV.lit (.string (ByteArray.mk #[121, 101, 115])) = strA wYes := rfl
theorem lit_no : AV.lit (.string (ByteArray.mk #[110, 111])) = strA wNo := rfl
theorem lit_unknown : AV.lit (.string (ByteArray.mk #[117, 110, 107, 110, 111, 119, 110])) = strA wUnknown := rfl
theorem lit_flat : AV.lit (.string (ByteArray.mk #[102, 108, 97, 116])) = strA wFlat := rfl
theorem lit_steep : AV.lit (.string (ByteArray.mk #[115, 116, 101, 101, 112])) = strA wSteep := rfl
theorem lit_wild : AV.lit (.string (ByteArray.mk #[119, 105, 108, 100])) = strA wWild := rfl
theorem lit_verdict : AV.lit (.string (ByteArray.mk #[118, 101, 114, 100, 105, 99, 116])) = strA wVerdict := rfl
theorem lit_pattern : AV.lit (.string (ByteArray.mk #[112, 97, 116, 116, 101, 114, 110])) = strA wPattern := rfl
theorem Fr.put2 (h : ∀ b, nx ≤ b → H.get b = none) (a b : Option AObj) : Fr H nx ((H.put nx a).put nx b) (nx + 1) :=
  ⟨Nat.le_succ _, fun c hc => by rw [Tr.get_put_ne _ _ _ _ (by omega), Tr.get_put_ne _ _ _ _ (by omega)], fun c hc => by rw [Tr.get_put_ne _ _ _ _ (by omega), Tr.get_put_ne _ _ _ _ (by omega)]; exact h c (by omega)⟩
theorem names_cl (hfr : ∀ b, nx ≤ b → H.get b = none) : ∃ H', Cl cx 55 [] H nx = some (.agg [strA wFlat, strA wSteep, strA wWild], H', nx + 1) ∧ Fr H nx H' (nx + 1) := by
  have hal : allocOp cx.T H nx 97 = some (.ptr nx 0, H.put nx (some (.cells [strA [], strA [], strA []] 97 false)), nx + 1) := by kernel_rfl
  have hbd : buildOp cx.T 97 [(0, strA wFlat), (1, strA wSteep), (2, strA wWild)] = some (.agg [strA wFlat, strA wSteep, strA wWild]) := by kernel_rfl
  have hst := st_all (H := H.put nx (some (.cells [strA [], strA [], strA []] 97 false))) (t := 97) (p := nx) (vs := [strA wFlat, strA wSteep, strA wWild]) (by kernel_rfl) (Tr.get_put_same _ _ _) rfl rfl
  have hld := ld_all (H := (H.put nx (some (.cells [strA [], strA [], strA []] 97 false))).put nx (some (.cells [strA wFlat, strA wSteep, strA wWild] 97 false))) (t := 97) (p := nx) (by kernel_rfl) (Tr.get_put_same _ _ _)
  refine ⟨_, ?_, Fr.put2 hfr (some (.cells [strA [], strA [], strA []] 97 false)) (some (.cells [strA wFlat, strA wSteep, strA wWild] 97 false))⟩
  refine wp55 _ _ _ _ (by simp) ?_
  unfold s55
  simp only [↓aD, ↓aE, ↓aF, ↓aG, ↓aH, ↓aI, ↓aJ, ↓aK, aL, ↓aM, ↓aN, aO, stepA, opA, convA, isCall, put?, ev, aA, aQ, builtinA, callA, argEnv, wantedS, aR, aS, aT, aU, aV, aW, aX, aY, undef, z_none, bA, bB, bC, bD, bH, bI, extractOp, bK, bL, bM, bN, Nat.reduceLT, Nat.reduceEqDiff, Nat.reduceAdd, bR, bS, ↓reduceIte, reduceCtorEq, resA, resOf, cB, maxA, minA, hal, partsA, lit_flat, lit_steep, lit_wild, hbd, hst, hld, Option.bind_some]
def nameW (k : Int) : W := if k = 0 then wFlat else if k = 1 then wSteep else if k = 2 then wWild else []
theorem ix_n0 : indexOp cx.P cx.T 97 (.agg [strA wFlat, strA wSteep, strA wWild]) (.lit (.int .i64 0)) = some (strA wFlat) := by kernel_rfl
theorem ix_n1 : indexOp cx.P cx.T 97 (.agg [strA wFlat, strA wSteep, strA wWild]) (.lit (.int .i64 1)) = some (strA wSteep) := by kernel_rfl
theorem ix_n2 : indexOp cx.P cx.T 97 (.agg [strA wFlat, strA wSteep, strA wWild]) (.lit (.int .i64 2)) = some (strA wWild) := by kernel_rfl
theorem ix_names (k : Int) (h0 : ¬ k < 0) (h3 : ¬ k ≥ 3) : indexOp cx.P cx.T 97 (.agg [strA wFlat, strA wSteep, strA wWild]) (.lit (.int .i64 k)) = some (strA (nameW k)) := by
  have : k = 0 ∨ k = 1 ∨ k = 2 := by omega
  rcases this with rfl | rfl | rfl
  · exact ix_n0
  · exact ix_n1
  · exact ix_n2
theorem dname_cl (k : Int) (hfr : ∀ b, nx ≤ b → H.get b = none) : ∃ H' nx', Cl cx 17 [.lit (.int .i64 k)] H nx = some (strA (nameW k), H', nx') ∧ Fr H nx H' nx' := by
  obtain ⟨H1, n1, n2⟩ := names_cl hfr
  by_cases h0 : k < 0
  · refine ⟨H, nx, ?_, Fr.refl hfr⟩
    refine wp17 _ _ _ _ (by simp) ?_
    unfold s17 nameW
    rw [if_neg (by omega), if_neg (by omega), if_neg (by omega)]
    simp only [↓aD, ↓aE, ↓aF, ↓aG, ↓aH, ↓aI, ↓aJ, ↓aK, aL, ↓aM, ↓aN, aO, stepA, opA, convA, isCall, put?, ev, aA, aQ, builtinA, callA, argEnv, wantedS, aR, aS, aT, aU, aV, aW, aX, aY, undef, z_none, bA, bB, bC, bD, bH, bI, extractOp, bK, bL, bM, bN, Nat.reduceLT, Nat.reduceEqDiff, Nat.reduceAdd, bR, bS, ↓reduceIte, reduceCtorEq, resA, resOf, cB, maxA, minA, h0]
    rfl
  · by_cases h3 : k ≥ 3
    · refine ⟨H, nx, ?_, Fr.refl hfr⟩
      refine wp17 _ _ _ _ (by simp) ?_
      unfold s17 nameW
      rw [if_neg (by omega), if_neg (by omega), if_neg (by omega)]
      simp only [↓aD, ↓aE, ↓aF, ↓aG, ↓aH, ↓aI, ↓aJ, ↓aK, aL, ↓aM, ↓aN, aO, stepA, opA, convA, isCall, put?, ev, aA, aQ, builtinA, callA, argEnv, wantedS, aR, aS, aT, aU, aV, aW, aX, aY, undef, z_none, bA, bB, bC, bD, bH, bI, extractOp, bK, bL, bM, bN, Nat.reduceLT, Nat.reduceEqDiff, Nat.reduceAdd, bR, bS, ↓reduceIte, reduceCtorEq, resA, resOf, cB, maxA, minA, h0, h3]
      rfl
    · refine ⟨H1, nx + 1, ?_, n2⟩
      refine wp17 _ _ _ _ (by simp) ?_
      unfold s17
      simp only [↓aD, ↓aE, ↓aF, ↓aG, ↓aH, ↓aI, ↓aJ, ↓aK, aL, ↓aM, ↓aN, aO, stepA, opA, convA, isCall, put?, ev, aA, aQ, builtinA, callA, argEnv, wantedS, aR, aS, aT, aU, aV, aW, aX, aY, undef, z_none, bA, bB, bC, bD, bH, bI, extractOp, bK, bL, bM, bN, Nat.reduceLT, Nat.reduceEqDiff, Nat.reduceAdd, bR, bS, ↓reduceIte, reduceCtorEq, resA, resOf, cB, maxA, minA, h0, h3, x_none, n1, ix_names k h0 h3]
theorem rKind_cl (k : Int) (hfr : ∀ b, nx ≤ b → H.get b = none) : ∃ H' nx', Cl cx 40 [.lit (.int .i64 k)] H nx = some (strA (kindW k), H', nx') ∧ Fr H nx H' nx' := by
  obtain ⟨H1, nx1, n1, n2⟩ := dname_cl k hfr
  by_cases h3 : k = 3
  · refine ⟨H, nx, ?_, Fr.refl hfr⟩
    refine wp40 _ _ _ _ (by simp) ?_
    unfold s40 kindW
    rw [if_neg (by omega), if_neg (by omega), if_neg (by omega), if_pos h3]
    simp only [↓aD, ↓aE, ↓aF, ↓aG, ↓aH, ↓aI, ↓aJ, ↓aK, aL, ↓aM, ↓aN, aO, stepA, opA, convA, isCall, put?, ev, aA, aQ, builtinA, callA, argEnv, wantedS, aR, aS, aT, aU, aV, aW, aX, aY, undef, z_none, bA, bB, bC, bD, bH, bI, extractOp, bK, bL, bM, bN, Nat.reduceLT, Nat.reduceEqDiff, Nat.reduceAdd, bR, bS, ↓reduceIte, reduceCtorEq, resA, resOf, cB, maxA, minA, h3, lit_unknown]
  · refine ⟨H1, nx1, ?_, n2⟩
    have he : kindW k = nameW k := by unfold kindW nameW; rw [if_neg h3]
    rw [he]
    refine wp40 _ _ _ _ (by simp) ?_
    unfold s40
    simp only [↓aD, ↓aE, ↓aF, ↓aG, ↓aH, ↓aI, ↓aJ, ↓aK, aL, ↓aM, ↓aN, aO, stepA, opA, convA, isCall, put?, ev, aA, aQ, builtinA, callA, argEnv, wantedS, aR, aS, aT, aU, aV, aW, aX, aY, undef, z_none, bA, bB, bC, bD, bH, bI, extractOp, bK, bL, bM, bN, Nat.reduceLT, Nat.reduceEqDiff, Nat.reduceAdd, bR, bS, ↓reduceIte, reduceCtorEq, resA, resOf, cB, maxA, minA, h3, x_none, n1]
def nm3 : List W := [wFlat, wSteep, wWild]
def ixNames (w : W) : Int := if w = wFlat then 0 else if w = wSteep then 1 else if w = wWild then 2 else -1
theorem ixNames_at {w : W} {i : Nat} (hi : i < 3) (hno : ∀ j, j < i → w ≠ nm3.getD j []) (he : w = nm3.getD i []) : ixNames w = i := by
  have h3 : i = 0 ∨ i = 1 ∨ i = 2 := by omega
  rcases h3 with rfl | rfl | rfl
  · subst he; rfl
  · subst he; rfl
  · subst he; rfl
theorem ixNames_no {w : W} (hno : ∀ j, j < 3 → w ≠ nm3.getD j []) : ixNames w = -1 := by
  have a0 : w ≠ wFlat := hno 0 (by omega)
  have a1 : w ≠ wSteep := hno 1 (by omega)
  have a2 : w ≠ wWild := hno 2 (by omega)
  unfold ixNames
  rw [if_neg a0, if_neg a1, if_neg a2]
theorem index_cl (w : W) {b : Nat} (hb : H.get b = some (.cells [strA wFlat, strA wSteep, strA wWild] 97 false)) {k : Option Nat} :
    Cl cx 56 [.slice b 0 3 k 1, strA w] H nx = some (.lit (.int .i64 (ixNames w)), H, nx) := by
  refine wp56 _ _ _ _ (by simp) ?_
  unfold s56
  have hln : ∀ H, lenOp cx.T H 100 (.slice b 0 3 k 1) = some 3 := fun H => by kernel_rfl
  simp only [↓aD, ↓aE, ↓aF, ↓aG, ↓aH, ↓aI, ↓aJ, ↓aK, aL, ↓aM, ↓aN, aO, stepA, opA, convA, isCall, put?, ev, aA, aQ, builtinA, callA, argEnv, wantedS, aR, aS, aT, aU, aV, aW, aX, aY, undef, z_none, bA, bB, bC, bD, bH, bI, extractOp, bK, bL, bM, bN, Nat.reduceLT, Nat.reduceEqDiff, Nat.reduceAdd, bR, bS, ↓reduceIte, reduceCtorEq, resA, resOf, cB, maxA, minA, hln]
  refine Wp_loop (fun m st => ∃ i : Nat, m = 3 - i ∧ i ≤ 3 ∧ (∀ j, j < i → w ≠ nm3.getD j []) ∧ st.H = H ∧ st.nx = nx ∧ st.env.get 0 = some (.slice b 0 3 k 1) ∧ st.env.get 1 = some (strA w) ∧ st.env.get 6 = some (.slice b 0 3 k 1) ∧ st.env.get 7 = some (.lit (.int .i64 (3 : Nat))) ∧ st.env.get 8 = some (.lit (.int .i64 i))) ?_ 3 _ ⟨0, by omega, by omega, fun j h => by omega, ?_⟩
  · rintro m ⟨E, H1, nx1⟩ ⟨i, hm, hi, hno, q1, q2, e0, e1, e6, e7, e8⟩
    simp only at q1 q2 e0 e1 e6 e7 e8; subst q1; subst q2
    refine Wp_of ?_
    unfold s56_l0
    by_cases hlt : i < 3
    · have hii : ((i : Int) < ((3 : Nat) : Int)) = True := by simp; omega
      have hix : indexAddrOp cx.T 100 (.slice b 0 3 k 1) (.lit (.int .i64 (i : Int))) = some (.ptr b i) := ix100 hlt
      have hld : loadOp cx.T H1 9 (.ptr b i) = some (strA (nm3.getD i [])) := by
        have h3 : i = 0 ∨ i = 1 ∨ i = 2 := by omega
        rcases h3 with rfl | rfl | rfl <;> exact ld_at (by kernel_rfl) hb rfl
      have hw := wrapS (i := i) (by omega)
      by_cases he : w = nm3.getD i []
      · have hx := ixNames_at hlt hno he
        have hd : decide (w = nm3.getD i []) = true := by simpa using he
        simp only [↓aD, ↓aE, ↓aF, ↓aG, ↓aH, ↓aI, ↓aJ, ↓aK, aL, ↓aM, ↓aN, aO, stepA, opA, convA, isCall, put?, ev, aA, aQ, builtinA, callA, argEnv, wantedS, aR, aS, aT, aU, aV, aW, aX, aY, undef, z_none, bA, bB, bC, bD, bH, bI, extractOp, bK, bL, bM, bN, Nat.reduceLT, Nat.reduceEqDiff, Nat.reduceAdd, bR, bS, ↓reduceIte, reduceCtorEq, resA, resOf, cB, maxA, minA, e0, e1, e6, e7, e8, hii, hix, hld, str_eql, hd, hx]
      · have hd : decide (w = nm3.getD i []) = false := by simpa using he
        simp only [↓aD, ↓aE, ↓aF, ↓aG, ↓aH, ↓aI, ↓aJ, ↓aK, aL, ↓aM, ↓aN, aO, stepA, opA, convA, isCall, put?, ev, aA, aQ, builtinA, callA, argEnv, wantedS, aR, aS, aT, aU, aV, aW, aX, aY, undef, z_none, bA, bB, bC, bD, bH, bI, extractOp, bK, bL, bM, bN, Nat.reduceLT, Nat.reduceEqDiff, Nat.reduceAdd, bR, bS, ↓reduceIte, reduceCtorEq, resA, resOf, cB, maxA, minA, e0, e1, e6, e7, e8, hii, hix, hld, str_eql, hd, hw]
        refine ⟨3 - (i + 1), by omega, i + 1, rfl, by omega, fun j hj => ?_, rfl⟩
        by_cases hji : j = i
        · subst hji; exact he
        · exact hno j (by omega)
    · obtain rfl : i = 3 := by omega
      have hii : (((3 : Nat) : Int) < ((3 : Nat) : Int)) = False := by simp
      simp only [↓aD, ↓aE, ↓aF, ↓aG, ↓aH, ↓aI, ↓aJ, ↓aK, aL, ↓aM, ↓aN, aO, stepA, opA, convA, isCall, put?, ev, aA, aQ, builtinA, callA, argEnv, wantedS, aR, aS, aT, aU, aV, aW, aX, aY, undef, z_none, bA, bB, bC, bD, bH, bI, extractOp, bK, bL, bM, bN, Nat.reduceLT, Nat.reduceEqDiff, Nat.reduceAdd, bR, bS, ↓reduceIte, reduceCtorEq, resA, resOf, cB, maxA, minA, e0, e1, e6, e7, e8, hii, ixNames_no hno]
  · simp only [↓aD, ↓aE, ↓aF, ↓aG, ↓aH, ↓aI, ↓aJ, ↓aK, aL, ↓aM, ↓aN, aO, stepA, opA, convA, isCall, put?, ev, aA, aQ, builtinA, callA, argEnv, wantedS, aR, aS, aT, aU, aV, aW, aX, aY, undef, z_none, bA, bB, bC, bD, bH, bI, extractOp, bK, bL, bM, bN, Nat.reduceLT, Nat.reduceEqDiff, Nat.reduceAdd, bR, bS, ↓reduceIte, reduceCtorEq, resA, resOf, cB, maxA, minA]
    simp
def dkindQ (w : W) : Int × Bool := (max (ixNames w) 0, decide (ixNames w ≥ 0))
theorem dkind_cl (w : W) (hfr : ∀ b, nx ≤ b → H.get b = none) : ∃ H' nx', Cl cx 16 [strA w] H nx = some (.tuple [.lit (.int .i64 (dkindQ w).1), .lit (.bool (dkindQ w).2)], H', nx') ∧ Fr H nx H' nx' := by
  obtain ⟨H1, n1, n2⟩ := names_cl hfr
  have hal : allocOp cx.T H1 (nx + 1) 97 = some (.ptr (nx + 1) 0, H1.put (nx + 1) (some (.cells [strA [], strA [], strA []] 97 false)), nx + 1 + 1) := by kernel_rfl
  have hst := st_all (H := H1.put (nx + 1) (some (.cells [strA [], strA [], strA []] 97 false))) (t := 97) (p := nx + 1) (vs := [strA wFlat, strA wSteep, strA wWild]) (by kernel_rfl) (Tr.get_put_same _ _ _) rfl rfl
  have t3 : cx.T.get 97 = some ti97 := by kernel_rfl
  have hsl : sliceOp cx.P cx.T ((H1.put (nx + 1) (some (.cells [strA [], strA [], strA []] 97 false))).put (nx + 1) (some (.cells [strA wFlat, strA wSteep, strA wWild] 97 false))) 97 (.ptr (nx + 1) 0) none none none = some (.slice (nx + 1) 0 3 (some 3) 1) := by
    unfold sliceOp
    simp only [t3, ti97, T9, ti9, Tr.get_put_same]
    rfl
  have hix := index_cl (H := (H1.put (nx + 1) (some (.cells [strA [], strA [], strA []] 97 false))).put (nx + 1) (some (.cells [strA wFlat, strA wSteep, strA wWild] 97 false))) (nx := nx + 1 + 1) w (k := some 3) (Tr.get_put_same _ _ _)
  refine ⟨_, _, ?_, n2.trans (Fr.put2 n2.fr (some (.cells [strA [], strA [], strA []] 97 false)) (some (.cells [strA wFlat, strA wSteep, strA wWild] 97 false)))⟩
  refine wp16 _ _ _ _ (by simp) ?_
  unfold s16 dkindQ
  simp only [↓aD, ↓aE, ↓aF, ↓aG, ↓aH, ↓aI, ↓aJ, ↓aK, aL, ↓aM, ↓aN, aO, stepA, opA, convA, isCall, put?, ev, aA, aQ, builtinA, callA, argEnv, wantedS, aR, aS, aT, aU, aV, aW, aX, aY, undef, z_none, bA, bB, bC, bD, bH, bI, extractOp, bK, bL, bM, bN, Nat.reduceLT, Nat.reduceEqDiff, Nat.reduceAdd, bR, bS, ↓reduceIte, reduceCtorEq, resA, resOf, cB, maxA, minA, x_none, n1, hal, hst, hsl, hix, maxA]
theorem rkind_cl (w : W) (hfr : ∀ b, nx ≤ b → H.get b = none) : ∃ H' nx', Cl cx 147 [strA w] H nx = some (.tuple [.lit (.int .i64 (kindQ w).1), .lit (.bool (kindQ w).2)], H', nx') ∧ Fr H nx H' nx' := by
  obtain ⟨H1, nx1, n1, n2⟩ := dkind_cl w hfr
  by_cases h3 : w = wUnknown
  · refine ⟨H, nx, ?_, Fr.refl hfr⟩
    refine wp147 _ _ _ _ (by simp) ?_
    unfold s147 kindQ
    rw [if_pos h3]
    simp only [↓aD, ↓aE, ↓aF, ↓aG, ↓aH, ↓aI, ↓aJ, ↓aK, aL, ↓aM, ↓aN, aO, stepA, opA, convA, isCall, put?, ev, aA, aQ, builtinA, callA, argEnv, wantedS, aR, aS, aT, aU, aV, aW, aX, aY, undef, z_none, bA, bB, bC, bD, bH, bI, extractOp, bK, bL, bM, bN, Nat.reduceLT, Nat.reduceEqDiff, Nat.reduceAdd, bR, bS, ↓reduceIte, reduceCtorEq, resA, resOf, cB, maxA, minA, lit_unknown, str_eql, h3]
  · refine ⟨H1, nx1, ?_, n2⟩
    have he : kindQ w = dkindQ w := by
      unfold kindQ dkindQ ixNames
      rw [if_neg h3]
      split
      · rfl
      · split
        · rfl
        · split <;> rfl
    rw [he]
    refine wp147 _ _ _ _ (by simp) ?_
    unfold s147
    simp only [↓aD, ↓aE, ↓aF, ↓aG, ↓aH, ↓aI, ↓aJ, ↓aK, aL, ↓aM, ↓aN, aO, stepA, opA, convA, isCall, put?, ev, aA, aQ, builtinA, callA, argEnv, wantedS, aR, aS, aT, aU, aV, aW, aX, aY, undef, z_none, bA, bB, bC, bD, bH, bI, extractOp, bK, bL, bM, bN, Nat.reduceLT, Nat.reduceEqDiff, Nat.reduceAdd, bR, bS, ↓reduceIte, reduceCtorEq, resA, resOf, cB, maxA, minA, lit_unknown, str_eql, h3, x_none, n1]
theorem rflag_cl (b : Bool) : Cl cx 77 [.lit (.bool b)] H nx = some (strA (flagW b), H, nx) := by
  refine wp77 _ _ _ _ (by simp) ?_
  unfold s77
  cases b <;> simp only [↓aD, ↓aE, ↓aF, ↓aG, ↓aH, ↓aI, ↓aJ, ↓aK, aL, ↓aM, ↓aN, aO, stepA, opA, convA, isCall, put?, ev, aA, aQ, builtinA, callA, argEnv, wantedS, aR, aS, aT, aU, aV, aW, aX, aY, undef, z_none, bA, bB, bC, bD, bH, bI, extractOp, bK, bL, bM, bN, Nat.reduceLT, Nat.reduceEqDiff, Nat.reduceAdd, bR, bS, ↓reduceIte, reduceCtorEq, resA, resOf, cB, maxA, minA, lit_yes, lit_no] <;> rfl
theorem kindW_nil (k : Int) : kindW k = [] ↔ ¬ (0 ≤ k ∧ k ≤ 3) := by
  unfold kindW
  by_cases h0 : k = 0
  · subst h0; simp [wFlat]
  · rw [if_neg h0]
    by_cases h1 : k = 1
    · subst h1; simp [wSteep]
    · rw [if_neg h1]
      by_cases h2 : k = 2
      · subst h2; simp [wWild]
      · rw [if_neg h2]
        by_cases h3 : k = 3
        · subst h3; simp [wUnknown]
        · rw [if_neg h3]; simp; omega
theorem told_cl (r : Rec) (hfr : ∀ b, nx ≤ b → H.get b = none) : ∃ H' nx', Cl cx 74 [.agg (recC r)] H nx = some (.lit (.bool (decide r.told)), H', nx') ∧ Fr H nx H' nx' := by
  have hF := Fr.put hfr (some (.cells (recC r) 39 false))
  obtain ⟨H1, nx1, n1, n2⟩ := rKind_cl (H := H.put nx (some (.cells (recC r) 39 false))) (nx := nx + 1) r.kind hF.fr
  obtain ⟨l0, l1, l2, l3, l4, l5, l6, l7, l8, l9, l10, l11, l12, l13⟩ := rec_lds (H := H.put nx (some (.cells (recC r) 39 false))) (Tr.get_put_same _ _ _)
  obtain ⟨m, hm⟩ : ∃ m, min (min (min (min (min (min (min (min r.err r.at_) r.degree) r.most) r.places) r.live) r.pairs) r.triples) r.vectors = m := ⟨_, rfl⟩
  have hge : m ≥ 0 ↔ ∀ n ∈ r.nums, 0 ≤ n := by
    simp only [Rec.nums, List.mem_cons, List.not_mem_nil, or_false, forall_eq_or_imp, forall_eq]
    omega
  have hmin := min9 cx.P r.err r.at_ r.degree r.most r.places r.live r.pairs r.triples r.vectors
  rw [hm] at hmin
  have hnil : AV.lit (.string (ByteArray.mk #[])) = strA [] := rfl
  by_cases c1 : m ≥ 0
  · by_cases c2 : r.err ≤ 10
    · refine ⟨H1, nx1, ?_, hF.trans n2⟩
      have hd : decide r.told = decide (kindW r.kind ≠ []) := by
        rw [decide_eq_decide, ne_eq, kindW_nil]
        unfold Rec.told
        rw [← hge]
        constructor
        · rintro ⟨_, _, h3, h4⟩; simp; exact ⟨h3, h4⟩
        · intro h; simp at h; exact ⟨c1, c2, h.1, h.2⟩
      rw [hd]
      refine wp74 _ _ _ _ (by simp) ?_
      unfold s74
      simp only [↓aD, ↓aE, ↓aF, ↓aG, ↓aH, ↓aI, ↓aJ, ↓aK, aL, ↓aM, ↓aN, aO, stepA, opA, convA, isCall, put?, ev, aA, aQ, builtinA, callA, argEnv, wantedS, aR, aS, aT, aU, aV, aW, aX, aY, undef, z_none, bA, bB, bC, bD, bH, bI, extractOp, bK, bL, bM, bN, Nat.reduceLT, Nat.reduceEqDiff, Nat.reduceAdd, bR, bS, ↓reduceIte, reduceCtorEq, resA, resOf, cB, maxA, minA, bx39, fa39_0, fa39_1, fa39_2, fa39_3, fa39_4, fa39_5, fa39_6, fa39_7, fa39_8, fa39_9, fa39_10, fa39_11, fa39_12, fa39_13, l0, l1, l2, l3, l4, l5, l6, l7, l8, l9, l10, l11, l12, l13, hmin, c1, c2, x_none, n1, hnil, str_neq]
    · refine ⟨_, _, ?_, hF⟩
      have hd : decide r.told = false := by simp only [decide_eq_false_iff_not]; rintro ⟨_, h, _⟩; exact c2 h
      rw [hd]
      refine wp74 _ _ _ _ (by simp) ?_
      unfold s74
      simp only [↓aD, ↓aE, ↓aF, ↓aG, ↓aH, ↓aI, ↓aJ, ↓aK, aL, ↓aM, ↓aN, aO, stepA, opA, convA, isCall, put?, ev, aA, aQ, builtinA, callA, argEnv, wantedS, aR, aS, aT, aU, aV, aW, aX, aY, undef, z_none, bA, bB, bC, bD, bH, bI, extractOp, bK, bL, bM, bN, Nat.reduceLT, Nat.reduceEqDiff, Nat.reduceAdd, bR, bS, ↓reduceIte, reduceCtorEq, resA, resOf, cB, maxA, minA, bx39, fa39_0, fa39_1, fa39_2, fa39_3, fa39_4, fa39_5, fa39_6, fa39_7, fa39_8, fa39_9, fa39_10, fa39_11, fa39_12, fa39_13, l0, l1, l2, l3, l4, l5, l6, l7, l8, l9, l10, l11, l12, l13, hmin, c1, c2]
  · refine ⟨_, _, ?_, hF⟩
    have hd : decide r.told = false := by simp only [decide_eq_false_iff_not]; rintro ⟨h, _⟩; exact c1 (hge.2 h)
    rw [hd]
    refine wp74 _ _ _ _ (by simp) ?_
    unfold s74
    simp only [↓aD, ↓aE, ↓aF, ↓aG, ↓aH, ↓aI, ↓aJ, ↓aK, aL, ↓aM, ↓aN, aO, stepA, opA, convA, isCall, put?, ev, aA, aQ, builtinA, callA, argEnv, wantedS, aR, aS, aT, aU, aV, aW, aX, aY, undef, z_none, bA, bB, bC, bD, bH, bI, extractOp, bK, bL, bM, bN, Nat.reduceLT, Nat.reduceEqDiff, Nat.reduceAdd, bR, bS, ↓reduceIte, reduceCtorEq, resA, resOf, cB, maxA, minA, bx39, fa39_0, fa39_1, fa39_2, fa39_3, fa39_4, fa39_5, fa39_6, fa39_7, fa39_8, fa39_9, fa39_10, fa39_11, fa39_12, fa39_13, l0, l1, l2, l3, l4, l5, l6, l7, l8, l9, l10, l11, l12, l13, hmin, c1]
end Seat
end CI
