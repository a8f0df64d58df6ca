/- Parts of the proof: Ri Rk Rm Rn Ro Rg Rp. -/
import Derived.Test.YtanfejbkoheblaaGreatDoorStM3
import Derived.Test.YtanfejbkoheblaaGreatDoorStRd
import Derived.Test.YtanfejbkoheblaaGreatDoorStM14
set_option linter.unusedVariables false
set_option linter.unusedSimpArgs false
set_option maxRecDepth 10000
namespace CI
open Go
namespace Seat
open Quo Rcd Spl
variable {H : Heap} {nx : Nat}
end Seat
end CI
set_option maxHeartbeats 1000000
namespace CI
open Go
namespace Seat
open Quo Rcd Spl
variable {H : Heap} {nx : Nat}
def Ent.zero : Ent := ⟨[], 0, Rec.zero⟩
theorem al75 : allocOp cx.T H nx 75 = some (.ptr nx 0, H.put nx (some (.cells (entC Ent.zero) 75 false)), nx + 1) := by kernel_rfl
theorem fa75_0 (p o : Nat) : fieldAddrOp cx.T 75 (.ptr p o) 0 = some (.ptr p o) := by kernel_rfl
theorem fa75_1 (p o : Nat) : fieldAddrOp cx.T 75 (.ptr p o) 1 = some (.ptr p (o + 1)) := by kernel_rfl
theorem fa75_2 (p o : Nat) : fieldAddrOp cx.T 75 (.ptr p o) 2 = some (.ptr p (o + 2)) := by kernel_rfl
theorem right_cl (m : Int) : Cl cx 91 [.lit (.int .i64 m)] H nx = some (.lit (.bool (decide (right m))), H, nx) := by
  by_cases h0 : m ≥ 0
  · have e : decide (right m) = decide (m ≤ 3) := by rw [decide_eq_decide]; show (0 ≤ m ∧ m ≤ 3) ↔ _; omega
    rw [e]
    refine wp91 _ _ _ _ (by simp) ?_
    unfold s91
    simp only [↓aA, ↓aB, ↓aC, ↓aD, ↓aE, ↓aF, ↓aG, ↓aH, aI, ↓aJ, ↓aK, aL, stepA, opA, convA, isCall, put?, ev, aM, aN, builtinA, callA, argEnv, wantedS, aO, aP, aQ, aR, aS, aT, aU, aV, aW, undef, z_none, aX, aY, aZ, bA, bB, bC, bD, bE, bF, bG, extractOp, bH, bI, bJ, bK, Nat.reduceLT, Nat.reduceEqDiff, Nat.reduceAdd, bL, bM, bN, bO, bP, ↓reduceIte, bQ, bR, reduceCtorEq, resA, resOf, bS, bT, bU, bV, bW, bX, bY, bZ, cA, cB, cC, cD, cE, cF, cG, cH, cI, cJ, cK, cL, maxA, minA, cM, cN, cO, cP, cQ, cR, cS, cT, cU, cV, cW, cX, h0]
  · have e : decide (right m) = false := by rw [decide_eq_false_iff_not]; show ¬ (0 ≤ m ∧ m ≤ 3); omega
    rw [e]
    refine wp91 _ _ _ _ (by simp) ?_
    unfold s91
    simp only [↓aA, ↓aB, ↓aC, ↓aD, ↓aE, ↓aF, ↓aG, ↓aH, aI, ↓aJ, ↓aK, aL, stepA, opA, convA, isCall, put?, ev, aM, aN, builtinA, callA, argEnv, wantedS, aO, aP, aQ, aR, aS, aT, aU, aV, aW, undef, z_none, aX, aY, aZ, bA, bB, bC, bD, bE, bF, bG, extractOp, bH, bI, bJ, bK, Nat.reduceLT, Nat.reduceEqDiff, Nat.reduceAdd, bL, bM, bN, bO, bP, ↓reduceIte, bQ, bR, reduceCtorEq, resA, resOf, bS, bT, bU, bV, bW, bX, bY, bZ, cA, cB, cC, cD, cE, cF, cG, cH, cI, cJ, cK, cL, maxA, minA, cM, cN, cO, cP, cQ, cR, cS, cT, cU, cV, cW, cX, h0]
end Seat
end CI
namespace CI
open Go
namespace Rcd
open Quo Spl
end Rcd
namespace Seat
open Quo Rcd Spl
variable {H : Heap} {nx : Nat}
def entsC (es : List Ent) : List AV := es.flatMap entC
def EL (n0 : Nat) (H : Heap) (nx : Nat) (v : AV) (es : List Ent) : Prop :=
  (v = .lit (.slice none 0 0) ∧ es = []) ∨ ∃ c k, n0 ≤ c ∧ c < nx ∧ v = .slice c 0 es.length k 16 ∧ (k = none ∨ k = some es.length) ∧ es ≠ [] ∧ H.get c = some (.cells (entsC es) 75 false)
theorem EL.mono {n0 : Nat} {v : AV} {es : List Ent} (h : EL n0 H nx v es) {H' : Heap} {nx' : Nat} (hn : nx ≤ nx') (ho : ∀ c, n0 ≤ c → c < nx → H'.get c = H.get c) : EL n0 H' nx' v es := by
  rcases h with h | ⟨c, k, h1, h2, h3, h4, h5, h6⟩
  · exact .inl h
  · exact .inr ⟨c, k, h1, by omega, h3, h4, h5, (ho c h1 h2).trans h6⟩
theorem bse (e : Ent) : buildSliceOp cx.T H nx 73 1 [(0, .agg (entC e))] = some (.slice nx 0 1 (some 1) 16, H.put nx (some (.cells (entC e) 75 false)), nx + 1) := by kernel_rfl
end Seat
end CI
namespace CI
open Go
namespace Seat
open Quo Rcd Spl
variable {H : Heap} {nx : Nat}
end Seat
end CI
namespace CI
open Go
namespace Rcd
open Quo Spl
theorem textW_app (a b : List Ent) : textW (a ++ b) = textW a ++ textW b := by simp [textW]
theorem entW_ne (e : Ent) : entW e ≠ [] := by simp [entW]
def Ent.tell (e : Ent) : Prop := e.rcd.told ∧ right e.mode
instance (e : Ent) : Decidable e.tell := inferInstanceAs (Decidable (_ ∧ _))
def repR (es : List Ent) : W × Int :=
  if ∃ e ∈ es, ¬ e.tell then ([], 1) else if 1048576 < (textW es).length then ([], 3) else (textW es, 0)
end Rcd
namespace Seat
open Quo Rcd Spl
variable {H : Heap} {nx : Nat}
structure EntOK (e : Ent) : Prop where
  r : e.rcd.ok
  s : Short e.rcd
  m : -9223372036854775808 ≤ e.mode ∧ e.mode ≤ 9223372036854775807
  p : e.pat.length ≤ 1000000
structure RdE (H : Heap) (nx : Nat) (v : AV) (es : List Ent) : Prop where
  ln : ∀ H', lenOp cx.T H' 73 v = some es.length
  ix : ∀ i (h : i < es.length), ∃ q o, q < nx ∧ indexAddrOp cx.T 73 v (.lit (.int .i64 (i : Int))) = some (.ptr q o) ∧ ∀ H', H'.get q = H.get q → loadOp cx.T H' 75 (.ptr q o) = some (.agg (entC es[i]))
theorem ld_off {t : TypeId} {p o : Nat} {cs vs : List AV} {tb : TypeId} {ro : Bool} (ht : (cx.T.get t).map (fun i => (i.agg, i.size)) = some (true, vs.length)) (hp : H.get p = some (.cells cs tb ro)) (hc : cut cs o vs.length = some vs) :
    loadOp cx.T H t (.ptr p o) = some (.agg vs) := by
  unfold loadOp
  simp only [Option.map_eq_some_iff, Prod.mk.injEq] at ht
  obtain ⟨i, h1, h2, h3⟩ := ht
  simp only [h1, hp, h2, h3, if_true, hc, Option.map_some]
theorem Bld.mono {n0 p o : Nat} {cs : List AV} {t : TypeId} {bs : List UInt8} (h : Bld n0 H nx p o cs t bs) {H' : Heap} {nx' : Nat} (hF : Fr H nx H' nx') : Bld n0 H' nx' p o cs t bs :=
  ⟨(hF.old p h.p1).trans h.hp, h.p0, Nat.lt_of_lt_of_le h.p1 hF.le, h.lies, h.self,
   by
    rcases h.buf with h | ⟨c, c1, c2, c3, c4, c5⟩
    · exact .inl h
    · exact .inr ⟨c, c1, c2, Nat.lt_of_lt_of_le c3 hF.le, c4, (hF.old c c3).trans c5⟩, hF.fr⟩
theorem app_bld2 {n0 p o : Nat} {cs : List AV} {t t2 : TypeId} {bs more : List UInt8} {x bf : AV} (hb : Bld n0 H nx p o cs t bs) (hself : cs[o]? = some (.ptr p o)) (hbf : cs[o + 1]? = some bf)
    (h2 : t2 = 81 ∨ t2 = 9) (hs : srcCells H 1 x = some (more.length, more.map byteA)) (h0 : more ≠ []) (hm : bs.length + more.length ≤ 1000000000) :
    ∃ H3 bf' H4, appendOp cx.T H nx 81 bf t2 x = some (bf', H3, nx + 1) ∧ storeOp cx.T H3 81 (.ptr p (o + 1)) bf' = some H4 ∧ Bld n0 H4 (nx + 1) p o (cs.set (o + 1) bf') t (bs ++ more) ∧
      ∀ c, c < nx → c ≠ p → (∀ n k, cs[o + 1]? ≠ some (.slice c 0 n k 1)) → H4.get c = H.get c := by
  have ho : o + 1 < cs.length := (List.getElem?_eq_some_iff.1 hbf).1
  have hp1 := hb.p1
  have hp0 := hb.p0
  have hne : more.length ≠ 0 := by simpa using h0
  have fin : ∀ (H3 : Heap) (k : Nat), k = bs.length + more.length → H3.get p = H.get p → H3.get nx = some (.cells ((bs ++ more).map byteA) 5 false) → (∀ c, nx < c → H3.get c = none) →
      storeOp cx.T H3 81 (.ptr p (o + 1)) (.slice nx 0 k none 1) = some (H3.put p (some (.cells (cs.set (o + 1) (.slice nx 0 k none 1)) t false))) ∧
      Bld n0 (H3.put p (some (.cells (cs.set (o + 1) (.slice nx 0 k none 1)) t false))) (nx + 1) p o (cs.set (o + 1) (.slice nx 0 k none 1)) t (bs ++ more) := by
    intro H3 k hk hp hn hf3
    refine ⟨st_at (by kernel_rfl) (hp.trans hb.hp) ho rfl rfl, ?_⟩
    exact {
      hp := Tr.get_put_same _ _ _
      p0 := hp0
      p1 := by omega
      lies := by simpa using hb.lies
      self := .inr (by rw [set_get (by omega)]; exact hself)
      buf := .inr ⟨nx, by omega, by omega, by omega, by simp [List.getElem?_set, ho, hk], by rw [Tr.get_put_ne _ _ _ _ (by omega)]; exact hn⟩
      fr := fun b h => by rw [Tr.get_put_ne _ _ _ _ (by omega)]; exact hf3 b (by omega) }
  rcases hb.buf with ⟨rfl, h⟩ | ⟨c, c1, c2, c3, c5, c6⟩
  · rw [hbf] at h
    injection h with h
    subst h
    obtain ⟨f1, f2⟩ := fin (H.put nx (some (.cells (more.map byteA) 5 false))) more.length (by simp) (by rw [Tr.get_put_ne _ _ _ _ (by omega)]) (by rw [Tr.get_put_same]; simp)
      (fun c hc => by rw [Tr.get_put_ne _ _ _ _ (by omega)]; exact hb.fr _ (by omega))
    exact ⟨_, _, _, app_nil h2 hs hne (by simpa using hm), f1, f2, fun c h1 h2 _ => by rw [Tr.get_put_ne _ _ _ _ (by omega), Tr.get_put_ne _ _ _ _ (by omega)]⟩
  · rw [hbf] at c5
    injection c5 with c5
    subst c5
    obtain ⟨f1, f2⟩ := fin ((H.put c none).put nx (some (.cells (bs.map byteA ++ more.map byteA) 5 false))) (bs.length + more.length) rfl
      (by rw [Tr.get_put_ne _ _ _ _ (by omega), Tr.get_put_ne _ _ _ _ (Ne.symm c1)]) (by rw [Tr.get_put_same]; simp)
      (fun c' hc => by rw [Tr.get_put_ne _ _ _ _ (by omega), Tr.get_put_ne _ _ _ _ (by omega)]; exact hb.fr _ (by omega))
    have ha := app_open (nx := nx) h2 c6 hs hne (by simp) (by simpa using hm) (one_byteA more)
    simp only [List.length_map] at ha
    exact ⟨_, _, _, ha, f1, f2, fun c' h1 h2 h3 => by
      have hcc : c' ≠ c := fun e => h3 bs.length none (by rw [e]; exact hbf)
      rw [Tr.get_put_ne _ _ _ _ (by omega), Tr.get_put_ne _ _ _ _ (by omega), Tr.get_put_ne _ _ _ _ hcc]⟩
theorem ws_cl2 {n0 p o : Nat} {cs : List AV} {t : TypeId} {bs : List UInt8} (hb : Bld n0 H nx p o cs t bs) (more : List UInt8) (h0 : more ≠ []) (hlen : bs.length + more.length ≤ 100000000) :
    ∃ H' nx' cs', Cl cx 70 [.ptr p o, strA more] H nx = some (.tuple [.lit (.int .i64 more.length), .lit .nilIface], H', nx') ∧ Bld n0 H' nx' p o cs' t (bs ++ more) ∧ nx ≤ nx' ∧
      ∀ c, c < nx → c ≠ p → (∀ n k, cs[o + 1]? ≠ some (.slice c 0 n k 1)) → H'.get c = H.get c := by
  obtain ⟨H1, cs1, k1, k2, k3, k4, k5, k6⟩ := cc_cl hb
  obtain ⟨bf, hbf⟩ : ∃ bf, cs1[o + 1]? = some bf := by
    rcases k2.buf with ⟨_, h⟩ | ⟨c, _, _, _, h, _⟩ <;> exact ⟨_, h⟩
  have hsrc : srcCells H1 1 (strA more) = some (more.length, more.map byteA) := by
    simp only [srcCells, strA, if_true, B_size, B_data]
    rfl
  obtain ⟨H3, bf', H4, a1, a2, a3, a4⟩ := app_bld2 (t2 := 9) (x := strA more) (more := more) k2 k3 hbf (.inr rfl) hsrc h0 (by omega)
  refine ⟨H4, nx + 1, cs1.set (o + 1) bf', ?_, a3, by omega, fun c h1 h2 h3 => ?_⟩
  · refine wp70 _ _ _ _ (by simp) ?_
    unfold s70
    simp only [↓aA, ↓aB, ↓aC, ↓aD, ↓aE, ↓aF, ↓aG, ↓aH, aI, ↓aJ, ↓aK, aL, stepA, opA, convA, isCall, put?, ev, aM, aN, builtinA, callA, argEnv, wantedS, aO, aP, aQ, aR, aS, aT, aU, aV, aW, undef, z_none, aX, aY, aZ, bA, bB, bC, bD, bE, bF, bG, extractOp, bH, bI, bJ, bK, Nat.reduceLT, Nat.reduceEqDiff, Nat.reduceAdd, bL, bM, bN, bO, bP, ↓reduceIte, bQ, bR, reduceCtorEq, resA, resOf, bS, bT, bU, bV, bW, bX, bY, bZ, cA, cB, cC, cD, cE, cF, cG, cH, cI, cJ, cK, cL, maxA, minA, cM, cN, cO, cP, cQ, cR, cS, cT, cU, cV, cW, cX, x_none, k1, nc_ptr, fa125_1, ld_at (t := 81) (by kernel_rfl) k2.hp hbf, a1, a2, str_len]
  · rw [a4 c h1 h2 (fun n k => by rw [k4 (o + 1) (by omega)]; exact h3 n k), k5 c h2]
theorem bsp (n : Int) (p : W) : buildSliceOp cx.T H nx 100 3 [(0, strA wPattern), (1, strA (Lib.itoa n)), (2, strA p)] = some (.slice nx 0 3 (some 3) 1, H.put nx (some (.cells [strA wPattern, strA (Lib.itoa n), strA p] 9 false)), nx + 1) := by kernel_rfl
theorem lit_nl : AV.lit (.string (ByteArray.mk #[10])) = strA [10] := rfl
theorem head_len {m : Int} {p : W} (hm : -9223372036854775808 ≤ m ∧ m ≤ 9223372036854775807) : (joi (headW m p)).length ≤ 4 * p.length + 40 := by
  have h1 := num_len m hm
  have h2 := writeW_len p
  have v : wPattern.length = 7 := rfl
  rw [joi_len]
  simp only [headW, List.map_cons, List.map_nil, List.sum_cons, List.sum_nil, List.length_cons, List.length_nil]
  omega
theorem rep_cl (es : List Ent) {v : AV} (hE : ∀ e ∈ es, EntOK e) (hR : RdE H nx v es) (hm : es.length ≤ 1000000) (hfr : ∀ b, nx ≤ b → H.get b = none) :
    ∃ v' H' nx', Cl cx 46 [v] H nx = some (v', H', nx') ∧ (v' = .tuple [strA (repR es).1, .lit (.int .i64 (repR es).2)] ∧ Fr H nx H' nx') := by
  refine wpP46 _ _ _ _ (by simp) ?_
  unfold s46
  simp only [↓aA, ↓aB, ↓aC, ↓aD, ↓aE, ↓aF, ↓aG, ↓aH, aI, ↓aJ, ↓aK, aL, stepA, opA, convA, isCall, put?, ev, aM, aN, builtinA, callA, argEnv, wantedS, aO, aP, aQ, aR, aS, aT, aU, aV, aW, undef, z_none, aX, aY, aZ, bA, bB, bC, bD, bE, bF, bG, extractOp, bH, bI, bJ, bK, Nat.reduceLT, Nat.reduceEqDiff, Nat.reduceAdd, bL, bM, bN, bO, bP, ↓reduceIte, bQ, bR, reduceCtorEq, resA, resOf, bS, bT, bU, bV, bW, bX, bY, bZ, cA, cB, cC, cD, cE, cF, cG, cH, cI, cJ, cK, cL, maxA, minA, cM, cN, cO, cP, cQ, cR, cS, cT, cU, cV, cW, cX, al125, hR.ln]
  refine Wp_loop (fun m st => ∃ (i j : Nat) (lg : Bool) (cs : List AV), m = es.length - i ∧ i ≤ es.length ∧ j ≤ i ∧ (∀ e ∈ es.take i, e.tell) ∧ Bld nx st.H st.nx nx 0 cs 125 (textW (es.take j)) ∧ (∀ c, c < nx → st.H.get c = H.get c) ∧ (lg = false → j = i) ∧ (lg = true → 1048576 < (textW (es.take j)).length) ∧
    (textW (es.take j) ≠ [] ∨ cs[0 + 1]? = some (.lit (.slice none 0 0))) ∧ st.env.get 4 = some (.ptr nx 0) ∧ st.env.get 5 = some (.lit (.bool lg)) ∧ st.env.get 10 = some v ∧ st.env.get 11 = some (.lit (.int .i64 es.length)) ∧ st.env.get 12 = some (.lit (.int .i64 i))) ?_ es.length _
    ⟨0, 0, false, _, rfl, by omega, by omega, by simp, bld_new hfr, fun c hc => Tr.get_put_ne _ _ _ _ (by omega), fun _ => rfl, fun h => by simp at h, .inr rfl, rfl, rfl, rfl, rfl, rfl⟩
  rintro m ⟨E, H1, nx1⟩ ⟨i, j, lg, cs, hm1, hi, hj, hT, hB, hold, hl0, hl1, hz, e4, e5, e10, e11, e12⟩
  simp only at hB hold e4 e5 e10 e11 e12
  have hp1 := hB.p1
  refine Wp_of ?_
  unfold s46_l0
  by_cases hlt : i < es.length
  · have hii : ((i : Int) < (es.length : Int)) = True := by simp; omega
    have hmem : es[i] ∈ es := List.getElem_mem hlt
    obtain ⟨e, he⟩ : ∃ e, e = es[i] := ⟨_, rfl⟩
    have hts : es.take (i + 1) = es.take i ++ [e] := by rw [List.take_add_one, List.getElem?_eq_getElem hlt, he]; rfl
    have hk := hE _ hmem
    rw [← he] at hk hmem
    obtain ⟨q, o, q1, hix, hld⟩ := hR.ix i hlt
    have hld1 := hld H1 (hold q q1)
    rw [← he] at hld1
    obtain ⟨H2, hH2⟩ : ∃ X, X = (H1.put nx1 (some (.cells (entC Ent.zero) 75 false))).put nx1 (some (.cells (entC e) 75 false)) := ⟨_, rfl⟩
    have hst := st_all (H := H1.put nx1 (some (.cells (entC Ent.zero) 75 false))) (t := 75) (vs := entC e) (by kernel_rfl) (Tr.get_put_same _ _ _) rfl rfl
    rw [← hH2] at hst
    have F2 : Fr H1 nx1 H2 (nx1 + 1) := by rw [hH2]; exact Fr.put2 hB.fr _ _
    have x2 : H2.get nx1 = some (.cells (entC e) 75 false) := by rw [hH2]; exact Tr.get_put_same _ _ _
    have lr2 : loadOp cx.T H2 39 (.ptr nx1 2) = some (.agg (recC e.rcd)) := ld_off (by kernel_rfl) x2 rfl
    obtain ⟨v3, H3, nx3, w1, rfl, w2⟩ := write_rec (H := H2) (nx := nx1 + 1) e.rcd hk.r hk.s F2.fr
    have g3 := w2.le
    have x3 : H3.get nx1 = some (.cells (entC e) 75 false) := (w2.old nx1 (by omega)).trans x2
    have F3 := F2.trans w2
    have B3 := hB.mono F3
    have lm3 : loadOp cx.T H3 3 (.ptr nx1 1) = some (.lit (.int .i64 e.mode)) := ld_at (by kernel_rfl) x3 rfl
    have lp3 : loadOp cx.T H3 9 (.ptr nx1 0) = some (strA e.pat) := ld_at (by kernel_rfl) x3 rfl
    have rt := right_cl (H := H3) (nx := nx3) e.mode
    have hw3 := wrapS (i := i) (by omega)
    have hold3 : ∀ c, c < nx → H3.get c = H.get c := fun c hc => (F3.old c (by omega)).trans (hold c hc)
    by_cases htl : e.tell
    · have hrt : decide (right e.mode) = true := by simpa using htl.2
      rw [hrt] at rt
      rw [if_pos htl.1, if_pos htl.1] at w1
      have hT' : ∀ x ∈ es.take (i + 1), x.tell := by
        intro x hx
        rw [hts, List.mem_append, List.mem_singleton] at hx
        rcases hx with h | rfl
        · exact hT x h
        · exact htl
      have hbl := blen_cl B3
      by_cases hlg : lg = true ∨ 1048576 < (textW (es.take j)).length
      · have hlong : 1048576 < (textW (es.take j)).length := hlg.elim (fun h => hl1 h) id
        have hgt : (((textW (es.take j)).length : Int) > 1048576) = True := by simp; omega
        cases lg with
        | true =>
          simp only [↓aA, ↓aB, ↓aC, ↓aD, ↓aE, ↓aF, ↓aG, ↓aH, aI, ↓aJ, ↓aK, aL, stepA, opA, convA, isCall, put?, ev, aM, aN, builtinA, callA, argEnv, wantedS, aO, aP, aQ, aR, aS, aT, aU, aV, aW, undef, z_none, aX, aY, aZ, bA, bB, bC, bD, bE, bF, bG, extractOp, bH, bI, bJ, bK, Nat.reduceLT, Nat.reduceEqDiff, Nat.reduceAdd, bL, bM, bN, bO, bP, ↓reduceIte, bQ, bR, reduceCtorEq, resA, resOf, bS, bT, bU, bV, bW, bX, bY, bZ, cA, cB, cC, cD, cE, cF, cG, cH, cI, cJ, cK, cL, maxA, minA, cM, cN, cO, cP, cQ, cR, cS, cT, cU, cV, cW, cX, x_none, e4, e5, e10, e11, e12, hii, hix, hld1, al75, hst, fa75_2, lr2, w1, partsA, fa75_1, lm3, rt, hbl, hw3]
          exact ⟨es.length - (i + 1), by omega, i + 1, j, true, cs, rfl, by omega, by omega, hT', B3, hold3, (by simp), fun _ => hlong, hz, rfl, rfl⟩
        | false =>
          simp only [↓aA, ↓aB, ↓aC, ↓aD, ↓aE, ↓aF, ↓aG, ↓aH, aI, ↓aJ, ↓aK, aL, stepA, opA, convA, isCall, put?, ev, aM, aN, builtinA, callA, argEnv, wantedS, aO, aP, aQ, aR, aS, aT, aU, aV, aW, undef, z_none, aX, aY, aZ, bA, bB, bC, bD, bE, bF, bG, extractOp, bH, bI, bJ, bK, Nat.reduceLT, Nat.reduceEqDiff, Nat.reduceAdd, bL, bM, bN, bO, bP, ↓reduceIte, bQ, bR, reduceCtorEq, resA, resOf, bS, bT, bU, bV, bW, bX, bY, bZ, cA, cB, cC, cD, cE, cF, cG, cH, cI, cJ, cK, cL, maxA, minA, cM, cN, cO, cP, cQ, cR, cS, cT, cU, cV, cW, cX, x_none, e4, e5, e10, e11, e12, hii, hix, hld1, al75, hst, fa75_2, lr2, w1, partsA, fa75_1, lm3, rt, hbl, hgt, hw3]
          exact ⟨es.length - (i + 1), by omega, i + 1, j, true, cs, rfl, by omega, by omega, hT', B3, hold3, (by simp), fun _ => hlong, hz, rfl, rfl⟩
      · have hlf : lg = false := by cases lg with
          | true => exact absurd (.inl rfl) hlg
          | false => rfl
        subst hlf
        have hsh : (textW (es.take j)).length ≤ 1048576 := by
          rcases Nat.lt_or_ge 1048576 (textW (es.take j)).length with h | h
          · exact absurd (.inr h) hlg
          · exact h
        have hji := hl0 rfl
        subst hji
        have hgt : (((textW (es.take j)).length : Int) > 1048576) = False := by simp; omega
        have hhl := head_len (p := e.pat) hk.m
        have hll := line_len e.rcd hk.r
        have := hk.s.x; have := hk.s.y; have := hk.s.z; have := hk.p
        have nm3 := num_cl (H := H3) (nx := nx3) e.mode hk.m
        obtain ⟨v4, H4, nx4, p1, rfl, p2⟩ := write_cl (H := H3) (nx := nx3) (s := e.pat) hk.p w2.fr
        have F5 := Fr.put p2.fr (some (.cells [strA wPattern, strA (Lib.itoa e.mode), strA (writeW e.pat)] 9 false))
        have bs5 := bsp (H := H4) (nx := nx4) e.mode (writeW e.pat)
        obtain ⟨H5, hH5⟩ : ∃ X, X = H4.put nx4 (some (.cells [strA wPattern, strA (Lib.itoa e.mode), strA (writeW e.pat)] 9 false)) := ⟨_, rfl⟩
        rw [← hH5] at F5 bs5
        have x5 : H5.get nx4 = some (.cells ((headW e.mode e.pat).map strA) 9 false) := by rw [hH5]; exact Tr.get_put_same _ _ _
        obtain ⟨H6, nx6, d1, d2⟩ := words_cl (H := H5) (nx := nx4 + 1) (k := some 3) (ws := headW e.mode e.pat) (by simp [headW]) x5 (by omega) F5.fr (by simp [headW]) (.inr rfl) (by omega)
        have d1' : Cl cx 71 [.slice nx4 0 3 (some 3) 1] H5 (nx4 + 1) = some (strA (joi (headW e.mode e.pat)), H6, nx6) := d1
        have F6 := (p2.trans F5).trans d2
        have B6 := B3.mono F6
        have c1 : binOpA cx.P cx.T .add 9 (.tmp 44) (.const (.string (ByteArray.mk #[10]))) (strA (joi (headW e.mode e.pat))) (strA [10]) = some (strA (joi (headW e.mode e.pat) ++ [10])) := str_add _ _ _ _ (by simp; omega)
        have c2 : binOpA cx.P cx.T .add 9 (.tmp 45) (.tmp 46) (strA (joi (headW e.mode e.pat) ++ [10])) (strA (joi (lineW e.rcd))) = some (strA (joi (headW e.mode e.pat) ++ [10] ++ joi (lineW e.rcd))) := str_add _ _ _ _ (by simp; omega)
        have hew : joi (headW e.mode e.pat) ++ [10] ++ joi (lineW e.rcd) ++ [10] = entW e := by simp [entW]
        have c3 : binOpA cx.P cx.T .add 9 (.tmp 47) (.const (.string (ByteArray.mk #[10]))) (strA (joi (headW e.mode e.pat) ++ [10] ++ joi (lineW e.rcd))) (strA [10]) = some (strA (entW e)) := by rw [← hew]; exact str_add _ _ _ _ (by simp; omega)
        have hel : (entW e).length ≤ 50000000 := by rw [← hew]; simp; omega
        obtain ⟨H7, nx7, cs7, a1, a2, a3, a4⟩ := ws_cl2 B6 (entW e) (entW_ne e) (by omega)
        have g4 := p2.le
        have g6 := d2.le
        have x4 : H4.get nx1 = some (.cells (entC e) 75 false) := (p2.old nx1 (by omega)).trans x3
        have x5' : H5.get nx1 = some (.cells (entC e) 75 false) := (F5.old nx1 (by omega)).trans x4
        have x6 : H6.get nx1 = some (.cells (entC e) 75 false) := (d2.old nx1 (by omega)).trans x5'
        have hnb : ∀ c, c < nx ∨ c = nx1 → ∀ n k, cs[0 + 1]? ≠ some (.slice c 0 n k 1) := by
          intro c hc n k hcon
          rcases hB.buf with ⟨_, h⟩ | ⟨c', h1, h2, h3, h, _⟩
          · rw [h] at hcon; injection hcon with hcon; cases hcon
          · rw [h] at hcon
            injection hcon with hcon
            injection hcon with q1 _ _ _ _
            omega
        have x7 : H7.get nx1 = some (.cells (entC e) 75 false) := (a4 nx1 (by omega) (by omega) (hnb nx1 (.inr rfl))).trans x6
        have lds : ∀ X : Heap, X.get nx1 = some (.cells (entC e) 75 false) → loadOp cx.T X 3 (.ptr nx1 1) = some (.lit (.int .i64 e.mode)) ∧ loadOp cx.T X 9 (.ptr nx1 0) = some (strA e.pat) :=
          fun X h => ⟨ld_at (by kernel_rfl) h rfl, ld_at (by kernel_rfl) h rfl⟩
        obtain ⟨lm4, lp4⟩ := lds H4 x4
        obtain ⟨lm5, lp5⟩ := lds H5 x5'
        obtain ⟨lm6, lp6⟩ := lds H6 x6
        obtain ⟨lm7, lp7⟩ := lds H7 x7
        have hb1 : nx1 < nx3 := by omega
        simp only [↓aA, ↓aB, ↓aC, ↓aD, ↓aE, ↓aF, ↓aG, ↓aH, aI, ↓aJ, ↓aK, aL, stepA, opA, convA, isCall, put?, ev, aM, aN, builtinA, callA, argEnv, wantedS, aO, aP, aQ, aR, aS, aT, aU, aV, aW, undef, z_none, aX, aY, aZ, bA, bB, bC, bD, bE, bF, bG, extractOp, bH, bI, bJ, bK, Nat.reduceLT, Nat.reduceEqDiff, Nat.reduceAdd, bL, bM, bN, bO, bP, ↓reduceIte, bQ, bR, reduceCtorEq, resA, resOf, bS, bT, bU, bV, bW, bX, bY, bZ, cA, cB, cC, cD, cE, cF, cG, cH, cI, cJ, cK, cL, maxA, minA, cM, cN, cO, cP, cQ, cR, cS, cT, cU, cV, cW, cX, x_none, e4, e5, e10, e11, e12, hii, hix, hld1, al75, hst, fa75_2, lr2, w1, partsA, fa75_1, lm3, rt, hbl, hgt]
        refine wpS_draw6 nx3 (Nat.le_refl _) (show s46_d0.toList.map (stripO s46_d0) = s46_d0s by kernel_rfl) ?_
        unfold s46_d0s
        simp only [↓aA, ↓aB, ↓aC, ↓aD, ↓aE, ↓aF, ↓aG, ↓aH, aI, ↓aJ, ↓aK, aL, stepA, opA, convA, isCall, put?, ev, aM, aN, builtinA, callA, argEnv, wantedS, aO, aP, aQ, aR, aS, aT, aU, aV, aW, undef, z_none, aX, aY, aZ, bA, bB, bC, bD, bE, bF, bG, extractOp, bH, bI, bJ, bK, Nat.reduceLT, Nat.reduceEqDiff, Nat.reduceAdd, bL, bM, bN, bO, bP, ↓reduceIte, bQ, bR, reduceCtorEq, resA, resOf, bS, bT, bU, bV, bW, bX, bY, bZ, cA, cB, cC, cD, cE, cF, cG, cH, cI, cJ, cK, cL, maxA, minA, cM, cN, cO, cP, cQ, cR, cS, cT, cU, cV, cW, cX, ↓cY, ↓cZ, txS, dA, dB, dC, dD, dE, dF, dG, dH, dI, dJ, dK, dL, dM, isEff, dN, dO, dP, dQ, dR, dS, AV.belowB, dT, dU, ↓dV, ↓dW, dX, dY, dZ, eA, eB, eC, eD, eF, eG, eH, eI, eJ, eK, eL, eM, eN, eO, eP, eQ, goodAt_eq, ldLow, eR, eS, x_none, fa75_0, fa75_1, lm3, lm4, lm5, lm6, lm7, lp3, lp4, lp5, lp6, lp7, nm3, p1, partsA, lit_pattern, lit_nl, bsp, ← hH5, d1', c1, c2, c3, e4, a1, a3, g4, g6, hb1, eqB_strA, below_strA]
        try simp only [↓aA, ↓aB, ↓aC, ↓aD, ↓aE, ↓aF, ↓aG, ↓aH, aI, ↓aJ, ↓aK, aL, stepA, opA, convA, isCall, put?, ev, aM, aN, builtinA, callA, argEnv, wantedS, aO, aP, aQ, aR, aS, aT, aU, aV, aW, undef, z_none, aX, aY, aZ, bA, bB, bC, bD, bE, bF, bG, extractOp, bH, bI, bJ, bK, Nat.reduceLT, Nat.reduceEqDiff, Nat.reduceAdd, bL, bM, bN, bO, bP, ↓reduceIte, bQ, bR, reduceCtorEq, resA, resOf, bS, bT, bU, bV, bW, bX, bY, bZ, cA, cB, cC, cD, cE, cF, cG, cH, cI, cJ, cK, cL, maxA, minA, cM, cN, cO, cP, cQ, cR, cS, cT, cU, cV, cW, cX, e10, e11, e12, hw3]
        have htw : textW (es.take (j + 1)) = textW (es.take j) ++ entW e := by rw [hts, textW_app]; simp [textW]
        refine ⟨es.length - (j + 1), by omega, j + 1, j + 1, false, cs7, rfl, by omega, by omega, hT', by rw [htw]; exact a2, ?_, fun _ => rfl, fun h => by simp at h, ?_, rfl, rfl⟩
        · intro c hc
          rw [a4 c (by omega) (by omega) (hnb c (.inl hc)), F6.old c (by omega)]
          exact hold3 c hc
        · left
          rw [htw]
          simp [entW]
    · have hrep : repR es = ([], 1) := by
        unfold repR
        rw [if_pos ⟨e, hmem, htl⟩]
      rw [hrep]
      have hF : Fr H nx H3 nx3 := ⟨by omega, hold3, w2.fr⟩
      by_cases htd : e.rcd.told
      · have hrt : decide (right e.mode) = false := by simpa using fun h => htl ⟨htd, h⟩
        rw [hrt] at rt
        rw [if_pos htd, if_pos htd] at w1
        simp only [↓aA, ↓aB, ↓aC, ↓aD, ↓aE, ↓aF, ↓aG, ↓aH, aI, ↓aJ, ↓aK, aL, stepA, opA, convA, isCall, put?, ev, aM, aN, builtinA, callA, argEnv, wantedS, aO, aP, aQ, aR, aS, aT, aU, aV, aW, undef, z_none, aX, aY, aZ, bA, bB, bC, bD, bE, bF, bG, extractOp, bH, bI, bJ, bK, Nat.reduceLT, Nat.reduceEqDiff, Nat.reduceAdd, bL, bM, bN, bO, bP, ↓reduceIte, bQ, bR, reduceCtorEq, resA, resOf, bS, bT, bU, bV, bW, bX, bY, bZ, cA, cB, cC, cD, cE, cF, cG, cH, cI, cJ, cK, cL, maxA, minA, cM, cN, cO, cP, cQ, cR, cS, cT, cU, cV, cW, cX, x_none, e4, e5, e10, e11, e12, hii, hix, hld1, al75, hst, fa75_2, lr2, w1, partsA, fa75_1, lm3, rt]
        exact ⟨rfl, hF⟩
      · rw [if_neg htd, if_neg htd] at w1
        simp only [↓aA, ↓aB, ↓aC, ↓aD, ↓aE, ↓aF, ↓aG, ↓aH, aI, ↓aJ, ↓aK, aL, stepA, opA, convA, isCall, put?, ev, aM, aN, builtinA, callA, argEnv, wantedS, aO, aP, aQ, aR, aS, aT, aU, aV, aW, undef, z_none, aX, aY, aZ, bA, bB, bC, bD, bE, bF, bG, extractOp, bH, bI, bJ, bK, Nat.reduceLT, Nat.reduceEqDiff, Nat.reduceAdd, bL, bM, bN, bO, bP, ↓reduceIte, bQ, bR, reduceCtorEq, resA, resOf, bS, bT, bU, bV, bW, bX, bY, bZ, cA, cB, cC, cD, cE, cF, cG, cH, cI, cJ, cK, cL, maxA, minA, cM, cN, cO, cP, cQ, cR, cS, cT, cU, cV, cW, cX, x_none, e4, e5, e10, e11, e12, hii, hix, hld1, al75, hst, fa75_2, lr2, w1, partsA]
        exact ⟨rfl, hF⟩
  · obtain rfl : i = es.length := by omega
    have hii : ((es.length : Int) < (es.length : Int)) = False := by simp
    rw [List.take_length] at hT
    have hno : ¬ ∃ e ∈ es, ¬ e.tell := fun ⟨e, h1, h2⟩ => h2 (hT e h1)
    have hF : ∀ X, (∀ c, c < nx → X.get c = H.get c) → (∀ b, nx1 ≤ b → X.get b = none) → Fr H nx X nx1 := fun X h1 h2 => ⟨by omega, h1, h2⟩
    by_cases hlg : lg = true ∨ 1048576 < (textW (es.take j)).length
    · have hlong : 1048576 < (textW (es.take j)).length := hlg.elim (fun h => hl1 h) id
      have hgt : (((textW (es.take j)).length : Int) > 1048576) = True := by simp; omega
      have hall : 1048576 < (textW es).length := by
        have h1 : textW es = textW (es.take j) ++ textW (es.drop j) := by rw [← textW_app, List.take_append_drop]
        rw [h1, List.length_append]; omega
      have hrep : repR es = ([], 3) := by
        unfold repR
        rw [if_neg hno, if_pos hall]
      rw [hrep]
      have hbl := blen_cl hB
      cases lg with
      | true =>
        simp only [↓aA, ↓aB, ↓aC, ↓aD, ↓aE, ↓aF, ↓aG, ↓aH, aI, ↓aJ, ↓aK, aL, stepA, opA, convA, isCall, put?, ev, aM, aN, builtinA, callA, argEnv, wantedS, aO, aP, aQ, aR, aS, aT, aU, aV, aW, undef, z_none, aX, aY, aZ, bA, bB, bC, bD, bE, bF, bG, extractOp, bH, bI, bJ, bK, Nat.reduceLT, Nat.reduceEqDiff, Nat.reduceAdd, bL, bM, bN, bO, bP, ↓reduceIte, bQ, bR, reduceCtorEq, resA, resOf, bS, bT, bU, bV, bW, bX, bY, bZ, cA, cB, cC, cD, cE, cF, cG, cH, cI, cJ, cK, cL, maxA, minA, cM, cN, cO, cP, cQ, cR, cS, cT, cU, cV, cW, cX, x_none, e4, e5, e10, e11, e12, hii]
        exact ⟨rfl, hF H1 hold hB.fr⟩
      | false =>
        simp only [↓aA, ↓aB, ↓aC, ↓aD, ↓aE, ↓aF, ↓aG, ↓aH, aI, ↓aJ, ↓aK, aL, stepA, opA, convA, isCall, put?, ev, aM, aN, builtinA, callA, argEnv, wantedS, aO, aP, aQ, aR, aS, aT, aU, aV, aW, undef, z_none, aX, aY, aZ, bA, bB, bC, bD, bE, bF, bG, extractOp, bH, bI, bJ, bK, Nat.reduceLT, Nat.reduceEqDiff, Nat.reduceAdd, bL, bM, bN, bO, bP, ↓reduceIte, bQ, bR, reduceCtorEq, resA, resOf, bS, bT, bU, bV, bW, bX, bY, bZ, cA, cB, cC, cD, cE, cF, cG, cH, cI, cJ, cK, cL, maxA, minA, cM, cN, cO, cP, cQ, cR, cS, cT, cU, cV, cW, cX, x_none, e4, e5, e10, e11, e12, hii, hbl, hgt]
        exact ⟨rfl, hF H1 hold hB.fr⟩
    · have hlf : lg = false := by cases lg with
        | true => exact absurd (.inl rfl) hlg
        | false => rfl
      subst hlf
      have hji := hl0 rfl
      subst hji
      rw [List.take_length] at hB hz hlg
      have hsh : (textW es).length ≤ 1048576 := by
        rcases Nat.lt_or_ge 1048576 (textW es).length with h | h
        · exact absurd (.inr h) hlg
        · exact h
      have hgt : (((textW es).length : Int) > 1048576) = False := by simp; omega
      have hrep : repR es = (textW es, 0) := by
        unfold repR
        rw [if_neg hno, if_neg (by omega)]
      rw [hrep]
      have hbl := blen_cl hB
      obtain ⟨H9, s1, s2, s3⟩ := bstr_cl hB (by omega) hz
      simp only [↓aA, ↓aB, ↓aC, ↓aD, ↓aE, ↓aF, ↓aG, ↓aH, aI, ↓aJ, ↓aK, aL, stepA, opA, convA, isCall, put?, ev, aM, aN, builtinA, callA, argEnv, wantedS, aO, aP, aQ, aR, aS, aT, aU, aV, aW, undef, z_none, aX, aY, aZ, bA, bB, bC, bD, bE, bF, bG, extractOp, bH, bI, bJ, bK, Nat.reduceLT, Nat.reduceEqDiff, Nat.reduceAdd, bL, bM, bN, bO, bP, ↓reduceIte, bQ, bR, reduceCtorEq, resA, resOf, bS, bT, bU, bV, bW, bX, bY, bZ, cA, cB, cC, cD, cE, cF, cG, cH, cI, cJ, cK, cL, maxA, minA, cM, cN, cO, cP, cQ, cR, cS, cT, cU, cV, cW, cX, x_none, e4, e5, e10, e11, e12, hii, hbl, hgt, s1]
      exact hF H9 (fun c hc => (s2 c hc).trans (hold c hc)) s3
end Seat
end CI
namespace CI
open Go
namespace Seat
open Quo Rcd Spl
variable {H : Heap} {nx : Nat}
theorem nil_strA : AV.lit (.string (ByteArray.mk #[])) = strA [] := rfl
end Seat
end CI
namespace CI
open Go
namespace Seat
open Quo Rcd Spl
variable {H : Heap} {nx : Nat}
theorem zrow_byte (n : Nat) : zrow n (cellsOf (abs (Value.int IntKind.u8 (Int.ofNat 0)))) = (List.replicate n (0 : UInt8)).map byteA := by
  rw [show cellsOf (abs (Value.int IntKind.u8 (Int.ofNat 0))) = [byteA 0] from rfl]
  unfold zrow
  apply List.ext_getElem
  · simp
  · intro i h1 h2; simp [Nat.mod_one]
theorem mkb (n : Nat) (h : n ≤ 2000000) : makeSliceOp cx.T H nx 81 (.lit (.int .i64 n)) (.lit (.int .i64 n)) = some (.slice nx 0 n (some n) 1, H.put nx (some (.cells ((List.replicate n (0 : UInt8)).map byteA) 5 false)), nx + 1) := by
  unfold makeSliceOp
  simp only [T81, ti81, T5, ti5]
  rw [if_pos ⟨by omega, by omega, by omega, by omega, by decide, by decide⟩, ← zrow_byte]
  simp
theorem mk_long : ∃ l : List UInt8, 1048576 < l.length ∧ l.length ≤ 2000000 ∧ ∀ (H : Heap) (nx : Nat), makeSliceOp cx.T H nx 81 (.lit (.int .i64 1048577)) (.lit (.int .i64 1048577)) = some (.slice nx 0 l.length (some l.length) 1, H.put nx (some (.cells (l.map byteA) 5 false)), nx + 1) := by
  obtain ⟨n, hn⟩ : ∃ n : Nat, n = 1048577 := ⟨_, rfl⟩
  have e : (1048577 : Int) = ((n : Nat) : Int) := by omega
  refine ⟨List.replicate n 0, by rw [List.length_replicate]; omega, by rw [List.length_replicate]; omega, fun H nx => ?_⟩
  rw [e, List.length_replicate]
  exact mkb n (by omega)
theorem parse_long (t : W) (ht : 1048576 < t.length) : Cl cx 47 [strA t] H nx = some (.tuple [.lit (.slice none 0 0), .lit (.int .i64 0), .lit (.int .i64 3)], H, nx) := by
  refine wp47 _ _ _ _ (by simp) ?_
  unfold s47
  have hl : (((t.length : Nat) : Int) > 1048576) = True := by simp; omega
  simp only [↓aA, ↓aB, ↓aC, ↓aD, ↓aE, ↓aF, ↓aG, ↓aH, aI, ↓aJ, ↓aK, aL, stepA, opA, convA, isCall, put?, ev, aM, aN, builtinA, callA, argEnv, wantedS, aO, aP, aQ, aR, aS, aT, aU, aV, aW, undef, z_none, aX, aY, aZ, bA, bB, bC, bD, bE, bF, bG, extractOp, bH, bI, bJ, bK, Nat.reduceLT, Nat.reduceEqDiff, Nat.reduceAdd, bL, bM, bN, bO, bP, ↓reduceIte, bQ, bR, reduceCtorEq, resA, resOf, bS, bT, bU, bV, bW, bX, bY, bZ, cA, cB, cC, cD, cE, cF, cG, cH, cI, cJ, cK, cL, maxA, minA, cM, cN, cO, cP, cQ, cR, cS, cT, cU, cV, cW, cX, str_len, hl]
theorem bde1 (p : W) : buildOp cx.T 75 [(0, strA p)] = some (.agg (entC ⟨p, 0, Rec.zero⟩)) := by kernel_rfl
theorem rdE_one (e : Ent) : RdE (H.put nx (some (.cells (entC e) 75 false))) (nx + 1) (.slice nx 0 1 (some 1) 16) [e] where
  ln := fun H' => by kernel_rfl
  ix := by
    intro i h
    have h0 : i = 0 := by simp at h; exact h
    subst h0
    refine ⟨nx, 0, by omega, by kernel_rfl, fun H' hq => ?_⟩
    rw [Tr.get_put_same] at hq
    exact ld_all (by kernel_rfl) hq
theorem zeros_len (n : Nat) : ((List.replicate n (0 : UInt8)).flatMap oneW).length = 4 * n := by
  induction n with
  | zero => rfl
  | succ n ih =>
    rw [List.replicate_succ, List.flatMap_cons, List.length_append, ih]
    have : (oneW 0).length = 4 := by decide
    omega
theorem rep_long (n : Nat) (h : 300000 ≤ n) : repR [⟨List.replicate n 0, 0, Rec.zero⟩] = ([], 3) := by
  unfold repR
  rw [if_neg, if_pos]
  · have h1 : (writeW (List.replicate n 0)).length = 4 * n := by
      unfold writeW
      rw [if_neg (by intro hc; have := congrArg List.length hc; rw [List.length_replicate] at this; simp at this; omega)]
      exact zeros_len n
    have h2 : textW [⟨List.replicate n 0, 0, Rec.zero⟩] = entW ⟨List.replicate n 0, 0, Rec.zero⟩ := by simp [textW]
    have h3 : (joi (headW 0 (List.replicate n 0))).length ≥ 4 * n := by
      rw [joi_len]
      simp only [headW, List.map_cons, List.map_nil, List.sum_cons, List.sum_nil, h1]
      omega
    rw [h2]
    unfold entW
    rw [List.length_append]
    simp only
    omega
  · rintro ⟨e, h1, h2⟩
    rw [List.mem_singleton] at h1
    subst h1
    exact h2 ⟨zero_told, by show (0 : Int) ≤ 0 ∧ (0 : Int) ≤ 3; decide⟩
theorem entOK_long (n : Nat) (h : n ≤ 1000000) : EntOK ⟨List.replicate n 0, 0, Rec.zero⟩ where
  r := zero_ok
  s := ⟨Nat.zero_le _, Nat.zero_le _, Nat.zero_le _⟩
  m := by constructor <;> simp
  p := by simp only [List.length_replicate]; exact h
theorem law_rl (w0 : World) (b : UInt8) (hfr : ∀ c, nx ≤ c → H.get c = none) : ∃ v H' nx', Cl cx 12 [byteA b] H nx = some (v, H', nx') ∧ v = .lit (.bool true) := by
  refine wpP12 _ _ _ _ (by simp) ?_
  unfold s12
  have hb := b.toNat_lt
  obtain ⟨n, hn⟩ : ∃ n : Nat, n = 300000 + b.toNat := ⟨_, rfl⟩
  have hw : IntKind.i64.wrap (300000 + (b.toNat : Int)) = ((n : Nat) : Int) := by
    rw [wrapI (by constructor <;> omega)]; omega
  have m1 := mkb (H := H) (nx := nx) n (by omega)
  obtain ⟨H1, hH1⟩ : ∃ X, X = H.put nx (some (.cells ((List.replicate n (0 : UInt8)).map byteA) 5 false)) := ⟨_, rfl⟩
  have F1 := Fr.put hfr (some (.cells ((List.replicate n (0 : UInt8)).map byteA) 5 false))
  have x1 : H1.get nx = some (.cells ((List.replicate n (0 : UInt8)).map byteA) 5 false) := by rw [hH1]; exact Tr.get_put_same _ _ _
  rw [← hH1] at m1 F1
  have c1 : convOp cx.P cx.T H1 (nx + 1) 81 9 (.slice nx 0 n (some n) 1) = some (strA (List.replicate n 0), H1, nx + 1) := cv_bytes x1 (by simp)
  obtain ⟨e, he⟩ : ∃ e : Ent, e = ⟨List.replicate n 0, 0, Rec.zero⟩ := ⟨_, rfl⟩
  have hok := entOK_long n (by omega)
  have hrep := rep_long n (by omega)
  have bd := bde1 (List.replicate n 0)
  rw [← he] at hok hrep bd
  have hst := st_all (H := H1.put (nx + 1) (some (.cells (entC Ent.zero) 75 false))) (t := 75) (vs := entC e) (by kernel_rfl) (Tr.get_put_same _ _ _) rfl rfl
  obtain ⟨H2, hH2⟩ : ∃ X, X = (H1.put (nx + 1) (some (.cells (entC Ent.zero) 75 false))).put (nx + 1) (some (.cells (entC e) 75 false)) := ⟨_, rfl⟩
  rw [← hH2] at hst
  have F2 : Fr H1 (nx + 1) H2 (nx + 1 + 1) := by rw [hH2]; exact Fr.put2 F1.fr _ _
  have l2 := ld_all (H := H2) (t := 75) (p := nx + 1) (cs := entC e) (by kernel_rfl) (by rw [hH2]; exact Tr.get_put_same _ _ _)
  have b3 := bse (H := H2) (nx := nx + 1 + 1) e
  have F3 := Fr.put F2.fr (some (.cells (entC e) 75 false))
  obtain ⟨v4, H4, nx4, r1, rfl, r2⟩ := rep_cl (H := H2.put (nx + 1 + 1) (some (.cells (entC e) 75 false))) (nx := nx + 1 + 1 + 1) [e] (by intro x hx; rw [List.mem_singleton] at hx; subst hx; exact hok) (rdE_one e) (by simp) F3.fr
  rw [hrep] at r1
  obtain ⟨l, hl1, hl2, hl3⟩ := mk_long
  have m5 := hl3 H4 nx4
  obtain ⟨H5, hH5⟩ : ∃ X, X = H4.put nx4 (some (.cells (l.map byteA) 5 false)) := ⟨_, rfl⟩
  have x5 : H5.get nx4 = some (.cells (l.map byteA) 5 false) := by rw [hH5]; exact Tr.get_put_same _ _ _
  rw [← hH5] at m5
  have c5 : convOp cx.P cx.T H5 (nx4 + 1) 81 9 (.slice nx4 0 l.length (some l.length) 1) = some (strA l, H5, nx4 + 1) := cv_bytes x5 rfl
  have p5 := parse_long (H := H5) (nx := nx4 + 1) l hl1
  have hln0 : ∀ H', lenOp cx.T H' 73 (.lit (.slice none 0 0)) = some 0 := fun _ => by kernel_rfl
  simp only [↓aA, ↓aB, ↓aC, ↓aD, ↓aE, ↓aF, ↓aG, ↓aH, aI, ↓aJ, ↓aK, aL, stepA, opA, convA, isCall, put?, ev, aM, aN, builtinA, callA, argEnv, wantedS, aO, aP, aQ, aR, aS, aT, aU, aV, aW, undef, z_none, aX, aY, aZ, bA, bB, bC, bD, bE, bF, bG, extractOp, bH, bI, bJ, bK, Nat.reduceLT, Nat.reduceEqDiff, Nat.reduceAdd, bL, bM, bN, bO, bP, ↓reduceIte, bQ, bR, reduceCtorEq, resA, resOf, bS, bT, bU, bV, bW, bX, bY, bZ, cA, cB, cC, cD, cE, cF, cG, cH, cI, cJ, cK, cL, maxA, minA, cM, cN, cO, cP, cQ, cR, cS, cT, cU, cV, cW, cX, x_caltroplaw22_awake, x_none, cv_5_3, hw, m1, c1, partsA, bd, al75, hst, l2, b3, r1, m5, c5, p5, nil_strA, str_eql, hln0]
  try simp
end Seat
end CI
