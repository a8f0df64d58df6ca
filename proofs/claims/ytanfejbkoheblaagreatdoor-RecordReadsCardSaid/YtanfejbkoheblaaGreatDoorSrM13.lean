/- Parts of the proof: Xa Ba Bb Bc Be Bf Bg Bh Bi Bk Bs Bt Bl Bm. -/
import Derived.Test.YtanfejbkoheblaaGreatDoorSrCiz
import Derived.Test.YtanfejbkoheblaaGreatDoorSrM2
import Derived.Test.YtanfejbkoheblaaGreatDoorSrM3
import Derived.Laws.Strings
import Derived.Test.YtanfejbkoheblaaGreatDoorSrM4
import Derived.Test.YtanfejbkoheblaaGreatDoorSrM8
set_option linter.unusedVariables false
set_option linter.unusedSimpArgs false
set_option maxRecDepth 10000
namespace CI
open Go
namespace Seat
theorem x_none (k : Nat) (h262 : (k == 262) = false) (h354 : (k == 354) = false) (h281 : (k == 281) = false) (h346 : (k == 346) = false) (h34 : (k == 34) = false) (h201 : (k == 201) = false) (h195 : (k == 195) = false) (h139 : (k == 139) = false) (args : List AV) : cx.X k args = none := by
  show extX4 Go.Proofs.Tryz.prog exts sums idents cons k args = none
  have e_exts : exts.get k = none := by simp only [exts, Tr.get_put, if_neg (show k ≠ 262 by simpa using h262), if_neg (show k ≠ 354 by simpa using h354), if_neg (show k ≠ 281 by simpa using h281), if_neg (show k ≠ 346 by simpa using h346), Tr.get_nil]
  have e_sums : sums.get k = none := by simp only [sums, Tr.get_put, if_neg (show k ≠ 34 by simpa using h34), Tr.get_nil]
  have e_idents : idents.get k = none := by simp only [idents, Tr.get_put, if_neg (show k ≠ 201 by simpa using h201), Tr.get_nil]
  have e_cons : cons.get k = none := by simp only [cons, Tr.get_put, if_neg (show k ≠ 195 by simpa using h195), if_neg (show k ≠ 139 by simpa using h139), Tr.get_nil]
  simp [extX4, extX3, extX2, extX, e_exts, e_sums, e_idents, e_cons]
theorem x_caltroplaw22_awake : cx.X 34 [] = some (.lit (.bool true)) := by kernel_rfl
end Seat
end CI
namespace CI
open Go
namespace Seat
variable {H : Heap} {nx : Nat}
def B (l : List UInt8) : ByteArray := ⟨l.toArray⟩
def strA (l : List UInt8) : AV := .lit (.string (B l))
def byteA (b : UInt8) : AV := .lit (.int .u8 b.toNat)
theorem B_size (l : List UInt8) : (B l).size = l.length := by simp [B, ByteArray.size]
theorem B_data (l : List UInt8) : (B l).data.toList = l := by simp [B]
theorem B_toList (l : List UInt8) : (B l).toList = l := by
  rw [ByteArray.toList_eq, B_data]
theorem B_append (l m : List UInt8) : B l ++ B m = B (l ++ m) := by
  apply ByteArray.ext
  simp [B, ByteArray.data_append]
theorem B_of (s : ByteArray) : s = B s.data.toList := by
  cases s; simp [B]
section
variable (x y : Operand) (l m : List UInt8)
theorem str_add (h : l.length + m.length ≤ 1000000000) : binOpA cx.P cx.T .add 9 x y (strA l) (strA m) = some (strA (l ++ m)) := by
  have e : plain2 cx.P (fun p q => do eqGuard .add 9 x y p q; binOp .add 9 p q) (strA l) (strA m) = (pureRun cx.P (Op.stringOp .add (B l) (B m))).map abs := rfl
  unfold binOpA
  rw [e]
  simp only [Op.stringOp, B_size]
  rw [if_neg (by
    have e : IntKind.i64.max = 9223372036854775807 := by decide
    rw [e]; omega)]
  rw [B_append]
  rfl
theorem str_eql : binOpA cx.P cx.T .eql 9 x y (strA l) (strA m) = some (.lit (.bool (decide (l = m)))) := by
  have e : plain2 cx.P (fun p q => do eqGuard .eql 9 x y p q; binOp .eql 9 p q) (strA l) (strA m) = (pureRun cx.P (Op.stringOp .eql (B l) (B m))).map abs := rfl
  unfold binOpA
  rw [e]
  simp only [Op.stringOp, B_toList]
  rw [show (l == m) = decide (l = m) from by by_cases h : l = m <;> simp [h]]
  rfl
theorem str_len : lenOp cx.T H 9 (strA l) = some l.length := by
  have : lenOp cx.T H 9 (strA l) = some (B l).size := by kernel_rfl
  rw [this, B_size]
theorem str_ix (i : Nat) (b : UInt8) (k : IntKind) (h : l[i]? = some b) : indexOp cx.P cx.T 9 (strA l) (.lit (.int k i)) = some (byteA b) := by
  have : indexOp cx.P cx.T 9 (strA l) (.lit (.int k i)) = ((B l).data.toList[i]?).map fun c => .lit (.int .u8 c.toNat) := by kernel_rfl
  rw [this, B_data, h]
  rfl
end
theorem lit32 : AV.lit (.string (ByteArray.mk #[32])) = strA [32] := rfl
theorem ld_at {t : TypeId} {p o : Nat} {cs : List AV} {tb : TypeId} {ro : Bool} {v : AV} (ht : (cx.T.get t).map (·.agg) = some false) (hp : H.get p = some (.cells cs tb ro)) (hv : cs[o]? = some v) :
    loadOp cx.T H t (.ptr p o) = some v := by
  unfold loadOp
  simp only [Option.map_eq_some_iff] at ht
  obtain ⟨i, h1, h2⟩ := ht
  simp only [h1, hp, h2]
  have hlt : o < cs.length := (List.getElem?_eq_some_iff.1 hv).1
  simp only [cut, if_pos (show o + 1 ≤ cs.length by omega), Option.bind_some, Bool.false_eq_true, if_false]
  rw [List.getElem?_take, if_pos (by omega), List.getElem?_drop]
  simpa using hv
theorem overA_one (cs : List AV) (o : Nat) (v : AV) (h : o < cs.length) : overA cs o [v] = cs.set o v := by
  apply List.ext_getElem?
  intro j
  rw [overA_get _ _ _ (by simp only [List.length_singleton]; omega), List.getElem?_set]
  simp only [List.length_singleton]
  by_cases hj : o = j
  · subst hj
    simp [h]
  · rw [if_neg (by omega), if_neg hj]
theorem st_at {t : TypeId} {p o : Nat} {cs : List AV} {tb : TypeId} {v : AV} (ht : (cx.T.get t).map (·.size) = some 1) (hp : H.get p = some (.cells cs tb false)) (ho : o < cs.length) (hv : cellsOf v = [v]) (h1 : one v = true) :
    storeOp cx.T H t (.ptr p o) v = some (H.put p (some (.cells (cs.set o v) tb false))) := by
  unfold storeOp
  simp only [Option.map_eq_some_iff] at ht
  obtain ⟨i, e1, e2⟩ := ht
  simp only [e1, hp, hv, e2]
  rw [if_pos ⟨by simp, by simp only [List.length_singleton]; omega, by simp [h1]⟩, overA_one _ _ _ ho]
theorem ld_all {t : TypeId} {p : Nat} {cs : List AV} {tb : TypeId} {ro : Bool} (ht : (cx.T.get t).map (fun i => (i.agg, i.size)) = some (true, cs.length)) (hp : H.get p = some (.cells cs tb ro)) :
    loadOp cx.T H t (.ptr p 0) = some (.agg cs) := by
  unfold loadOp
  simp only [Option.map_eq_some_iff, Prod.mk.injEq] at ht
  obtain ⟨i, h1, h2, h3⟩ := ht
  simp only [h1, hp, h2, h3, if_true, cut, Nat.zero_add, Nat.le_refl, List.drop_zero, List.take_length, Option.map_some]
theorem st_all {t : TypeId} {p : Nat} {cs vs : List AV} {tb : TypeId} (ht : (cx.T.get t).map (·.size) = some vs.length) (hp : H.get p = some (.cells cs tb false)) (hl : vs.length = cs.length) (h1 : vs.all one = true) :
    storeOp cx.T H t (.ptr p 0) (.agg vs) = some (H.put p (some (.cells vs tb false))) := by
  unfold storeOp
  simp only [Option.map_eq_some_iff] at ht
  obtain ⟨i, e1, e2⟩ := ht
  simp only [e1, hp, cellsOf, e2]
  rw [if_pos ⟨trivial, by omega, h1⟩]
  simp [overA, hl]
structure Bld (n0 : Nat) (H : Heap) (nx p o : Nat) (cs : List AV) (t : TypeId) (bs : List UInt8) : Prop where
  hp : H.get p = some (.cells cs t false)
  p0 : n0 ≤ p
  p1 : p < nx
  lies : liesAt cx.P cx.P.depth t (cs.length / cx.P.cellsOf t) o 125 1 = true
  self : cs[o]? = some (.lit (.pointer none)) ∨ cs[o]? = some (.ptr p o)
  buf : (bs = [] ∧ cs[o + 1]? = some (.lit (.slice none 0 0))) ∨ ∃ c, c ≠ p ∧ n0 ≤ c ∧ c < nx ∧ cs[o + 1]? = some (.slice c 0 bs.length none 1) ∧ H.get c = some (.cells (bs.map byteA) 5 false)
  fr : ∀ b, nx ≤ b → H.get b = none
theorem x201 (v : AV) : cx.X 201 [v] = some v := by kernel_rfl
theorem fa125_0 (p o : Nat) : fieldAddrOp cx.T 125 (.ptr p o) 0 = some (.ptr p o) := by kernel_rfl
theorem fa125_1 (p o : Nat) : fieldAddrOp cx.T 125 (.ptr p o) 1 = some (.ptr p (o + 1)) := by kernel_rfl
theorem nc_ptr (p o : Nat) : nilCheckOp (.ptr p o) = some (.ptr p o) := rfl
theorem eql123n (x y : Operand) : binOpA cx.P cx.T .eql 123 x y (.lit (.pointer none)) (.lit (.pointer none)) = some (.lit (.bool true)) := by
  cases x <;> cases y <;> kernel_rfl
theorem eql123p (x y : Operand) (p o : Nat) : binOpA cx.P cx.T .eql 123 x y (.ptr p o) (.lit (.pointer none)) = some (.lit (.bool false)) := by kernel_rfl
theorem neq123 (x y : Operand) (p o : Nat) : binOpA cx.P cx.T .neq 123 x y (.ptr p o) (.ptr p o) = some (.lit (.bool false)) := by
  have e : binOpA cx.P cx.T .neq 123 x y (.ptr p o) (.ptr p o) = (if p = p ∧ (1 : Nat) ≠ 0 ∨ True then (if p = p ∧ (2 : Nat) ≠ 0 then some (decide (o = o)) else none) else none).map fun r => .lit (.bool !r) := by
    rw [if_pos (.inr trivial)]
    kernel_rfl
  rw [e]
  simp
theorem T123 : cx.T.get 123 = some ti123 := by kernel_rfl
theorem T81 : cx.T.get 81 = some ti81 := by kernel_rfl
theorem T125 : cx.T.get 125 = some ti125 := by kernel_rfl
theorem T314 : cx.T.get 314 = some ti314 := by kernel_rfl
theorem T5 : cx.T.get 5 = some ti5 := by kernel_rfl
theorem T9 : cx.T.get 9 = some ti9 := by kernel_rfl
theorem co123 (p o : Nat) : convOp cx.P cx.T H nx 123 314 (.ptr p o) = none := by kernel_rfl
theorem co314 (p o : Nat) : convOp cx.P cx.T H nx 314 123 (.ptr p o) = none := by kernel_rfl
theorem cu123 {p o : Nat} {cs : List AV} {t : TypeId} {ro : Bool} (hp : H.get p = some (.cells cs t ro)) (ho : o < cs.length) : convU cx.P cx.T H 123 314 (.ptr p o) = some (.ptr p o) := by
  unfold convU
  simp only [T123, T314, T125, ti123, ti314, ti125, hp]
  rw [if_pos ⟨by decide, ho⟩]
theorem cu314 {p o : Nat} {cs : List AV} {t : TypeId} {ro : Bool} (hp : H.get p = some (.cells cs t ro)) (hl : liesAt cx.P cx.P.depth t (cs.length / cx.P.cellsOf t) o 125 1 = true) : convU cx.P cx.T H 314 123 (.ptr p o) = some (.ptr p o) := by
  unfold convU
  simp only [T123, T314, T125, ti123, ti314, ti125, hp, hl, if_true]
theorem set_get {cs : List AV} {o j : Nat} {v : AV} (h : j ≠ o) : (cs.set o v)[j]? = cs[j]? := by
  rw [List.getElem?_set, if_neg (fun e => h e.symm)]
theorem cc_cl {n0 p o : Nat} {cs : List AV} {t : TypeId} {bs : List UInt8} (hb : Bld n0 H nx p o cs t bs) :
    ∃ H' cs', Cl cx 140 [.ptr p o] H nx = some (.tuple [], H', nx) ∧ Bld n0 H' nx p o cs' t bs ∧ cs'[o]? = some (.ptr p o) ∧ (∀ j, j ≠ o → cs'[j]? = cs[j]?) ∧ (∀ c, c ≠ p → H'.get c = H.get c) ∧ cs'.length = cs.length := by
  have ho : o < cs.length := by
    rcases hb.self with h | h <;> exact (List.getElem?_eq_some_iff.1 h).1
  rcases hb.self with h | h
  · refine ⟨H.put p (some (.cells (cs.set o (.ptr p o)) t false)), cs.set o (.ptr p o), ?_, ?_, by simp [List.getElem?_set, ho], fun j hj => set_get hj, fun c hc => Tr.get_put_ne _ _ _ _ hc, by simp⟩
    · refine wp140 _ _ _ _ (by simp) ?_
      unfold s140
      simp only [↓aA, ↓aB, ↓aC, ↓aD, ↓aE, ↓aF, ↓aG, ↓aH, aI, ↓aJ, ↓aK, aL, stepA, opA, convA, isCall, put?, ev, aM, aN, builtinA, callA, argEnv, wantedS, aO, aP, aQ, aR, aS, aT, aU, aV, aW, undef, z_none, aX, aY, aZ, bA, bB, bC, bD, bE, bF, bG, extractOp, bH, bI, bJ, bK, Nat.reduceLT, Nat.reduceEqDiff, Nat.reduceAdd, bL, bM, bN, bO, bP, ↓reduceIte, bQ, bR, reduceCtorEq, resA, resOf, bS, bT, bU, bV, bW, bX, bY, bZ, cA, cB, cC, cD, cE, cF, cG, cH, cI, cJ, cK, cL, maxA, minA, cM, cN, cO, cP, cQ, cR, cS, cT, cU, cV, cW, cX, nc_ptr, fa125_0, ld_at (t := 123) (by kernel_rfl) hb.hp h, abs_nilp, eql123n, co123, cu123 hb.hp ho, x201, co314, cu314 hb.hp hb.lies, st_at (t := 123) (v := .ptr p o) (by kernel_rfl) hb.hp ho rfl rfl]
    · exact {
        hp := Tr.get_put_same _ _ _
        p0 := hb.p0
        p1 := hb.p1
        lies := by simpa using hb.lies
        self := .inr (by simp [List.getElem?_set, ho])
        buf := by
          rw [set_get (by omega)]
          rcases hb.buf with h | ⟨c, h1, h2, h3, h5, h6⟩
          · exact .inl h
          · exact .inr ⟨c, h1, h2, h3, h5, by rw [Tr.get_put_ne _ _ _ _ h1]; exact h6⟩
        fr := fun b hb2 => by rw [Tr.get_put_ne _ _ _ _ (by have := hb.p1; omega)]; exact hb.fr b hb2 }
  · refine ⟨H, cs, ?_, hb, h, fun _ _ => rfl, fun _ _ => rfl, rfl⟩
    refine wp140 _ _ _ _ (by simp) ?_
    unfold s140
    simp only [↓aA, ↓aB, ↓aC, ↓aD, ↓aE, ↓aF, ↓aG, ↓aH, aI, ↓aJ, ↓aK, aL, stepA, opA, convA, isCall, put?, ev, aM, aN, builtinA, callA, argEnv, wantedS, aO, aP, aQ, aR, aS, aT, aU, aV, aW, undef, z_none, aX, aY, aZ, bA, bB, bC, bD, bE, bF, bG, extractOp, bH, bI, bJ, bK, Nat.reduceLT, Nat.reduceEqDiff, Nat.reduceAdd, bL, bM, bN, bO, bP, ↓reduceIte, bQ, bR, reduceCtorEq, resA, resOf, bS, bT, bU, bV, bW, bX, bY, bZ, cA, cB, cC, cD, cE, cF, cG, cH, cI, cJ, cK, cL, maxA, minA, cM, cN, cO, cP, cQ, cR, cS, cT, cU, cV, cW, cX, nc_ptr, fa125_0, ld_at (t := 123) (by kernel_rfl) hb.hp h, abs_nilp, eql123p, neq123]
theorem one_byteA : ∀ l : List UInt8, (l.map byteA).all one = true
  | [] => rfl
  | b :: l => by simp only [List.map_cons, List.all_cons, one_byteA l, Bool.and_true]; rfl
theorem appLim_ok {n m : Nat} (h : n + m ≤ 1000000000) : appLim n m 1 = true := by
  unfold appLim
  simp only [decide_eq_true_eq]
  omega
theorem app_nil {t2 : TypeId} (h2 : t2 = 81 ∨ t2 = 9) {x : AV} {m : Nat} {new : List AV} (hs : srcCells H 1 x = some (m, new)) (h0 : m ≠ 0) (hm : m ≤ 1000000000) :
    appendOp cx.T H nx 81 (.lit (.slice none 0 0)) t2 x = some (.slice nx 0 m none 1, H.put nx (some (.cells new 5 false)), nx + 1) := by
  unfold appendOp
  rcases h2 with rfl | rfl
  all_goals
    simp only [T81, T5, T9, ti81, ti5, ti9, isIntD, hs, Bool.false_eq_true, if_false]
    rw [if_neg h0, if_pos (appLim_ok (by omega))]
theorem app_open {t2 : TypeId} (h2 : t2 = 81 ∨ t2 = 9) {x : AV} {m c : Nat} {new old : List AV} (hc : H.get c = some (.cells old 5 false)) (hs : srcCells H 1 x = some (m, new)) (h0 : m ≠ 0)
    (hl : new.length = m) (hm : old.length + m ≤ 1000000000) (h1 : new.all one = true) :
    appendOp cx.T H nx 81 (.slice c 0 old.length none 1) t2 x = some (.slice nx 0 (old.length + m) none 1, (H.put c none).put nx (some (.cells (old ++ new) 5 false)), nx + 1) := by
  have hcut : cut old 0 (old.length * 1) = some old := by simp [cut]
  unfold appendOp
  rcases h2 with rfl | rfl
  all_goals
    simp only [T81, T5, T9, ti81, ti5, ti9, isIntD, hs, Bool.false_eq_true, if_false, hc]
    rw [if_neg h0, if_neg (by simp), if_neg (by omega), hcut]
    simp only
    rw [if_pos (by simp [appLim_ok hm, h1])]
end Seat
end CI
namespace CI
open Go
namespace Seat
variable {H : Heap} {nx : Nat}
theorem bs_one (b : UInt8) : buildSliceOp cx.T H nx 81 1 [(0, byteA b)] = some (.slice nx 0 1 (some 1) 1, H.put nx (some (.cells [byteA b] 5 false)), nx + 1) := by kernel_rfl
theorem bs_two (a b : UInt8) : buildSliceOp cx.T H nx 81 2 [(0, byteA a), (1, byteA b)] = some (.slice nx 0 2 (some 2) 1, H.put nx (some (.cells [byteA a, byteA b] 5 false)), nx + 1) := by kernel_rfl
theorem app_bld {n0 p o : Nat} {cs : List AV} {t t2 : TypeId} {bs more : List UInt8} {H2 : Heap} {nx2 : Nat} {x bf : AV} (hb : Bld n0 H nx p o cs t bs) (hself : cs[o]? = some (.ptr p o)) (hbf : cs[o + 1]? = some bf) (hnx : nx ≤ nx2)
    (hold : ∀ c, c < nx → H2.get c = H.get c) (hfr : ∀ c, nx2 ≤ c → H2.get c = none) (h2 : t2 = 81 ∨ t2 = 9) (hs : srcCells H2 1 x = some (more.length, more.map byteA)) (h0 : more ≠ []) (hm : bs.length + more.length ≤ 1000000000) :
    ∃ H3 bf' H4, appendOp cx.T H2 nx2 81 bf t2 x = some (bf', H3, nx2 + 1) ∧ storeOp cx.T H3 81 (.ptr p (o + 1)) bf' = some H4 ∧ Bld n0 H4 (nx2 + 1) p o (cs.set (o + 1) bf') t (bs ++ more) ∧ ∀ c, c < n0 → H4.get c = H.get c := by
  have ho : o + 1 < cs.length := (List.getElem?_eq_some_iff.1 hbf).1
  have hp1 := hb.p1
  have hp0 := hb.p0
  have hne : more.length ≠ 0 := by simpa using h0
  have fin : ∀ (H3 : Heap) (k : Nat), k = bs.length + more.length → H3.get p = H.get p → H3.get nx2 = some (.cells ((bs ++ more).map byteA) 5 false) → (∀ c, c < n0 → H3.get c = H.get c) → (∀ c, nx2 < c → H3.get c = none) →
      storeOp cx.T H3 81 (.ptr p (o + 1)) (.slice nx2 0 k none 1) = some (H3.put p (some (.cells (cs.set (o + 1) (.slice nx2 0 k none 1)) t false))) ∧
      Bld n0 (H3.put p (some (.cells (cs.set (o + 1) (.slice nx2 0 k none 1)) t false))) (nx2 + 1) p o (cs.set (o + 1) (.slice nx2 0 k none 1)) t (bs ++ more) ∧
      ∀ c, c < n0 → (H3.put p (some (.cells (cs.set (o + 1) (.slice nx2 0 k none 1)) t false))).get c = H.get c := by
    intro H3 k hk hp hn ho3 hf3
    refine ⟨st_at (by kernel_rfl) (hp.trans hb.hp) ho rfl rfl, ?_, fun c hc => by rw [Tr.get_put_ne _ _ _ _ (by omega)]; exact ho3 c hc⟩
    exact {
      hp := Tr.get_put_same _ _ _
      p0 := hp0
      p1 := by omega
      lies := by simpa using hb.lies
      self := .inr (by rw [set_get (by omega)]; exact hself)
      buf := .inr ⟨nx2, by omega, by omega, by omega, by simp [List.getElem?_set, ho, hk], by rw [Tr.get_put_ne _ _ _ _ (by omega)]; exact hn⟩
      fr := fun b h => by rw [Tr.get_put_ne _ _ _ _ (by omega)]; exact hf3 b (by omega) }
  rcases hb.buf with ⟨rfl, h⟩ | ⟨c, c1, c2, c3, c5, c6⟩
  · rw [hbf] at h
    injection h with h
    subst h
    obtain ⟨f1, f2, f3⟩ := fin (H2.put nx2 (some (.cells (more.map byteA) 5 false))) more.length (by simp) (by rw [Tr.get_put_ne _ _ _ _ (by omega)]; exact hold _ hp1) (by rw [Tr.get_put_same]; simp)
      (fun c hc => by rw [Tr.get_put_ne _ _ _ _ (by omega)]; exact hold _ (by omega)) (fun c hc => by rw [Tr.get_put_ne _ _ _ _ (by omega)]; exact hfr _ (by omega))
    exact ⟨_, _, _, app_nil h2 hs hne (by simpa using hm), f1, f2, f3⟩
  · rw [hbf] at c5
    injection c5 with c5
    subst c5
    have hc2 : H2.get c = some (.cells (bs.map byteA) 5 false) := (hold c c3).trans c6
    obtain ⟨f1, f2, f3⟩ := fin ((H2.put c none).put nx2 (some (.cells (bs.map byteA ++ more.map byteA) 5 false))) (bs.length + more.length) rfl
      (by rw [Tr.get_put_ne _ _ _ _ (by omega), Tr.get_put_ne _ _ _ _ (Ne.symm c1)]; exact hold _ hp1) (by rw [Tr.get_put_same]; simp)
      (fun c' hc => by rw [Tr.get_put_ne _ _ _ _ (by omega), Tr.get_put_ne _ _ _ _ (by omega)]; exact hold _ (by omega))
      (fun c' hc => by rw [Tr.get_put_ne _ _ _ _ (by omega), Tr.get_put_ne _ _ _ _ (by omega)]; exact hfr _ (by omega))
    have ha := app_open (nx := nx2) h2 hc2 hs hne (by simp) (by simpa using hm) (one_byteA more)
    simp only [List.length_map] at ha
    exact ⟨_, _, _, ha, f1, f2, f3⟩
theorem wb_cl {n0 p o : Nat} {cs : List AV} {t : TypeId} {bs : List UInt8} (hb : Bld n0 H nx p o cs t bs) (hlen : bs.length ≤ 100000000) (b : UInt8) :
    ∃ H' nx' cs', Cl cx 143 [.ptr p o, byteA b] H nx = some (.lit .nilIface, H', nx') ∧ Bld n0 H' nx' p o cs' t (bs ++ [b]) ∧ nx ≤ nx' ∧ (∀ j, j ≠ o → j ≠ o + 1 → cs'[j]? = cs[j]?) ∧ cs'.length = cs.length ∧ ∀ c, c < n0 → H'.get c = H.get c := by
  obtain ⟨H1, cs1, k1, k2, k3, k4, k5, k6⟩ := cc_cl hb
  obtain ⟨bf, hbf⟩ : ∃ bf, cs1[o + 1]? = some bf := by
    rcases k2.buf with ⟨_, h⟩ | ⟨c, _, _, _, h, _⟩ <;> exact ⟨_, h⟩
  have hp1 := hb.p1
  have hp0 := hb.p0
  obtain ⟨H3, bf', H4, a1, a2, a3, a4⟩ := app_bld (H2 := H1.put nx (some (.cells [byteA b] 5 false))) (nx2 := nx + 1) (t2 := 81) (x := .slice nx 0 1 (some 1) 1) (more := [b]) k2 k3 hbf (by omega)
    (fun c hc => Tr.get_put_ne _ _ _ _ (by omega)) (fun c hc => by rw [Tr.get_put_ne _ _ _ _ (by omega)]; exact k2.fr c (by omega)) (.inl rfl)
    (by simp [srcCells, Tr.get_put, cut]) (by simp) (by simp; omega)
  refine ⟨H4, nx + 1 + 1, cs1.set (o + 1) bf', ?_, a3, by omega, fun j h1 h2 => by rw [set_get h2, k4 j h1], by simp [k6], fun c hc => ?_⟩
  · refine wp143 _ _ _ _ (by simp) ?_
    unfold s143
    have hbs := bs_one (H := H1) (nx := nx) b
    simp only [↓aA, ↓aB, ↓aC, ↓aD, ↓aE, ↓aF, ↓aG, ↓aH, aI, ↓aJ, ↓aK, aL, stepA, opA, convA, isCall, put?, ev, aM, aN, builtinA, callA, argEnv, wantedS, aO, aP, aQ, aR, aS, aT, aU, aV, aW, undef, z_none, aX, aY, aZ, bA, bB, bC, bD, bE, bF, bG, extractOp, bH, bI, bJ, bK, Nat.reduceLT, Nat.reduceEqDiff, Nat.reduceAdd, bL, bM, bN, bO, bP, ↓reduceIte, bQ, bR, reduceCtorEq, resA, resOf, bS, bT, bU, bV, bW, bX, bY, bZ, cA, cB, cC, cD, cE, cF, cG, cH, cI, cJ, cK, cL, maxA, minA, cM, cN, cO, cP, cQ, cR, cS, cT, cU, cV, cW, cX, x_none, k1, nc_ptr, fa125_1, ld_at (t := 81) (by kernel_rfl) k2.hp hbf, partsA, hbs, a1, a2]
  · rw [a4 c hc, k5 c (by omega)]
theorem T219 : cx.T.get 219 = some ti219 := by kernel_rfl
theorem bytesOf_map : ∀ l : List UInt8, bytesOf (l.map byteA) = some (l.map fun b => (b.toNat : Int))
  | [] => rfl
  | b :: l => by
    have := bytesOf_map l
    simp only [List.map_cons, byteA, bytesOf, this, Option.map_some]
theorem fold_push (l : List UInt8) : ∀ acc : ByteArray, (l.map fun b => (b.toNat : Int)).foldl (fun r n => r.push (UInt8.ofNat n.toNat)) acc = ⟨acc.data ++ l.toArray⟩ := by
  induction l with
  | nil => intro acc; simp
  | cons b l ih =>
    intro acc
    simp only [List.map_cons, List.foldl_cons]
    rw [ih]
    simp [ByteArray.push]
theorem fold_bytes (l : List UInt8) : (l.map fun b => (b.toNat : Int)).foldl (fun r n => r.push (UInt8.ofNat n.toNat)) ByteArray.empty = B l := by
  rw [fold_push]
  simp [B, ByteArray.empty, ByteArray.emptyWithCapacity]
  rfl
theorem lies_bytes {n : Nat} (h : 1 ≤ n) : liesAt cx.P cx.P.depth 5 (n / cx.P.cellsOf 5) 0 5 n = true := by
  have hd : (cx.P.depth == 0) = false := by kernel_rfl
  obtain ⟨d, hd⟩ : ∃ d, cx.P.depth = d + 1 := ⟨cx.P.depth - 1, by simp at hd; omega⟩
  have hc : cx.P.cellsOf 5 = 1 := by kernel_rfl
  rw [hd, hc]
  simp only [liesAt, Bool.or_eq_true]
  left
  rw [hd]
  simp only [rowAt, hc]
  simp [sameLayout]
theorem us_cl {c : Nat} {bs : List UInt8} (hc : H.get c = some (.cells (bs.map byteA) 5 false)) (h0 : bs ≠ []) (hm : bs.length ≤ 100000000) :
    unsafeStringOp cx.P cx.T H nx 219 (.ptr c 0) (.lit (.int .i64 bs.length)) = some (strA bs, H.put c (some (.cells (bs.map byteA) 5 true)), nx) := by
  obtain ⟨k, hk⟩ : ∃ k, bs.length = k + 1 := ⟨bs.length - 1, by have := List.length_pos_iff.2 h0; omega⟩
  have hcut : cut (bs.map byteA) 0 (k + 1) = some (bs.map byteA) := by
    have : (bs.map byteA).take bs.length = bs.map byteA := List.take_of_length_le (by simp)
    simp [cut, ← hk, this]
  have hl : liesAt cx.P cx.P.depth 5 ((bs.map byteA).length / cx.P.cellsOf 5) 0 5 (k + 1) = true := by
    rw [List.length_map, hk]; exact lies_bytes (by omega)
  have hmx : ((k + 1 : Nat) : Int) ≤ IntKind.i64.max := by
    have e : IntKind.i64.max = 9223372036854775807 := by decide
    rw [e]; omega
  rw [hk]
  show (match cx.T.get 219, H.get c with
    | some { desc := .pointer e, .. }, some (.cells cs tb false) =>
      if liesAt cx.P cx.P.depth tb (cs.length / cx.P.cellsOf tb) 0 e (k + 1) = true ∧ ((k + 1 : Nat) : Int) ≤ IntKind.i64.max then
        ((cut cs 0 (k + 1)).bind bytesOf).map fun (ns : List Int) => (AV.lit (Value.string (ns.foldl (fun (r : ByteArray) (n : Int) => r.push (UInt8.ofNat n.toNat)) ByteArray.empty)), H.put c (some (.cells cs tb true)), nx)
      else none
    | _, _ => none) = _
  simp only [T219, ti219, hc]
  rw [if_pos ⟨hl, hmx⟩, hcut]
  simp only [Option.bind_some, bytesOf_map, Option.map_some, fold_bytes]
  rfl
theorem bstr_cl {n0 p o : Nat} {cs : List AV} {t : TypeId} {bs : List UInt8} (hb : Bld n0 H nx p o cs t bs) (hm : bs.length ≤ 100000000) (h0 : bs ≠ [] ∨ cs[o + 1]? = some (.lit (.slice none 0 0))) :
    ∃ H', Cl cx 73 [.ptr p o] H nx = some (strA bs, H', nx) ∧ (∀ c, c < n0 → H'.get c = H.get c) ∧ (∀ b, nx ≤ b → H'.get b = none) := by
  rcases hb.buf with ⟨rfl, h⟩ | ⟨c, c1, c2, c3, c5, c6⟩
  · refine ⟨H, ?_, fun _ _ => rfl, hb.fr⟩
    refine wp73 _ _ _ _ (by simp) ?_
    unfold s73
    simp only [↓aA, ↓aB, ↓aC, ↓aD, ↓aE, ↓aF, ↓aG, ↓aH, aI, ↓aJ, ↓aK, aL, stepA, opA, convA, isCall, put?, ev, aM, aN, builtinA, callA, argEnv, wantedS, aO, aP, aQ, aR, aS, aT, aU, aV, aW, undef, z_none, aX, aY, aZ, bA, bB, bC, bD, bE, bF, bG, extractOp, bH, bI, bJ, bK, Nat.reduceLT, Nat.reduceEqDiff, Nat.reduceAdd, bL, bM, bN, bO, bP, ↓reduceIte, bQ, bR, reduceCtorEq, resA, resOf, bS, bT, bU, bV, bW, bX, bY, bZ, cA, cB, cC, cD, cE, cF, cG, cH, cI, cJ, cK, cL, maxA, minA, cM, cN, cO, cP, cQ, cR, cS, cT, cU, cV, cW, cX]
    refine s73_d0_wq ?_
    unfold s73_d0s
    have hln : lenOp cx.T .nil 81 (.lit (.slice none 0 0)) = some 0 := by kernel_rfl
    have hus : unsafeStringOp cx.P cx.T H nx 219 (.lit (.pointer none)) (.lit (.int .i64 (0 : Nat))) = some (strA [], H, nx) := by kernel_rfl
    simp only [↓aA, ↓aB, ↓aC, ↓aD, ↓aE, ↓aF, ↓aG, ↓aH, aI, ↓aJ, ↓aK, aL, stepA, opA, convA, isCall, put?, ev, aM, aN, builtinA, callA, argEnv, wantedS, aO, aP, aQ, aR, aS, aT, aU, aV, aW, undef, z_none, aX, aY, aZ, bA, bB, bC, bD, bE, bF, bG, extractOp, bH, bI, bJ, bK, Nat.reduceLT, Nat.reduceEqDiff, Nat.reduceAdd, bL, bM, bN, bO, bP, ↓reduceIte, bQ, bR, reduceCtorEq, resA, resOf, bS, bT, bU, bV, bW, bX, bY, bZ, cA, cB, cC, cD, cE, cF, cG, cH, cI, cJ, cK, cL, maxA, minA, cM, cN, cO, cP, cQ, cR, cS, cT, cU, cV, cW, cX, ↓cY, ↓cZ, txS, dA, dB, dC, dD, dE, dF, dG, dH, dI, dJ, dK, dL, dM, isEff, dN, dO, dP, dQ, dR, dS, AV.belowB, dT, dU, nc_ptr, fa125_1, ld_at (t := 81) (by kernel_rfl) hb.hp h, sliceDataOp, hln, hus]
  · have c4 : bs ≠ [] := by
      rcases h0 with h | h
      · exact h
      · rw [c5] at h; cases h
    refine ⟨H.put c (some (.cells (bs.map byteA) 5 true)), ?_, fun c' hc => Tr.get_put_ne _ _ _ _ (by omega), fun b hb2 => by rw [Tr.get_put_ne _ _ _ _ (by omega)]; exact hb.fr b hb2⟩
    refine wp73 _ _ _ _ (by simp) ?_
    unfold s73
    simp only [↓aA, ↓aB, ↓aC, ↓aD, ↓aE, ↓aF, ↓aG, ↓aH, aI, ↓aJ, ↓aK, aL, stepA, opA, convA, isCall, put?, ev, aM, aN, builtinA, callA, argEnv, wantedS, aO, aP, aQ, aR, aS, aT, aU, aV, aW, undef, z_none, aX, aY, aZ, bA, bB, bC, bD, bE, bF, bG, extractOp, bH, bI, bJ, bK, Nat.reduceLT, Nat.reduceEqDiff, Nat.reduceAdd, bL, bM, bN, bO, bP, ↓reduceIte, bQ, bR, reduceCtorEq, resA, resOf, bS, bT, bU, bV, bW, bX, bY, bZ, cA, cB, cC, cD, cE, cF, cG, cH, cI, cJ, cK, cL, maxA, minA, cM, cN, cO, cP, cQ, cR, cS, cT, cU, cV, cW, cX]
    refine s73_d0_wq ?_
    unfold s73_d0s
    have hln : lenOp cx.T .nil 81 (.slice c 0 bs.length none 1) = some bs.length := by kernel_rfl
    have hsd : sliceDataOp (.slice c 0 bs.length none 1) = some (.ptr c 0) := by
      cases bs with
      | nil => exact absurd rfl c4
      | cons => rfl
    simp only [↓aA, ↓aB, ↓aC, ↓aD, ↓aE, ↓aF, ↓aG, ↓aH, aI, ↓aJ, ↓aK, aL, stepA, opA, convA, isCall, put?, ev, aM, aN, builtinA, callA, argEnv, wantedS, aO, aP, aQ, aR, aS, aT, aU, aV, aW, undef, z_none, aX, aY, aZ, bA, bB, bC, bD, bE, bF, bG, extractOp, bH, bI, bJ, bK, Nat.reduceLT, Nat.reduceEqDiff, Nat.reduceAdd, bL, bM, bN, bO, bP, ↓reduceIte, bQ, bR, reduceCtorEq, resA, resOf, bS, bT, bU, bV, bW, bX, bY, bZ, cA, cB, cC, cD, cE, cF, cG, cH, cI, cJ, cK, cL, maxA, minA, cM, cN, cO, cP, cQ, cR, cS, cT, cU, cV, cW, cX, ↓cY, ↓cZ, txS, dA, dB, dC, dD, dE, dF, dG, dH, dI, dJ, dK, dL, dM, isEff, dN, dO, dP, dQ, dR, dS, AV.belowB, dT, dU, nc_ptr, fa125_1, ld_at (t := 81) (by kernel_rfl) hb.hp c5, hsd, hln, us_cl c6 c4 hm, decide_eq_true c3]
structure Fr (H : Heap) (nx : Nat) (H' : Heap) (nx' : Nat) : Prop where
  le : nx ≤ nx'
  old : ∀ c, c < nx → H'.get c = H.get c
  fr : ∀ b, nx' ≤ b → H'.get b = none
theorem Fr.refl (h : ∀ b, nx ≤ b → H.get b = none) : Fr H nx H nx := ⟨Nat.le_refl _, fun _ _ => rfl, h⟩
theorem Fr.trans {H1 H2 : Heap} {n1 n2 : Nat} (a : Fr H nx H1 n1) (b : Fr H1 n1 H2 n2) : Fr H nx H2 n2 :=
  ⟨Nat.le_trans a.le b.le, fun c hc => (b.old c (Nat.lt_of_lt_of_le hc a.le)).trans (a.old c hc), b.fr⟩
theorem Fr.put (h : ∀ b, nx ≤ b → H.get b = none) (ob : Option AObj) : Fr H nx (H.put nx ob) (nx + 1) :=
  ⟨Nat.le_succ _, fun c hc => Tr.get_put_ne _ _ _ _ (by omega), fun b hb => by rw [Tr.get_put_ne _ _ _ _ (by omega)]; exact h b (by omega)⟩
end Seat
end CI
namespace CI
open Go
namespace Seat
variable {H : Heap} {nx : Nat}
end Seat
end CI
namespace CI
open Go
namespace Seat
variable {H : Heap} {nx : Nat}
theorem pure_is {P : Program} {m : Sem Value} {v : Value} (w0 : World) (h1 : ∃ a, pureRun P m = some a) (h2 : ∀ w, m.run P w = .ok v w) : pureRun P m = some v := by
  obtain ⟨a, ha⟩ := h1
  have h3 := (pureRun_ok w0 ha).symm.trans (h2 _)
  injection h3 with h3
  rw [ha, h3]
theorem pure354 (s : ByteArray) (c : UInt8) : ∃ a, pureRun cx.P (Extern.BytealgIndexByte.indexByte #[.string s, .int .u8 c.toNat]) = some a := by
  have e : pureRun cx.P (Extern.BytealgIndexByte.indexByte #[.string s, .int .u8 c.toNat]) = pureRun cx.P (match (List.range s.size).find? fun i => s[i]! == ((c.toNat : Nat) : Int).toNat.toUInt8 with
    | some i => pure (goInt i)
    | none => pure (goInt (-1))) := by kernel_rfl
  rw [e]
  split
  · exact ⟨_, rfl⟩
  · exact ⟨_, rfl⟩
theorem u8_back (c : UInt8) : ((c.toNat : Nat) : Int).toNat.toUInt8 = c := by simp
theorem ext354 (l : List UInt8) (c : UInt8) : extX cx.P exts 354 [strA l, byteA c] = (pureRun cx.P (Extern.BytealgIndexByte.indexByte #[.string (B l), .int .u8 c.toNat])).map abs := by kernel_rfl
theorem i354 : idents.get 354 = none := by kernel_rfl
theorem x354 (w0 : World) (l : List UInt8) (c : UInt8) : cx.X 354 [strA l, byteA c] = some (.lit (.int .i64 (Lib.indexByte l c))) := by
  have h0 : cx.X 354 [strA l, byteA c] = extX4 cx.P exts sums idents cons 354 [strA l, byteA c] := rfl
  have e : extX cx.P exts 354 [strA l, byteA c] = some (.lit (.int .i64 (Lib.indexByte l c))) := by
    rw [ext354, pure_is w0 (pure354 (B l) c) (fun w => Lib.run_indexByteString (B l) c.toNat w), B_data, u8_back]
    rfl
  rw [h0]
  have hc : cons.get 354 = none := by kernel_rfl
  unfold extX4 extX3 extX2
  rw [i354, e, hc]
theorem x346 (w0 : World) (l : List UInt8) (c : UInt8) : cx.X 346 [strA l, byteA c] = some (.lit (.int .i64 (l.count c : Nat))) := by
  have h0 : cx.X 346 [strA l, byteA c] = (pureRun cx.P (Extern.BytealgCount.count #[.string (B l), .int .u8 c.toNat])).map abs := by kernel_rfl
  rw [h0, pure_is w0 ⟨_, rfl⟩ (fun w => Lib.run_countString (B l) c.toNat w), B_data, u8_back]
  rfl
theorem sep_ix (c : UInt8) : indexOp cx.P cx.T 9 (strA [c]) (.lit (.int .i64 0)) = some (byteA c) := by kernel_rfl
theorem sep_len (c : UInt8) (H : Heap) : lenOp cx.T H 9 (strA [c]) = some 1 := by kernel_rfl
theorem ix_cl (w0 : World) (l : List UInt8) (c : UInt8) : Cl cx 272 [strA l, strA [c]] H nx = some (.lit (.int .i64 (Lib.indexByte l c)), H, nx) := by
  have h60 : Cl cx 280 [strA l, byteA c] H nx = some (.lit (.int .i64 (Lib.indexByte l c)), H, nx) := by
    refine wp280 _ _ _ _ (by simp) ?_
    unfold s280
    simp only [↓aA, ↓aB, ↓aC, ↓aD, ↓aE, ↓aF, ↓aG, ↓aH, aI, ↓aJ, ↓aK, aL, stepA, opA, convA, isCall, put?, ev, aM, aN, builtinA, callA, argEnv, wantedS, aO, aP, aQ, aR, aS, aT, aU, aV, aW, undef, z_none, aX, aY, aZ, bA, bB, bC, bD, bE, bF, bG, extractOp, bH, bI, bJ, bK, Nat.reduceLT, Nat.reduceEqDiff, Nat.reduceAdd, bL, bM, bN, bO, bP, ↓reduceIte, bQ, bR, reduceCtorEq, resA, resOf, bS, bT, bU, bV, bW, bX, bY, bZ, cA, cB, cC, cD, cE, cF, cG, cH, cI, cJ, cK, cL, maxA, minA, cM, cN, cO, cP, cQ, cR, cS, cT, cU, cV, cW, cX, x354 w0 l c]
  have h48 : Cl cx 210 [strA l, strA [c]] H nx = some (.lit (.int .i64 (Lib.indexByte l c)), H, nx) := by
    refine wp210 _ _ _ _ (by simp) ?_
    unfold s210
    have e1 : (((1 : Nat) : Int) = 0) = False := by simp
    have e2 : (((1 : Nat) : Int) = 1) = True := by simp
    have e3 : binOpA cx.P cx.T .eql 9 (.tmp 20) (.tmp 21) (strA [c]) (strA l) = some (.lit (.bool (decide ([c] = l)))) := str_eql _ _ [c] l
    by_cases h : [c] = l
    · subst h
      have e4 : Lib.indexByte [c] c = 0 := by simp [Lib.indexByte]
      simp only [↓aA, ↓aB, ↓aC, ↓aD, ↓aE, ↓aF, ↓aG, ↓aH, aI, ↓aJ, ↓aK, aL, stepA, opA, convA, isCall, put?, ev, aM, aN, builtinA, callA, argEnv, wantedS, aO, aP, aQ, aR, aS, aT, aU, aV, aW, undef, z_none, aX, aY, aZ, bA, bB, bC, bD, bE, bF, bG, extractOp, bH, bI, bJ, bK, Nat.reduceLT, Nat.reduceEqDiff, Nat.reduceAdd, bL, bM, bN, bO, bP, ↓reduceIte, bQ, bR, reduceCtorEq, resA, resOf, bS, bT, bU, bV, bW, bX, bY, bZ, cA, cB, cC, cD, cE, cF, cG, cH, cI, cJ, cK, cL, maxA, minA, cM, cN, cO, cP, cQ, cR, cS, cT, cU, cV, cW, cX, sep_len c, sep_ix c, e1, e2, e3, e4, x_none, h60]
    · simp only [↓aA, ↓aB, ↓aC, ↓aD, ↓aE, ↓aF, ↓aG, ↓aH, aI, ↓aJ, ↓aK, aL, stepA, opA, convA, isCall, put?, ev, aM, aN, builtinA, callA, argEnv, wantedS, aO, aP, aQ, aR, aS, aT, aU, aV, aW, undef, z_none, aX, aY, aZ, bA, bB, bC, bD, bE, bF, bG, extractOp, bH, bI, bJ, bK, Nat.reduceLT, Nat.reduceEqDiff, Nat.reduceAdd, bL, bM, bN, bO, bP, ↓reduceIte, bQ, bR, reduceCtorEq, resA, resOf, bS, bT, bU, bV, bW, bX, bY, bZ, cA, cB, cC, cD, cE, cF, cG, cH, cI, cJ, cK, cL, maxA, minA, cM, cN, cO, cP, cQ, cR, cS, cT, cU, cV, cW, cX, sep_len c, sep_ix c, e1, e2, e3, h, x_none, h60]
  refine wp272 _ _ _ _ (by simp) ?_
  unfold s272
  simp only [↓aA, ↓aB, ↓aC, ↓aD, ↓aE, ↓aF, ↓aG, ↓aH, aI, ↓aJ, ↓aK, aL, stepA, opA, convA, isCall, put?, ev, aM, aN, builtinA, callA, argEnv, wantedS, aO, aP, aQ, aR, aS, aT, aU, aV, aW, undef, z_none, aX, aY, aZ, bA, bB, bC, bD, bE, bF, bG, extractOp, bH, bI, bJ, bK, Nat.reduceLT, Nat.reduceEqDiff, Nat.reduceAdd, bL, bM, bN, bO, bP, ↓reduceIte, bQ, bR, reduceCtorEq, resA, resOf, bS, bT, bU, bV, bW, bX, bY, bZ, cA, cB, cC, cD, cE, cF, cG, cH, cI, cJ, cK, cL, maxA, minA, cM, cN, cO, cP, cQ, cR, cS, cT, cU, cV, cW, cX, x_none, h48]
theorem cnt_cl (w0 : World) (l : List UInt8) (c : UInt8) : Cl cx 271 [strA l, strA [c]] H nx = some (.lit (.int .i64 (l.count c : Nat)), H, nx) := by
  refine wp271 _ _ _ _ (by simp) ?_
  unfold s271
  have e1 : (((1 : Nat) : Int) = 0) = False := by simp
  have e2 : (((1 : Nat) : Int) = 1) = True := by simp
  simp only [↓aA, ↓aB, ↓aC, ↓aD, ↓aE, ↓aF, ↓aG, ↓aH, aI, ↓aJ, ↓aK, aL, stepA, opA, convA, isCall, put?, ev, aM, aN, builtinA, callA, argEnv, wantedS, aO, aP, aQ, aR, aS, aT, aU, aV, aW, undef, z_none, aX, aY, aZ, bA, bB, bC, bD, bE, bF, bG, extractOp, bH, bI, bJ, bK, Nat.reduceLT, Nat.reduceEqDiff, Nat.reduceAdd, bL, bM, bN, bO, bP, ↓reduceIte, bQ, bR, reduceCtorEq, resA, resOf, bS, bT, bU, bV, bW, bX, bY, bZ, cA, cB, cC, cD, cE, cF, cG, cH, cI, cJ, cK, cL, maxA, minA, cM, cN, cO, cP, cQ, cR, cS, cT, cU, cV, cW, cX, sep_len c, sep_ix c, e1, e2, x346 w0 l c]
end Seat
end CI
namespace CI
open Go
theorem pb_bound {P : Program} {i y : Nat} (h : i ≤ y) (code : BoundsCode) : pureRun P (Instr.sliceBound (.int .i64 (i : Nat)) y code) = some i := by
  unfold Instr.sliceBound
  rw [pureRun_bind]
  show pureRun P (if 0 ≤ (i : Int) ∧ (i : Int) ≤ (y : Nat) then pure (i : Int).toNat else _) = _
  rw [if_pos ⟨by omega, by omega⟩]
  rfl
theorem pb_pure {α : Type} (P : Program) (a : α) : pureRun P (pure a : Sem α) = some a := rfl
namespace Seat
variable {H : Heap} {nx : Nat}
theorem B_extract (l : List UInt8) (i j : Nat) : (B l).extract i j = B ((l.take j).drop i) := by
  apply ByteArray.ext
  simp only [B, ByteArray.data_extract, List.extract_toArray, List.extract_eq_take_drop]
  rw [List.drop_take]
theorem str_to (w : List UInt8) (k : Nat) (hk : k ≤ w.length) : sliceOp cx.P cx.T H 9 (strA w) none (some (.lit (.int .i64 (k : Nat)))) none = some (strA (w.take k)) := by
  have e : sliceOp cx.P cx.T H 9 (strA w) none (some (.lit (.int .i64 (k : Nat)))) none = (pureRun cx.P (do
      let (l, h, _) ← Instr.sliceBounds false (B w).size (B w).size none (some (.int .i64 (k : Nat))) none
      pure (.string ((B w).extract l h)))).map abs := by kernel_rfl
  rw [e, pureRun_bind]
  have hb : pureRun cx.P (Instr.sliceBounds false (B w).size (B w).size none (some (.int .i64 (k : Nat))) none) = some (0, k, (B w).size) := by
    unfold Instr.sliceBounds
    simp only [pureRun_bind, pb_pure, Option.bind_some]
    rw [pb_bound (by rw [B_size]; exact hk)]
    rfl
  rw [hb]
  simp only [Option.bind_some, pb_pure, Option.map_some, B_extract, List.drop_zero]
  rfl
theorem str_from (w : List UInt8) (k : Nat) (hk : k ≤ w.length) : sliceOp cx.P cx.T H 9 (strA w) (some (.lit (.int .i64 (k : Nat)))) none none = some (strA (w.drop k)) := by
  have e : sliceOp cx.P cx.T H 9 (strA w) (some (.lit (.int .i64 (k : Nat)))) none none = (pureRun cx.P (do
      let (l, h, _) ← Instr.sliceBounds false (B w).size (B w).size (some (.int .i64 (k : Nat))) none none
      pure (.string ((B w).extract l h)))).map abs := by kernel_rfl
  rw [e, pureRun_bind]
  have hb : pureRun cx.P (Instr.sliceBounds false (B w).size (B w).size (some (.int .i64 (k : Nat))) none none) = some (k, (B w).size, (B w).size) := by
    unfold Instr.sliceBounds
    simp only [pureRun_bind, pb_pure, Option.bind_some]
    rw [pb_bound (by rw [B_size]; exact hk)]
    rfl
  rw [hb]
  simp only [Option.bind_some, pb_pure, Option.map_some, B_extract, B_size, List.take_length]
  rfl
end Seat
end CI
namespace CI
open Go
namespace Seat
variable {H : Heap} {nx : Nat}
theorem T100 : cx.T.get 100 = some ti100 := by kernel_rfl
theorem wrapS {i : Nat} (h : i < 9223372036854775807) : IntKind.i64.wrap ((i : Int) + 1) = ((i + 1 : Nat) : Int) := by
  rw [wrapI]; · rfl
  constructor <;> omega
theorem wrapS0 {i : Nat} (h : i < 9223372036854775807) : IntKind.i64.wrap ((i : Int) + 0) = (i : Int) := by
  rw [Int.add_zero, wrapI]; constructor <;> omega
theorem wrapP {i : Nat} (h : i < 9223372036854775807) : IntKind.i64.wrap (((i + 1 : Nat) : Int) - 1) = (i : Int) := by
  rw [wrapI]; · omega
  constructor <;> omega
theorem ix100 {b n i : Nat} {c : Option Nat} (h : i < n) : indexAddrOp cx.T 100 (.slice b 0 n c 1) (.lit (.int .i64 i)) = some (.ptr b i) := by
  unfold indexAddrOp
  simp only [T100, ti100, T9, ti9]
  rw [if_pos ⟨by omega, by omega, trivial⟩]
  simp
theorem mk100 (n : Nat) (h0 : 1 ≤ n) (h : n ≤ 1000000) : ∃ zs : List AV, zs.length = n ∧ makeSliceOp cx.T H nx 100 (.lit (.int .i64 n)) (.lit (.int .i64 n)) = some (.slice nx 0 n (some n) 1, H.put nx (some (.cells zs 9 false)), nx + 1) := by
  refine ⟨zrow n (cellsOf (abs (.string ⟨#[]⟩))), by simp [zrow], ?_⟩
  unfold makeSliceOp
  simp only [T100, ti100, T9, ti9]
  have hc : cellsOf (abs (.string ⟨#[]⟩)) ≠ [] := by intro h; cases h
  rw [if_pos ⟨by omega, by omega, by omega, by omega, hc, by simp⟩]
  simp
theorem sl100 (b n : Nat) (h : 1 ≤ n) : sliceOp cx.P cx.T H 100 (.slice b 0 n (some n) 1) none (some (.lit (.int .i64 (n : Nat)))) none = some (.slice b 0 n (some n) 1) := by
  unfold sliceOp
  simp only [T100, ti100, T9, ti9]
  have e1 : bnd (some (.lit (.int .i64 ((n : Nat) : Int)))) n = some n := by simp [bnd]
  have e2 : ∀ k, bnd none k = some k := fun _ => rfl
  rw [if_neg (by simp)]
  simp only [e1, e2]
  rw [if_pos ⟨Nat.le_refl _, Nat.le_refl _, Nat.zero_le _, by simp⟩]
  unfold cutTo
  rw [if_neg (by omega)]
  simp
theorem set_tail (A : List AV) (x v : AV) (t : List AV) : (A ++ x :: t).set A.length v = (A ++ [v]) ++ t := by
  rw [List.set_append_right _ _ (Nat.le_refl _), Nat.sub_self]
  simp
section
variable {l : List UInt8} {n0 : Nat} {QQ : Ex → St → Prop}
structure GS (H0 : Heap) (l : List UInt8) (b i : Nat) (rest : List UInt8) (E : Tr AV) (H : Heap) : Prop where
  t0 : E.get 0 = some (strA rest)
  t1 : E.get 1 = some (strA [32])
  t2 : E.get 2 = some (.lit (.int .i64 0))
  t3 : E.get 3 = some (.lit (.int .i64 (((Spl.spl l).length - 1 : Nat) : Int)))
  t9 : E.get 9 = some (.slice b 0 (Spl.spl l).length (some (Spl.spl l).length) 1)
  t10 : E.get 10 = some (.lit (.int .i64 i))
  mem : ∃ done tail, Spl.spl l = done ++ Spl.spl rest ∧ done.length = i ∧ H.get b = some (.cells (done.map strA ++ tail) 9 false) ∧ done.length + tail.length = (Spl.spl l).length
  old : ∀ c, c ≠ b → H.get c = H0.get c
theorem gs_loop {H0 : Heap} {b nx : Nat} {E : Tr AV} {H : Heap} (w0 : World) (hl : l.length ≤ 100000) (h : GS H0 l b 0 l E H)
    (hQ : ∀ E' H' rest i, GS H0 l b i rest E' H' → Spl.spl rest = [rest] → i + 1 = (Spl.spl l).length → QQ (.exit 0) ⟨E', H', nx⟩) : Wp cx 66 (.loop s203_l0) ⟨E, H, nx⟩ QQ := by
  refine Wp_loop (fun n st => ∃ rest i, n = (Spl.spl l).length - i ∧ rest.length ≤ l.length ∧ st.nx = nx ∧ GS H0 l b i rest st.env st.H) ?_ ((Spl.spl l).length) _ ⟨l, 0, rfl, Nat.le_refl _, rfl, h⟩
  rintro n ⟨E, H, nx1⟩ ⟨rest, i, hn, hr, q2, g⟩
  simp only at q2 g; subst q2
  have g' := g
  obtain ⟨e0, e1, e2, e3, e9, e10, ⟨done, tail, m1, m2, m3, m4⟩, ho⟩ := g
  have hlen : done.length + (Spl.spl rest).length = (Spl.spl l).length := by rw [m1, List.length_append]
  have hpos : 1 ≤ (Spl.spl rest).length := List.length_pos_iff.2 (Spl.spl_ne rest)
  have hcnt : (Spl.spl l).length ≤ 100001 := by
    rw [Spl.spl_len]
    have := List.count_le_length (a := (32 : UInt8)) (l := l)
    omega
  refine Wp_of ?_
  unfold s203_l0
  by_cases hlt : i < (Spl.spl l).length - 1
  · have hge := Lib.indexByte_ge rest 32
    have hne : Lib.indexByte rest 32 ≠ -1 := by
      intro hh
      have := Spl.ix_none hh
      rw [this] at hlen
      simp at hlen
      omega
    obtain ⟨m, hm⟩ : ∃ m : Nat, Lib.indexByte rest 32 = m := ⟨(Lib.indexByte rest 32).toNat, by omega⟩
    obtain ⟨hm1, hm2⟩ := Spl.ix_some hm
    obtain ⟨x, t, rfl⟩ : ∃ x t, tail = x :: t := by
      cases tail with
      | nil => simp at m4; omega
      | cons x t => exact ⟨x, t, rfl⟩
    have hwi := wrapS (i := i) (by omega)
    have hwm := wrapS (i := m) (by omega)
    have hwm0 := wrapS0 (i := m) (by omega)
    have hwm1 : IntKind.i64.wrap ((m : Int) + ((1 : Nat) : Int)) = ((m + 1 : Nat) : Int) := hwm
    have hneg : (((m : Nat) : Int) < 0) = False := by simp
    have hii : ((i : Int) < (((Spl.spl l).length - 1 : Nat) : Int)) = True := by simp; omega
    have hix : indexAddrOp cx.T 100 (.slice b 0 (Spl.spl l).length (some (Spl.spl l).length) 1) (.lit (.int .i64 (i : Int))) = some (.ptr b i) := ix100 (by omega)
    have hst := st_at (t := 9) (v := strA (rest.take m)) (by kernel_rfl) m3 (o := i) (by simp; omega) rfl rfl
    have hset : (done.map strA ++ x :: t).set i (strA (rest.take m)) = (done ++ [rest.take m]).map strA ++ t := by
      have : i = (done.map strA).length := by simp [m2]
      rw [this, set_tail]
      simp
    rw [hset] at hst
    simp only [↓aA, ↓aB, ↓aC, ↓aD, ↓aE, ↓aF, ↓aG, ↓aH, aI, ↓aJ, ↓aK, aL, stepA, opA, convA, isCall, put?, ev, aM, aN, builtinA, callA, argEnv, wantedS, aO, aP, aQ, aR, aS, aT, aU, aV, aW, undef, z_none, aX, aY, aZ, bA, bB, bC, bD, bE, bF, bG, extractOp, bH, bI, bJ, bK, Nat.reduceLT, Nat.reduceEqDiff, Nat.reduceAdd, bL, bM, bN, bO, bP, ↓reduceIte, bQ, bR, reduceCtorEq, resA, resOf, bS, bT, bU, bV, bW, bX, bY, bZ, cA, cB, cC, cD, cE, cF, cG, cH, cI, cJ, cK, cL, maxA, minA, cM, cN, cO, cP, cQ, cR, cS, cT, cU, cV, cW, cX, e0, e1, e2, e3, e9, e10, hii, x_none, ix_cl w0 _ 32, hm, hneg, hwm0, str_to rest m (by omega), hix, hst, sep_len 32, hwm, hwm1, str_from rest (m + 1) (by omega), hwi]
    refine ⟨(Spl.spl l).length - (i + 1), by omega, rest.drop (m + 1), i + 1, rfl, by simp; omega, ?_⟩
    constructor <;> first
      | (simp only [↓aA, ↓aB, ↓aC, ↓aD, ↓aE, ↓aF, ↓aG, ↓aH, aI, ↓aJ, ↓aK, aL, stepA, opA, convA, isCall, put?, ev, aM, aN, builtinA, callA, argEnv, wantedS, aO, aP, aQ, aR, aS, aT, aU, aV, aW, undef, z_none, aX, aY, aZ, bA, bB, bC, bD, bE, bF, bG, extractOp, bH, bI, bJ, bK, Nat.reduceLT, Nat.reduceEqDiff, Nat.reduceAdd, bL, bM, bN, bO, bP, ↓reduceIte, bQ, bR, reduceCtorEq, resA, resOf, bS, bT, bU, bV, bW, bX, bY, bZ, cA, cB, cC, cD, cE, cF, cG, cH, cI, cJ, cK, cL, maxA, minA, cM, cN, cO, cP, cQ, cR, cS, cT, cU, cV, cW, cX, e0, e1, e2, e3, e9, e10]; done)
      | (intro c hc; rw [Tr.get_put_ne _ _ _ _ hc]; exact ho c hc)
      | exact ⟨done ++ [rest.take m], t, by rw [m1, hm2]; simp, by simp [m2], Tr.get_put_same _ _ _, by simp at m4 ⊢; omega⟩
  · have hii : ((i : Int) < (((Spl.spl l).length - 1 : Nat) : Int)) = False := by simp; omega
    have h1 : (Spl.spl rest).length = 1 := by omega
    have hsp : Spl.spl rest = [rest] := by
      have := Spl.spl_joi rest
      revert this h1
      cases Spl.spl rest with
      | nil => intro h; simp at h
      | cons y ys => cases ys with
        | nil => intro _ hj; simp only [Spl.joi, Spl.joiT, List.append_nil] at hj; rw [hj]
        | cons => intro h; simp at h
    simp only [↓aA, ↓aB, ↓aC, ↓aD, ↓aE, ↓aF, ↓aG, ↓aH, aI, ↓aJ, ↓aK, aL, stepA, opA, convA, isCall, put?, ev, aM, aN, builtinA, callA, argEnv, wantedS, aO, aP, aQ, aR, aS, aT, aU, aV, aW, undef, z_none, aX, aY, aZ, bA, bB, bC, bD, bE, bF, bG, extractOp, bH, bI, bJ, bK, Nat.reduceLT, Nat.reduceEqDiff, Nat.reduceAdd, bL, bM, bN, bO, bP, ↓reduceIte, bQ, bR, reduceCtorEq, resA, resOf, bS, bT, bU, bV, bW, bX, bY, bZ, cA, cB, cC, cD, cE, cF, cG, cH, cI, cJ, cK, cL, maxA, minA, cM, cN, cO, cP, cQ, cR, cS, cT, cU, cV, cW, cX, e0, e1, e2, e3, e9, e10, hii]
    refine hQ _ _ rest i ?_ hsp (by omega)
    constructor <;> first | (simp only [↓aA, ↓aB, ↓aC, ↓aD, ↓aE, ↓aF, ↓aG, ↓aH, aI, ↓aJ, ↓aK, aL, stepA, opA, convA, isCall, put?, ev, aM, aN, builtinA, callA, argEnv, wantedS, aO, aP, aQ, aR, aS, aT, aU, aV, aW, undef, z_none, aX, aY, aZ, bA, bB, bC, bD, bE, bF, bG, extractOp, bH, bI, bJ, bK, Nat.reduceLT, Nat.reduceEqDiff, Nat.reduceAdd, bL, bM, bN, bO, bP, ↓reduceIte, bQ, bR, reduceCtorEq, resA, resOf, bS, bT, bU, bV, bW, bX, bY, bZ, cA, cB, cC, cD, cE, cF, cG, cH, cI, cJ, cK, cL, maxA, minA, cM, cN, cO, cP, cQ, cR, cS, cT, cU, cV, cW, cX, e0, e1, e2, e3, e9, e10]; done) | exact ho | exact ⟨done, tail, m1, m2, m3, m4⟩
end
theorem gsplit_cl (w0 : World) (l : List UInt8) (hl : l.length ≤ 100000) :
    ∃ v H' nx', Cl cx 203 [strA l, strA [32], .lit (.int .i64 0), .lit (.int .i64 (-1))] H nx = some (v, H', nx') ∧
      (v = .slice nx 0 (Spl.spl l).length (some (Spl.spl l).length) 1 ∧ nx' = nx + 1 ∧ H'.get nx = some (.cells ((Spl.spl l).map strA) 9 false) ∧ ∀ c, c ≠ nx → H'.get c = H.get c) := by
  have hpos : 1 ≤ (Spl.spl l).length := List.length_pos_iff.2 (Spl.spl_ne l)
  have hcl : l.count 32 ≤ l.length := List.count_le_length
  have hcnt : (Spl.spl l).length = l.count 32 + 1 := Spl.spl_len l
  obtain ⟨zs, z1, z2⟩ := mk100 (H := H) (nx := nx) (Spl.spl l).length hpos (by omega)
  refine wpP203 _ _ _ _ (by simp) ?_
  unfold s203
  have e1 : (((-1 : Int)) = 0) = False := by simp
  have e2 : ((-1 : Int) < 0) = True := by simp
  have e3 : binOpA cx.P cx.T .eql 9 (.tmp 14) (.const (.string (ByteArray.mk #[]))) (strA [32]) (.lit (.string (ByteArray.mk #[]))) = some (.lit (.bool false)) := by kernel_rfl
  have hw1 : IntKind.i64.wrap ((l.count 32 : Nat) + 1) = (((Spl.spl l).length : Nat) : Int) := by rw [hcnt]; exact wrapS (by omega)
  have hw2 : IntKind.i64.wrap (((l.length : Nat) : Int) + 1) = ((l.length + 1 : Nat) : Int) := wrapS (by omega)
  have hmin : min ((Spl.spl l).length : Int) ((l.length + 1 : Nat) : Int) = ((Spl.spl l).length : Int) := by omega
  have hw3 : IntKind.i64.wrap (((Spl.spl l).length : Int) - 1) = (((Spl.spl l).length - 1 : Nat) : Int) := by
    obtain ⟨k, hk⟩ : ∃ k, (Spl.spl l).length = k + 1 := ⟨(Spl.spl l).length - 1, by omega⟩
    rw [hk]; exact wrapP (by omega)
  simp only [↓aA, ↓aB, ↓aC, ↓aD, ↓aE, ↓aF, ↓aG, ↓aH, aI, ↓aJ, ↓aK, aL, stepA, opA, convA, isCall, put?, ev, aM, aN, builtinA, callA, argEnv, wantedS, aO, aP, aQ, aR, aS, aT, aU, aV, aW, undef, z_none, aX, aY, aZ, bA, bB, bC, bD, bE, bF, bG, extractOp, bH, bI, bJ, bK, Nat.reduceLT, Nat.reduceEqDiff, Nat.reduceAdd, bL, bM, bN, bO, bP, ↓reduceIte, bQ, bR, reduceCtorEq, resA, resOf, bS, bT, bU, bV, bW, bX, bY, bZ, cA, cB, cC, cD, cE, cF, cG, cH, cI, cJ, cK, cL, maxA, minA, cM, cN, cO, cP, cQ, cR, cS, cT, cU, cV, cW, cX, e1, e2, e3, x_none, cnt_cl w0 _ 32, hw1, hw2, str_len, hmin, z2, hw3]
  refine gs_loop (l := l) (H0 := H) (b := nx) w0 hl ?_ ?_
  · constructor
    all_goals first
      | (simp only [↓aA, ↓aB, ↓aC, ↓aD, ↓aE, ↓aF, ↓aG, ↓aH, aI, ↓aJ, ↓aK, aL, stepA, opA, convA, isCall, put?, ev, aM, aN, builtinA, callA, argEnv, wantedS, aO, aP, aQ, aR, aS, aT, aU, aV, aW, undef, z_none, aX, aY, aZ, bA, bB, bC, bD, bE, bF, bG, extractOp, bH, bI, bJ, bK, Nat.reduceLT, Nat.reduceEqDiff, Nat.reduceAdd, bL, bM, bN, bO, bP, ↓reduceIte, bQ, bR, reduceCtorEq, resA, resOf, bS, bT, bU, bV, bW, bX, bY, bZ, cA, cB, cC, cD, cE, cF, cG, cH, cI, cJ, cK, cL, maxA, minA, cM, cN, cO, cP, cQ, cR, cS, cT, cU, cV, cW, cX]; done)
      | (simp only [↓aA, ↓aB, ↓aC, ↓aD, ↓aE, ↓aF, ↓aG, ↓aH, aI, ↓aJ, ↓aK, aL, stepA, opA, convA, isCall, put?, ev, aM, aN, builtinA, callA, argEnv, wantedS, aO, aP, aQ, aR, aS, aT, aU, aV, aW, undef, z_none, aX, aY, aZ, bA, bB, bC, bD, bE, bF, bG, extractOp, bH, bI, bJ, bK, Nat.reduceLT, Nat.reduceEqDiff, Nat.reduceAdd, bL, bM, bN, bO, bP, ↓reduceIte, bQ, bR, reduceCtorEq, resA, resOf, bS, bT, bU, bV, bW, bX, bY, bZ, cA, cB, cC, cD, cE, cF, cG, cH, cI, cJ, cK, cL, maxA, minA, cM, cN, cO, cP, cQ, cR, cS, cT, cU, cV, cW, cX]; rfl)
      | (intro c hc; rw [Tr.get_put_ne _ _ _ _ hc]; done)
      | exact ⟨[], zs, by simp, rfl, by rw [Tr.get_put_same]; simp, by simp [z1]⟩
  · rintro E' H' rest i ⟨e0, e1, e2, e3, e9, e10, ⟨done, tail, m1, m2, m3, m4⟩, ho⟩ hr hi
    have hix : indexAddrOp cx.T 100 (.slice nx 0 (Spl.spl l).length (some (Spl.spl l).length) 1) (.lit (.int .i64 (i : Int))) = some (.ptr nx i) := ix100 (by omega)
    have hst := st_at (t := 9) (v := strA rest) (by kernel_rfl) m3 (o := i) (by simp; omega) rfl rfl
    obtain ⟨x, rfl⟩ : ∃ x, tail = [x] := by
      match tail, m4 with
      | [], h => simp at h; omega
      | [x], _ => exact ⟨x, rfl⟩
      | x :: y :: t, h => simp at h; omega
    have hset : (done.map strA ++ [x]).set i (strA rest) = (Spl.spl l).map strA := by
      have : i = (done.map strA).length := by simp [m2]
      rw [this, set_tail, m1, hr]
      simp
    rw [hset] at hst
    have hwi : IntKind.i64.wrap ((i : Int) + 1) = (((Spl.spl l).length : Nat) : Int) := by rw [← hi]; exact wrapS (by omega)
    simp only [↓aA, ↓aB, ↓aC, ↓aD, ↓aE, ↓aF, ↓aG, ↓aH, aI, ↓aJ, ↓aK, aL, stepA, opA, convA, isCall, put?, ev, aM, aN, builtinA, callA, argEnv, wantedS, aO, aP, aQ, aR, aS, aT, aU, aV, aW, undef, z_none, aX, aY, aZ, bA, bB, bC, bD, bE, bF, bG, extractOp, bH, bI, bJ, bK, Nat.reduceLT, Nat.reduceEqDiff, Nat.reduceAdd, bL, bM, bN, bO, bP, ↓reduceIte, bQ, bR, reduceCtorEq, resA, resOf, bS, bT, bU, bV, bW, bX, bY, bZ, cA, cB, cC, cD, cE, cF, cG, cH, cI, cJ, cK, cL, maxA, minA, cM, cN, cO, cP, cQ, cR, cS, cT, cU, cV, cW, cX, e0, e1, e2, e3, e9, e10, hix, hst, hwi, sl100 nx _ hpos]
    intro c hc
    rw [if_neg hc]; exact ho c hc
theorem split_cl (w0 : World) (l : List UInt8) (hl : l.length ≤ 100000) :
    ∃ H', Cl cx 78 [strA l] H nx = some (.slice nx 0 (Spl.spl l).length (some (Spl.spl l).length) 1, H', nx + 1) ∧ H'.get nx = some (.cells ((Spl.spl l).map strA) 9 false) ∧ ∀ c, c ≠ nx → H'.get c = H.get c := by
  obtain ⟨v, H', nx', h1, rfl, rfl, h2, h3⟩ := gsplit_cl (H := H) (nx := nx) w0 l hl
  refine ⟨H', ?_, h2, h3⟩
  have h13 : Cl cx 144 [strA l, strA [32]] H nx = some (.slice nx 0 (Spl.spl l).length (some (Spl.spl l).length) 1, H', nx + 1) := by
    refine wp144 _ _ _ _ (by simp) ?_
    unfold s144
    simp only [↓aA, ↓aB, ↓aC, ↓aD, ↓aE, ↓aF, ↓aG, ↓aH, aI, ↓aJ, ↓aK, aL, stepA, opA, convA, isCall, put?, ev, aM, aN, builtinA, callA, argEnv, wantedS, aO, aP, aQ, aR, aS, aT, aU, aV, aW, undef, z_none, aX, aY, aZ, bA, bB, bC, bD, bE, bF, bG, extractOp, bH, bI, bJ, bK, Nat.reduceLT, Nat.reduceEqDiff, Nat.reduceAdd, bL, bM, bN, bO, bP, ↓reduceIte, bQ, bR, reduceCtorEq, resA, resOf, bS, bT, bU, bV, bW, bX, bY, bZ, cA, cB, cC, cD, cE, cF, cG, cH, cI, cJ, cK, cL, maxA, minA, cM, cN, cO, cP, cQ, cR, cS, cT, cU, cV, cW, cX, x_none, lit32, h1]
  refine wp78 _ _ _ _ (by simp) ?_
  unfold s78
  simp only [↓aA, ↓aB, ↓aC, ↓aD, ↓aE, ↓aF, ↓aG, ↓aH, aI, ↓aJ, ↓aK, aL, stepA, opA, convA, isCall, put?, ev, aM, aN, builtinA, callA, argEnv, wantedS, aO, aP, aQ, aR, aS, aT, aU, aV, aW, undef, z_none, aX, aY, aZ, bA, bB, bC, bD, bE, bF, bG, extractOp, bH, bI, bJ, bK, Nat.reduceLT, Nat.reduceEqDiff, Nat.reduceAdd, bL, bM, bN, bO, bP, ↓reduceIte, bQ, bR, reduceCtorEq, resA, resOf, bS, bT, bU, bV, bW, bX, bY, bZ, cA, cB, cC, cD, cE, cF, cG, cH, cI, cJ, cK, cL, maxA, minA, cM, cN, cO, cP, cQ, cR, cS, cT, cU, cV, cW, cX, x_none, lit32, h13]
end Seat
end CI
namespace CI
open Go
namespace Seat
variable {H : Heap} {nx : Nat}
theorem ix100o {b o n i : Nat} {c : Option Nat} (h : i < n) : indexAddrOp cx.T 100 (.slice b o n c 1) (.lit (.int .i64 i)) = some (.ptr b (o + i)) := by
  unfold indexAddrOp
  simp only [T100, ti100, T9, ti9]
  rw [if_pos ⟨by omega, by omega, trivial⟩]
  simp
section
variable {ws : List (List UInt8)} {QQ : Ex → St → Prop}
structure JS (b : Nat) (k : Option Nat) (ws : List (List UInt8)) (E : Tr AV) : Prop where
  t0 : E.get 0 = some (.slice b 0 ws.length k 1)
  t1 : E.get 1 = some (strA [32])
end
end Seat
end CI
namespace CI
open Go
namespace Seat
variable {H : Heap} {nx : Nat}
end Seat
end CI
namespace CI
open Go
namespace Seat
open Quo
variable {H : Heap} {nx : Nat}
theorem plain_cl (b : UInt8) : Cl cx 142 [byteA b] H nx = some (.lit (.bool (plainN b.toNat)), H, nx) := by
  refine wp142 _ _ _ _ (by simp) ?_
  unfold s142 byteA
  have hp : plainN b.toNat = (decide (((b.toNat : Nat) : Int) > 32) && decide (((b.toNat : Nat) : Int) < 127) && decide (¬ ((b.toNat : Nat) : Int) = 92)) := by
    unfold plainN
    rw [Bool.eq_iff_iff]
    simp only [Bool.and_eq_true, decide_eq_true_eq]
    omega
  rw [hp]
  generalize ((b.toNat : Nat) : Int) = n
  by_cases h1 : n > 32 <;> by_cases h2 : n < 127
  all_goals simp only [↓aA, ↓aB, ↓aC, ↓aD, ↓aE, ↓aF, ↓aG, ↓aH, aI, ↓aJ, ↓aK, aL, stepA, opA, convA, isCall, put?, ev, aM, aN, builtinA, callA, argEnv, wantedS, aO, aP, aQ, aR, aS, aT, aU, aV, aW, undef, z_none, aX, aY, aZ, bA, bB, bC, bD, bE, bF, bG, extractOp, bH, bI, bJ, bK, Nat.reduceLT, Nat.reduceEqDiff, Nat.reduceAdd, bL, bM, bN, bO, bP, ↓reduceIte, bQ, bR, reduceCtorEq, resA, resOf, bS, bT, bU, bV, bW, bX, bY, bZ, cA, cB, cC, cD, cE, cF, cG, cH, cI, cJ, cK, cL, maxA, minA, cM, cN, cO, cP, cQ, cR, cS, cT, cU, cV, cW, cX, h1, h2, Bool.and_true, Bool.and_false, Bool.true_and, Bool.false_and]
theorem eqB_strA (l : List UInt8) : AV.eqB (strA l) (strA l) = true := eqB_str _
theorem below_strA (n : Nat) (l : List UInt8) : AV.belowB n (strA l) = true := rfl
theorem lit_e : AV.lit (.string (ByteArray.mk #[92, 101])) = strA [92, 101] := rfl
theorem lit_ss : AV.lit (.string (ByteArray.mk #[92, 92])) = strA [92, 92] := rfl
theorem lit_x : AV.lit (.string (ByteArray.mk #[92, 120])) = strA [92, 120] := rfl
theorem lit_nil : AV.lit (.string (ByteArray.mk #[])) = strA [] := rfl
theorem ix_hex (k : IntKind) (i : Nat) (h : i < 16) :
    indexOp cx.P cx.T 9 (.lit (.string (ByteArray.mk #[48, 49, 50, 51, 52, 53, 54, 55, 56, 57, 97, 98, 99, 100, 101, 102]))) (.lit (.int k i)) = some (byteA (hexC i)) := by
  refine str_ix [48, 49, 50, 51, 52, 53, 54, 55, 56, 57, 97, 98, 99, 100, 101, 102] i (hexC i) k ?_
  have : ∀ i : Fin 16, ([48, 49, 50, 51, 52, 53, 54, 55, 56, 57, 97, 98, 99, 100, 101, 102] : List UInt8)[i.val]? = some (hexC i.val) := by decide
  exact this ⟨i, h⟩
theorem cv_bytes {X : Heap} {n c m : Nat} {k : Option Nat} {l : List UInt8} {t : TypeId} {ro : Bool} (hc : X.get c = some (.cells (l.map byteA) t ro)) (hm : l.length = m) :
    convOp cx.P cx.T X n 81 9 (.slice c 0 m k 1) = some (strA l, X, n) := by
  have e : plain1 cx.P (convert 81 9) (.slice c 0 m k 1) = none := by kernel_rfl
  have hcut : cut (l.map byteA) 0 m = some (l.map byteA) := by
    have : (l.map byteA).take m = l.map byteA := List.take_of_length_le (by simp [hm])
    simp [cut, hm, this]
  unfold convOp
  rw [e]
  simp only [T81, T9, ti81, ti9, T5, ti5, hc, hcut, Option.bind_some, bytesOf_map, Option.map_some, fold_bytes]
  rfl
theorem cv_nil {n c m : Nat} {k : Option Nat} : convOp cx.P cx.T .nil n 81 9 (.slice c 0 m k 1) = none := by kernel_rfl
theorem cu_nil {c m : Nat} {k : Option Nat} : convU cx.P cx.T .nil 81 9 (.slice c 0 m k 1) = none := by kernel_rfl
theorem ro_two (a b : UInt8) : (roAll (H.put nx (some (.cells [byteA a, byteA b] 5 false)))).get nx = some (.cells ([a, b].map byteA) 5 true) := by
  rw [roAll_get, Tr.get_put_same]; rfl
theorem Bld.put {n0 p o : Nat} {cs : List AV} {t : TypeId} {bs : List UInt8} (hb : Bld n0 H nx p o cs t bs) (ob : Option AObj) : Bld n0 (H.put nx ob) (nx + 1) p o cs t bs where
  hp := by rw [Tr.get_put_ne _ _ _ _ (by have := hb.p1; omega)]; exact hb.hp
  p0 := hb.p0
  p1 := by have := hb.p1; omega
  lies := hb.lies
  self := hb.self
  buf := by
    rcases hb.buf with h | ⟨c, h1, h2, h3, h5, h6⟩
    · exact .inl h
    · exact .inr ⟨c, h1, h2, by omega, h5, by rw [Tr.get_put_ne _ _ _ _ (by omega)]; exact h6⟩
  fr := fun b h => by rw [Tr.get_put_ne _ _ _ _ (by omega)]; exact hb.fr b (by omega)
theorem oneW_len (l : List UInt8) : (l.flatMap oneW).length ≤ 4 * l.length := by
  induction l with
  | nil => simp
  | cons b l ih =>
    have := oneW_le b
    simp only [List.flatMap_cons, List.length_append, List.length_cons]
    omega
theorem flat_succ {l : List UInt8} {i : Nat} (h : i < l.length) : (l.take (i + 1)).flatMap oneW = (l.take i).flatMap oneW ++ oneW l[i] := by
  rw [List.take_add_one, List.getElem?_eq_getElem h, List.flatMap_append]
  simp only [Option.toList_some, List.flatMap_cons, List.flatMap_nil, List.append_nil]
theorem cv_3_5 (n : Nat) (h : n < 256) : convOp cx.P cx.T H nx 3 5 (.lit (.int .i64 n)) = some (byteA (UInt8.ofNat n), H, nx) := by
  have : convOp cx.P cx.T H nx 3 5 (.lit (.int .i64 n)) = some (.lit (.int .u8 (IntKind.u8.wrap n)), H, nx) := by kernel_rfl
  rw [this]
  have e : IntKind.u8.wrap (n : Int) = ((UInt8.ofNat n).toNat : Int) := by
    simp only [IntKind.wrap, IntKind.signed, IntKind.bits, Bool.false_and, Bool.false_eq_true, if_false, UInt8.toNat_ofNat']
    omega
  rw [e]; rfl
theorem cv_5_3 (b : UInt8) : convOp cx.P cx.T H nx 5 3 (byteA b) = some (.lit (.int .i64 b.toNat), H, nx) := by
  have : convOp cx.P cx.T H nx 5 3 (byteA b) = some (.lit (.int .i64 (IntKind.i64.wrap b.toNat)), H, nx) := by kernel_rfl
  rw [this, wrapI]
  have : b.toNat < 256 := b.toNat_lt
  constructor <;> omega
theorem one_cl {n : Nat} (hn : n < 256) (hfr : ∀ b, nx ≤ b → H.get b = none) :
    ∃ v H' nx', Cl cx 90 [.lit (.int .i64 n)] H nx = some (v, H', nx') ∧ v = strA (oneN n) ∧ Fr H nx H' nx' := by
  refine wpP90 _ _ _ _ (by simp) ?_
  unfold s90
  unfold oneN
  by_cases h92 : n = 92
  · subst h92
    have : (((92 : Nat) : Int) = 92) = True := by simp
    simp only [↓aA, ↓aB, ↓aC, ↓aD, ↓aE, ↓aF, ↓aG, ↓aH, aI, ↓aJ, ↓aK, aL, stepA, opA, convA, isCall, put?, ev, aM, aN, builtinA, callA, argEnv, wantedS, aO, aP, aQ, aR, aS, aT, aU, aV, aW, undef, z_none, aX, aY, aZ, bA, bB, bC, bD, bE, bF, bG, extractOp, bH, bI, bJ, bK, Nat.reduceLT, Nat.reduceEqDiff, Nat.reduceAdd, bL, bM, bN, bO, bP, ↓reduceIte, bQ, bR, reduceCtorEq, resA, resOf, bS, bT, bU, bV, bW, bX, bY, bZ, cA, cB, cC, cD, cE, cF, cG, cH, cI, cJ, cK, cL, maxA, minA, cM, cN, cO, cP, cQ, cR, cS, cT, cU, cV, cW, cX, this, lit_ss]
    exact Fr.refl hfr
  · have e1 : (((n : Nat) : Int) = 92) = False := by simp; omega
    by_cases h1 : 32 < n ∧ n < 127
    · have e2 : (((n : Nat) : Int) > 32) = True := by simp; omega
      have e3 : (((n : Nat) : Int) < 127) = True := by simp; omega
      have hcv := cv_bytes (X := H.put nx (some (.cells [byteA (UInt8.ofNat n)] 5 false))) (n := nx + 1) (k := some 1) (l := [UInt8.ofNat n]) (t := 5) (ro := false) (Tr.get_put_same _ _ _) (m := 1) rfl
      simp only [↓aA, ↓aB, ↓aC, ↓aD, ↓aE, ↓aF, ↓aG, ↓aH, aI, ↓aJ, ↓aK, aL, stepA, opA, convA, isCall, put?, ev, aM, aN, builtinA, callA, argEnv, wantedS, aO, aP, aQ, aR, aS, aT, aU, aV, aW, undef, z_none, aX, aY, aZ, bA, bB, bC, bD, bE, bF, bG, extractOp, bH, bI, bJ, bK, Nat.reduceLT, Nat.reduceEqDiff, Nat.reduceAdd, bL, bM, bN, bO, bP, ↓reduceIte, bQ, bR, reduceCtorEq, resA, resOf, bS, bT, bU, bV, bW, bX, bY, bZ, cA, cB, cC, cD, cE, cF, cG, cH, cI, cJ, cK, cL, maxA, minA, cM, cN, cO, cP, cQ, cR, cS, cT, cU, cV, cW, cX, e1, e2, e3, cv_3_5 n hn, partsA, bs_one, hcv]
      rw [if_neg h92, if_pos h1]
      exact ⟨rfl, Fr.put hfr _⟩
    · rw [if_neg h92, if_neg h1]
      have i1 := ix_hex .i64 (n / 16) (by omega)
      have i2 := ix_hex .i64 (n % 16) (by omega)
      have q1 : binOpA cx.P cx.T .quo 3 (.tmp 17) (.const (.int .i64 16)) (.lit (.int .i64 n)) (.lit (.int .i64 16)) = some (.lit (.int .i64 ((n / 16 : Nat) : Int))) := by
        rw [bin_quo _ _ _ _ _ _ _ _ (by decide), Int.tdiv_eq_ediv_of_nonneg (by omega), wrapI]
        · rfl
        · constructor <;> omega
      have q2 : binOpA cx.P cx.T .rem 3 (.tmp 20) (.const (.int .i64 16)) (.lit (.int .i64 n)) (.lit (.int .i64 16)) = some (.lit (.int .i64 ((n % 16 : Nat) : Int))) := by
        rw [bin_rem _ _ _ _ _ _ _ _ (by decide), Int.tmod_eq_emod_of_nonneg (by omega)]
        rfl
      have hcv := cv_bytes (n := nx + 1) (k := some 2) (ro_two (H := H) (nx := nx) (hexC (n / 16)) (hexC (n % 16))) (m := 2) rfl
      have hst := str_add (.const (.string (ByteArray.mk #[92, 120]))) (.tmp 24) [92, 120] [hexC (n / 16), hexC (n % 16)] (by simp)
      by_cases e2 : ((n : Nat) : Int) > 32
      · have e3 : (((n : Nat) : Int) < 127) = False := by simp; omega
        simp only [↓aA, ↓aB, ↓aC, ↓aD, ↓aE, ↓aF, ↓aG, ↓aH, aI, ↓aJ, ↓aK, aL, stepA, opA, convA, isCall, put?, ev, aM, aN, builtinA, callA, argEnv, wantedS, aO, aP, aQ, aR, aS, aT, aU, aV, aW, undef, z_none, aX, aY, aZ, bA, bB, bC, bD, bE, bF, bG, extractOp, bH, bI, bJ, bK, Nat.reduceLT, Nat.reduceEqDiff, Nat.reduceAdd, bL, bM, bN, bO, bP, ↓reduceIte, bQ, bR, reduceCtorEq, resA, resOf, bS, bT, bU, bV, bW, bX, bY, bZ, cA, cB, cC, cD, cE, cF, cG, cH, cI, cJ, cK, cL, maxA, minA, cM, cN, cO, cP, cQ, cR, cS, cT, cU, cV, cW, cX, e1, e2, e3]
        refine s90_d0_wq ?_
        unfold s90_d0s
        simp only [↓aA, ↓aB, ↓aC, ↓aD, ↓aE, ↓aF, ↓aG, ↓aH, aI, ↓aJ, ↓aK, aL, stepA, opA, convA, isCall, put?, ev, aM, aN, builtinA, callA, argEnv, wantedS, aO, aP, aQ, aR, aS, aT, aU, aV, aW, undef, z_none, aX, aY, aZ, bA, bB, bC, bD, bE, bF, bG, extractOp, bH, bI, bJ, bK, Nat.reduceLT, Nat.reduceEqDiff, Nat.reduceAdd, bL, bM, bN, bO, bP, ↓reduceIte, bQ, bR, reduceCtorEq, resA, resOf, bS, bT, bU, bV, bW, bX, bY, bZ, cA, cB, cC, cD, cE, cF, cG, cH, cI, cJ, cK, cL, maxA, minA, cM, cN, cO, cP, cQ, cR, cS, cT, cU, cV, cW, cX, ↓cY, ↓cZ, txS, dA, dB, dC, dD, dE, dF, dG, dH, dI, dJ, dK, dL, dM, isEff, dN, dO, dP, dQ, dR, dS, AV.belowB, dT, dU, q1, q2, i1, i2, partsA, bs_two, cv_nil, cu_nil, hcv, lit_x, hst, eqB_strA, below_strA]
        exact Fr.put hfr _
      · simp only [↓aA, ↓aB, ↓aC, ↓aD, ↓aE, ↓aF, ↓aG, ↓aH, aI, ↓aJ, ↓aK, aL, stepA, opA, convA, isCall, put?, ev, aM, aN, builtinA, callA, argEnv, wantedS, aO, aP, aQ, aR, aS, aT, aU, aV, aW, undef, z_none, aX, aY, aZ, bA, bB, bC, bD, bE, bF, bG, extractOp, bH, bI, bJ, bK, Nat.reduceLT, Nat.reduceEqDiff, Nat.reduceAdd, bL, bM, bN, bO, bP, ↓reduceIte, bQ, bR, reduceCtorEq, resA, resOf, bS, bT, bU, bV, bW, bX, bY, bZ, cA, cB, cC, cD, cE, cF, cG, cH, cI, cJ, cK, cL, maxA, minA, cM, cN, cO, cP, cQ, cR, cS, cT, cU, cV, cW, cX, e1, e2]
        refine s90_d0_wq ?_
        unfold s90_d0s
        simp only [↓aA, ↓aB, ↓aC, ↓aD, ↓aE, ↓aF, ↓aG, ↓aH, aI, ↓aJ, ↓aK, aL, stepA, opA, convA, isCall, put?, ev, aM, aN, builtinA, callA, argEnv, wantedS, aO, aP, aQ, aR, aS, aT, aU, aV, aW, undef, z_none, aX, aY, aZ, bA, bB, bC, bD, bE, bF, bG, extractOp, bH, bI, bJ, bK, Nat.reduceLT, Nat.reduceEqDiff, Nat.reduceAdd, bL, bM, bN, bO, bP, ↓reduceIte, bQ, bR, reduceCtorEq, resA, resOf, bS, bT, bU, bV, bW, bX, bY, bZ, cA, cB, cC, cD, cE, cF, cG, cH, cI, cJ, cK, cL, maxA, minA, cM, cN, cO, cP, cQ, cR, cS, cT, cU, cV, cW, cX, ↓cY, ↓cZ, txS, dA, dB, dC, dD, dE, dF, dG, dH, dI, dJ, dK, dL, dM, isEff, dN, dO, dP, dQ, dR, dS, AV.belowB, dT, dU, q1, q2, i1, i2, partsA, bs_two, cv_nil, cu_nil, hcv, lit_x, hst, eqB_strA, below_strA]
        exact Fr.put hfr _
theorem rwrite_l0 {s : List UInt8} {E : Tr AV} {QQ : Ex → St → Prop} (hs : s.length ≤ 1000000) (hfr : ∀ b, nx ≤ b → H.get b = none) (e0 : E.get 0 = some (strA s)) (e3 : E.get 3 = some (strA [])) (e4 : E.get 4 = some (.lit (.int .i64 0)))
    (hQ : ∀ E' H' nx', E'.get 3 = some (strA (s.flatMap oneW)) → Fr H nx H' nx' → QQ (.exit 0) ⟨E', H', nx'⟩) :
    Wp cx 22 (.loop s45_l0) ⟨E, H, nx⟩ QQ := by
  refine Wp_loop (fun n st => ∃ (i : Nat), n = s.length - i ∧ i ≤ s.length ∧ Fr H nx st.H st.nx ∧
    st.env.get 0 = some (strA s) ∧ st.env.get 3 = some (strA ((s.take i).flatMap oneW)) ∧ st.env.get 4 = some (.lit (.int .i64 i))) ?_ s.length _ ⟨0, by omega, by omega, Fr.refl hfr, e0, by simpa using e3, e4⟩
  rintro n ⟨E, H1, nx1⟩ ⟨i, hn, hi, hF, e0, e3, e4⟩
  simp only at hF e0 e3 e4
  refine Wp_of ?_
  unfold s45_l0
  by_cases hlt : i < s.length
  · have hix := str_ix s i s[i] .i64 (List.getElem?_eq_getElem hlt)
    have hw : IntKind.i64.wrap ((i : Int) + 1) = ((i + 1 : Nat) : Int) := by rw [wrapI (by constructor <;> omega)]; rfl
    have hlen := oneW_len (s.take i)
    have hlen1 := oneW_le s[i]
    have hlen2 : (s.take i).length ≤ s.length := by rw [List.length_take]; omega
    have hfl := flat_succ hlt
    obtain ⟨v, H2, nx2, k1, rfl, k2⟩ := one_cl (n := s[i].toNat) (s[i].toNat_lt) hF.fr
    have hst := str_add (.tmp 14) (.tmp 19) ((s.take i).flatMap oneW) (oneN s[i].toNat) (by
      have : (oneN s[i].toNat).length ≤ 4 := hlen1
      omega)
    simp only [↓aA, ↓aB, ↓aC, ↓aD, ↓aE, ↓aF, ↓aG, ↓aH, aI, ↓aJ, ↓aK, aL, stepA, opA, convA, isCall, put?, ev, aM, aN, builtinA, callA, argEnv, wantedS, aO, aP, aQ, aR, aS, aT, aU, aV, aW, undef, z_none, aX, aY, aZ, bA, bB, bC, bD, bE, bF, bG, extractOp, bH, bI, bJ, bK, Nat.reduceLT, Nat.reduceEqDiff, Nat.reduceAdd, bL, bM, bN, bO, bP, ↓reduceIte, bQ, bR, reduceCtorEq, resA, resOf, bS, bT, bU, bV, bW, bX, bY, bZ, cA, cB, cC, cD, cE, cF, cG, cH, cI, cJ, cK, cL, maxA, minA, cM, cN, cO, cP, cQ, cR, cS, cT, cU, cV, cW, cX, x_none, e0, e3, e4, str_len, Int.ofNat_lt, hlt, hix, cv_5_3, k1, hst, hw]
    refine ⟨s.length - (i + 1), by omega, i + 1, rfl, by omega, hF.trans k2, ?_, rfl⟩
    rw [hfl]; rfl
  · have hi2 : i = s.length := by omega
    subst hi2
    simp only [↓aA, ↓aB, ↓aC, ↓aD, ↓aE, ↓aF, ↓aG, ↓aH, aI, ↓aJ, ↓aK, aL, stepA, opA, convA, isCall, put?, ev, aM, aN, builtinA, callA, argEnv, wantedS, aO, aP, aQ, aR, aS, aT, aU, aV, aW, undef, z_none, aX, aY, aZ, bA, bB, bC, bD, bE, bF, bG, extractOp, bH, bI, bJ, bK, Nat.reduceLT, Nat.reduceEqDiff, Nat.reduceAdd, bL, bM, bN, bO, bP, ↓reduceIte, bQ, bR, reduceCtorEq, resA, resOf, bS, bT, bU, bV, bW, bX, bY, bZ, cA, cB, cC, cD, cE, cF, cG, cH, cI, cJ, cK, cL, maxA, minA, cM, cN, cO, cP, cQ, cR, cS, cT, cU, cV, cW, cX, e0, e3, e4, str_len, Int.ofNat_lt, Nat.lt_irrefl]
    refine hQ _ _ _ ?_ hF
    simp only [↓aA, ↓aB, ↓aC, ↓aD, ↓aE, ↓aF, ↓aG, ↓aH, aI, ↓aJ, ↓aK, aL, stepA, opA, convA, isCall, put?, ev, aM, aN, builtinA, callA, argEnv, wantedS, aO, aP, aQ, aR, aS, aT, aU, aV, aW, undef, z_none, aX, aY, aZ, bA, bB, bC, bD, bE, bF, bG, extractOp, bH, bI, bJ, bK, Nat.reduceLT, Nat.reduceEqDiff, Nat.reduceAdd, bL, bM, bN, bO, bP, ↓reduceIte, bQ, bR, reduceCtorEq, resA, resOf, bS, bT, bU, bV, bW, bX, bY, bZ, cA, cB, cC, cD, cE, cF, cG, cH, cI, cJ, cK, cL, maxA, minA, cM, cN, cO, cP, cQ, cR, cS, cT, cU, cV, cW, cX, e3, List.take_length]
theorem rwrite_cl {s : List UInt8} (hs : s.length ≤ 1000000) (hfr : ∀ b, nx ≤ b → H.get b = none) :
    ∃ v H' nx', Cl cx 45 [strA s] H nx = some (v, H', nx') ∧ v = strA (writeW s) ∧ Fr H nx H' nx' := by
  refine wpP45 _ _ _ _ (by simp) ?_
  unfold s45
  by_cases h0 : s = []
  · subst h0
    have : (((([] : List UInt8).length : Nat) : Int) = 0) = True := by simp
    simp only [↓aA, ↓aB, ↓aC, ↓aD, ↓aE, ↓aF, ↓aG, ↓aH, aI, ↓aJ, ↓aK, aL, stepA, opA, convA, isCall, put?, ev, aM, aN, builtinA, callA, argEnv, wantedS, aO, aP, aQ, aR, aS, aT, aU, aV, aW, undef, z_none, aX, aY, aZ, bA, bB, bC, bD, bE, bF, bG, extractOp, bH, bI, bJ, bK, Nat.reduceLT, Nat.reduceEqDiff, Nat.reduceAdd, bL, bM, bN, bO, bP, ↓reduceIte, bQ, bR, reduceCtorEq, resA, resOf, bS, bT, bU, bV, bW, bX, bY, bZ, cA, cB, cC, cD, cE, cF, cG, cH, cI, cJ, cK, cL, maxA, minA, cM, cN, cO, cP, cQ, cR, cS, cT, cU, cV, cW, cX, lit_nil, str_len, this, lit_e]
    exact ⟨rfl, Fr.refl hfr⟩
  · have : (((s.length : Nat) : Int) = 0) = False := by simp [h0]
    simp only [↓aA, ↓aB, ↓aC, ↓aD, ↓aE, ↓aF, ↓aG, ↓aH, aI, ↓aJ, ↓aK, aL, stepA, opA, convA, isCall, put?, ev, aM, aN, builtinA, callA, argEnv, wantedS, aO, aP, aQ, aR, aS, aT, aU, aV, aW, undef, z_none, aX, aY, aZ, bA, bB, bC, bD, bE, bF, bG, extractOp, bH, bI, bJ, bK, Nat.reduceLT, Nat.reduceEqDiff, Nat.reduceAdd, bL, bM, bN, bO, bP, ↓reduceIte, bQ, bR, reduceCtorEq, resA, resOf, bS, bT, bU, bV, bW, bX, bY, bZ, cA, cB, cC, cD, cE, cF, cG, cH, cI, cJ, cK, cL, maxA, minA, cM, cN, cO, cP, cQ, cR, cS, cT, cU, cV, cW, cX, lit_nil, str_len, this]
    refine rwrite_l0 hs hfr ?_ ?_ ?_ fun E' H' nx' e3 hF => ?_
    · simp only [↓aA, ↓aB, ↓aC, ↓aD, ↓aE, ↓aF, ↓aG, ↓aH, aI, ↓aJ, ↓aK, aL, stepA, opA, convA, isCall, put?, ev, aM, aN, builtinA, callA, argEnv, wantedS, aO, aP, aQ, aR, aS, aT, aU, aV, aW, undef, z_none, aX, aY, aZ, bA, bB, bC, bD, bE, bF, bG, extractOp, bH, bI, bJ, bK, Nat.reduceLT, Nat.reduceEqDiff, Nat.reduceAdd, bL, bM, bN, bO, bP, ↓reduceIte, bQ, bR, reduceCtorEq, resA, resOf, bS, bT, bU, bV, bW, bX, bY, bZ, cA, cB, cC, cD, cE, cF, cG, cH, cI, cJ, cK, cL, maxA, minA, cM, cN, cO, cP, cQ, cR, cS, cT, cU, cV, cW, cX]
    · simp only [↓aA, ↓aB, ↓aC, ↓aD, ↓aE, ↓aF, ↓aG, ↓aH, aI, ↓aJ, ↓aK, aL, stepA, opA, convA, isCall, put?, ev, aM, aN, builtinA, callA, argEnv, wantedS, aO, aP, aQ, aR, aS, aT, aU, aV, aW, undef, z_none, aX, aY, aZ, bA, bB, bC, bD, bE, bF, bG, extractOp, bH, bI, bJ, bK, Nat.reduceLT, Nat.reduceEqDiff, Nat.reduceAdd, bL, bM, bN, bO, bP, ↓reduceIte, bQ, bR, reduceCtorEq, resA, resOf, bS, bT, bU, bV, bW, bX, bY, bZ, cA, cB, cC, cD, cE, cF, cG, cH, cI, cJ, cK, cL, maxA, minA, cM, cN, cO, cP, cQ, cR, cS, cT, cU, cV, cW, cX]
    · simp only [↓aA, ↓aB, ↓aC, ↓aD, ↓aE, ↓aF, ↓aG, ↓aH, aI, ↓aJ, ↓aK, aL, stepA, opA, convA, isCall, put?, ev, aM, aN, builtinA, callA, argEnv, wantedS, aO, aP, aQ, aR, aS, aT, aU, aV, aW, undef, z_none, aX, aY, aZ, bA, bB, bC, bD, bE, bF, bG, extractOp, bH, bI, bJ, bK, Nat.reduceLT, Nat.reduceEqDiff, Nat.reduceAdd, bL, bM, bN, bO, bP, ↓reduceIte, bQ, bR, reduceCtorEq, resA, resOf, bS, bT, bU, bV, bW, bX, bY, bZ, cA, cB, cC, cD, cE, cF, cG, cH, cI, cJ, cK, cL, maxA, minA, cM, cN, cO, cP, cQ, cR, cS, cT, cU, cV, cW, cX]
    · simp only [↓aA, ↓aB, ↓aC, ↓aD, ↓aE, ↓aF, ↓aG, ↓aH, aI, ↓aJ, ↓aK, aL, stepA, opA, convA, isCall, put?, ev, aM, aN, builtinA, callA, argEnv, wantedS, aO, aP, aQ, aR, aS, aT, aU, aV, aW, undef, z_none, aX, aY, aZ, bA, bB, bC, bD, bE, bF, bG, extractOp, bH, bI, bJ, bK, Nat.reduceLT, Nat.reduceEqDiff, Nat.reduceAdd, bL, bM, bN, bO, bP, ↓reduceIte, bQ, bR, reduceCtorEq, resA, resOf, bS, bT, bU, bV, bW, bX, bY, bZ, cA, cB, cC, cD, cE, cF, cG, cH, cI, cJ, cK, cL, maxA, minA, cM, cN, cO, cP, cQ, cR, cS, cT, cU, cV, cW, cX, e3]
      refine ⟨?_, hF⟩
      unfold writeW; rw [if_neg h0]
end Seat
end CI
namespace CI
open Go
namespace Seat
variable {H : Heap} {nx : Nat}
theorem cl204 {args : List AV} {r : AV × Heap × Nat} (h : atoiY args H nx = some r) : Cl cx 204 args H nx = some r := by
  refine Cl_of (n := 1) ?_
  have hF : cx.F.get 204 = none := by kernel_rfl
  unfold callN callS
  rw [hF]
  have hy : cx.Y 204 args H nx = atoiY args H nx := by kernel_rfl
  show cx.Y 204 args H nx = some r
  rw [hy]
  exact h
theorem x139 (n : Int) (h : -9223372036854775808 ≤ n ∧ n ≤ 9223372036854775807) : cx.X 139 [.lit (.int .i64 n)] = some (.lit (.string ⟨(Lib.itoa n).toArray⟩)) := by
  have e1 : cx.X 139 [.lit (.int .i64 n)] = (itoaC [.int .i64 n]).map abs := by kernel_rfl
  rw [e1]
  unfold itoaC
  simp only
  rw [if_pos h]
  rfl
theorem x139b (n : Int) (h : -9223372036854775808 ≤ n ∧ n ≤ 9223372036854775807) : cx.X 139 [.lit (.int .i64 n)] = some (strA (Lib.itoa n)) := x139 n h
theorem neqE (b o : Nat) : binOpA cx.P cx.T .neq 128 (.tmp 11) (.const .nilIface) (.iface 463 (.ptr b o)) (.lit .nilIface) = some (.lit (.bool true)) := by kernel_rfl
theorem neqN : binOpA cx.P cx.T .neq 128 (.tmp 11) (.const .nilIface) (.lit .nilIface) (.lit .nilIface) = some (.lit (.bool false)) := by kernel_rfl
theorem str_neq (x y : Operand) (l m : List UInt8) : binOpA cx.P cx.T .neq 9 x y (strA l) (strA m) = some (.lit (.bool (decide (l ≠ m)))) := by
  have e : plain2 cx.P (fun p q => do eqGuard .neq 9 x y p q; binOp .neq 9 p q) (strA l) (strA m) = (pureRun cx.P (Op.stringOp .neq (B l) (B m))).map abs := rfl
  unfold binOpA
  rw [e]
  simp only [Op.stringOp, B_toList]
  rw [show (!(l == m)) = decide (l ≠ m) from by by_cases h : l = m <;> simp [h]]
  rfl
theorem parse_cl (w : List UInt8) (hw : w.length ≤ 1000000) (hfr : ∀ b, nx ≤ b → H.get b = none) :
    ∃ H' nx', Cl cx 146 [strA w] H nx = some (.tuple [.lit (.int .i64 (parseQ w).1), .lit (.int .i64 (parseQ w).2)], H', nx') ∧ Fr H nx H' nx' := by
  have hs : (B w).size ≤ 1000000 := by rw [B_size]; exact hw
  have hd : (B w).data.toList = w := B_data w
  cases h : Lib.atoiAll w with
  | ok m =>
    have hr := ok_range h
    have h16 : Cl cx 204 [strA w] H nx = some (.tuple [.lit (.int .i64 m), .lit .nilIface], H, nx) := by
      refine cl204 ?_
      unfold atoiY strA
      simp only
      rw [if_pos hs, hd, h]
    refine ⟨H, nx, ?_, Fr.refl hfr⟩
    refine wp146 _ _ _ _ (by simp) ?_
    unfold s146 parseQ
    by_cases he : Lib.itoa m = w
    · simp only [↓aA, ↓aB, ↓aC, ↓aD, ↓aE, ↓aF, ↓aG, ↓aH, aI, ↓aJ, ↓aK, aL, stepA, opA, convA, isCall, put?, ev, aM, aN, builtinA, callA, argEnv, wantedS, aO, aP, aQ, aR, aS, aT, aU, aV, aW, undef, z_none, aX, aY, aZ, bA, bB, bC, bD, bE, bF, bG, extractOp, bH, bI, bJ, bK, Nat.reduceLT, Nat.reduceEqDiff, Nat.reduceAdd, bL, bM, bN, bO, bP, ↓reduceIte, bQ, bR, reduceCtorEq, resA, resOf, bS, bT, bU, bV, bW, bX, bY, bZ, cA, cB, cC, cD, cE, cF, cG, cH, cI, cJ, cK, cL, maxA, minA, cM, cN, cO, cP, cQ, cR, cS, cT, cU, cV, cW, cX, x_none, h16, neqN, x139b m hr, str_neq, he, h]
    · simp only [↓aA, ↓aB, ↓aC, ↓aD, ↓aE, ↓aF, ↓aG, ↓aH, aI, ↓aJ, ↓aK, aL, stepA, opA, convA, isCall, put?, ev, aM, aN, builtinA, callA, argEnv, wantedS, aO, aP, aQ, aR, aS, aT, aU, aV, aW, undef, z_none, aX, aY, aZ, bA, bB, bC, bD, bE, bF, bG, extractOp, bH, bI, bJ, bK, Nat.reduceLT, Nat.reduceEqDiff, Nat.reduceAdd, bL, bM, bN, bO, bP, ↓reduceIte, bQ, bR, reduceCtorEq, resA, resOf, bS, bT, bU, bV, bW, bX, bY, bZ, cA, cB, cC, cD, cE, cF, cG, cH, cI, cJ, cK, cL, maxA, minA, cM, cN, cO, cP, cQ, cR, cS, cT, cU, cV, cW, cX, x_none, h16, neqN, x139b m hr, str_neq, he, h]
  | range =>
    have h16 : Cl cx 204 [strA w] H nx = some (.tuple [.lit (.int .i64 (Lib.atoiSat w)), .iface 463 (.ptr nx 0)], H.put nx (some (.cells [] 499 false)), nx + 1) := by
      refine cl204 ?_
      unfold atoiY strA
      simp only
      rw [if_pos hs, hd, h]
    refine ⟨H.put nx (some (.cells [] 499 false)), nx + 1, ?_, Fr.put hfr _⟩
    refine wp146 _ _ _ _ (by simp) ?_
    unfold s146 parseQ
    simp only [↓aA, ↓aB, ↓aC, ↓aD, ↓aE, ↓aF, ↓aG, ↓aH, aI, ↓aJ, ↓aK, aL, stepA, opA, convA, isCall, put?, ev, aM, aN, builtinA, callA, argEnv, wantedS, aO, aP, aQ, aR, aS, aT, aU, aV, aW, undef, z_none, aX, aY, aZ, bA, bB, bC, bD, bE, bF, bG, extractOp, bH, bI, bJ, bK, Nat.reduceLT, Nat.reduceEqDiff, Nat.reduceAdd, bL, bM, bN, bO, bP, ↓reduceIte, bQ, bR, reduceCtorEq, resA, resOf, bS, bT, bU, bV, bW, bX, bY, bZ, cA, cB, cC, cD, cE, cF, cG, cH, cI, cJ, cK, cL, maxA, minA, cM, cN, cO, cP, cQ, cR, cS, cT, cU, cV, cW, cX, x_none, h16, neqE, h]
  | _ =>
    have h16 : Cl cx 204 [strA w] H nx = some (.tuple [.lit (.int .i64 0), .iface 463 (.ptr nx 0)], H.put nx (some (.cells [] 499 false)), nx + 1) := by
      refine cl204 ?_
      unfold atoiY strA
      simp only
      rw [if_pos hs, hd, h]
    refine ⟨H.put nx (some (.cells [] 499 false)), nx + 1, ?_, Fr.put hfr _⟩
    refine wp146 _ _ _ _ (by simp) ?_
    unfold s146 parseQ
    simp only [↓aA, ↓aB, ↓aC, ↓aD, ↓aE, ↓aF, ↓aG, ↓aH, aI, ↓aJ, ↓aK, aL, stepA, opA, convA, isCall, put?, ev, aM, aN, builtinA, callA, argEnv, wantedS, aO, aP, aQ, aR, aS, aT, aU, aV, aW, undef, z_none, aX, aY, aZ, bA, bB, bC, bD, bE, bF, bG, extractOp, bH, bI, bJ, bK, Nat.reduceLT, Nat.reduceEqDiff, Nat.reduceAdd, bL, bM, bN, bO, bP, ↓reduceIte, bQ, bR, reduceCtorEq, resA, resOf, bS, bT, bU, bV, bW, bX, bY, bZ, cA, cB, cC, cD, cE, cF, cG, cH, cI, cJ, cK, cL, maxA, minA, cM, cN, cO, cP, cQ, cR, cS, cT, cU, cV, cW, cX, x_none, h16, neqE, h]
end Seat
end CI
namespace CI
open Go
namespace Seat
variable {H : Heap} {nx : Nat}
def decS (n : Nat) (acc : List UInt8) : List UInt8 := if n = 0 then acc else Lib.decDigits n ++ acc
theorem decS_step (n : Nat) (acc : List UInt8) : decS (n / 10) (UInt8.ofNat (48 + n % 10) :: acc) = Lib.decDigits n ++ acc := by
  unfold decS
  by_cases h : n < 10
  · rw [if_pos (by omega)]
    rw [Lib.decDigits, dif_pos h, Nat.mod_eq_of_lt h]
    rfl
  · rw [if_neg (by omega)]
    conv => rhs; rw [Lib.decDigits, dif_neg h]
    simp
theorem dec_len : ∀ (k u : Nat), 1 ≤ k → u < 10 ^ k → (Lib.decDigits u).length ≤ k
  | 0, _, h, _ => by omega
  | 1, u, _, h => by rw [Lib.decDigits, dif_pos (by simpa using h)]; simp
  | k + 2, u, _, h => by
    by_cases hu : u < 10
    · rw [Lib.decDigits, dif_pos hu]; simp
    · have h2 : u / 10 < 10 ^ (k + 1) := by rw [Nat.pow_succ] at h; omega
      have := dec_len (k + 1) (u / 10) (by omega) h2
      rw [Lib.decDigits, dif_neg hu, List.length_append]
      simp only [List.length_singleton]
      omega
theorem ref_loop {E : Tr AV} {QQ : Ex → St → Prop} {u : Nat} (hu : u ≤ 9223372036854775807) (e0 : E.get 0 = some (.lit (.int .i64 u))) (e3 : E.get 3 = some (strA []))
    (hfr : ∀ b, nx ≤ b → H.get b = none)
    (hQ : ∀ E' H' nx', E'.get 3 = some (strA (Lib.decDigits u)) → Fr H nx H' nx' → QQ (.exit 0) ⟨E', H', nx'⟩) : Wp cx 29 (.loop s29_l0) ⟨E, H, nx⟩ QQ := by
  refine Wp_loop (fun k st => ∃ (n : Nat) (acc : List UInt8), k = n + (if acc = [] then 1 else 0) ∧ n ≤ u ∧ (acc = [] → n = u) ∧ (acc ≠ [] → decS n acc = Lib.decDigits u) ∧ acc.length + n ≤ u + 1 ∧ Fr H nx st.H st.nx ∧
    st.env.get 0 = some (.lit (.int .i64 n)) ∧ st.env.get 3 = some (strA acc)) ?_ (u + 1) _ ⟨u, [], by simp, by omega, fun _ => rfl, fun h => absurd rfl h, by simp, Fr.refl hfr, e0, e3⟩
  rintro k ⟨E, H1, nx1⟩ ⟨n, acc, hk, hn, ha0, ha, hlen, hF, e0, e3⟩
  simp only at hF e0 e3
  refine Wp_of ?_
  unfold s29_l0
  have hw1 : IntKind.i64.wrap (48 + ((n % 10 : Nat) : Int)) = ((48 + n % 10 : Nat) : Int) := by rw [wrapI (by constructor <;> omega)]; omega
  have hrem : binOpA cx.P cx.T .rem 3 (.tmp 18) (.const (.int .i64 10)) (.lit (.int .i64 n)) (.lit (.int .i64 10)) = some (.lit (.int .i64 ((n % 10 : Nat) : Int))) := by
    rw [bin_rem _ _ _ _ _ _ _ _ (by decide), Int.tmod_eq_emod_of_nonneg (by omega)]; rfl
  have hquo : binOpA cx.P cx.T .quo 3 (.tmp 26) (.const (.int .i64 10)) (.lit (.int .i64 n)) (.lit (.int .i64 10)) = some (.lit (.int .i64 ((n / 10 : Nat) : Int))) := by
    rw [bin_quo _ _ _ _ _ _ _ _ (by decide), Int.tdiv_eq_ediv_of_nonneg (by omega), wrapI]
    · rfl
    · constructor <;> omega
  have hcv := cv_bytes (X := H1.put nx1 (some (.cells [byteA (UInt8.ofNat (48 + n % 10))] 5 false))) (n := nx1 + 1) (k := some 1) (l := [UInt8.ofNat (48 + n % 10)]) (t := 5) (ro := false) (Tr.get_put_same _ _ _) (m := 1) rfl
  have heq := str_eql (.tmp 12) (.const (.string (ByteArray.mk #[]))) acc []
  have heq' : binOpA cx.P cx.T .eql 9 (.tmp 12) (.const (.string (ByteArray.mk #[]))) (strA acc) (.lit (.string (ByteArray.mk #[]))) = some (.lit (.bool (decide (acc = [])))) := heq
  have hacc : acc.length ≤ 20 := by
    by_cases h : acc = []
    · rw [h]; simp
    · have h1 := dec_len 20 u (by omega) (by omega)
      rw [← ha h] at h1
      unfold decS at h1
      split at h1
      · exact h1
      · rw [List.length_append] at h1; omega
  have hadd := str_add (.tmp 23) (.tmp 24) [UInt8.ofNat (48 + n % 10)] acc (by simp only [List.length_singleton]; omega)
  by_cases h0 : acc = []
  · subst h0
    have hnu : n = u := ha0 rfl
    have hstep : decS (n / 10) [UInt8.ofNat (48 + n % 10)] = Lib.decDigits u := by
      rw [← hnu]
      have := decS_step n []
      simpa using this
    have ht : (([] : List UInt8) = []) = True := by simp
    simp only [↓aA, ↓aB, ↓aC, ↓aD, ↓aE, ↓aF, ↓aG, ↓aH, aI, ↓aJ, ↓aK, aL, stepA, opA, convA, isCall, put?, ev, aM, aN, builtinA, callA, argEnv, wantedS, aO, aP, aQ, aR, aS, aT, aU, aV, aW, undef, z_none, aX, aY, aZ, bA, bB, bC, bD, bE, bF, bG, extractOp, bH, bI, bJ, bK, Nat.reduceLT, Nat.reduceEqDiff, Nat.reduceAdd, bL, bM, bN, bO, bP, ↓reduceIte, bQ, bR, reduceCtorEq, resA, resOf, bS, bT, bU, bV, bW, bX, bY, bZ, cA, cB, cC, cD, cE, cF, cG, cH, cI, cJ, cK, cL, maxA, minA, cM, cN, cO, cP, cQ, cR, cS, cT, cU, cV, cW, cX, e0, e3, heq', ht, hrem, hw1, cv_3_5 (48 + n % 10) (by omega), partsA, bs_one, hcv, hquo, hadd]
    refine ⟨n / 10 + 0, by simp at hk ⊢; omega, n / 10, [UInt8.ofNat (48 + n % 10)], by simp, by omega, by simp, fun _ => hstep, by simp at hlen ⊢; omega, hF.trans (Fr.put hF.fr _), rfl, rfl⟩
  · by_cases hn0 : n = 0
    · subst hn0
      have hd := ha h0
      unfold decS at hd
      rw [if_pos rfl] at hd
      have e1 : (((0 : Nat) : Int) > 0) = False := by simp
      simp only [↓aA, ↓aB, ↓aC, ↓aD, ↓aE, ↓aF, ↓aG, ↓aH, aI, ↓aJ, ↓aK, aL, stepA, opA, convA, isCall, put?, ev, aM, aN, builtinA, callA, argEnv, wantedS, aO, aP, aQ, aR, aS, aT, aU, aV, aW, undef, z_none, aX, aY, aZ, bA, bB, bC, bD, bE, bF, bG, extractOp, bH, bI, bJ, bK, Nat.reduceLT, Nat.reduceEqDiff, Nat.reduceAdd, bL, bM, bN, bO, bP, ↓reduceIte, bQ, bR, reduceCtorEq, resA, resOf, bS, bT, bU, bV, bW, bX, bY, bZ, cA, cB, cC, cD, cE, cF, cG, cH, cI, cJ, cK, cL, maxA, minA, cM, cN, cO, cP, cQ, cR, cS, cT, cU, cV, cW, cX, e0, e3, heq', h0, e1]
      refine hQ _ _ _ ?_ hF
      rw [← hd]
      simp only [↓aA, ↓aB, ↓aC, ↓aD, ↓aE, ↓aF, ↓aG, ↓aH, aI, ↓aJ, ↓aK, aL, stepA, opA, convA, isCall, put?, ev, aM, aN, builtinA, callA, argEnv, wantedS, aO, aP, aQ, aR, aS, aT, aU, aV, aW, undef, z_none, aX, aY, aZ, bA, bB, bC, bD, bE, bF, bG, extractOp, bH, bI, bJ, bK, Nat.reduceLT, Nat.reduceEqDiff, Nat.reduceAdd, bL, bM, bN, bO, bP, ↓reduceIte, bQ, bR, reduceCtorEq, resA, resOf, bS, bT, bU, bV, bW, bX, bY, bZ, cA, cB, cC, cD, cE, cF, cG, cH, cI, cJ, cK, cL, maxA, minA, cM, cN, cO, cP, cQ, cR, cS, cT, cU, cV, cW, cX, e3]
    · have e1 : ((n : Int) > 0) = True := by simp; omega
      have hstep : decS (n / 10) ([UInt8.ofNat (48 + n % 10)] ++ acc) = Lib.decDigits u := by
        rw [← ha h0]
        have := decS_step n acc
        unfold decS at this ⊢
        rw [if_neg hn0]
        simpa using this
      simp only [↓aA, ↓aB, ↓aC, ↓aD, ↓aE, ↓aF, ↓aG, ↓aH, aI, ↓aJ, ↓aK, aL, stepA, opA, convA, isCall, put?, ev, aM, aN, builtinA, callA, argEnv, wantedS, aO, aP, aQ, aR, aS, aT, aU, aV, aW, undef, z_none, aX, aY, aZ, bA, bB, bC, bD, bE, bF, bG, extractOp, bH, bI, bJ, bK, Nat.reduceLT, Nat.reduceEqDiff, Nat.reduceAdd, bL, bM, bN, bO, bP, ↓reduceIte, bQ, bR, reduceCtorEq, resA, resOf, bS, bT, bU, bV, bW, bX, bY, bZ, cA, cB, cC, cD, cE, cF, cG, cH, cI, cJ, cK, cL, maxA, minA, cM, cN, cO, cP, cQ, cR, cS, cT, cU, cV, cW, cX, e0, e3, heq', h0, e1, hrem, hw1, cv_3_5 (48 + n % 10) (by omega), partsA, bs_one, hcv, hquo, hadd]
      refine ⟨n / 10 + 0, by simp [h0] at hk ⊢; omega, n / 10, [UInt8.ofNat (48 + n % 10)] ++ acc, by simp, by omega, by simp, fun _ => hstep, by simp at hlen ⊢; omega, hF.trans (Fr.put hF.fr _), rfl, rfl⟩
theorem ref_pos (u : Nat) (hu : u ≤ 9223372036854775807) (hfr : ∀ b, nx ≤ b → H.get b = none) :
    ∃ v H' nx', Cl cx 29 [.lit (.int .i64 u)] H nx = some (v, H', nx') ∧ (v = strA (Lib.decDigits u) ∧ Fr H nx H' nx') := by
  refine wpP29 _ _ _ _ (by simp) ?_
  unfold s29
  have e1 : ((u : Int) < 0) = False := by simp
  simp only [↓aA, ↓aB, ↓aC, ↓aD, ↓aE, ↓aF, ↓aG, ↓aH, aI, ↓aJ, ↓aK, aL, stepA, opA, convA, isCall, put?, ev, aM, aN, builtinA, callA, argEnv, wantedS, aO, aP, aQ, aR, aS, aT, aU, aV, aW, undef, z_none, aX, aY, aZ, bA, bB, bC, bD, bE, bF, bG, extractOp, bH, bI, bJ, bK, Nat.reduceLT, Nat.reduceEqDiff, Nat.reduceAdd, bL, bM, bN, bO, bP, ↓reduceIte, bQ, bR, reduceCtorEq, resA, resOf, bS, bT, bU, bV, bW, bX, bY, bZ, cA, cB, cC, cD, cE, cF, cG, cH, cI, cJ, cK, cL, maxA, minA, cM, cN, cO, cP, cQ, cR, cS, cT, cU, cV, cW, cX, e1]
  refine ref_loop (u := u) hu ?_ ?_ hfr ?_
  · simp only [↓aA, ↓aB, ↓aC, ↓aD, ↓aE, ↓aF, ↓aG, ↓aH, aI, ↓aJ, ↓aK, aL, stepA, opA, convA, isCall, put?, ev, aM, aN, builtinA, callA, argEnv, wantedS, aO, aP, aQ, aR, aS, aT, aU, aV, aW, undef, z_none, aX, aY, aZ, bA, bB, bC, bD, bE, bF, bG, extractOp, bH, bI, bJ, bK, Nat.reduceLT, Nat.reduceEqDiff, Nat.reduceAdd, bL, bM, bN, bO, bP, ↓reduceIte, bQ, bR, reduceCtorEq, resA, resOf, bS, bT, bU, bV, bW, bX, bY, bZ, cA, cB, cC, cD, cE, cF, cG, cH, cI, cJ, cK, cL, maxA, minA, cM, cN, cO, cP, cQ, cR, cS, cT, cU, cV, cW, cX]
  · simp only [↓aA, ↓aB, ↓aC, ↓aD, ↓aE, ↓aF, ↓aG, ↓aH, aI, ↓aJ, ↓aK, aL, stepA, opA, convA, isCall, put?, ev, aM, aN, builtinA, callA, argEnv, wantedS, aO, aP, aQ, aR, aS, aT, aU, aV, aW, undef, z_none, aX, aY, aZ, bA, bB, bC, bD, bE, bF, bG, extractOp, bH, bI, bJ, bK, Nat.reduceLT, Nat.reduceEqDiff, Nat.reduceAdd, bL, bM, bN, bO, bP, ↓reduceIte, bQ, bR, reduceCtorEq, resA, resOf, bS, bT, bU, bV, bW, bX, bY, bZ, cA, cB, cC, cD, cE, cF, cG, cH, cI, cJ, cK, cL, maxA, minA, cM, cN, cO, cP, cQ, cR, cS, cT, cU, cV, cW, cX]; rfl
  · intro E' H' nx' f3 h1
    simp only [↓aA, ↓aB, ↓aC, ↓aD, ↓aE, ↓aF, ↓aG, ↓aH, aI, ↓aJ, ↓aK, aL, stepA, opA, convA, isCall, put?, ev, aM, aN, builtinA, callA, argEnv, wantedS, aO, aP, aQ, aR, aS, aT, aU, aV, aW, undef, z_none, aX, aY, aZ, bA, bB, bC, bD, bE, bF, bG, extractOp, bH, bI, bJ, bK, Nat.reduceLT, Nat.reduceEqDiff, Nat.reduceAdd, bL, bM, bN, bO, bP, ↓reduceIte, bQ, bR, reduceCtorEq, resA, resOf, bS, bT, bU, bV, bW, bX, bY, bZ, cA, cB, cC, cD, cE, cF, cG, cH, cI, cJ, cK, cL, maxA, minA, cM, cN, cO, cP, cQ, cR, cS, cT, cU, cV, cW, cX, f3]
    exact h1
theorem ref_cl (n : Int) (hn : -9223372036854775808 ≤ n ∧ n ≤ 9223372036854775807) (hfr : ∀ b, nx ≤ b → H.get b = none) :
    ∃ v H' nx', Cl cx 29 [.lit (.int .i64 n)] H nx = some (v, H', nx') ∧ (v = strA (Lib.itoa n) ∧ Fr H nx H' nx') := by
  by_cases h0 : n < 0
  · have e1 : (n < 0) = True := by simp [h0]
    unfold Lib.itoa
    rw [if_pos h0]
    by_cases hm : n = -9223372036854775808
    · subst hm
      refine wpP29 _ _ _ _ (by simp) ?_
      unfold s29
      have e2 : ((-9223372036854775808 : Int) = -9223372036854775808) = True := by simp
      simp only [↓aA, ↓aB, ↓aC, ↓aD, ↓aE, ↓aF, ↓aG, ↓aH, aI, ↓aJ, ↓aK, aL, stepA, opA, convA, isCall, put?, ev, aM, aN, builtinA, callA, argEnv, wantedS, aO, aP, aQ, aR, aS, aT, aU, aV, aW, undef, z_none, aX, aY, aZ, bA, bB, bC, bD, bE, bF, bG, extractOp, bH, bI, bJ, bK, Nat.reduceLT, Nat.reduceEqDiff, Nat.reduceAdd, bL, bM, bN, bO, bP, ↓reduceIte, bQ, bR, reduceCtorEq, resA, resOf, bS, bT, bU, bV, bW, bX, bY, bZ, cA, cB, cC, cD, cE, cF, cG, cH, cI, cJ, cK, cL, maxA, minA, cM, cN, cO, cP, cQ, cR, cS, cT, cU, cV, cW, cX, e1, e2]
      refine ⟨?_, Fr.refl hfr⟩
      have : (45 :: Lib.decDigits 9223372036854775808) = [45, 57, 50, 50, 51, 51, 55, 50, 48, 51, 54, 56, 53, 52, 55, 55, 53, 56, 48, 56] := by
        simp [Lib.decDigits]
      show _ = strA (45 :: Lib.decDigits 9223372036854775808)
      rw [this]
      rfl
    · obtain ⟨v, H', nx', p1, rfl, p2⟩ := ref_pos (H := H) (nx := nx) n.natAbs (by omega) hfr
      have hna : ((n.natAbs : Nat) : Int) = -n := by omega
      rw [hna] at p1
      refine wpP29 _ _ _ _ (by simp) ?_
      unfold s29
      have e2 : (n = -9223372036854775808) = False := by simp [hm]
      have hw : IntKind.i64.wrap (-n) = -n := wrapI (by constructor <;> omega)
      have hneg : plain1 cx.P (Op.unary .neg) (.lit (.int .i64 n)) = some (.lit (.int .i64 (-n))) := by
        have : plain1 cx.P (Op.unary .neg) (.lit (.int .i64 n)) = some (.lit (.int .i64 (IntKind.i64.wrap (0 - n)))) := by kernel_rfl
        rw [this, Int.zero_sub, hw]
      have hl := dec_len 20 n.natAbs (by omega) (by omega)
      have hadd : binOpA cx.P cx.T .add 9 (.const (.string (ByteArray.mk #[45]))) (.tmp 10) (.lit (.string (ByteArray.mk #[45]))) (strA (Lib.decDigits n.natAbs)) = some (strA (45 :: Lib.decDigits n.natAbs)) := str_add _ _ [45] _ (by simp only [List.length_singleton]; omega)
      simp only [↓aA, ↓aB, ↓aC, ↓aD, ↓aE, ↓aF, ↓aG, ↓aH, aI, ↓aJ, ↓aK, aL, stepA, opA, convA, isCall, put?, ev, aM, aN, builtinA, callA, argEnv, wantedS, aO, aP, aQ, aR, aS, aT, aU, aV, aW, undef, z_none, aX, aY, aZ, bA, bB, bC, bD, bE, bF, bG, extractOp, bH, bI, bJ, bK, Nat.reduceLT, Nat.reduceEqDiff, Nat.reduceAdd, bL, bM, bN, bO, bP, ↓reduceIte, bQ, bR, reduceCtorEq, resA, resOf, bS, bT, bU, bV, bW, bX, bY, bZ, cA, cB, cC, cD, cE, cF, cG, cH, cI, cJ, cK, cL, maxA, minA, cM, cN, cO, cP, cQ, cR, cS, cT, cU, cV, cW, cX, e1, e2, hneg, x_none, p1, hadd]
      exact p2
  · obtain ⟨u, rfl⟩ : ∃ u : Nat, n = u := ⟨n.toNat, by omega⟩
    have := ref_pos (H := H) (nx := nx) u (by omega) hfr
    unfold Lib.itoa
    rw [if_neg h0]
    exact this
end Seat
end CI
namespace CI
open Go
namespace Seat
open Quo
variable {H : Heap} {nx : Nat}
structure Rd (n0 : Nat) (H : Heap) (nx r : Nat) (w : List UInt8) (at_ : Nat) (bs : List UInt8) (cs : List AV) : Prop where
  bld : Bld n0 H nx r 2 cs 321 bs
  s : cs[0]? = some (strA w)
  at1 : cs[1]? = some (.lit (.int .i64 at_))
  len : cs.length = 4
theorem Bld.set {n0 p o j : Nat} {cs : List AV} {t : TypeId} {bs : List UInt8} (hb : Bld n0 H nx p o cs t bs) (v : AV) (h1 : j ≠ o) (h2 : j ≠ o + 1) : Bld n0 (H.put p (some (.cells (cs.set j v) t false))) nx p o (cs.set j v) t bs where
  hp := Tr.get_put_same _ _ _
  p0 := hb.p0
  p1 := hb.p1
  lies := by simpa using hb.lies
  self := by rw [set_get (by omega)]; exact hb.self
  buf := by
    rw [set_get (by omega)]
    rcases hb.buf with h | ⟨c, h1, h2, h3, h5, h6⟩
    · exact .inl h
    · exact .inr ⟨c, h1, h2, h3, h5, by rw [Tr.get_put_ne _ _ _ _ h1]; exact h6⟩
  fr := fun b h => by rw [Tr.get_put_ne _ _ _ _ (by have := hb.p1; omega)]; exact hb.fr b h
theorem fa321_0 (p o : Nat) : fieldAddrOp cx.T 321 (.ptr p o) 0 = some (.ptr p o) := by kernel_rfl
theorem fa321_1 (p o : Nat) : fieldAddrOp cx.T 321 (.ptr p o) 1 = some (.ptr p (o + 2)) := by kernel_rfl
theorem fa319_0 (p o : Nat) : fieldAddrOp cx.T 319 (.ptr p o) 0 = some (.ptr p o) := by kernel_rfl
theorem fa319_1 (p o : Nat) : fieldAddrOp cx.T 319 (.ptr p o) 1 = some (.ptr p (o + 1)) := by kernel_rfl
section
variable {n0 r at_ : Nat} {w bs : List UInt8} {cs : List AV}
theorem Rd.ld_s (h : Rd n0 H nx r w at_ bs cs) : loadOp cx.T H 9 (.ptr r 0) = some (strA w) := ld_at (by kernel_rfl) h.bld.hp h.s
theorem Rd.ld_at (h : Rd n0 H nx r w at_ bs cs) : loadOp cx.T H 3 (.ptr r 1) = some (.lit (.int .i64 at_)) := CI.Seat.ld_at (by kernel_rfl) h.bld.hp h.at1
theorem Rd.st (h : Rd n0 H nx r w at_ bs cs) (k : Nat) : ∃ H' cs', storeOp cx.T H 3 (.ptr r 1) (.lit (.int .i64 k)) = some H' ∧ Rd n0 H' nx r w k bs cs' ∧ ∀ c, c < n0 → H'.get c = H.get c := by
  refine ⟨H.put r (some (.cells (cs.set 1 (.lit (.int .i64 k))) 321 false)), cs.set 1 (.lit (.int .i64 k)), st_at (by kernel_rfl) h.bld.hp (by have := h.len; omega) rfl rfl, ⟨h.bld.set _ (by omega) (by omega), ?_, ?_, by simp [h.len]⟩, fun c hc => Tr.get_put_ne _ _ _ _ (by have := h.bld.p0; omega)⟩
  · rw [set_get (by omega)]; exact h.s
  · simp [List.getElem?_set, h.len]
theorem next_cl (h : Rd n0 H nx r w at_ bs cs) : Cl cx 275 [.ptr r 0] H nx = some (.tuple [byteA (w.getD at_ 0), .lit (.bool (decide (at_ < w.length)))], H, nx) := by
  refine wp275 _ _ _ _ (by simp) ?_
  unfold s275
  have hl : lenOp cx.T .nil 9 (strA w) = some w.length := str_len w
  simp only [↓aA, ↓aB, ↓aC, ↓aD, ↓aE, ↓aF, ↓aG, ↓aH, aI, ↓aJ, ↓aK, aL, stepA, opA, convA, isCall, put?, ev, aM, aN, builtinA, callA, argEnv, wantedS, aO, aP, aQ, aR, aS, aT, aU, aV, aW, undef, z_none, aX, aY, aZ, bA, bB, bC, bD, bE, bF, bG, extractOp, bH, bI, bJ, bK, Nat.reduceLT, Nat.reduceEqDiff, Nat.reduceAdd, bL, bM, bN, bO, bP, ↓reduceIte, bQ, bR, reduceCtorEq, resA, resOf, bS, bT, bU, bV, bW, bX, bY, bZ, cA, cB, cC, cD, cE, cF, cG, cH, cI, cJ, cK, cL, maxA, minA, cM, cN, cO, cP, cQ, cR, cS, cT, cU, cV, cW, cX]
  refine s275_d0_wq ?_
  unfold s275_d0s
  by_cases hlt : at_ < w.length
  · have e1 : (((at_ : Nat) : Int) ≥ (w.length : Nat)) = False := by simp; omega
    simp only [↓aA, ↓aB, ↓aC, ↓aD, ↓aE, ↓aF, ↓aG, ↓aH, aI, ↓aJ, ↓aK, aL, stepA, opA, convA, isCall, put?, ev, aM, aN, builtinA, callA, argEnv, wantedS, aO, aP, aQ, aR, aS, aT, aU, aV, aW, undef, z_none, aX, aY, aZ, bA, bB, bC, bD, bE, bF, bG, extractOp, bH, bI, bJ, bK, Nat.reduceLT, Nat.reduceEqDiff, Nat.reduceAdd, bL, bM, bN, bO, bP, ↓reduceIte, bQ, bR, reduceCtorEq, resA, resOf, bS, bT, bU, bV, bW, bX, bY, bZ, cA, cB, cC, cD, cE, cF, cG, cH, cI, cJ, cK, cL, maxA, minA, cM, cN, cO, cP, cQ, cR, cS, cT, cU, cV, cW, cX, ↓cY, ↓cZ, txS, dA, dB, dC, dD, dE, dF, dG, dH, dI, dJ, dK, dL, dM, isEff, dN, dO, dP, dQ, dR, dS, AV.belowB, dT, dU, nc_ptr, fa319_0, fa319_1, h.ld_s, h.ld_at, hl, e1, eqB_strA, below_strA]
    refine s275_d1_wq ?_
    unfold s275_d1s
    have hix := str_ix w at_ w[at_] .i64 (List.getElem?_eq_getElem hlt)
    have hg : w.getD at_ 0 = w[at_] := by simp [List.getD_eq_getElem?_getD, hlt]
    simp only [↓aA, ↓aB, ↓aC, ↓aD, ↓aE, ↓aF, ↓aG, ↓aH, aI, ↓aJ, ↓aK, aL, stepA, opA, convA, isCall, put?, ev, aM, aN, builtinA, callA, argEnv, wantedS, aO, aP, aQ, aR, aS, aT, aU, aV, aW, undef, z_none, aX, aY, aZ, bA, bB, bC, bD, bE, bF, bG, extractOp, bH, bI, bJ, bK, Nat.reduceLT, Nat.reduceEqDiff, Nat.reduceAdd, bL, bM, bN, bO, bP, ↓reduceIte, bQ, bR, reduceCtorEq, resA, resOf, bS, bT, bU, bV, bW, bX, bY, bZ, cA, cB, cC, cD, cE, cF, cG, cH, cI, cJ, cK, cL, maxA, minA, cM, cN, cO, cP, cQ, cR, cS, cT, cU, cV, cW, cX, ↓cY, ↓cZ, txS, dA, dB, dC, dD, dE, dF, dG, dH, dI, dJ, dK, dL, dM, isEff, dN, dO, dP, dQ, dR, dS, AV.belowB, dT, dU, nc_ptr, fa319_0, fa319_1, h.ld_s, h.ld_at, hix, eqB_strA, below_strA, hg, hlt]
  · have e1 : (((at_ : Nat) : Int) ≥ (w.length : Nat)) = True := by simp; omega
    have hg : w.getD at_ 0 = 0 := by simp [List.getD_eq_getElem?_getD, List.getElem?_eq_none (show w.length ≤ at_ by omega)]
    simp only [↓aA, ↓aB, ↓aC, ↓aD, ↓aE, ↓aF, ↓aG, ↓aH, aI, ↓aJ, ↓aK, aL, stepA, opA, convA, isCall, put?, ev, aM, aN, builtinA, callA, argEnv, wantedS, aO, aP, aQ, aR, aS, aT, aU, aV, aW, undef, z_none, aX, aY, aZ, bA, bB, bC, bD, bE, bF, bG, extractOp, bH, bI, bJ, bK, Nat.reduceLT, Nat.reduceEqDiff, Nat.reduceAdd, bL, bM, bN, bO, bP, ↓reduceIte, bQ, bR, reduceCtorEq, resA, resOf, bS, bT, bU, bV, bW, bX, bY, bZ, cA, cB, cC, cD, cE, cF, cG, cH, cI, cJ, cK, cL, maxA, minA, cM, cN, cO, cP, cQ, cR, cS, cT, cU, cV, cW, cX, ↓cY, ↓cZ, txS, dA, dB, dC, dD, dE, dF, dG, dH, dI, dJ, dK, dL, dM, isEff, dN, dO, dP, dQ, dR, dS, AV.belowB, dT, dU, nc_ptr, fa319_0, fa319_1, h.ld_s, h.ld_at, hl, e1, eqB_strA, below_strA, hg, hlt]
    rfl
def idxOf (n : Nat) : Int := if 48 ≤ n ∧ n ≤ 57 then n - 48 else if 97 ≤ n ∧ n ≤ 102 then n - 87 else -1
theorem xh354_all : ((List.range 256).all fun n => match cx.X 354 [.lit (.string (ByteArray.mk #[48, 49, 50, 51, 52, 53, 54, 55, 56, 57, 97, 98, 99, 100, 101, 102])), .lit (.int .u8 n)] with
    | some (.lit (.int .i64 k)) => decide (k = idxOf n)
    | _ => false) = true := by kernel_rfl
theorem xh354 (b : UInt8) : cx.X 354 [.lit (.string (ByteArray.mk #[48, 49, 50, 51, 52, 53, 54, 55, 56, 57, 97, 98, 99, 100, 101, 102])), byteA b] = some (.lit (.int .i64 (idxOf b.toNat))) := by
  have := List.all_eq_true.1 xh354_all b.toNat (List.mem_range.2 b.toNat_lt)
  unfold byteA
  split at this
  · rename_i k hk
    rw [hk, of_decide_eq_true this]
  · cases this
theorem ixb_cl (b : UInt8) : Cl cx 305 [.lit (.string (ByteArray.mk #[48, 49, 50, 51, 52, 53, 54, 55, 56, 57, 97, 98, 99, 100, 101, 102])), byteA b] H nx = some (.lit (.int .i64 (idxOf b.toNat)), H, nx) := by
  have h2 : Cl cx 280 [.lit (.string (ByteArray.mk #[48, 49, 50, 51, 52, 53, 54, 55, 56, 57, 97, 98, 99, 100, 101, 102])), byteA b] H nx = some (.lit (.int .i64 (idxOf b.toNat)), H, nx) := by
    refine wp280 _ _ _ _ (by simp) ?_
    unfold s280
    simp only [↓aA, ↓aB, ↓aC, ↓aD, ↓aE, ↓aF, ↓aG, ↓aH, aI, ↓aJ, ↓aK, aL, stepA, opA, convA, isCall, put?, ev, aM, aN, builtinA, callA, argEnv, wantedS, aO, aP, aQ, aR, aS, aT, aU, aV, aW, undef, z_none, aX, aY, aZ, bA, bB, bC, bD, bE, bF, bG, extractOp, bH, bI, bJ, bK, Nat.reduceLT, Nat.reduceEqDiff, Nat.reduceAdd, bL, bM, bN, bO, bP, ↓reduceIte, bQ, bR, reduceCtorEq, resA, resOf, bS, bT, bU, bV, bW, bX, bY, bZ, cA, cB, cC, cD, cE, cF, cG, cH, cI, cJ, cK, cL, maxA, minA, cM, cN, cO, cP, cQ, cR, cS, cT, cU, cV, cW, cX, xh354]
  refine wp305 _ _ _ _ (by simp) ?_
  unfold s305
  simp only [↓aA, ↓aB, ↓aC, ↓aD, ↓aE, ↓aF, ↓aG, ↓aH, aI, ↓aJ, ↓aK, aL, stepA, opA, convA, isCall, put?, ev, aM, aN, builtinA, callA, argEnv, wantedS, aO, aP, aQ, aR, aS, aT, aU, aV, aW, undef, z_none, aX, aY, aZ, bA, bB, bC, bD, bE, bF, bG, extractOp, bH, bI, bJ, bK, Nat.reduceLT, Nat.reduceEqDiff, Nat.reduceAdd, bL, bM, bN, bO, bP, ↓reduceIte, bQ, bR, reduceCtorEq, resA, resOf, bS, bT, bU, bV, bW, bX, bY, bZ, cA, cB, cC, cD, cE, cF, cG, cH, cI, cJ, cK, cL, maxA, minA, cM, cN, cO, cP, cQ, cR, cS, cT, cU, cV, cW, cX, x_none, h2]
theorem idxOf_un (b : UInt8) : (∀ n, unhex b = some n → idxOf b.toNat = (n : Int) ∧ n < 16) ∧ (unhex b = none → idxOf b.toNat = -1) := by
  unfold idxOf unhex
  constructor
  · intro n h
    split at h
    · injection h with h; subst h; rw [if_pos ‹_›]; omega
    · split at h
      · injection h with h; subst h; rw [if_neg ‹_›, if_pos ‹_›]; omega
      · cases h
  · intro h
    split at h
    · cases h
    · split at h
      · cases h
      · rw [if_neg ‹_›, if_neg ‹_›]
theorem digit_cl (h : Rd n0 H nx r w at_ bs cs) (hw : w.length ≤ 1000000) (ha : at_ ≤ w.length) : ∃ v H' cs', Cl cx 389 [.ptr r 0] H nx = some (v, H', nx) ∧ (∀ c, c < n0 → H'.get c = H.get c) ∧
    ((∃ b n, w[at_]? = some b ∧ unhex b = some n ∧ n < 16 ∧ v = .tuple [byteA (UInt8.ofNat n), .lit (.bool true)] ∧ Rd n0 H' nx r w (at_ + 1) bs cs') ∨
     ((∀ b, w[at_]? = some b → unhex b = none) ∧ v = .tuple [.lit (.int .u8 0), .lit (.bool false)] ∧ Rd n0 H' nx r w at_ bs cs')) := by
  have hn := next_cl h
  by_cases hlt : at_ < w.length
  · have hg : w.getD at_ 0 = w[at_] := by simp [List.getD_eq_getElem?_getD, hlt]
    rw [hg] at hn
    simp only [hlt, decide_true] at hn
    have hix := ixb_cl (H := H) (nx := nx) w[at_]
    cases hu : unhex w[at_] with
    | none =>
      rw [(idxOf_un w[at_]).2 hu] at hix
      refine ⟨_, H, cs, ?_, fun _ _ => rfl, .inr ⟨fun b hb => ?_, rfl, h⟩⟩
      · refine wp389 _ _ _ _ (by simp) ?_
        unfold s389
        have : ((-1 : Int) < 0) = True := by simp
        simp only [↓aA, ↓aB, ↓aC, ↓aD, ↓aE, ↓aF, ↓aG, ↓aH, aI, ↓aJ, ↓aK, aL, stepA, opA, convA, isCall, put?, ev, aM, aN, builtinA, callA, argEnv, wantedS, aO, aP, aQ, aR, aS, aT, aU, aV, aW, undef, z_none, aX, aY, aZ, bA, bB, bC, bD, bE, bF, bG, extractOp, bH, bI, bJ, bK, Nat.reduceLT, Nat.reduceEqDiff, Nat.reduceAdd, bL, bM, bN, bO, bP, ↓reduceIte, bQ, bR, reduceCtorEq, resA, resOf, bS, bT, bU, bV, bW, bX, bY, bZ, cA, cB, cC, cD, cE, cF, cG, cH, cI, cJ, cK, cL, maxA, minA, cM, cN, cO, cP, cQ, cR, cS, cT, cU, cV, cW, cX, x_none, nc_ptr, fa321_0, fa319_1, hn, hix, this]
      · rw [List.getElem?_eq_getElem hlt] at hb; injection hb with hb; subst hb; exact hu
    | some n =>
      obtain ⟨e1, e2⟩ := (idxOf_un w[at_]).1 n hu
      rw [e1] at hix
      obtain ⟨H', cs', s1, s2, s3⟩ := h.st (at_ + 1)
      refine ⟨_, H', cs', ?_, s3, .inl ⟨w[at_], n, List.getElem?_eq_getElem hlt, hu, e2, rfl, s2⟩⟩
      refine wp389 _ _ _ _ (by simp) ?_
      unfold s389
      have hne : (((n : Nat) : Int) < 0) = False := by simp
      have hwr : IntKind.i64.wrap ((at_ : Int) + 1) = ((at_ + 1 : Nat) : Int) := by rw [wrapI (by constructor <;> omega)]; rfl
      simp only [↓aA, ↓aB, ↓aC, ↓aD, ↓aE, ↓aF, ↓aG, ↓aH, aI, ↓aJ, ↓aK, aL, stepA, opA, convA, isCall, put?, ev, aM, aN, builtinA, callA, argEnv, wantedS, aO, aP, aQ, aR, aS, aT, aU, aV, aW, undef, z_none, aX, aY, aZ, bA, bB, bC, bD, bE, bF, bG, extractOp, bH, bI, bJ, bK, Nat.reduceLT, Nat.reduceEqDiff, Nat.reduceAdd, bL, bM, bN, bO, bP, ↓reduceIte, bQ, bR, reduceCtorEq, resA, resOf, bS, bT, bU, bV, bW, bX, bY, bZ, cA, cB, cC, cD, cE, cF, cG, cH, cI, cJ, cK, cL, maxA, minA, cM, cN, cO, cP, cQ, cR, cS, cT, cU, cV, cW, cX, x_none, nc_ptr, fa321_0, fa319_1, hn, hix, hne, h.ld_at, hwr, s1, cv_3_5 n (by omega)]
  · have hg : w.getD at_ 0 = 0 := by simp [List.getD_eq_getElem?_getD, List.getElem?_eq_none (show w.length ≤ at_ by omega)]
    rw [hg] at hn
    simp only [hlt, decide_false] at hn
    have hix := ixb_cl (H := H) (nx := nx) 0
    refine ⟨_, H, cs, ?_, fun _ _ => rfl, .inr ⟨fun b hb => ?_, rfl, h⟩⟩
    · refine wp389 _ _ _ _ (by simp) ?_
      unfold s389
      simp only [↓aA, ↓aB, ↓aC, ↓aD, ↓aE, ↓aF, ↓aG, ↓aH, aI, ↓aJ, ↓aK, aL, stepA, opA, convA, isCall, put?, ev, aM, aN, builtinA, callA, argEnv, wantedS, aO, aP, aQ, aR, aS, aT, aU, aV, aW, undef, z_none, aX, aY, aZ, bA, bB, bC, bD, bE, bF, bG, extractOp, bH, bI, bJ, bK, Nat.reduceLT, Nat.reduceEqDiff, Nat.reduceAdd, bL, bM, bN, bO, bP, ↓reduceIte, bQ, bR, reduceCtorEq, resA, resOf, bS, bT, bU, bV, bW, bX, bY, bZ, cA, cB, cC, cD, cE, cF, cG, cH, cI, cJ, cK, cL, maxA, minA, cM, cN, cO, cP, cQ, cR, cS, cT, cU, cV, cW, cX, x_none, nc_ptr, fa321_0, fa319_1, hn, hix]
    · rw [List.getElem?_eq_none (by omega)] at hb; cases hb
theorem codes_0 (H : Heap) (nx : Nat) : callN cx 300 390 [.lit (.int .u8 ((0 : Nat) : Int))] H nx = some (.lit (.bool (codesB 0)), H, nx) := by kernel_rfl
theorem codes_1 (H : Heap) (nx : Nat) : callN cx 300 390 [.lit (.int .u8 ((1 : Nat) : Int))] H nx = some (.lit (.bool (codesB 1)), H, nx) := by kernel_rfl
theorem codes_2 (H : Heap) (nx : Nat) : callN cx 300 390 [.lit (.int .u8 ((2 : Nat) : Int))] H nx = some (.lit (.bool (codesB 2)), H, nx) := by kernel_rfl
theorem codes_3 (H : Heap) (nx : Nat) : callN cx 300 390 [.lit (.int .u8 ((3 : Nat) : Int))] H nx = some (.lit (.bool (codesB 3)), H, nx) := by kernel_rfl
theorem codes_4 (H : Heap) (nx : Nat) : callN cx 300 390 [.lit (.int .u8 ((4 : Nat) : Int))] H nx = some (.lit (.bool (codesB 4)), H, nx) := by kernel_rfl
theorem codes_5 (H : Heap) (nx : Nat) : callN cx 300 390 [.lit (.int .u8 ((5 : Nat) : Int))] H nx = some (.lit (.bool (codesB 5)), H, nx) := by kernel_rfl
theorem codes_6 (H : Heap) (nx : Nat) : callN cx 300 390 [.lit (.int .u8 ((6 : Nat) : Int))] H nx = some (.lit (.bool (codesB 6)), H, nx) := by kernel_rfl
theorem codes_7 (H : Heap) (nx : Nat) : callN cx 300 390 [.lit (.int .u8 ((7 : Nat) : Int))] H nx = some (.lit (.bool (codesB 7)), H, nx) := by kernel_rfl
theorem codes_8 (H : Heap) (nx : Nat) : callN cx 300 390 [.lit (.int .u8 ((8 : Nat) : Int))] H nx = some (.lit (.bool (codesB 8)), H, nx) := by kernel_rfl
theorem codes_9 (H : Heap) (nx : Nat) : callN cx 300 390 [.lit (.int .u8 ((9 : Nat) : Int))] H nx = some (.lit (.bool (codesB 9)), H, nx) := by kernel_rfl
theorem codes_10 (H : Heap) (nx : Nat) : callN cx 300 390 [.lit (.int .u8 ((10 : Nat) : Int))] H nx = some (.lit (.bool (codesB 10)), H, nx) := by kernel_rfl
theorem codes_11 (H : Heap) (nx : Nat) : callN cx 300 390 [.lit (.int .u8 ((11 : Nat) : Int))] H nx = some (.lit (.bool (codesB 11)), H, nx) := by kernel_rfl
theorem codes_12 (H : Heap) (nx : Nat) : callN cx 300 390 [.lit (.int .u8 ((12 : Nat) : Int))] H nx = some (.lit (.bool (codesB 12)), H, nx) := by kernel_rfl
theorem codes_13 (H : Heap) (nx : Nat) : callN cx 300 390 [.lit (.int .u8 ((13 : Nat) : Int))] H nx = some (.lit (.bool (codesB 13)), H, nx) := by kernel_rfl
theorem codes_14 (H : Heap) (nx : Nat) : callN cx 300 390 [.lit (.int .u8 ((14 : Nat) : Int))] H nx = some (.lit (.bool (codesB 14)), H, nx) := by kernel_rfl
theorem codes_15 (H : Heap) (nx : Nat) : callN cx 300 390 [.lit (.int .u8 ((15 : Nat) : Int))] H nx = some (.lit (.bool (codesB 15)), H, nx) := by kernel_rfl
theorem codes_n (H : Heap) (nx : Nat) (n : Nat) (h : n < 16) : callN cx 300 390 [.lit (.int .u8 (n : Nat))] H nx = some (.lit (.bool (codesB n)), H, nx) := by
  rcases (show n = 0 ∨ n = 1 ∨ n = 2 ∨ n = 3 ∨ n = 4 ∨ n = 5 ∨ n = 6 ∨ n = 7 ∨ n = 8 ∨ n = 9 ∨ n = 10 ∨ n = 11 ∨ n = 12 ∨ n = 13 ∨ n = 14 ∨ n = 15 by omega) with rfl | rfl | rfl | rfl | rfl | rfl | rfl | rfl | rfl | rfl | rfl | rfl | rfl | rfl | rfl | rfl
  · exact codes_0 H nx
  · exact codes_1 H nx
  · exact codes_2 H nx
  · exact codes_3 H nx
  · exact codes_4 H nx
  · exact codes_5 H nx
  · exact codes_6 H nx
  · exact codes_7 H nx
  · exact codes_8 H nx
  · exact codes_9 H nx
  · exact codes_10 H nx
  · exact codes_11 H nx
  · exact codes_12 H nx
  · exact codes_13 H nx
  · exact codes_14 H nx
  · exact codes_15 H nx
theorem codes_cl (n : Nat) (h : n < 16) : Cl cx 390 [byteA (UInt8.ofNat n)] H nx = some (.lit (.bool (codesB n)), H, nx) := by
  have := Cl_of (codes_n H nx n h)
  have e : byteA (UInt8.ofNat n) = .lit (.int .u8 (n : Nat)) := by
    unfold byteA
    have : (UInt8.ofNat n).toNat = n := by simp; omega
    rw [this]
  rw [e]; exact this
end
end Seat
end CI
namespace CI
open Go
namespace Seat
open Quo
variable {H : Heap} {nx : Nat}
section
variable {n0 r at_ : Nat} {w bs : List UInt8} {cs : List AV}
theorem byteA_of {n : Nat} (h : n < 256) : byteA (UInt8.ofNat n) = .lit (.int .u8 (n : Nat)) := by
  unfold byteA
  have : (UInt8.ofNat n).toNat = n := by simp; omega
  rw [this]
theorem Rd.wb (h : Rd n0 H nx r w at_ bs cs) (hlen : bs.length ≤ 100000000) (b : UInt8) :
    ∃ H' nx' cs', Cl cx 143 [.ptr r 2, byteA b] H nx = some (.lit .nilIface, H', nx') ∧ Rd n0 H' nx' r w at_ (bs ++ [b]) cs' ∧ nx ≤ nx' ∧ ∀ c, c < n0 → H'.get c = H.get c := by
  obtain ⟨H', nx', cs', w1, w2, w3, w4, w5, w6⟩ := wb_cl h.bld hlen b
  exact ⟨H', nx', cs', w1, ⟨w2, by rw [w4 0 (by omega) (by omega)]; exact h.s, by rw [w4 1 (by omega) (by omega)]; exact h.at1, by rw [w5]; exact h.len⟩, w3, w6⟩
def After (n0 : Nat) (H : Heap) (nx r : Nat) (w : List UInt8) (at_ : Nat) (bs : List UInt8) (used : Nat) (x : Except Nat UInt8) (ok : Bool) (H' : Heap) (nx' : Nat) (cs' : List AV) : Prop :=
  match x with
  | .ok b => ok = true ∧ at_ + used ≤ w.length ∧ Rd n0 H' nx' r w (at_ + used) (bs ++ [b]) cs'
  | .error k => ok = false ∧ at_ + k ≤ w.length ∧ Rd n0 H' nx' r w (at_ + k) bs cs'
theorem code_cl (h : Rd n0 H nx r w at_ bs cs) (hw : w.length ≤ 1000000) (ha : at_ ≤ w.length) (hbs : bs.length ≤ 1000000) :
    ∃ ok H' nx' cs', Cl cx 352 [.ptr r 0] H nx = some (.lit (.bool ok), H', nx') ∧ nx ≤ nx' ∧ (∀ c, c < n0 → H'.get c = H.get c) ∧ After n0 H nx r w at_ bs 2 (codeR (w.drop at_)) ok H' nx' cs' := by
  obtain ⟨v, H1, cs1, d1, d2, d3⟩ := digit_cl h hw ha
  rcases d3 with ⟨b, n, q1, q2, q3, rfl, q4⟩ | ⟨q1, rfl, q2⟩
  · rw [byteA_of (by omega)] at d1
    have hlt : at_ < w.length := (List.getElem?_eq_some_iff.1 q1).1
    have hco := codes_cl (H := H1) (nx := nx) n q3
    rw [byteA_of (by omega)] at hco
    cases hc : codesB n with
    | false =>
      rw [hc] at hco
      obtain ⟨H2, cs2, s1, s2, s3⟩ := q4.st at_
      have hwr : IntKind.i64.wrap (((at_ + 1 : Nat) : Int) - 1) = ((at_ : Nat) : Int) := by rw [wrapI (by constructor <;> omega)]; omega
      refine ⟨false, H2, nx, cs2, ?_, Nat.le_refl _, fun c hc => (s3 c hc).trans (d2 c hc), ?_⟩
      · refine wp352 _ _ _ _ (by simp) ?_
        unfold s352
        simp only [↓aA, ↓aB, ↓aC, ↓aD, ↓aE, ↓aF, ↓aG, ↓aH, aI, ↓aJ, ↓aK, aL, stepA, opA, convA, isCall, put?, ev, aM, aN, builtinA, callA, argEnv, wantedS, aO, aP, aQ, aR, aS, aT, aU, aV, aW, undef, z_none, aX, aY, aZ, bA, bB, bC, bD, bE, bF, bG, extractOp, bH, bI, bJ, bK, Nat.reduceLT, Nat.reduceEqDiff, Nat.reduceAdd, bL, bM, bN, bO, bP, ↓reduceIte, bQ, bR, reduceCtorEq, resA, resOf, bS, bT, bU, bV, bW, bX, bY, bZ, cA, cB, cC, cD, cE, cF, cG, cH, cI, cJ, cK, cL, maxA, minA, cM, cN, cO, cP, cQ, cR, cS, cT, cU, cV, cW, cX, x_none, nc_ptr, fa321_0, fa319_1, d1, hco, q4.ld_at, hwr, s1]
      · rw [codeR_hi q1 q2 hc]; exact ⟨rfl, by omega, s2⟩
    | true =>
      rw [hc] at hco
      obtain ⟨v2, H2, cs2, d4, d5, d6⟩ := digit_cl q4 hw hlt
      rcases d6 with ⟨b2, m, p1, p2, p3, rfl, p4⟩ | ⟨p1, rfl, p2⟩
      · rw [byteA_of (by omega)] at d4
        have hlt2 : at_ + 1 < w.length := (List.getElem?_eq_some_iff.1 p1).1
        have hw1 : IntKind.u8.wrap (16 * (n : Int)) = ((16 * n : Nat) : Int) := by
          simp only [IntKind.wrap, IntKind.signed, IntKind.bits, Bool.false_and, Bool.false_eq_true, if_false]; omega
        have hw2 : IntKind.u8.wrap (((16 * n : Nat) : Int) + (m : Int)) = ((16 * n + m : Nat) : Int) := by
          simp only [IntKind.wrap, IntKind.signed, IntKind.bits, Bool.false_and, Bool.false_eq_true, if_false]; omega
        have hpl := plain_cl (H := H2) (nx := nx) (UInt8.ofNat (16 * n + m))
        rw [byteA_of (by omega)] at hpl
        have htn : (UInt8.ofNat (16 * n + m)).toNat = 16 * n + m := by simp; omega
        rw [htn] at hpl
        have hcr := codeR_lo q1 q2 hc p1 p2
        have hwr : IntKind.i64.wrap (((at_ + 1 + 1 : Nat) : Int) - 1) = ((at_ + 1 : Nat) : Int) := by rw [wrapI (by constructor <;> omega)]; omega
        cases hp : plainN (16 * n + m) with
        | true =>
          rw [hp] at hpl
          rw [if_pos (.inl hp)] at hcr
          obtain ⟨H3, cs3, s1, s2, s3⟩ := p4.st (at_ + 1)
          refine ⟨false, H3, nx, cs3, ?_, Nat.le_refl _, fun c hc => (s3 c hc).trans ((d5 c hc).trans (d2 c hc)), ?_⟩
          · refine wp352 _ _ _ _ (by simp) ?_
            unfold s352
            simp only [↓aA, ↓aB, ↓aC, ↓aD, ↓aE, ↓aF, ↓aG, ↓aH, aI, ↓aJ, ↓aK, aL, stepA, opA, convA, isCall, put?, ev, aM, aN, builtinA, callA, argEnv, wantedS, aO, aP, aQ, aR, aS, aT, aU, aV, aW, undef, z_none, aX, aY, aZ, bA, bB, bC, bD, bE, bF, bG, extractOp, bH, bI, bJ, bK, Nat.reduceLT, Nat.reduceEqDiff, Nat.reduceAdd, bL, bM, bN, bO, bP, ↓reduceIte, bQ, bR, reduceCtorEq, resA, resOf, bS, bT, bU, bV, bW, bX, bY, bZ, cA, cB, cC, cD, cE, cF, cG, cH, cI, cJ, cK, cL, maxA, minA, cM, cN, cO, cP, cQ, cR, cS, cT, cU, cV, cW, cX, x_none, nc_ptr, fa321_0, fa319_1, d1, hco, d4, hw1, hw2, hpl, p4.ld_at, hwr, s1]
          · rw [hcr]; exact ⟨rfl, by omega, s2⟩
        | false =>
          rw [hp] at hpl
          by_cases h92 : 16 * n + m = 92
          · rw [if_pos (.inr h92)] at hcr
            have e92 : (((16 * n + m : Nat) : Int) = 92) = True := by simp; omega
            obtain ⟨H3, cs3, s1, s2, s3⟩ := p4.st (at_ + 1)
            refine ⟨false, H3, nx, cs3, ?_, Nat.le_refl _, fun c hc => (s3 c hc).trans ((d5 c hc).trans (d2 c hc)), ?_⟩
            · refine wp352 _ _ _ _ (by simp) ?_
              unfold s352
              simp only [↓aA, ↓aB, ↓aC, ↓aD, ↓aE, ↓aF, ↓aG, ↓aH, aI, ↓aJ, ↓aK, aL, stepA, opA, convA, isCall, put?, ev, aM, aN, builtinA, callA, argEnv, wantedS, aO, aP, aQ, aR, aS, aT, aU, aV, aW, undef, z_none, aX, aY, aZ, bA, bB, bC, bD, bE, bF, bG, extractOp, bH, bI, bJ, bK, Nat.reduceLT, Nat.reduceEqDiff, Nat.reduceAdd, bL, bM, bN, bO, bP, ↓reduceIte, bQ, bR, reduceCtorEq, resA, resOf, bS, bT, bU, bV, bW, bX, bY, bZ, cA, cB, cC, cD, cE, cF, cG, cH, cI, cJ, cK, cL, maxA, minA, cM, cN, cO, cP, cQ, cR, cS, cT, cU, cV, cW, cX, x_none, nc_ptr, fa321_0, fa319_1, d1, hco, d4, hw1, hw2, hpl, e92, p4.ld_at, hwr, s1]
            · rw [hcr]; exact ⟨rfl, by omega, s2⟩
          · rw [if_neg (by rw [hp]; simp [h92])] at hcr
            have e92 : (((16 * n + m : Nat) : Int) = 92) = False := by simp; omega
            obtain ⟨H3, nx3, cs3, w1, w2, w3, w4⟩ := p4.wb (by omega) (UInt8.ofNat (16 * n + m))
            rw [byteA_of (by omega)] at w1
            refine ⟨true, H3, nx3, cs3, ?_, w3, fun c hc => (w4 c hc).trans ((d5 c hc).trans (d2 c hc)), ?_⟩
            · refine wp352 _ _ _ _ (by simp) ?_
              unfold s352
              simp only [↓aA, ↓aB, ↓aC, ↓aD, ↓aE, ↓aF, ↓aG, ↓aH, aI, ↓aJ, ↓aK, aL, stepA, opA, convA, isCall, put?, ev, aM, aN, builtinA, callA, argEnv, wantedS, aO, aP, aQ, aR, aS, aT, aU, aV, aW, undef, z_none, aX, aY, aZ, bA, bB, bC, bD, bE, bF, bG, extractOp, bH, bI, bJ, bK, Nat.reduceLT, Nat.reduceEqDiff, Nat.reduceAdd, bL, bM, bN, bO, bP, ↓reduceIte, bQ, bR, reduceCtorEq, resA, resOf, bS, bT, bU, bV, bW, bX, bY, bZ, cA, cB, cC, cD, cE, cF, cG, cH, cI, cJ, cK, cL, maxA, minA, cM, cN, cO, cP, cQ, cR, cS, cT, cU, cV, cW, cX, x_none, nc_ptr, fa321_0, fa321_1, fa319_1, d1, hco, d4, hw1, hw2, hpl, e92, w1]
            · rw [hcr]; exact ⟨rfl, by omega, w2⟩
      · refine ⟨false, H2, nx, cs2, ?_, Nat.le_refl _, fun c hc => (d5 c hc).trans (d2 c hc), ?_⟩
        · refine wp352 _ _ _ _ (by simp) ?_
          unfold s352
          simp only [↓aA, ↓aB, ↓aC, ↓aD, ↓aE, ↓aF, ↓aG, ↓aH, aI, ↓aJ, ↓aK, aL, stepA, opA, convA, isCall, put?, ev, aM, aN, builtinA, callA, argEnv, wantedS, aO, aP, aQ, aR, aS, aT, aU, aV, aW, undef, z_none, aX, aY, aZ, bA, bB, bC, bD, bE, bF, bG, extractOp, bH, bI, bJ, bK, Nat.reduceLT, Nat.reduceEqDiff, Nat.reduceAdd, bL, bM, bN, bO, bP, ↓reduceIte, bQ, bR, reduceCtorEq, resA, resOf, bS, bT, bU, bV, bW, bX, bY, bZ, cA, cB, cC, cD, cE, cF, cG, cH, cI, cJ, cK, cL, maxA, minA, cM, cN, cO, cP, cQ, cR, cS, cT, cU, cV, cW, cX, x_none, nc_ptr, fa321_0, fa319_1, d1, hco, d4]
        · rw [codeR_lo0 q1 q2 hc p1]; exact ⟨rfl, by omega, p2⟩
  · refine ⟨false, H1, nx, cs1, ?_, Nat.le_refl _, d2, ?_⟩
    · refine wp352 _ _ _ _ (by simp) ?_
      unfold s352
      simp only [↓aA, ↓aB, ↓aC, ↓aD, ↓aE, ↓aF, ↓aG, ↓aH, aI, ↓aJ, ↓aK, aL, stepA, opA, convA, isCall, put?, ev, aM, aN, builtinA, callA, argEnv, wantedS, aO, aP, aQ, aR, aS, aT, aU, aV, aW, undef, z_none, aX, aY, aZ, bA, bB, bC, bD, bE, bF, bG, extractOp, bH, bI, bJ, bK, Nat.reduceLT, Nat.reduceEqDiff, Nat.reduceAdd, bL, bM, bN, bO, bP, ↓reduceIte, bQ, bR, reduceCtorEq, resA, resOf, bS, bT, bU, bV, bW, bX, bY, bZ, cA, cB, cC, cD, cE, cF, cG, cH, cI, cJ, cK, cL, maxA, minA, cM, cN, cO, cP, cQ, cR, cS, cT, cU, cV, cW, cX, x_none, nc_ptr, fa321_0, fa319_1, d1]
    · rw [codeR_none q1]; exact ⟨rfl, by omega, q2⟩
end
end Seat
end CI
