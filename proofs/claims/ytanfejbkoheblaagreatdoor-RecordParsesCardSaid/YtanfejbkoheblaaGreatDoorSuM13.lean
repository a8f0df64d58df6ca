/- Parts of the proof: Xa Ba Bb Bc Be Bf Bg Bh Bi Bk. -/
import Derived.Test.YtanfejbkoheblaaGreatDoorSuCiz
import Derived.Test.YtanfejbkoheblaaGreatDoorSuM2
import Derived.Test.YtanfejbkoheblaaGreatDoorSuM3
import Derived.Laws.Strings
import Derived.Test.YtanfejbkoheblaaGreatDoorSuM5
set_option linter.unusedVariables false
set_option linter.unusedSimpArgs false
set_option maxRecDepth 10000
namespace CI
open Go
namespace Seat
theorem x_none (k : Nat) (h262 : (k == 262) = false) (h354 : (k == 354) = false) (h281 : (k == 281) = false) (h346 : (k == 346) = false) (h34 : (k == 34) = false) (h201 : (k == 201) = false) (h195 : (k == 195) = false) (h139 : (k == 139) = false) (args : List AV) : cx.X k args = none := by
  show extX4 Go.Proofs.Tryz.prog exts sums idents cons k args = none
  have e_exts : exts.get k = none := by simp only [exts, Tr.get_put, if_neg (show k ≠ 262 by simpa using h262), if_neg (show k ≠ 354 by simpa using h354), if_neg (show k ≠ 281 by simpa using h281), if_neg (show k ≠ 346 by simpa using h346), Tr.get_nil]
  have e_sums : sums.get k = none := by simp only [sums, Tr.get_put, if_neg (show k ≠ 34 by simpa using h34), Tr.get_nil]
  have e_idents : idents.get k = none := by simp only [idents, Tr.get_put, if_neg (show k ≠ 201 by simpa using h201), Tr.get_nil]
  have e_cons : cons.get k = none := by simp only [cons, Tr.get_put, if_neg (show k ≠ 195 by simpa using h195), if_neg (show k ≠ 139 by simpa using h139), Tr.get_nil]
  simp [extX4, extX3, extX2, extX, e_exts, e_sums, e_idents, e_cons]
def isX (k : Nat) : Bool := k == 262 || k == 354 || k == 281 || k == 346 || k == 34 || k == 201 || k == 195 || k == 139
theorem x_no (k : Nat) (h : isX k = false) (args : List AV) : cx.X k args = none := by
  simp only [isX, Bool.or_eq_false_iff] at h
  exact x_none k (by first | exact h | exact h.2 | simp_all) (by first | exact h | exact h.2 | simp_all) (by first | exact h | exact h.2 | simp_all) (by first | exact h | exact h.2 | simp_all) (by first | exact h | exact h.2 | simp_all) (by first | exact h | exact h.2 | simp_all) (by first | exact h | exact h.2 | simp_all) (by first | exact h | exact h.2 | simp_all) args
theorem x_caltroplaw22_awake : cx.X 34 [] = some (.lit (.bool true)) := by kernel_rfl
end Seat
end CI
namespace CI
open Go
namespace Seat
variable {H : Heap} {nx : Nat}
def B (l : List UInt8) : ByteArray := ⟨l.toArray⟩
def strA (l : List UInt8) : AV := .lit (.string (B l))
def byteA (b : UInt8) : AV := .lit (.int .u8 b.toNat)
theorem B_size (l : List UInt8) : (B l).size = l.length := by simp [B, ByteArray.size]
theorem B_data (l : List UInt8) : (B l).data.toList = l := by simp [B]
theorem B_toList (l : List UInt8) : (B l).toList = l := by
  rw [ByteArray.toList_eq, B_data]
theorem B_append (l m : List UInt8) : B l ++ B m = B (l ++ m) := by
  apply ByteArray.ext
  simp [B, ByteArray.data_append]
theorem B_of (s : ByteArray) : s = B s.data.toList := by
  cases s; simp [B]
section
variable (x y : Operand) (l m : List UInt8)
theorem str_add (h : l.length + m.length ≤ 1000000000) : binOpA cx.P cx.T .add 9 x y (strA l) (strA m) = some (strA (l ++ m)) := by
  have e : plain2 cx.P (fun p q => do eqGuard .add 9 x y p q; binOp .add 9 p q) (strA l) (strA m) = (pureRun cx.P (Op.stringOp .add (B l) (B m))).map abs := rfl
  unfold binOpA
  rw [e]
  simp only [Op.stringOp, B_size]
  rw [if_neg (by
    have e : IntKind.i64.max = 9223372036854775807 := by decide
    rw [e]; omega)]
  rw [B_append]
  rfl
theorem str_eql : binOpA cx.P cx.T .eql 9 x y (strA l) (strA m) = some (.lit (.bool (decide (l = m)))) := by
  have e : plain2 cx.P (fun p q => do eqGuard .eql 9 x y p q; binOp .eql 9 p q) (strA l) (strA m) = (pureRun cx.P (Op.stringOp .eql (B l) (B m))).map abs := rfl
  unfold binOpA
  rw [e]
  simp only [Op.stringOp, B_toList]
  rw [show (l == m) = decide (l = m) from by by_cases h : l = m <;> simp [h]]
  rfl
theorem str_len : lenOp cx.T H 9 (strA l) = some l.length := by
  have : lenOp cx.T H 9 (strA l) = some (B l).size := by kernel_rfl
  rw [this, B_size]
theorem str_ix (i : Nat) (b : UInt8) (k : IntKind) (h : l[i]? = some b) : indexOp cx.P cx.T 9 (strA l) (.lit (.int k i)) = some (byteA b) := by
  have : indexOp cx.P cx.T 9 (strA l) (.lit (.int k i)) = ((B l).data.toList[i]?).map fun c => .lit (.int .u8 c.toNat) := by kernel_rfl
  rw [this, B_data, h]
  rfl
end
theorem lit32 : AV.lit (.string (ByteArray.mk #[32])) = strA [32] := rfl
theorem ld_at {t : TypeId} {p o : Nat} {cs : List AV} {tb : TypeId} {ro : Bool} {v : AV} (ht : (cx.T.get t).map (·.agg) = some false) (hp : H.get p = some (.cells cs tb ro)) (hv : cs[o]? = some v) :
    loadOp cx.T H t (.ptr p o) = some v := by
  unfold loadOp
  simp only [Option.map_eq_some_iff] at ht
  obtain ⟨i, h1, h2⟩ := ht
  simp only [h1, hp, h2]
  have hlt : o < cs.length := (List.getElem?_eq_some_iff.1 hv).1
  simp only [cut, if_pos (show o + 1 ≤ cs.length by omega), Option.bind_some, Bool.false_eq_true, if_false]
  rw [List.getElem?_take, if_pos (by omega), List.getElem?_drop]
  simpa using hv
theorem overA_one (cs : List AV) (o : Nat) (v : AV) (h : o < cs.length) : overA cs o [v] = cs.set o v := by
  apply List.ext_getElem?
  intro j
  rw [overA_get _ _ _ (by simp only [List.length_singleton]; omega), List.getElem?_set]
  simp only [List.length_singleton]
  by_cases hj : o = j
  · subst hj
    simp [h]
  · rw [if_neg (by omega), if_neg hj]
theorem st_at {t : TypeId} {p o : Nat} {cs : List AV} {tb : TypeId} {v : AV} (ht : (cx.T.get t).map (·.size) = some 1) (hp : H.get p = some (.cells cs tb false)) (ho : o < cs.length) (hv : cellsOf v = [v]) (h1 : one v = true) :
    storeOp cx.T H t (.ptr p o) v = some (H.put p (some (.cells (cs.set o v) tb false))) := by
  unfold storeOp
  simp only [Option.map_eq_some_iff] at ht
  obtain ⟨i, e1, e2⟩ := ht
  simp only [e1, hp, hv, e2]
  rw [if_pos ⟨by simp, by simp only [List.length_singleton]; omega, by simp [h1]⟩, overA_one _ _ _ ho]
theorem ld_all {t : TypeId} {p : Nat} {cs : List AV} {tb : TypeId} {ro : Bool} (ht : (cx.T.get t).map (fun i => (i.agg, i.size)) = some (true, cs.length)) (hp : H.get p = some (.cells cs tb ro)) :
    loadOp cx.T H t (.ptr p 0) = some (.agg cs) := by
  unfold loadOp
  simp only [Option.map_eq_some_iff, Prod.mk.injEq] at ht
  obtain ⟨i, h1, h2, h3⟩ := ht
  simp only [h1, hp, h2, h3, if_true, cut, Nat.zero_add, Nat.le_refl, List.drop_zero, List.take_length, Option.map_some]
theorem st_all {t : TypeId} {p : Nat} {cs vs : List AV} {tb : TypeId} (ht : (cx.T.get t).map (·.size) = some vs.length) (hp : H.get p = some (.cells cs tb false)) (hl : vs.length = cs.length) (h1 : vs.all one = true) :
    storeOp cx.T H t (.ptr p 0) (.agg vs) = some (H.put p (some (.cells vs tb false))) := by
  unfold storeOp
  simp only [Option.map_eq_some_iff] at ht
  obtain ⟨i, e1, e2⟩ := ht
  simp only [e1, hp, cellsOf, e2]
  rw [if_pos ⟨trivial, by omega, h1⟩]
  simp [overA, hl]
structure Bld (n0 : Nat) (H : Heap) (nx p o : Nat) (cs : List AV) (t : TypeId) (bs : List UInt8) : Prop where
  hp : H.get p = some (.cells cs t false)
  p0 : n0 ≤ p
  p1 : p < nx
  lies : liesAt cx.P cx.P.depth t (cs.length / cx.P.cellsOf t) o 125 1 = true
  self : cs[o]? = some (.lit (.pointer none)) ∨ cs[o]? = some (.ptr p o)
  buf : (bs = [] ∧ cs[o + 1]? = some (.lit (.slice none 0 0))) ∨ ∃ c, c ≠ p ∧ n0 ≤ c ∧ c < nx ∧ cs[o + 1]? = some (.slice c 0 bs.length none 1) ∧ H.get c = some (.cells (bs.map byteA) 5 false)
  fr : ∀ b, nx ≤ b → H.get b = none
theorem x201 (v : AV) : cx.X 201 [v] = some v := by kernel_rfl
theorem fa125_0 (p o : Nat) : fieldAddrOp cx.T 125 (.ptr p o) 0 = some (.ptr p o) := by kernel_rfl
theorem fa125_1 (p o : Nat) : fieldAddrOp cx.T 125 (.ptr p o) 1 = some (.ptr p (o + 1)) := by kernel_rfl
theorem nc_ptr (p o : Nat) : nilCheckOp (.ptr p o) = some (.ptr p o) := rfl
theorem eql123n (x y : Operand) : binOpA cx.P cx.T .eql 123 x y (.lit (.pointer none)) (.lit (.pointer none)) = some (.lit (.bool true)) := by
  cases x <;> cases y <;> kernel_rfl
theorem eql123p (x y : Operand) (p o : Nat) : binOpA cx.P cx.T .eql 123 x y (.ptr p o) (.lit (.pointer none)) = some (.lit (.bool false)) := by kernel_rfl
theorem neq123 (x y : Operand) (p o : Nat) : binOpA cx.P cx.T .neq 123 x y (.ptr p o) (.ptr p o) = some (.lit (.bool false)) := by
  have e : binOpA cx.P cx.T .neq 123 x y (.ptr p o) (.ptr p o) = (if p = p ∧ (1 : Nat) ≠ 0 ∨ True then (if p = p ∧ (2 : Nat) ≠ 0 then some (decide (o = o)) else none) else none).map fun r => .lit (.bool !r) := by
    rw [if_pos (.inr trivial)]
    kernel_rfl
  rw [e]
  simp
theorem T123 : cx.T.get 123 = some ti123 := by kernel_rfl
theorem T81 : cx.T.get 81 = some ti81 := by kernel_rfl
theorem T125 : cx.T.get 125 = some ti125 := by kernel_rfl
theorem T314 : cx.T.get 314 = some ti314 := by kernel_rfl
theorem T5 : cx.T.get 5 = some ti5 := by kernel_rfl
theorem T9 : cx.T.get 9 = some ti9 := by kernel_rfl
theorem co123 (p o : Nat) : convOp cx.P cx.T H nx 123 314 (.ptr p o) = none := by kernel_rfl
theorem co314 (p o : Nat) : convOp cx.P cx.T H nx 314 123 (.ptr p o) = none := by kernel_rfl
theorem cu123 {p o : Nat} {cs : List AV} {t : TypeId} {ro : Bool} (hp : H.get p = some (.cells cs t ro)) (ho : o < cs.length) : convU cx.P cx.T H 123 314 (.ptr p o) = some (.ptr p o) := by
  unfold convU
  simp only [T123, T314, T125, ti123, ti314, ti125, hp]
  rw [if_pos ⟨by decide, ho⟩]
theorem cu314 {p o : Nat} {cs : List AV} {t : TypeId} {ro : Bool} (hp : H.get p = some (.cells cs t ro)) (hl : liesAt cx.P cx.P.depth t (cs.length / cx.P.cellsOf t) o 125 1 = true) : convU cx.P cx.T H 314 123 (.ptr p o) = some (.ptr p o) := by
  unfold convU
  simp only [T123, T314, T125, ti123, ti314, ti125, hp, hl, if_true]
theorem set_get {cs : List AV} {o j : Nat} {v : AV} (h : j ≠ o) : (cs.set o v)[j]? = cs[j]? := by
  rw [List.getElem?_set, if_neg (fun e => h e.symm)]
theorem cc_cl {n0 p o : Nat} {cs : List AV} {t : TypeId} {bs : List UInt8} (hb : Bld n0 H nx p o cs t bs) :
    ∃ H' cs', Cl cx 140 [.ptr p o] H nx = some (.tuple [], H', nx) ∧ Bld n0 H' nx p o cs' t bs ∧ cs'[o]? = some (.ptr p o) ∧ (∀ j, j ≠ o → cs'[j]? = cs[j]?) ∧ (∀ c, c ≠ p → H'.get c = H.get c) ∧ cs'.length = cs.length := by
  have ho : o < cs.length := by
    rcases hb.self with h | h <;> exact (List.getElem?_eq_some_iff.1 h).1
  rcases hb.self with h | h
  · refine ⟨H.put p (some (.cells (cs.set o (.ptr p o)) t false)), cs.set o (.ptr p o), ?_, ?_, by simp [List.getElem?_set, ho], fun j hj => set_get hj, fun c hc => Tr.get_put_ne _ _ _ _ hc, by simp⟩
    · refine wp140 _ _ _ _ (by simp) ?_
      unfold s140
      simp only [↓aD, ↓aE, ↓aF, ↓aG, ↓aH, ↓aI, ↓aJ, ↓aK, aL, ↓aM, ↓aN, aO, stepA, opA, convA, isCall, put?, ev, aP, aQ, builtinA, callA, argEnv, wantedS, aR, aS, aT, aU, aV, aW, aX, aY, aZ, undef, z_none, bA, bB, bC, bD, bE, bF, bG, bH, bI, bJ, extractOp, bK, bL, bM, bN, Nat.reduceLT, Nat.reduceEqDiff, Nat.reduceAdd, bO, bP, bQ, bR, bS, ↓reduceIte, bT, bU, reduceCtorEq, resA, resOf, bV, bW, bX, bY, bZ, cA, cB, cC, cD, cE, cF, cG, cH, cI, cJ, cK, cL, cM, cN, cO, maxA, minA, cP, cQ, cR, cS, cT, cU, cV, cW, cX, cY, cZ, dA, nc_ptr, fa125_0, ld_at (t := 123) (by kernel_rfl) hb.hp h, abs_nilp, eql123n, co123, cu123 hb.hp ho, x201, co314, cu314 hb.hp hb.lies, st_at (t := 123) (v := .ptr p o) (by kernel_rfl) hb.hp ho rfl rfl]
    · exact {
        hp := Tr.get_put_same _ _ _
        p0 := hb.p0
        p1 := hb.p1
        lies := by simpa using hb.lies
        self := .inr (by simp [List.getElem?_set, ho])
        buf := by
          rw [set_get (by omega)]
          rcases hb.buf with h | ⟨c, h1, h2, h3, h5, h6⟩
          · exact .inl h
          · exact .inr ⟨c, h1, h2, h3, h5, by rw [Tr.get_put_ne _ _ _ _ h1]; exact h6⟩
        fr := fun b hb2 => by rw [Tr.get_put_ne _ _ _ _ (by have := hb.p1; omega)]; exact hb.fr b hb2 }
  · refine ⟨H, cs, ?_, hb, h, fun _ _ => rfl, fun _ _ => rfl, rfl⟩
    refine wp140 _ _ _ _ (by simp) ?_
    unfold s140
    simp only [↓aD, ↓aE, ↓aF, ↓aG, ↓aH, ↓aI, ↓aJ, ↓aK, aL, ↓aM, ↓aN, aO, stepA, opA, convA, isCall, put?, ev, aP, aQ, builtinA, callA, argEnv, wantedS, aR, aS, aT, aU, aV, aW, aX, aY, aZ, undef, z_none, bA, bB, bC, bD, bE, bF, bG, bH, bI, bJ, extractOp, bK, bL, bM, bN, Nat.reduceLT, Nat.reduceEqDiff, Nat.reduceAdd, bO, bP, bQ, bR, bS, ↓reduceIte, bT, bU, reduceCtorEq, resA, resOf, bV, bW, bX, bY, bZ, cA, cB, cC, cD, cE, cF, cG, cH, cI, cJ, cK, cL, cM, cN, cO, maxA, minA, cP, cQ, cR, cS, cT, cU, cV, cW, cX, cY, cZ, dA, nc_ptr, fa125_0, ld_at (t := 123) (by kernel_rfl) hb.hp h, abs_nilp, eql123p, neq123]
theorem one_byteA : ∀ l : List UInt8, (l.map byteA).all one = true
  | [] => rfl
  | b :: l => by simp only [List.map_cons, List.all_cons, one_byteA l, Bool.and_true]; rfl
theorem appLim_ok {n m : Nat} (h : n + m ≤ 1000000000) : appLim n m 1 = true := by
  unfold appLim
  simp only [decide_eq_true_eq]
  omega
theorem app_nil {t2 : TypeId} (h2 : t2 = 81 ∨ t2 = 9) {x : AV} {m : Nat} {new : List AV} (hs : srcCells H 1 x = some (m, new)) (h0 : m ≠ 0) (hm : m ≤ 1000000000) :
    appendOp cx.T H nx 81 (.lit (.slice none 0 0)) t2 x = some (.slice nx 0 m none 1, H.put nx (some (.cells new 5 false)), nx + 1) := by
  unfold appendOp
  rcases h2 with rfl | rfl
  all_goals
    simp only [T81, T5, T9, ti81, ti5, ti9, isIntD, hs, Bool.false_eq_true, if_false]
    rw [if_neg h0, if_pos (appLim_ok (by omega))]
theorem app_open {t2 : TypeId} (h2 : t2 = 81 ∨ t2 = 9) {x : AV} {m c : Nat} {new old : List AV} (hc : H.get c = some (.cells old 5 false)) (hs : srcCells H 1 x = some (m, new)) (h0 : m ≠ 0)
    (hl : new.length = m) (hm : old.length + m ≤ 1000000000) (h1 : new.all one = true) :
    appendOp cx.T H nx 81 (.slice c 0 old.length none 1) t2 x = some (.slice nx 0 (old.length + m) none 1, (H.put c none).put nx (some (.cells (old ++ new) 5 false)), nx + 1) := by
  have hcut : cut old 0 (old.length * 1) = some old := by simp [cut]
  unfold appendOp
  rcases h2 with rfl | rfl
  all_goals
    simp only [T81, T5, T9, ti81, ti5, ti9, isIntD, hs, Bool.false_eq_true, if_false, hc]
    rw [if_neg h0, if_neg (by simp), if_neg (by omega), hcut]
    simp only
    rw [if_pos (by simp [appLim_ok hm, h1])]
end Seat
end CI
namespace CI
open Go
namespace Seat
variable {H : Heap} {nx : Nat}
theorem bs_one (b : UInt8) : buildSliceOp cx.T H nx 81 1 [(0, byteA b)] = some (.slice nx 0 1 (some 1) 1, H.put nx (some (.cells [byteA b] 5 false)), nx + 1) := by kernel_rfl
theorem bs_two (a b : UInt8) : buildSliceOp cx.T H nx 81 2 [(0, byteA a), (1, byteA b)] = some (.slice nx 0 2 (some 2) 1, H.put nx (some (.cells [byteA a, byteA b] 5 false)), nx + 1) := by kernel_rfl
theorem app_bld {n0 p o : Nat} {cs : List AV} {t t2 : TypeId} {bs more : List UInt8} {H2 : Heap} {nx2 : Nat} {x bf : AV} (hb : Bld n0 H nx p o cs t bs) (hself : cs[o]? = some (.ptr p o)) (hbf : cs[o + 1]? = some bf) (hnx : nx ≤ nx2)
    (hold : ∀ c, c < nx → H2.get c = H.get c) (hfr : ∀ c, nx2 ≤ c → H2.get c = none) (h2 : t2 = 81 ∨ t2 = 9) (hs : srcCells H2 1 x = some (more.length, more.map byteA)) (h0 : more ≠ []) (hm : bs.length + more.length ≤ 1000000000) :
    ∃ H3 bf' H4, appendOp cx.T H2 nx2 81 bf t2 x = some (bf', H3, nx2 + 1) ∧ storeOp cx.T H3 81 (.ptr p (o + 1)) bf' = some H4 ∧ Bld n0 H4 (nx2 + 1) p o (cs.set (o + 1) bf') t (bs ++ more) ∧ ∀ c, c < n0 → H4.get c = H.get c := by
  have ho : o + 1 < cs.length := (List.getElem?_eq_some_iff.1 hbf).1
  have hp1 := hb.p1
  have hp0 := hb.p0
  have hne : more.length ≠ 0 := by simpa using h0
  have fin : ∀ (H3 : Heap) (k : Nat), k = bs.length + more.length → H3.get p = H.get p → H3.get nx2 = some (.cells ((bs ++ more).map byteA) 5 false) → (∀ c, c < n0 → H3.get c = H.get c) → (∀ c, nx2 < c → H3.get c = none) →
      storeOp cx.T H3 81 (.ptr p (o + 1)) (.slice nx2 0 k none 1) = some (H3.put p (some (.cells (cs.set (o + 1) (.slice nx2 0 k none 1)) t false))) ∧
      Bld n0 (H3.put p (some (.cells (cs.set (o + 1) (.slice nx2 0 k none 1)) t false))) (nx2 + 1) p o (cs.set (o + 1) (.slice nx2 0 k none 1)) t (bs ++ more) ∧
      ∀ c, c < n0 → (H3.put p (some (.cells (cs.set (o + 1) (.slice nx2 0 k none 1)) t false))).get c = H.get c := by
    intro H3 k hk hp hn ho3 hf3
    refine ⟨st_at (by kernel_rfl) (hp.trans hb.hp) ho rfl rfl, ?_, fun c hc => by rw [Tr.get_put_ne _ _ _ _ (by omega)]; exact ho3 c hc⟩
    exact {
      hp := Tr.get_put_same _ _ _
      p0 := hp0
      p1 := by omega
      lies := by simpa using hb.lies
      self := .inr (by rw [set_get (by omega)]; exact hself)
      buf := .inr ⟨nx2, by omega, by omega, by omega, by simp [List.getElem?_set, ho, hk], by rw [Tr.get_put_ne _ _ _ _ (by omega)]; exact hn⟩
      fr := fun b h => by rw [Tr.get_put_ne _ _ _ _ (by omega)]; exact hf3 b (by omega) }
  rcases hb.buf with ⟨rfl, h⟩ | ⟨c, c1, c2, c3, c5, c6⟩
  · rw [hbf] at h
    injection h with h
    subst h
    obtain ⟨f1, f2, f3⟩ := fin (H2.put nx2 (some (.cells (more.map byteA) 5 false))) more.length (by simp) (by rw [Tr.get_put_ne _ _ _ _ (by omega)]; exact hold _ hp1) (by rw [Tr.get_put_same]; simp)
      (fun c hc => by rw [Tr.get_put_ne _ _ _ _ (by omega)]; exact hold _ (by omega)) (fun c hc => by rw [Tr.get_put_ne _ _ _ _ (by omega)]; exact hfr _ (by omega))
    exact ⟨_, _, _, app_nil h2 hs hne (by simpa using hm), f1, f2, f3⟩
  · rw [hbf] at c5
    injection c5 with c5
    subst c5
    have hc2 : H2.get c = some (.cells (bs.map byteA) 5 false) := (hold c c3).trans c6
    obtain ⟨f1, f2, f3⟩ := fin ((H2.put c none).put nx2 (some (.cells (bs.map byteA ++ more.map byteA) 5 false))) (bs.length + more.length) rfl
      (by rw [Tr.get_put_ne _ _ _ _ (by omega), Tr.get_put_ne _ _ _ _ (Ne.symm c1)]; exact hold _ hp1) (by rw [Tr.get_put_same]; simp)
      (fun c' hc => by rw [Tr.get_put_ne _ _ _ _ (by omega), Tr.get_put_ne _ _ _ _ (by omega)]; exact hold _ (by omega))
      (fun c' hc => by rw [Tr.get_put_ne _ _ _ _ (by omega), Tr.get_put_ne _ _ _ _ (by omega)]; exact hfr _ (by omega))
    have ha := app_open (nx := nx2) h2 hc2 hs hne (by simp) (by simpa using hm) (one_byteA more)
    simp only [List.length_map] at ha
    exact ⟨_, _, _, ha, f1, f2, f3⟩
theorem wb_cl {n0 p o : Nat} {cs : List AV} {t : TypeId} {bs : List UInt8} (hb : Bld n0 H nx p o cs t bs) (hlen : bs.length ≤ 100000000) (b : UInt8) :
    ∃ H' nx' cs', Cl cx 143 [.ptr p o, byteA b] H nx = some (.lit .nilIface, H', nx') ∧ Bld n0 H' nx' p o cs' t (bs ++ [b]) ∧ nx ≤ nx' ∧ (∀ j, j ≠ o → j ≠ o + 1 → cs'[j]? = cs[j]?) ∧ cs'.length = cs.length ∧ ∀ c, c < n0 → H'.get c = H.get c := by
  obtain ⟨H1, cs1, k1, k2, k3, k4, k5, k6⟩ := cc_cl hb
  obtain ⟨bf, hbf⟩ : ∃ bf, cs1[o + 1]? = some bf := by
    rcases k2.buf with ⟨_, h⟩ | ⟨c, _, _, _, h, _⟩ <;> exact ⟨_, h⟩
  have hp1 := hb.p1
  have hp0 := hb.p0
  obtain ⟨H3, bf', H4, a1, a2, a3, a4⟩ := app_bld (H2 := H1.put nx (some (.cells [byteA b] 5 false))) (nx2 := nx + 1) (t2 := 81) (x := .slice nx 0 1 (some 1) 1) (more := [b]) k2 k3 hbf (by omega)
    (fun c hc => Tr.get_put_ne _ _ _ _ (by omega)) (fun c hc => by rw [Tr.get_put_ne _ _ _ _ (by omega)]; exact k2.fr c (by omega)) (.inl rfl)
    (by simp [srcCells, Tr.get_put, cut]) (by simp) (by simp; omega)
  refine ⟨H4, nx + 1 + 1, cs1.set (o + 1) bf', ?_, a3, by omega, fun j h1 h2 => by rw [set_get h2, k4 j h1], by simp [k6], fun c hc => ?_⟩
  · refine wp143 _ _ _ _ (by simp) ?_
    unfold s143
    have hbs := bs_one (H := H1) (nx := nx) b
    simp only [↓aD, ↓aE, ↓aF, ↓aG, ↓aH, ↓aI, ↓aJ, ↓aK, aL, ↓aM, ↓aN, aO, stepA, opA, convA, isCall, put?, ev, aP, aQ, builtinA, callA, argEnv, wantedS, aR, aS, aT, aU, aV, aW, aX, aY, aZ, undef, z_none, bA, bB, bC, bD, bE, bF, bG, bH, bI, bJ, extractOp, bK, bL, bM, bN, Nat.reduceLT, Nat.reduceEqDiff, Nat.reduceAdd, bO, bP, bQ, bR, bS, ↓reduceIte, bT, bU, reduceCtorEq, resA, resOf, bV, bW, bX, bY, bZ, cA, cB, cC, cD, cE, cF, cG, cH, cI, cJ, cK, cL, cM, cN, cO, maxA, minA, cP, cQ, cR, cS, cT, cU, cV, cW, cX, cY, cZ, dA, x_none, k1, nc_ptr, fa125_1, ld_at (t := 81) (by kernel_rfl) k2.hp hbf, partsA, hbs, a1, a2]
  · rw [a4 c hc, k5 c (by omega)]
theorem ws_cl {n0 p o : Nat} {cs : List AV} {t : TypeId} {bs : List UInt8} (hb : Bld n0 H nx p o cs t bs) (more : List UInt8) (hlen : bs.length + more.length ≤ 100000000) :
    ∃ H' nx' cs', Cl cx 70 [.ptr p o, strA more] H nx = some (.tuple [.lit (.int .i64 more.length), .lit .nilIface], H', nx') ∧ Bld n0 H' nx' p o cs' t (bs ++ more) ∧ nx ≤ nx' ∧ (∀ j, j ≠ o → j ≠ o + 1 → cs'[j]? = cs[j]?) ∧ cs'.length = cs.length ∧
      ∀ c, c < n0 → H'.get c = H.get c := by
  obtain ⟨H1, cs1, k1, k2, k3, k4, k5, k6⟩ := cc_cl hb
  obtain ⟨bf, hbf⟩ : ∃ bf, cs1[o + 1]? = some bf := by
    rcases k2.buf with ⟨_, h⟩ | ⟨c, _, _, _, h, _⟩ <;> exact ⟨_, h⟩
  have hp1 := hb.p1
  have hp0 := hb.p0
  have ho : o + 1 < cs1.length := (List.getElem?_eq_some_iff.1 hbf).1
  have hsrc : srcCells H1 1 (strA more) = some (more.length, more.map byteA) := by
    simp only [srcCells, strA, if_true, B_size, B_data]
    rfl
  by_cases h0 : more = []
  · subst h0
    have ha : appendOp cx.T H1 nx 81 bf 9 (strA []) = some (bf, H1, nx) := by
      unfold appendOp
      simp only [T81, T5, T9, ti81, ti5, ti9, isIntD, hsrc, Bool.false_eq_true, if_false]
      rcases k2.buf with ⟨_, h⟩ | ⟨c, _, _, _, h, _⟩ <;> (rw [hbf] at h; injection h with h; subst h; rfl)
    have hone : cellsOf bf = [bf] ∧ one bf = true := by
      rcases k2.buf with ⟨_, h⟩ | ⟨c, _, _, _, h, _⟩ <;> (rw [hbf] at h; injection h with h; subst h; exact ⟨rfl, rfl⟩)
    have hst := st_at (t := 81) (by kernel_rfl) k2.hp ho hone.1 hone.2
    have hset : cs1.set (o + 1) bf = cs1 := by
      apply List.ext_getElem?
      intro j
      by_cases hj : j = o + 1
      · subst hj; rw [hbf]; simp [List.getElem?_set, ho]
      · exact set_get hj
    rw [hset] at hst
    refine ⟨H1.put p (some (.cells cs1 t false)), nx, cs1, ?_, ?_, Nat.le_refl _, fun j h1 h2 => k4 j h1, k6, fun c hc => by rw [Tr.get_put_ne _ _ _ _ (by omega), k5 c (by omega)]⟩
    · refine wp70 _ _ _ _ (by simp) ?_
      unfold s70
      simp only [↓aD, ↓aE, ↓aF, ↓aG, ↓aH, ↓aI, ↓aJ, ↓aK, aL, ↓aM, ↓aN, aO, stepA, opA, convA, isCall, put?, ev, aP, aQ, builtinA, callA, argEnv, wantedS, aR, aS, aT, aU, aV, aW, aX, aY, aZ, undef, z_none, bA, bB, bC, bD, bE, bF, bG, bH, bI, bJ, extractOp, bK, bL, bM, bN, Nat.reduceLT, Nat.reduceEqDiff, Nat.reduceAdd, bO, bP, bQ, bR, bS, ↓reduceIte, bT, bU, reduceCtorEq, resA, resOf, bV, bW, bX, bY, bZ, cA, cB, cC, cD, cE, cF, cG, cH, cI, cJ, cK, cL, cM, cN, cO, maxA, minA, cP, cQ, cR, cS, cT, cU, cV, cW, cX, cY, cZ, dA, x_none, k1, nc_ptr, fa125_1, ld_at (t := 81) (by kernel_rfl) k2.hp hbf, ha, hst, str_len]
    · rw [List.append_nil]
      exact {
        hp := Tr.get_put_same _ _ _
        p0 := hp0
        p1 := hp1
        lies := k2.lies
        self := .inr k3
        buf := by
          rcases k2.buf with h | ⟨c, h1, h2, h3, h5, h6⟩
          · exact .inl h
          · exact .inr ⟨c, h1, h2, h3, h5, by rw [Tr.get_put_ne _ _ _ _ h1]; exact h6⟩
        fr := fun b h => by rw [Tr.get_put_ne _ _ _ _ (by omega)]; exact k2.fr b h }
  · obtain ⟨H3, bf', H4, a1, a2, a3, a4⟩ := app_bld (H2 := H1) (nx2 := nx) (t2 := 9) (x := strA more) (more := more) k2 k3 hbf (by omega) (fun c hc => rfl) k2.fr (.inr rfl) hsrc h0 (by omega)
    refine ⟨H4, nx + 1, cs1.set (o + 1) bf', ?_, a3, by omega, fun j h1 h2 => by rw [set_get h2, k4 j h1], by simp [k6], fun c hc => ?_⟩
    · refine wp70 _ _ _ _ (by simp) ?_
      unfold s70
      simp only [↓aD, ↓aE, ↓aF, ↓aG, ↓aH, ↓aI, ↓aJ, ↓aK, aL, ↓aM, ↓aN, aO, stepA, opA, convA, isCall, put?, ev, aP, aQ, builtinA, callA, argEnv, wantedS, aR, aS, aT, aU, aV, aW, aX, aY, aZ, undef, z_none, bA, bB, bC, bD, bE, bF, bG, bH, bI, bJ, extractOp, bK, bL, bM, bN, Nat.reduceLT, Nat.reduceEqDiff, Nat.reduceAdd, bO, bP, bQ, bR, bS, ↓reduceIte, bT, bU, reduceCtorEq, resA, resOf, bV, bW, bX, bY, bZ, cA, cB, cC, cD, cE, cF, cG, cH, cI, cJ, cK, cL, cM, cN, cO, maxA, minA, cP, cQ, cR, cS, cT, cU, cV, cW, cX, cY, cZ, dA, x_none, k1, nc_ptr, fa125_1, ld_at (t := 81) (by kernel_rfl) k2.hp hbf, a1, a2, str_len]
    · rw [a4 c hc, k5 c (by omega)]
theorem T219 : cx.T.get 219 = some ti219 := by kernel_rfl
theorem bytesOf_map : ∀ l : List UInt8, bytesOf (l.map byteA) = some (l.map fun b => (b.toNat : Int))
  | [] => rfl
  | b :: l => by
    have := bytesOf_map l
    simp only [List.map_cons, byteA, bytesOf, this, Option.map_some]
theorem fold_push (l : List UInt8) : ∀ acc : ByteArray, (l.map fun b => (b.toNat : Int)).foldl (fun r n => r.push (UInt8.ofNat n.toNat)) acc = ⟨acc.data ++ l.toArray⟩ := by
  induction l with
  | nil => intro acc; simp
  | cons b l ih =>
    intro acc
    simp only [List.map_cons, List.foldl_cons]
    rw [ih]
    simp [ByteArray.push]
theorem fold_bytes (l : List UInt8) : (l.map fun b => (b.toNat : Int)).foldl (fun r n => r.push (UInt8.ofNat n.toNat)) ByteArray.empty = B l := by
  rw [fold_push]
  simp [B, ByteArray.empty, ByteArray.emptyWithCapacity]
  rfl
theorem lies_bytes {n : Nat} (h : 1 ≤ n) : liesAt cx.P cx.P.depth 5 (n / cx.P.cellsOf 5) 0 5 n = true := by
  have hd : (cx.P.depth == 0) = false := by kernel_rfl
  obtain ⟨d, hd⟩ : ∃ d, cx.P.depth = d + 1 := ⟨cx.P.depth - 1, by simp at hd; omega⟩
  have hc : cx.P.cellsOf 5 = 1 := by kernel_rfl
  rw [hd, hc]
  simp only [liesAt, Bool.or_eq_true]
  left
  rw [hd]
  simp only [rowAt, hc]
  simp [sameLayout]
theorem us_cl {c : Nat} {bs : List UInt8} (hc : H.get c = some (.cells (bs.map byteA) 5 false)) (h0 : bs ≠ []) (hm : bs.length ≤ 100000000) :
    unsafeStringOp cx.P cx.T H nx 219 (.ptr c 0) (.lit (.int .i64 bs.length)) = some (strA bs, H.put c (some (.cells (bs.map byteA) 5 true)), nx) := by
  obtain ⟨k, hk⟩ : ∃ k, bs.length = k + 1 := ⟨bs.length - 1, by have := List.length_pos_iff.2 h0; omega⟩
  have hcut : cut (bs.map byteA) 0 (k + 1) = some (bs.map byteA) := by
    have : (bs.map byteA).take bs.length = bs.map byteA := List.take_of_length_le (by simp)
    simp [cut, ← hk, this]
  have hl : liesAt cx.P cx.P.depth 5 ((bs.map byteA).length / cx.P.cellsOf 5) 0 5 (k + 1) = true := by
    rw [List.length_map, hk]; exact lies_bytes (by omega)
  have hmx : ((k + 1 : Nat) : Int) ≤ IntKind.i64.max := by
    have e : IntKind.i64.max = 9223372036854775807 := by decide
    rw [e]; omega
  rw [hk]
  show (match cx.T.get 219, H.get c with
    | some { desc := .pointer e, .. }, some (.cells cs tb false) =>
      if liesAt cx.P cx.P.depth tb (cs.length / cx.P.cellsOf tb) 0 e (k + 1) = true ∧ ((k + 1 : Nat) : Int) ≤ IntKind.i64.max then
        ((cut cs 0 (k + 1)).bind bytesOf).map fun (ns : List Int) => (AV.lit (Value.string (ns.foldl (fun (r : ByteArray) (n : Int) => r.push (UInt8.ofNat n.toNat)) ByteArray.empty)), H.put c (some (.cells cs tb true)), nx)
      else none
    | _, _ => none) = _
  simp only [T219, ti219, hc]
  rw [if_pos ⟨hl, hmx⟩, hcut]
  simp only [Option.bind_some, bytesOf_map, Option.map_some, fold_bytes]
  rfl
theorem bstr_cl {n0 p o : Nat} {cs : List AV} {t : TypeId} {bs : List UInt8} (hb : Bld n0 H nx p o cs t bs) (hm : bs.length ≤ 100000000) (h0 : bs ≠ [] ∨ cs[o + 1]? = some (.lit (.slice none 0 0))) :
    ∃ H', Cl cx 73 [.ptr p o] H nx = some (strA bs, H', nx) ∧ (∀ c, c < n0 → H'.get c = H.get c) ∧ (∀ b, nx ≤ b → H'.get b = none) := by
  rcases hb.buf with ⟨rfl, h⟩ | ⟨c, c1, c2, c3, c5, c6⟩
  · refine ⟨H, ?_, fun _ _ => rfl, hb.fr⟩
    refine wp73 _ _ _ _ (by simp) ?_
    unfold s73
    simp only [↓aD, ↓aE, ↓aF, ↓aG, ↓aH, ↓aI, ↓aJ, ↓aK, aL, ↓aM, ↓aN, aO, stepA, opA, convA, isCall, put?, ev, aP, aQ, builtinA, callA, argEnv, wantedS, aR, aS, aT, aU, aV, aW, aX, aY, aZ, undef, z_none, bA, bB, bC, bD, bE, bF, bG, bH, bI, bJ, extractOp, bK, bL, bM, bN, Nat.reduceLT, Nat.reduceEqDiff, Nat.reduceAdd, bO, bP, bQ, bR, bS, ↓reduceIte, bT, bU, reduceCtorEq, resA, resOf, bV, bW, bX, bY, bZ, cA, cB, cC, cD, cE, cF, cG, cH, cI, cJ, cK, cL, cM, cN, cO, maxA, minA, cP, cQ, cR, cS, cT, cU, cV, cW, cX, cY, cZ, dA]
    refine s73_d0_wq ?_
    unfold s73_d0s
    have hln : lenOp cx.T .nil 81 (.lit (.slice none 0 0)) = some 0 := by kernel_rfl
    have hus : unsafeStringOp cx.P cx.T H nx 219 (.lit (.pointer none)) (.lit (.int .i64 (0 : Nat))) = some (strA [], H, nx) := by kernel_rfl
    simp only [↓aD, ↓aE, ↓aF, ↓aG, ↓aH, ↓aI, ↓aJ, ↓aK, aL, ↓aM, ↓aN, aO, stepA, opA, convA, isCall, put?, ev, aP, aQ, builtinA, callA, argEnv, wantedS, aR, aS, aT, aU, aV, aW, aX, aY, aZ, undef, z_none, bA, bB, bC, bD, bE, bF, bG, bH, bI, bJ, extractOp, bK, bL, bM, bN, Nat.reduceLT, Nat.reduceEqDiff, Nat.reduceAdd, bO, bP, bQ, bR, bS, ↓reduceIte, bT, bU, reduceCtorEq, resA, resOf, bV, bW, bX, bY, bZ, cA, cB, cC, cD, cE, cF, cG, cH, cI, cJ, cK, cL, cM, cN, cO, maxA, minA, cP, cQ, cR, cS, cT, cU, cV, cW, cX, cY, cZ, dA, ↓dB, ↓dC, txS, dD, dE, dF, dG, dH, dI, dJ, dK, dL, dM, dN, dO, dP, isEff, dQ, dR, dS, dT, dU, dV, AV.belowB, dW, dX, nc_ptr, fa125_1, ld_at (t := 81) (by kernel_rfl) hb.hp h, sliceDataOp, hln, hus]
  · have c4 : bs ≠ [] := by
      rcases h0 with h | h
      · exact h
      · rw [c5] at h; cases h
    refine ⟨H.put c (some (.cells (bs.map byteA) 5 true)), ?_, fun c' hc => Tr.get_put_ne _ _ _ _ (by omega), fun b hb2 => by rw [Tr.get_put_ne _ _ _ _ (by omega)]; exact hb.fr b hb2⟩
    refine wp73 _ _ _ _ (by simp) ?_
    unfold s73
    simp only [↓aD, ↓aE, ↓aF, ↓aG, ↓aH, ↓aI, ↓aJ, ↓aK, aL, ↓aM, ↓aN, aO, stepA, opA, convA, isCall, put?, ev, aP, aQ, builtinA, callA, argEnv, wantedS, aR, aS, aT, aU, aV, aW, aX, aY, aZ, undef, z_none, bA, bB, bC, bD, bE, bF, bG, bH, bI, bJ, extractOp, bK, bL, bM, bN, Nat.reduceLT, Nat.reduceEqDiff, Nat.reduceAdd, bO, bP, bQ, bR, bS, ↓reduceIte, bT, bU, reduceCtorEq, resA, resOf, bV, bW, bX, bY, bZ, cA, cB, cC, cD, cE, cF, cG, cH, cI, cJ, cK, cL, cM, cN, cO, maxA, minA, cP, cQ, cR, cS, cT, cU, cV, cW, cX, cY, cZ, dA]
    refine s73_d0_wq ?_
    unfold s73_d0s
    have hln : lenOp cx.T .nil 81 (.slice c 0 bs.length none 1) = some bs.length := by kernel_rfl
    have hsd : sliceDataOp (.slice c 0 bs.length none 1) = some (.ptr c 0) := by
      cases bs with
      | nil => exact absurd rfl c4
      | cons => rfl
    simp only [↓aD, ↓aE, ↓aF, ↓aG, ↓aH, ↓aI, ↓aJ, ↓aK, aL, ↓aM, ↓aN, aO, stepA, opA, convA, isCall, put?, ev, aP, aQ, builtinA, callA, argEnv, wantedS, aR, aS, aT, aU, aV, aW, aX, aY, aZ, undef, z_none, bA, bB, bC, bD, bE, bF, bG, bH, bI, bJ, extractOp, bK, bL, bM, bN, Nat.reduceLT, Nat.reduceEqDiff, Nat.reduceAdd, bO, bP, bQ, bR, bS, ↓reduceIte, bT, bU, reduceCtorEq, resA, resOf, bV, bW, bX, bY, bZ, cA, cB, cC, cD, cE, cF, cG, cH, cI, cJ, cK, cL, cM, cN, cO, maxA, minA, cP, cQ, cR, cS, cT, cU, cV, cW, cX, cY, cZ, dA, ↓dB, ↓dC, txS, dD, dE, dF, dG, dH, dI, dJ, dK, dL, dM, dN, dO, dP, isEff, dQ, dR, dS, dT, dU, dV, AV.belowB, dW, dX, nc_ptr, fa125_1, ld_at (t := 81) (by kernel_rfl) hb.hp c5, hsd, hln, us_cl c6 c4 hm, decide_eq_true c3]
theorem blen_cl {n0 p o : Nat} {cs : List AV} {t : TypeId} {bs : List UInt8} (hb : Bld n0 H nx p o cs t bs) :
    Cl cx 92 [.ptr p o] H nx = some (.lit (.int .i64 bs.length), H, nx) := by
  refine wp92 _ _ _ _ (by simp) ?_
  unfold s92
  rcases hb.buf with ⟨rfl, h⟩ | ⟨c, c1, c2, c3, c5, c6⟩
  · have hln : ∀ H, lenOp cx.T H 81 (.lit (.slice none 0 0)) = some 0 := fun _ => by kernel_rfl
    simp only [↓aD, ↓aE, ↓aF, ↓aG, ↓aH, ↓aI, ↓aJ, ↓aK, aL, ↓aM, ↓aN, aO, stepA, opA, convA, isCall, put?, ev, aP, aQ, builtinA, callA, argEnv, wantedS, aR, aS, aT, aU, aV, aW, aX, aY, aZ, undef, z_none, bA, bB, bC, bD, bE, bF, bG, bH, bI, bJ, extractOp, bK, bL, bM, bN, Nat.reduceLT, Nat.reduceEqDiff, Nat.reduceAdd, bO, bP, bQ, bR, bS, ↓reduceIte, bT, bU, reduceCtorEq, resA, resOf, bV, bW, bX, bY, bZ, cA, cB, cC, cD, cE, cF, cG, cH, cI, cJ, cK, cL, cM, cN, cO, maxA, minA, cP, cQ, cR, cS, cT, cU, cV, cW, cX, cY, cZ, dA, nc_ptr, fa125_1, ld_at (t := 81) (by kernel_rfl) hb.hp h, hln, List.length_nil]
  · have hln : ∀ H, lenOp cx.T H 81 (.slice c 0 bs.length none 1) = some bs.length := fun _ => by kernel_rfl
    simp only [↓aD, ↓aE, ↓aF, ↓aG, ↓aH, ↓aI, ↓aJ, ↓aK, aL, ↓aM, ↓aN, aO, stepA, opA, convA, isCall, put?, ev, aP, aQ, builtinA, callA, argEnv, wantedS, aR, aS, aT, aU, aV, aW, aX, aY, aZ, undef, z_none, bA, bB, bC, bD, bE, bF, bG, bH, bI, bJ, extractOp, bK, bL, bM, bN, Nat.reduceLT, Nat.reduceEqDiff, Nat.reduceAdd, bO, bP, bQ, bR, bS, ↓reduceIte, bT, bU, reduceCtorEq, resA, resOf, bV, bW, bX, bY, bZ, cA, cB, cC, cD, cE, cF, cG, cH, cI, cJ, cK, cL, cM, cN, cO, maxA, minA, cP, cQ, cR, cS, cT, cU, cV, cW, cX, cY, cZ, dA, nc_ptr, fa125_1, ld_at (t := 81) (by kernel_rfl) hb.hp c5, hln]
structure Fr (H : Heap) (nx : Nat) (H' : Heap) (nx' : Nat) : Prop where
  le : nx ≤ nx'
  old : ∀ c, c < nx → H'.get c = H.get c
  fr : ∀ b, nx' ≤ b → H'.get b = none
theorem Fr.refl (h : ∀ b, nx ≤ b → H.get b = none) : Fr H nx H nx := ⟨Nat.le_refl _, fun _ _ => rfl, h⟩
theorem Fr.trans {H1 H2 : Heap} {n1 n2 : Nat} (a : Fr H nx H1 n1) (b : Fr H1 n1 H2 n2) : Fr H nx H2 n2 :=
  ⟨Nat.le_trans a.le b.le, fun c hc => (b.old c (Nat.lt_of_lt_of_le hc a.le)).trans (a.old c hc), b.fr⟩
theorem Fr.put (h : ∀ b, nx ≤ b → H.get b = none) (ob : Option AObj) : Fr H nx (H.put nx ob) (nx + 1) :=
  ⟨Nat.le_succ _, fun c hc => Tr.get_put_ne _ _ _ _ (by omega), fun b hb => by rw [Tr.get_put_ne _ _ _ _ (by omega)]; exact h b (by omega)⟩
end Seat
end CI
namespace CI
open Go
namespace Seat
variable {H : Heap} {nx : Nat}
theorem z343 (n : Nat) (h : n ≤ 281474976710656) : cx.Z 343 [.lit (.int .i64 n)] H nx = some (.slice nx 0 n none 1, H.put nx (some (.cells [] 5 false)), nx + 1) := by
  show mzA 343 5 343 [.lit (.int .i64 (.ofNat n))] H nx = _
  unfold mzA
  rw [if_pos rfl]
  simp only
  rw [if_pos h]
theorem x343 (args : List AV) : cx.X 343 args = none := x_no 343 (by rfl) args
theorem sl_open (b n : Nat) (h : 1 ≤ n) : sliceOp cx.P cx.T H 81 (.slice b 0 n none 1) none (some (.lit (.int .i64 ((0 : Nat) : Int)))) none = some (.slice b 0 0 none 1) := by
  unfold sliceOp
  simp only [T81, T5, ti81, ti5]
  have e1 : bnd (some (.lit (.int .i64 ((0 : Nat) : Int)))) n = some 0 := rfl
  have e2 : bnd none 0 = some 0 := rfl
  rw [if_neg (by simp)]
  simp only [e1, e2]
  rw [if_pos ⟨by omega, by omega⟩, if_pos (by omega)]
theorem grow_cl {n0 p o : Nat} {cs : List AV} {t : TypeId} (hb : Bld n0 H nx p o cs t []) (hbf : cs[o + 1]? = some (.lit (.slice none 0 0))) (n : Nat) (h1 : 1 ≤ n) (hn : n ≤ 1000000000) :
    ∃ H' cs', Cl cx 269 [.ptr p o, .lit (.int .i64 n)] H nx = some (.tuple [], H', nx + 1) ∧ Bld n0 H' (nx + 1) p o cs' t [] ∧ (∀ j, j ≠ o + 1 → cs'[j]? = cs[j]?) ∧ cs'.length = cs.length ∧ ∀ c, c < n0 → H'.get c = H.get c := by
  have ho : o + 1 < cs.length := (List.getElem?_eq_some_iff.1 hbf).1
  have hp1 := hb.p1
  have hp0 := hb.p0
  have hp2 : (H.put nx (some (.cells [] 5 false))).get p = some (.cells cs t false) := by rw [Tr.get_put_ne _ _ _ _ (by omega)]; exact hb.hp
  have hp3 : ((H.put nx (some (.cells [] 5 false))).put nx (some (.cells [] 5 false))).get p = some (.cells cs t false) := by rw [Tr.get_put_ne _ _ _ _ (by omega)]; exact hp2
  refine ⟨((H.put nx (some (.cells [] 5 false))).put nx (some (.cells [] 5 false))).put p (some (.cells (cs.set (o + 1) (.slice nx 0 0 none 1)) t false)), cs.set (o + 1) (.slice nx 0 0 none 1), ?_, ?_, fun j hj => set_get hj, by simp, fun c hc => ?_⟩
  · refine wp269 _ _ _ _ (by simp) ?_
    unfold s269
    simp only [↓aD, ↓aE, ↓aF, ↓aG, ↓aH, ↓aI, ↓aJ, ↓aK, aL, ↓aM, ↓aN, aO, stepA, opA, convA, isCall, put?, ev, aP, aQ, builtinA, callA, argEnv, wantedS, aR, aS, aT, aU, aV, aW, aX, aY, aZ, undef, z_none, bA, bB, bC, bD, bE, bF, bG, bH, bI, bJ, extractOp, bK, bL, bM, bN, Nat.reduceLT, Nat.reduceEqDiff, Nat.reduceAdd, bO, bP, bQ, bR, bS, ↓reduceIte, bT, bU, reduceCtorEq, resA, resOf, bV, bW, bX, bY, bZ, cA, cB, cC, cD, cE, cF, cG, cH, cI, cJ, cK, cL, cM, cN, cO, maxA, minA, cP, cQ, cR, cS, cT, cU, cV, cW, cX, cY, cZ, dA]
    refine wpS_draw3 (show effOK s269_d0 = true by kernel_rfl) (show s269_d0.toList.map (stripO s269_d0) = s269_d0s by kernel_rfl) ?_
    unfold s269_d0s
    have hcap : capOp cx.T 81 (.lit (.slice none 0 0)) = some 0 := by kernel_rfl
    have hln : lenOp cx.T .nil 81 (.lit (.slice none 0 0)) = some 0 := by kernel_rfl
    have hw : IntKind.i64.wrap (IntKind.i64.wrap (2 * ((0 : Nat) : Int)) + (n : Int)) = (n : Int) := by
      rw [show IntKind.i64.wrap (2 * ((0 : Nat) : Int)) = 0 by decide, Int.zero_add, wrapI (by constructor <;> omega)]
    have hcp : copyOp cx.T (H.put nx (some (.cells [] 5 false))) 81 (.slice nx 0 0 none 1) (.lit (.slice none 0 0)) = some (0, (H.put nx (some (.cells [] 5 false))).put nx (some (.cells [] 5 false))) := by
      unfold copyOp
      simp only [T81, T5, ti81, ti5, Option.bind_some, lenS, firstA, Tr.get_put, if_true, Nat.min_self, overA]
      rw [if_pos ⟨by simp, by simp⟩]
      rfl
    simp only [↓aD, ↓aE, ↓aF, ↓aG, ↓aH, ↓aI, ↓aJ, ↓aK, aL, ↓aM, ↓aN, aO, stepA, opA, convA, isCall, put?, ev, aP, aQ, builtinA, callA, argEnv, wantedS, aR, aS, aT, aU, aV, aW, aX, aY, aZ, undef, z_none, bA, bB, bC, bD, bE, bF, bG, bH, bI, bJ, extractOp, bK, bL, bM, bN, Nat.reduceLT, Nat.reduceEqDiff, Nat.reduceAdd, bO, bP, bQ, bR, bS, ↓reduceIte, bT, bU, reduceCtorEq, resA, resOf, bV, bW, bX, bY, bZ, cA, cB, cC, cD, cE, cF, cG, cH, cI, cJ, cK, cL, cM, cN, cO, maxA, minA, cP, cQ, cR, cS, cT, cU, cV, cW, cX, cY, cZ, dA, ↓eX, ↓eY, ↓eZ, ↓fA, goodAt_eq, txS, dD, dE, dF, dG, dH, dI, dJ, dK, dL, dM, dN, dO, dP, isEff, dQ, dR, dS, dT, dU, dV, AV.belowB, dW, dX, nc_ptr, fa125_1, ld_at (t := 81) (by kernel_rfl) hb.hp hbf, ld_at (t := 81) (by kernel_rfl) hp2 hbf, hcap, hln, x343, hw, z343 n (by omega), sl_open _ n h1, Nat.le_add_right, hcp, st_at (t := 81) (v := .slice nx 0 0 none 1) (by kernel_rfl) hp3 ho rfl rfl]
  · exact {
      hp := Tr.get_put_same _ _ _
      p0 := hp0
      p1 := by omega
      lies := by simpa using hb.lies
      self := by rw [set_get (by omega)]; exact hb.self
      buf := .inr ⟨nx, by omega, by omega, by omega, by simp [List.getElem?_set, ho], by rw [Tr.get_put_ne _ _ _ _ (by omega), Tr.get_put_same]; rfl⟩
      fr := fun b h => by rw [Tr.get_put_ne _ _ _ _ (by omega), Tr.get_put_ne _ _ _ _ (by omega), Tr.get_put_ne _ _ _ _ (by omega)]; exact hb.fr b (by omega) }
  · rw [Tr.get_put_ne _ _ _ _ (by omega), Tr.get_put_ne _ _ _ _ (by omega), Tr.get_put_ne _ _ _ _ (by omega)]
theorem Grow_cl {n0 p o : Nat} {cs : List AV} {t : TypeId} (hb : Bld n0 H nx p o cs t []) (hbf : cs[o + 1]? = some (.lit (.slice none 0 0))) (n : Nat) (h1 : 1 ≤ n) (hn : n ≤ 1000000000) :
    ∃ H' nx' cs', Cl cx 202 [.ptr p o, .lit (.int .i64 n)] H nx = some (.tuple [], H', nx') ∧ Bld n0 H' nx' p o cs' t [] ∧ nx ≤ nx' ∧ cs'.length = cs.length ∧ ∀ c, c < n0 → H'.get c = H.get c := by
  obtain ⟨H1, cs1, k1, k2, k3, k4, k5, k6⟩ := cc_cl hb
  have hbf1 : cs1[o + 1]? = some (.lit (.slice none 0 0)) := by rw [k4 _ (by omega)]; exact hbf
  obtain ⟨H2, cs2, g1, g2, g3, g4, g5⟩ := grow_cl k2 hbf1 n h1 hn
  have hp1 := hb.p1
  have hp0 := hb.p0
  refine ⟨H2, nx + 1, cs2, ?_, g2, by omega, by omega, fun c hc => by rw [g5 c hc, k5 c (by omega)]⟩
  refine wp202 _ _ _ _ (by simp) ?_
  unfold s202
  have e0 : (((n : Nat) : Int) < 0) = False := by simp
  simp only [↓aD, ↓aE, ↓aF, ↓aG, ↓aH, ↓aI, ↓aJ, ↓aK, aL, ↓aM, ↓aN, aO, stepA, opA, convA, isCall, put?, ev, aP, aQ, builtinA, callA, argEnv, wantedS, aR, aS, aT, aU, aV, aW, aX, aY, aZ, undef, z_none, bA, bB, bC, bD, bE, bF, bG, bH, bI, bJ, extractOp, bK, bL, bM, bN, Nat.reduceLT, Nat.reduceEqDiff, Nat.reduceAdd, bO, bP, bQ, bR, bS, ↓reduceIte, bT, bU, reduceCtorEq, resA, resOf, bV, bW, bX, bY, bZ, cA, cB, cC, cD, cE, cF, cG, cH, cI, cJ, cK, cL, cM, cN, cO, maxA, minA, cP, cQ, cR, cS, cT, cU, cV, cW, cX, cY, cZ, dA, x_none, k1, e0]
  refine s202_d0_wq ?_
  unfold s202_d0s
  have hcap : capOp cx.T 81 (.lit (.slice none 0 0)) = some 0 := by kernel_rfl
  have hln : lenOp cx.T .nil 81 (.lit (.slice none 0 0)) = some 0 := by kernel_rfl
  have hw : IntKind.i64.wrap (((0 : Nat) : Int) - ((0 : Nat) : Int)) = 0 := by decide
  have e1 : ((0 : Int) < (n : Int)) = True := by simp; omega
  simp only [↓aD, ↓aE, ↓aF, ↓aG, ↓aH, ↓aI, ↓aJ, ↓aK, aL, ↓aM, ↓aN, aO, stepA, opA, convA, isCall, put?, ev, aP, aQ, builtinA, callA, argEnv, wantedS, aR, aS, aT, aU, aV, aW, aX, aY, aZ, undef, z_none, bA, bB, bC, bD, bE, bF, bG, bH, bI, bJ, extractOp, bK, bL, bM, bN, Nat.reduceLT, Nat.reduceEqDiff, Nat.reduceAdd, bO, bP, bQ, bR, bS, ↓reduceIte, bT, bU, reduceCtorEq, resA, resOf, bV, bW, bX, bY, bZ, cA, cB, cC, cD, cE, cF, cG, cH, cI, cJ, cK, cL, cM, cN, cO, maxA, minA, cP, cQ, cR, cS, cT, cU, cV, cW, cX, cY, cZ, dA, ↓dB, ↓dC, txS, dD, dE, dF, dG, dH, dI, dJ, dK, dL, dM, dN, dO, dP, isEff, dQ, dR, dS, dT, dU, dV, AV.belowB, dW, dX, nc_ptr, fa125_1, ld_at (t := 81) (by kernel_rfl) k2.hp hbf1, hcap, hln, hw, e1, g1, x_none]
end Seat
end CI
namespace CI
open Go
namespace Seat
variable {H : Heap} {nx : Nat}
theorem pure_is {P : Program} {m : Sem Value} {v : Value} (w0 : World) (h1 : ∃ a, pureRun P m = some a) (h2 : ∀ w, m.run P w = .ok v w) : pureRun P m = some v := by
  obtain ⟨a, ha⟩ := h1
  have h3 := (pureRun_ok w0 ha).symm.trans (h2 _)
  injection h3 with h3
  rw [ha, h3]
theorem pure354 (s : ByteArray) (c : UInt8) : ∃ a, pureRun cx.P (Extern.BytealgIndexByte.indexByte #[.string s, .int .u8 c.toNat]) = some a := by
  have e : pureRun cx.P (Extern.BytealgIndexByte.indexByte #[.string s, .int .u8 c.toNat]) = pureRun cx.P (match (List.range s.size).find? fun i => s[i]! == ((c.toNat : Nat) : Int).toNat.toUInt8 with
    | some i => pure (goInt i)
    | none => pure (goInt (-1))) := by kernel_rfl
  rw [e]
  split
  · exact ⟨_, rfl⟩
  · exact ⟨_, rfl⟩
theorem u8_back (c : UInt8) : ((c.toNat : Nat) : Int).toNat.toUInt8 = c := by simp
theorem ext354 (l : List UInt8) (c : UInt8) : extX cx.P exts 354 [strA l, byteA c] = (pureRun cx.P (Extern.BytealgIndexByte.indexByte #[.string (B l), .int .u8 c.toNat])).map abs := by kernel_rfl
theorem i354 : idents.get 354 = none := by kernel_rfl
theorem x354 (w0 : World) (l : List UInt8) (c : UInt8) : cx.X 354 [strA l, byteA c] = some (.lit (.int .i64 (Lib.indexByte l c))) := by
  have h0 : cx.X 354 [strA l, byteA c] = extX4 cx.P exts sums idents cons 354 [strA l, byteA c] := rfl
  have e : extX cx.P exts 354 [strA l, byteA c] = some (.lit (.int .i64 (Lib.indexByte l c))) := by
    rw [ext354, pure_is w0 (pure354 (B l) c) (fun w => Lib.run_indexByteString (B l) c.toNat w), B_data, u8_back]
    rfl
  rw [h0]
  have hc : cons.get 354 = none := by kernel_rfl
  unfold extX4 extX3 extX2
  rw [i354, e, hc]
theorem x346 (w0 : World) (l : List UInt8) (c : UInt8) : cx.X 346 [strA l, byteA c] = some (.lit (.int .i64 (l.count c : Nat))) := by
  have h0 : cx.X 346 [strA l, byteA c] = (pureRun cx.P (Extern.BytealgCount.count #[.string (B l), .int .u8 c.toNat])).map abs := by kernel_rfl
  rw [h0, pure_is w0 ⟨_, rfl⟩ (fun w => Lib.run_countString (B l) c.toNat w), B_data, u8_back]
  rfl
theorem sep_ix (c : UInt8) : indexOp cx.P cx.T 9 (strA [c]) (.lit (.int .i64 0)) = some (byteA c) := by kernel_rfl
theorem sep_len (c : UInt8) (H : Heap) : lenOp cx.T H 9 (strA [c]) = some 1 := by kernel_rfl
theorem ix_cl (w0 : World) (l : List UInt8) (c : UInt8) : Cl cx 272 [strA l, strA [c]] H nx = some (.lit (.int .i64 (Lib.indexByte l c)), H, nx) := by
  have h60 : Cl cx 280 [strA l, byteA c] H nx = some (.lit (.int .i64 (Lib.indexByte l c)), H, nx) := by
    refine wp280 _ _ _ _ (by simp) ?_
    unfold s280
    simp only [↓aD, ↓aE, ↓aF, ↓aG, ↓aH, ↓aI, ↓aJ, ↓aK, aL, ↓aM, ↓aN, aO, stepA, opA, convA, isCall, put?, ev, aP, aQ, builtinA, callA, argEnv, wantedS, aR, aS, aT, aU, aV, aW, aX, aY, aZ, undef, z_none, bA, bB, bC, bD, bE, bF, bG, bH, bI, bJ, extractOp, bK, bL, bM, bN, Nat.reduceLT, Nat.reduceEqDiff, Nat.reduceAdd, bO, bP, bQ, bR, bS, ↓reduceIte, bT, bU, reduceCtorEq, resA, resOf, bV, bW, bX, bY, bZ, cA, cB, cC, cD, cE, cF, cG, cH, cI, cJ, cK, cL, cM, cN, cO, maxA, minA, cP, cQ, cR, cS, cT, cU, cV, cW, cX, cY, cZ, dA, x354 w0 l c]
  have h48 : Cl cx 210 [strA l, strA [c]] H nx = some (.lit (.int .i64 (Lib.indexByte l c)), H, nx) := by
    refine wp210 _ _ _ _ (by simp) ?_
    unfold s210
    have e1 : (((1 : Nat) : Int) = 0) = False := by simp
    have e2 : (((1 : Nat) : Int) = 1) = True := by simp
    have e3 : binOpA cx.P cx.T .eql 9 (.tmp 20) (.tmp 21) (strA [c]) (strA l) = some (.lit (.bool (decide ([c] = l)))) := str_eql _ _ [c] l
    by_cases h : [c] = l
    · subst h
      have e4 : Lib.indexByte [c] c = 0 := by simp [Lib.indexByte]
      simp only [↓aD, ↓aE, ↓aF, ↓aG, ↓aH, ↓aI, ↓aJ, ↓aK, aL, ↓aM, ↓aN, aO, stepA, opA, convA, isCall, put?, ev, aP, aQ, builtinA, callA, argEnv, wantedS, aR, aS, aT, aU, aV, aW, aX, aY, aZ, undef, z_none, bA, bB, bC, bD, bE, bF, bG, bH, bI, bJ, extractOp, bK, bL, bM, bN, Nat.reduceLT, Nat.reduceEqDiff, Nat.reduceAdd, bO, bP, bQ, bR, bS, ↓reduceIte, bT, bU, reduceCtorEq, resA, resOf, bV, bW, bX, bY, bZ, cA, cB, cC, cD, cE, cF, cG, cH, cI, cJ, cK, cL, cM, cN, cO, maxA, minA, cP, cQ, cR, cS, cT, cU, cV, cW, cX, cY, cZ, dA, sep_len c, sep_ix c, e1, e2, e3, e4, x_none, h60]
    · simp only [↓aD, ↓aE, ↓aF, ↓aG, ↓aH, ↓aI, ↓aJ, ↓aK, aL, ↓aM, ↓aN, aO, stepA, opA, convA, isCall, put?, ev, aP, aQ, builtinA, callA, argEnv, wantedS, aR, aS, aT, aU, aV, aW, aX, aY, aZ, undef, z_none, bA, bB, bC, bD, bE, bF, bG, bH, bI, bJ, extractOp, bK, bL, bM, bN, Nat.reduceLT, Nat.reduceEqDiff, Nat.reduceAdd, bO, bP, bQ, bR, bS, ↓reduceIte, bT, bU, reduceCtorEq, resA, resOf, bV, bW, bX, bY, bZ, cA, cB, cC, cD, cE, cF, cG, cH, cI, cJ, cK, cL, cM, cN, cO, maxA, minA, cP, cQ, cR, cS, cT, cU, cV, cW, cX, cY, cZ, dA, sep_len c, sep_ix c, e1, e2, e3, h, x_none, h60]
  refine wp272 _ _ _ _ (by simp) ?_
  unfold s272
  simp only [↓aD, ↓aE, ↓aF, ↓aG, ↓aH, ↓aI, ↓aJ, ↓aK, aL, ↓aM, ↓aN, aO, stepA, opA, convA, isCall, put?, ev, aP, aQ, builtinA, callA, argEnv, wantedS, aR, aS, aT, aU, aV, aW, aX, aY, aZ, undef, z_none, bA, bB, bC, bD, bE, bF, bG, bH, bI, bJ, extractOp, bK, bL, bM, bN, Nat.reduceLT, Nat.reduceEqDiff, Nat.reduceAdd, bO, bP, bQ, bR, bS, ↓reduceIte, bT, bU, reduceCtorEq, resA, resOf, bV, bW, bX, bY, bZ, cA, cB, cC, cD, cE, cF, cG, cH, cI, cJ, cK, cL, cM, cN, cO, maxA, minA, cP, cQ, cR, cS, cT, cU, cV, cW, cX, cY, cZ, dA, x_none, h48]
theorem cnt_cl (w0 : World) (l : List UInt8) (c : UInt8) : Cl cx 271 [strA l, strA [c]] H nx = some (.lit (.int .i64 (l.count c : Nat)), H, nx) := by
  refine wp271 _ _ _ _ (by simp) ?_
  unfold s271
  have e1 : (((1 : Nat) : Int) = 0) = False := by simp
  have e2 : (((1 : Nat) : Int) = 1) = True := by simp
  simp only [↓aD, ↓aE, ↓aF, ↓aG, ↓aH, ↓aI, ↓aJ, ↓aK, aL, ↓aM, ↓aN, aO, stepA, opA, convA, isCall, put?, ev, aP, aQ, builtinA, callA, argEnv, wantedS, aR, aS, aT, aU, aV, aW, aX, aY, aZ, undef, z_none, bA, bB, bC, bD, bE, bF, bG, bH, bI, bJ, extractOp, bK, bL, bM, bN, Nat.reduceLT, Nat.reduceEqDiff, Nat.reduceAdd, bO, bP, bQ, bR, bS, ↓reduceIte, bT, bU, reduceCtorEq, resA, resOf, bV, bW, bX, bY, bZ, cA, cB, cC, cD, cE, cF, cG, cH, cI, cJ, cK, cL, cM, cN, cO, maxA, minA, cP, cQ, cR, cS, cT, cU, cV, cW, cX, cY, cZ, dA, sep_len c, sep_ix c, e1, e2, x346 w0 l c]
end Seat
end CI
namespace CI
open Go
theorem pb_bound {P : Program} {i y : Nat} (h : i ≤ y) (code : BoundsCode) : pureRun P (Instr.sliceBound (.int .i64 (i : Nat)) y code) = some i := by
  unfold Instr.sliceBound
  rw [pureRun_bind]
  show pureRun P (if 0 ≤ (i : Int) ∧ (i : Int) ≤ (y : Nat) then pure (i : Int).toNat else _) = _
  rw [if_pos ⟨by omega, by omega⟩]
  rfl
theorem pb_pure {α : Type} (P : Program) (a : α) : pureRun P (pure a : Sem α) = some a := rfl
namespace Seat
variable {H : Heap} {nx : Nat}
theorem B_extract (l : List UInt8) (i j : Nat) : (B l).extract i j = B ((l.take j).drop i) := by
  apply ByteArray.ext
  simp only [B, ByteArray.data_extract, List.extract_toArray, List.extract_eq_take_drop]
  rw [List.drop_take]
theorem str_to (w : List UInt8) (k : Nat) (hk : k ≤ w.length) : sliceOp cx.P cx.T H 9 (strA w) none (some (.lit (.int .i64 (k : Nat)))) none = some (strA (w.take k)) := by
  have e : sliceOp cx.P cx.T H 9 (strA w) none (some (.lit (.int .i64 (k : Nat)))) none = (pureRun cx.P (do
      let (l, h, _) ← Instr.sliceBounds false (B w).size (B w).size none (some (.int .i64 (k : Nat))) none
      pure (.string ((B w).extract l h)))).map abs := by kernel_rfl
  rw [e, pureRun_bind]
  have hb : pureRun cx.P (Instr.sliceBounds false (B w).size (B w).size none (some (.int .i64 (k : Nat))) none) = some (0, k, (B w).size) := by
    unfold Instr.sliceBounds
    simp only [pureRun_bind, pb_pure, Option.bind_some]
    rw [pb_bound (by rw [B_size]; exact hk)]
    rfl
  rw [hb]
  simp only [Option.bind_some, pb_pure, Option.map_some, B_extract, List.drop_zero]
  rfl
theorem str_from (w : List UInt8) (k : Nat) (hk : k ≤ w.length) : sliceOp cx.P cx.T H 9 (strA w) (some (.lit (.int .i64 (k : Nat)))) none none = some (strA (w.drop k)) := by
  have e : sliceOp cx.P cx.T H 9 (strA w) (some (.lit (.int .i64 (k : Nat)))) none none = (pureRun cx.P (do
      let (l, h, _) ← Instr.sliceBounds false (B w).size (B w).size (some (.int .i64 (k : Nat))) none none
      pure (.string ((B w).extract l h)))).map abs := by kernel_rfl
  rw [e, pureRun_bind]
  have hb : pureRun cx.P (Instr.sliceBounds false (B w).size (B w).size (some (.int .i64 (k : Nat))) none none) = some (k, (B w).size, (B w).size) := by
    unfold Instr.sliceBounds
    simp only [pureRun_bind, pb_pure, Option.bind_some]
    rw [pb_bound (by rw [B_size]; exact hk)]
    rfl
  rw [hb]
  simp only [Option.bind_some, pb_pure, Option.map_some, B_extract, B_size, List.take_length]
  rfl
end Seat
end CI
namespace CI
open Go
namespace Seat
variable {H : Heap} {nx : Nat}
theorem T100 : cx.T.get 100 = some ti100 := by kernel_rfl
theorem wrapS {i : Nat} (h : i < 9223372036854775807) : IntKind.i64.wrap ((i : Int) + 1) = ((i + 1 : Nat) : Int) := by
  rw [wrapI]; · rfl
  constructor <;> omega
theorem wrapS0 {i : Nat} (h : i < 9223372036854775807) : IntKind.i64.wrap ((i : Int) + 0) = (i : Int) := by
  rw [Int.add_zero, wrapI]; constructor <;> omega
theorem wrapP {i : Nat} (h : i < 9223372036854775807) : IntKind.i64.wrap (((i + 1 : Nat) : Int) - 1) = (i : Int) := by
  rw [wrapI]; · omega
  constructor <;> omega
theorem ix100 {b n i : Nat} {c : Option Nat} (h : i < n) : indexAddrOp cx.T 100 (.slice b 0 n c 1) (.lit (.int .i64 i)) = some (.ptr b i) := by
  unfold indexAddrOp
  simp only [T100, ti100, T9, ti9]
  rw [if_pos ⟨by omega, by omega, trivial⟩]
  simp
theorem mk100 (n : Nat) (h0 : 1 ≤ n) (h : n ≤ 1000000) : ∃ zs : List AV, zs.length = n ∧ makeSliceOp cx.T H nx 100 (.lit (.int .i64 n)) (.lit (.int .i64 n)) = some (.slice nx 0 n (some n) 1, H.put nx (some (.cells zs 9 false)), nx + 1) := by
  refine ⟨zrow n (cellsOf (abs (.string ⟨#[]⟩))), by simp [zrow], ?_⟩
  unfold makeSliceOp
  simp only [T100, ti100, T9, ti9]
  have hc : cellsOf (abs (.string ⟨#[]⟩)) ≠ [] := by intro h; cases h
  rw [if_pos ⟨by omega, by omega, by omega, by omega, hc, by simp⟩]
  simp
theorem sl100 (b n : Nat) (h : 1 ≤ n) : sliceOp cx.P cx.T H 100 (.slice b 0 n (some n) 1) none (some (.lit (.int .i64 (n : Nat)))) none = some (.slice b 0 n (some n) 1) := by
  unfold sliceOp
  simp only [T100, ti100, T9, ti9]
  have e1 : bnd (some (.lit (.int .i64 ((n : Nat) : Int)))) n = some n := by simp [bnd]
  have e2 : ∀ k, bnd none k = some k := fun _ => rfl
  rw [if_neg (by simp)]
  simp only [e1, e2]
  rw [if_pos ⟨Nat.le_refl _, Nat.le_refl _, Nat.zero_le _, by simp⟩]
  unfold cutTo
  rw [if_neg (by omega)]
  simp
theorem set_tail (A : List AV) (x v : AV) (t : List AV) : (A ++ x :: t).set A.length v = (A ++ [v]) ++ t := by
  rw [List.set_append_right _ _ (Nat.le_refl _), Nat.sub_self]
  simp
section
variable {l : List UInt8} {n0 : Nat} {QQ : Ex → St → Prop}
structure GS (H0 : Heap) (l : List UInt8) (b i : Nat) (rest : List UInt8) (E : Tr AV) (H : Heap) : Prop where
  t0 : E.get 0 = some (strA rest)
  t1 : E.get 1 = some (strA [32])
  t2 : E.get 2 = some (.lit (.int .i64 0))
  t3 : E.get 3 = some (.lit (.int .i64 (((Spl.spl l).length - 1 : Nat) : Int)))
  t9 : E.get 9 = some (.slice b 0 (Spl.spl l).length (some (Spl.spl l).length) 1)
  t10 : E.get 10 = some (.lit (.int .i64 i))
  mem : ∃ done tail, Spl.spl l = done ++ Spl.spl rest ∧ done.length = i ∧ H.get b = some (.cells (done.map strA ++ tail) 9 false) ∧ done.length + tail.length = (Spl.spl l).length
  old : ∀ c, c ≠ b → H.get c = H0.get c
theorem gs_loop {H0 : Heap} {b nx : Nat} {E : Tr AV} {H : Heap} (w0 : World) (hl : l.length ≤ 100000) (h : GS H0 l b 0 l E H)
    (hQ : ∀ E' H' rest i, GS H0 l b i rest E' H' → Spl.spl rest = [rest] → i + 1 = (Spl.spl l).length → QQ (.exit 0) ⟨E', H', nx⟩) : Wp cx 66 (.loop s203_l0) ⟨E, H, nx⟩ QQ := by
  refine Wp_loop (fun n st => ∃ rest i, n = (Spl.spl l).length - i ∧ rest.length ≤ l.length ∧ st.nx = nx ∧ GS H0 l b i rest st.env st.H) ?_ ((Spl.spl l).length) _ ⟨l, 0, rfl, Nat.le_refl _, rfl, h⟩
  rintro n ⟨E, H, nx1⟩ ⟨rest, i, hn, hr, q2, g⟩
  simp only at q2 g; subst q2
  have g' := g
  obtain ⟨e0, e1, e2, e3, e9, e10, ⟨done, tail, m1, m2, m3, m4⟩, ho⟩ := g
  have hlen : done.length + (Spl.spl rest).length = (Spl.spl l).length := by rw [m1, List.length_append]
  have hpos : 1 ≤ (Spl.spl rest).length := List.length_pos_iff.2 (Spl.spl_ne rest)
  have hcnt : (Spl.spl l).length ≤ 100001 := by
    rw [Spl.spl_len]
    have := List.count_le_length (a := (32 : UInt8)) (l := l)
    omega
  refine Wp_of ?_
  unfold s203_l0
  by_cases hlt : i < (Spl.spl l).length - 1
  · have hge := Lib.indexByte_ge rest 32
    have hne : Lib.indexByte rest 32 ≠ -1 := by
      intro hh
      have := Spl.ix_none hh
      rw [this] at hlen
      simp at hlen
      omega
    obtain ⟨m, hm⟩ : ∃ m : Nat, Lib.indexByte rest 32 = m := ⟨(Lib.indexByte rest 32).toNat, by omega⟩
    obtain ⟨hm1, hm2⟩ := Spl.ix_some hm
    obtain ⟨x, t, rfl⟩ : ∃ x t, tail = x :: t := by
      cases tail with
      | nil => simp at m4; omega
      | cons x t => exact ⟨x, t, rfl⟩
    have hwi := wrapS (i := i) (by omega)
    have hwm := wrapS (i := m) (by omega)
    have hwm0 := wrapS0 (i := m) (by omega)
    have hwm1 : IntKind.i64.wrap ((m : Int) + ((1 : Nat) : Int)) = ((m + 1 : Nat) : Int) := hwm
    have hneg : (((m : Nat) : Int) < 0) = False := by simp
    have hii : ((i : Int) < (((Spl.spl l).length - 1 : Nat) : Int)) = True := by simp; omega
    have hix : indexAddrOp cx.T 100 (.slice b 0 (Spl.spl l).length (some (Spl.spl l).length) 1) (.lit (.int .i64 (i : Int))) = some (.ptr b i) := ix100 (by omega)
    have hst := st_at (t := 9) (v := strA (rest.take m)) (by kernel_rfl) m3 (o := i) (by simp; omega) rfl rfl
    have hset : (done.map strA ++ x :: t).set i (strA (rest.take m)) = (done ++ [rest.take m]).map strA ++ t := by
      have : i = (done.map strA).length := by simp [m2]
      rw [this, set_tail]
      simp
    rw [hset] at hst
    simp only [↓aD, ↓aE, ↓aF, ↓aG, ↓aH, ↓aI, ↓aJ, ↓aK, aL, ↓aM, ↓aN, aO, stepA, opA, convA, isCall, put?, ev, aP, aQ, builtinA, callA, argEnv, wantedS, aR, aS, aT, aU, aV, aW, aX, aY, aZ, undef, z_none, bA, bB, bC, bD, bE, bF, bG, bH, bI, bJ, extractOp, bK, bL, bM, bN, Nat.reduceLT, Nat.reduceEqDiff, Nat.reduceAdd, bO, bP, bQ, bR, bS, ↓reduceIte, bT, bU, reduceCtorEq, resA, resOf, bV, bW, bX, bY, bZ, cA, cB, cC, cD, cE, cF, cG, cH, cI, cJ, cK, cL, cM, cN, cO, maxA, minA, cP, cQ, cR, cS, cT, cU, cV, cW, cX, cY, cZ, dA, e0, e1, e2, e3, e9, e10, hii, x_none, ix_cl w0 _ 32, hm, hneg, hwm0, str_to rest m (by omega), hix, hst, sep_len 32, hwm, hwm1, str_from rest (m + 1) (by omega), hwi]
    refine ⟨(Spl.spl l).length - (i + 1), by omega, rest.drop (m + 1), i + 1, rfl, by simp; omega, ?_⟩
    constructor <;> first
      | (simp only [↓aD, ↓aE, ↓aF, ↓aG, ↓aH, ↓aI, ↓aJ, ↓aK, aL, ↓aM, ↓aN, aO, stepA, opA, convA, isCall, put?, ev, aP, aQ, builtinA, callA, argEnv, wantedS, aR, aS, aT, aU, aV, aW, aX, aY, aZ, undef, z_none, bA, bB, bC, bD, bE, bF, bG, bH, bI, bJ, extractOp, bK, bL, bM, bN, Nat.reduceLT, Nat.reduceEqDiff, Nat.reduceAdd, bO, bP, bQ, bR, bS, ↓reduceIte, bT, bU, reduceCtorEq, resA, resOf, bV, bW, bX, bY, bZ, cA, cB, cC, cD, cE, cF, cG, cH, cI, cJ, cK, cL, cM, cN, cO, maxA, minA, cP, cQ, cR, cS, cT, cU, cV, cW, cX, cY, cZ, dA, e0, e1, e2, e3, e9, e10]; done)
      | (intro c hc; rw [Tr.get_put_ne _ _ _ _ hc]; exact ho c hc)
      | exact ⟨done ++ [rest.take m], t, by rw [m1, hm2]; simp, by simp [m2], Tr.get_put_same _ _ _, by simp at m4 ⊢; omega⟩
  · have hii : ((i : Int) < (((Spl.spl l).length - 1 : Nat) : Int)) = False := by simp; omega
    have h1 : (Spl.spl rest).length = 1 := by omega
    have hsp : Spl.spl rest = [rest] := by
      have := Spl.spl_joi rest
      revert this h1
      cases Spl.spl rest with
      | nil => intro h; simp at h
      | cons y ys => cases ys with
        | nil => intro _ hj; simp only [Spl.joi, Spl.joiT, List.append_nil] at hj; rw [hj]
        | cons => intro h; simp at h
    simp only [↓aD, ↓aE, ↓aF, ↓aG, ↓aH, ↓aI, ↓aJ, ↓aK, aL, ↓aM, ↓aN, aO, stepA, opA, convA, isCall, put?, ev, aP, aQ, builtinA, callA, argEnv, wantedS, aR, aS, aT, aU, aV, aW, aX, aY, aZ, undef, z_none, bA, bB, bC, bD, bE, bF, bG, bH, bI, bJ, extractOp, bK, bL, bM, bN, Nat.reduceLT, Nat.reduceEqDiff, Nat.reduceAdd, bO, bP, bQ, bR, bS, ↓reduceIte, bT, bU, reduceCtorEq, resA, resOf, bV, bW, bX, bY, bZ, cA, cB, cC, cD, cE, cF, cG, cH, cI, cJ, cK, cL, cM, cN, cO, maxA, minA, cP, cQ, cR, cS, cT, cU, cV, cW, cX, cY, cZ, dA, e0, e1, e2, e3, e9, e10, hii]
    refine hQ _ _ rest i ?_ hsp (by omega)
    constructor <;> first | (simp only [↓aD, ↓aE, ↓aF, ↓aG, ↓aH, ↓aI, ↓aJ, ↓aK, aL, ↓aM, ↓aN, aO, stepA, opA, convA, isCall, put?, ev, aP, aQ, builtinA, callA, argEnv, wantedS, aR, aS, aT, aU, aV, aW, aX, aY, aZ, undef, z_none, bA, bB, bC, bD, bE, bF, bG, bH, bI, bJ, extractOp, bK, bL, bM, bN, Nat.reduceLT, Nat.reduceEqDiff, Nat.reduceAdd, bO, bP, bQ, bR, bS, ↓reduceIte, bT, bU, reduceCtorEq, resA, resOf, bV, bW, bX, bY, bZ, cA, cB, cC, cD, cE, cF, cG, cH, cI, cJ, cK, cL, cM, cN, cO, maxA, minA, cP, cQ, cR, cS, cT, cU, cV, cW, cX, cY, cZ, dA, e0, e1, e2, e3, e9, e10]; done) | exact ho | exact ⟨done, tail, m1, m2, m3, m4⟩
end
theorem gsplit_cl (w0 : World) (l : List UInt8) (hl : l.length ≤ 100000) :
    ∃ v H' nx', Cl cx 203 [strA l, strA [32], .lit (.int .i64 0), .lit (.int .i64 (-1))] H nx = some (v, H', nx') ∧
      (v = .slice nx 0 (Spl.spl l).length (some (Spl.spl l).length) 1 ∧ nx' = nx + 1 ∧ H'.get nx = some (.cells ((Spl.spl l).map strA) 9 false) ∧ ∀ c, c ≠ nx → H'.get c = H.get c) := by
  have hpos : 1 ≤ (Spl.spl l).length := List.length_pos_iff.2 (Spl.spl_ne l)
  have hcl : l.count 32 ≤ l.length := List.count_le_length
  have hcnt : (Spl.spl l).length = l.count 32 + 1 := Spl.spl_len l
  obtain ⟨zs, z1, z2⟩ := mk100 (H := H) (nx := nx) (Spl.spl l).length hpos (by omega)
  refine wpP203 _ _ _ _ (by simp) ?_
  unfold s203
  have e1 : (((-1 : Int)) = 0) = False := by simp
  have e2 : ((-1 : Int) < 0) = True := by simp
  have e3 : binOpA cx.P cx.T .eql 9 (.tmp 14) (.const (.string (ByteArray.mk #[]))) (strA [32]) (.lit (.string (ByteArray.mk #[]))) = some (.lit (.bool false)) := by kernel_rfl
  have hw1 : IntKind.i64.wrap ((l.count 32 : Nat) + 1) = (((Spl.spl l).length : Nat) : Int) := by rw [hcnt]; exact wrapS (by omega)
  have hw2 : IntKind.i64.wrap (((l.length : Nat) : Int) + 1) = ((l.length + 1 : Nat) : Int) := wrapS (by omega)
  have hmin : min ((Spl.spl l).length : Int) ((l.length + 1 : Nat) : Int) = ((Spl.spl l).length : Int) := by omega
  have hw3 : IntKind.i64.wrap (((Spl.spl l).length : Int) - 1) = (((Spl.spl l).length - 1 : Nat) : Int) := by
    obtain ⟨k, hk⟩ : ∃ k, (Spl.spl l).length = k + 1 := ⟨(Spl.spl l).length - 1, by omega⟩
    rw [hk]; exact wrapP (by omega)
  simp only [↓aD, ↓aE, ↓aF, ↓aG, ↓aH, ↓aI, ↓aJ, ↓aK, aL, ↓aM, ↓aN, aO, stepA, opA, convA, isCall, put?, ev, aP, aQ, builtinA, callA, argEnv, wantedS, aR, aS, aT, aU, aV, aW, aX, aY, aZ, undef, z_none, bA, bB, bC, bD, bE, bF, bG, bH, bI, bJ, extractOp, bK, bL, bM, bN, Nat.reduceLT, Nat.reduceEqDiff, Nat.reduceAdd, bO, bP, bQ, bR, bS, ↓reduceIte, bT, bU, reduceCtorEq, resA, resOf, bV, bW, bX, bY, bZ, cA, cB, cC, cD, cE, cF, cG, cH, cI, cJ, cK, cL, cM, cN, cO, maxA, minA, cP, cQ, cR, cS, cT, cU, cV, cW, cX, cY, cZ, dA, e1, e2, e3, x_none, cnt_cl w0 _ 32, hw1, hw2, str_len, hmin, z2, hw3]
  refine gs_loop (l := l) (H0 := H) (b := nx) w0 hl ?_ ?_
  · constructor
    all_goals first
      | (simp only [↓aD, ↓aE, ↓aF, ↓aG, ↓aH, ↓aI, ↓aJ, ↓aK, aL, ↓aM, ↓aN, aO, stepA, opA, convA, isCall, put?, ev, aP, aQ, builtinA, callA, argEnv, wantedS, aR, aS, aT, aU, aV, aW, aX, aY, aZ, undef, z_none, bA, bB, bC, bD, bE, bF, bG, bH, bI, bJ, extractOp, bK, bL, bM, bN, Nat.reduceLT, Nat.reduceEqDiff, Nat.reduceAdd, bO, bP, bQ, bR, bS, ↓reduceIte, bT, bU, reduceCtorEq, resA, resOf, bV, bW, bX, bY, bZ, cA, cB, cC, cD, cE, cF, cG, cH, cI, cJ, cK, cL, cM, cN, cO, maxA, minA, cP, cQ, cR, cS, cT, cU, cV, cW, cX, cY, cZ, dA]; done)
      | (simp only [↓aD, ↓aE, ↓aF, ↓aG, ↓aH, ↓aI, ↓aJ, ↓aK, aL, ↓aM, ↓aN, aO, stepA, opA, convA, isCall, put?, ev, aP, aQ, builtinA, callA, argEnv, wantedS, aR, aS, aT, aU, aV, aW, aX, aY, aZ, undef, z_none, bA, bB, bC, bD, bE, bF, bG, bH, bI, bJ, extractOp, bK, bL, bM, bN, Nat.reduceLT, Nat.reduceEqDiff, Nat.reduceAdd, bO, bP, bQ, bR, bS, ↓reduceIte, bT, bU, reduceCtorEq, resA, resOf, bV, bW, bX, bY, bZ, cA, cB, cC, cD, cE, cF, cG, cH, cI, cJ, cK, cL, cM, cN, cO, maxA, minA, cP, cQ, cR, cS, cT, cU, cV, cW, cX, cY, cZ, dA]; rfl)
      | (intro c hc; rw [Tr.get_put_ne _ _ _ _ hc]; done)
      | exact ⟨[], zs, by simp, rfl, by rw [Tr.get_put_same]; simp, by simp [z1]⟩
  · rintro E' H' rest i ⟨e0, e1, e2, e3, e9, e10, ⟨done, tail, m1, m2, m3, m4⟩, ho⟩ hr hi
    have hix : indexAddrOp cx.T 100 (.slice nx 0 (Spl.spl l).length (some (Spl.spl l).length) 1) (.lit (.int .i64 (i : Int))) = some (.ptr nx i) := ix100 (by omega)
    have hst := st_at (t := 9) (v := strA rest) (by kernel_rfl) m3 (o := i) (by simp; omega) rfl rfl
    obtain ⟨x, rfl⟩ : ∃ x, tail = [x] := by
      match tail, m4 with
      | [], h => simp at h; omega
      | [x], _ => exact ⟨x, rfl⟩
      | x :: y :: t, h => simp at h; omega
    have hset : (done.map strA ++ [x]).set i (strA rest) = (Spl.spl l).map strA := by
      have : i = (done.map strA).length := by simp [m2]
      rw [this, set_tail, m1, hr]
      simp
    rw [hset] at hst
    have hwi : IntKind.i64.wrap ((i : Int) + 1) = (((Spl.spl l).length : Nat) : Int) := by rw [← hi]; exact wrapS (by omega)
    simp only [↓aD, ↓aE, ↓aF, ↓aG, ↓aH, ↓aI, ↓aJ, ↓aK, aL, ↓aM, ↓aN, aO, stepA, opA, convA, isCall, put?, ev, aP, aQ, builtinA, callA, argEnv, wantedS, aR, aS, aT, aU, aV, aW, aX, aY, aZ, undef, z_none, bA, bB, bC, bD, bE, bF, bG, bH, bI, bJ, extractOp, bK, bL, bM, bN, Nat.reduceLT, Nat.reduceEqDiff, Nat.reduceAdd, bO, bP, bQ, bR, bS, ↓reduceIte, bT, bU, reduceCtorEq, resA, resOf, bV, bW, bX, bY, bZ, cA, cB, cC, cD, cE, cF, cG, cH, cI, cJ, cK, cL, cM, cN, cO, maxA, minA, cP, cQ, cR, cS, cT, cU, cV, cW, cX, cY, cZ, dA, e0, e1, e2, e3, e9, e10, hix, hst, hwi, sl100 nx _ hpos]
    intro c hc
    rw [if_neg hc]; exact ho c hc
theorem split_cl (w0 : World) (l : List UInt8) (hl : l.length ≤ 100000) :
    ∃ H', Cl cx 78 [strA l] H nx = some (.slice nx 0 (Spl.spl l).length (some (Spl.spl l).length) 1, H', nx + 1) ∧ H'.get nx = some (.cells ((Spl.spl l).map strA) 9 false) ∧ ∀ c, c ≠ nx → H'.get c = H.get c := by
  obtain ⟨v, H', nx', h1, rfl, rfl, h2, h3⟩ := gsplit_cl (H := H) (nx := nx) w0 l hl
  refine ⟨H', ?_, h2, h3⟩
  have h13 : Cl cx 144 [strA l, strA [32]] H nx = some (.slice nx 0 (Spl.spl l).length (some (Spl.spl l).length) 1, H', nx + 1) := by
    refine wp144 _ _ _ _ (by simp) ?_
    unfold s144
    simp only [↓aD, ↓aE, ↓aF, ↓aG, ↓aH, ↓aI, ↓aJ, ↓aK, aL, ↓aM, ↓aN, aO, stepA, opA, convA, isCall, put?, ev, aP, aQ, builtinA, callA, argEnv, wantedS, aR, aS, aT, aU, aV, aW, aX, aY, aZ, undef, z_none, bA, bB, bC, bD, bE, bF, bG, bH, bI, bJ, extractOp, bK, bL, bM, bN, Nat.reduceLT, Nat.reduceEqDiff, Nat.reduceAdd, bO, bP, bQ, bR, bS, ↓reduceIte, bT, bU, reduceCtorEq, resA, resOf, bV, bW, bX, bY, bZ, cA, cB, cC, cD, cE, cF, cG, cH, cI, cJ, cK, cL, cM, cN, cO, maxA, minA, cP, cQ, cR, cS, cT, cU, cV, cW, cX, cY, cZ, dA, x_none, lit32, h1]
  refine wp78 _ _ _ _ (by simp) ?_
  unfold s78
  simp only [↓aD, ↓aE, ↓aF, ↓aG, ↓aH, ↓aI, ↓aJ, ↓aK, aL, ↓aM, ↓aN, aO, stepA, opA, convA, isCall, put?, ev, aP, aQ, builtinA, callA, argEnv, wantedS, aR, aS, aT, aU, aV, aW, aX, aY, aZ, undef, z_none, bA, bB, bC, bD, bE, bF, bG, bH, bI, bJ, extractOp, bK, bL, bM, bN, Nat.reduceLT, Nat.reduceEqDiff, Nat.reduceAdd, bO, bP, bQ, bR, bS, ↓reduceIte, bT, bU, reduceCtorEq, resA, resOf, bV, bW, bX, bY, bZ, cA, cB, cC, cD, cE, cF, cG, cH, cI, cJ, cK, cL, cM, cN, cO, maxA, minA, cP, cQ, cR, cS, cT, cU, cV, cW, cX, cY, cZ, dA, x_none, lit32, h13]
end Seat
end CI
namespace CI
open Go
namespace Seat
variable {H : Heap} {nx : Nat}
theorem al125 : allocOp cx.T H nx 125 = some (.ptr nx 0, H.put nx (some (.cells [.lit (.pointer none), .lit (.slice none 0 0)] 125 false)), nx + 1) := by kernel_rfl
theorem bld_new (h : ∀ b, nx ≤ b → H.get b = none) : Bld nx (H.put nx (some (.cells [.lit (.pointer none), .lit (.slice none 0 0)] 125 false))) (nx + 1) nx 0 [.lit (.pointer none), .lit (.slice none 0 0)] 125 [] where
  hp := Tr.get_put_same _ _ _
  p0 := Nat.le_refl _
  p1 := by omega
  lies := by kernel_rfl
  self := .inl rfl
  buf := .inl ⟨rfl, rfl⟩
  fr := fun b hb => by rw [Tr.get_put_ne _ _ _ _ (by omega)]; exact h b (by omega)
theorem ix100o {b o n i : Nat} {c : Option Nat} (h : i < n) : indexAddrOp cx.T 100 (.slice b o n c 1) (.lit (.int .i64 i)) = some (.ptr b (o + i)) := by
  unfold indexAddrOp
  simp only [T100, ti100, T9, ti9]
  rw [if_pos ⟨by omega, by omega, trivial⟩]
  simp
theorem ln100 (H : Heap) (b o n : Nat) (c : Option Nat) : lenOp cx.T H 100 (.slice b o n c 1) = some n := by kernel_rfl
theorem sl100f (b n : Nat) (h : 2 ≤ n) : sliceOp cx.P cx.T H 100 (.slice b 0 n (some n) 1) (some (.lit (.int .i64 1))) none none = some (.slice b 1 (n - 1) (some (n - 1)) 1) := by
  unfold sliceOp
  simp only [T100, ti100, T9, ti9]
  have e1 : ∀ k, bnd (some (.lit (.int .i64 1))) k = some 1 := fun _ => rfl
  have e2 : ∀ k, bnd none k = some k := fun _ => rfl
  rw [if_neg (by simp)]
  simp only [e1, e2]
  rw [if_pos ⟨Nat.le_refl _, Nat.le_refl _, by omega, by simp⟩]
  unfold cutTo
  rw [if_neg (by omega)]
theorem sl100g (b n : Nat) (h : 2 ≤ n) : sliceOp cx.P cx.T H 100 (.slice b 0 n none 1) (some (.lit (.int .i64 1))) none none = some (.slice b 1 (n - 1) none 1) := by
  unfold sliceOp
  simp only [T100, ti100, T9, ti9]
  have e1 : bnd (some (.lit (.int .i64 1))) 0 = some 1 := rfl
  have e2 : ∀ k, bnd none k = some k := fun _ => rfl
  rw [if_neg (by simp)]
  simp only [e1, e2]
  rw [if_pos ⟨Nat.le_refl _, by omega⟩, if_pos (by omega)]
section
variable {ws : List (List UInt8)} {QQ : Ex → St → Prop}
def lsum (ws : List (List UInt8)) (k : Nat) : Nat := ((ws.take k).map List.length).sum
theorem lsum_succ {k : Nat} (h : k < ws.length) : lsum ws (k + 1) = lsum ws k + (ws[k]).length := by
  have e : ws.take (k + 1) = ws.take k ++ [ws[k]] := by rw [List.take_add_one, List.getElem?_eq_getElem h]; rfl
  unfold lsum
  rw [e, List.map_append, List.sum_append]
  simp
theorem lsum_le (k : Nat) : lsum ws k ≤ lsum ws ws.length := by
  unfold lsum
  conv => rhs; rw [List.take_length]
  conv => rhs; rw [← List.take_append_drop k ws]
  rw [List.map_append, List.sum_append]
  omega
theorem wds_ld {b i : Nat} (hm : H.get b = some (.cells (ws.map strA) 9 false)) (h : i < ws.length) : loadOp cx.T H 9 (.ptr b i) = some (strA ws[i]) :=
  ld_at (by kernel_rfl) hm (by simp [List.getElem?_map, List.getElem?_eq_getElem h])
structure JS (b : Nat) (k : Option Nat) (ws : List (List UInt8)) (E : Tr AV) : Prop where
  t0 : E.get 0 = some (.slice b 0 ws.length k 1)
  t1 : E.get 1 = some (strA [32])
theorem js_loop {b : Nat} {k : Option Nat} {E : Tr AV} {base : Nat} (hm : H.get b = some (.cells (ws.map strA) 9 false)) (hn : ws.length ≤ 20000000) (hl : lsum ws ws.length ≤ 20000000) (hb : base ≤ 20000000) (h : JS b k ws E)
    (e39 : E.get 39 = some (.slice b 0 ws.length k 1)) (e40 : E.get 40 = some (.lit (.int .i64 ws.length))) (e41 : E.get 41 = some (.lit (.int .i64 ((0 : Nat) : Int)))) (e5 : E.get 5 = some (.lit (.int .i64 base)))
    (hQ : ∀ E', JS b k ws E' → E'.get 5 = some (.lit (.int .i64 ((base + lsum ws ws.length : Nat) : Int))) → QQ (.exit 1) ⟨E', H, nx⟩) : Wp cx 75 (.loop s141_l0) ⟨E, H, nx⟩ QQ := by
  refine Wp_loop (fun n st => ∃ i, n = ws.length - i ∧ i ≤ ws.length ∧ st.H = H ∧ st.nx = nx ∧ JS b k ws st.env ∧ st.env.get 39 = some (.slice b 0 ws.length k 1) ∧ st.env.get 40 = some (.lit (.int .i64 ws.length)) ∧
    st.env.get 41 = some (.lit (.int .i64 i)) ∧ st.env.get 5 = some (.lit (.int .i64 ((base + lsum ws i : Nat) : Int)))) ?_ ws.length _ ⟨0, by omega, by omega, rfl, rfl, h, e39, e40, e41, by simpa [lsum] using e5⟩
  rintro n ⟨E, H1, nx1⟩ ⟨i, hn1, hi, q1, q2, ⟨e0, e1⟩, e39, e40, e41, e5⟩
  simp only at q1 q2 e0 e1 e39 e40 e41 e5; subst q1; subst q2
  refine Wp_of ?_
  unfold s141_l0
  by_cases hlt : i < ws.length
  · have hls := lsum_succ hlt
    have hle := lsum_le (ws := ws) (i + 1)
    have hii : ((i : Int) < (ws.length : Int)) = True := by simp; omega
    have hix : indexAddrOp cx.T 100 (.slice b 0 ws.length k 1) (.lit (.int .i64 (i : Int))) = some (.ptr b i) := ix100 hlt
    have hw1 : IntKind.i64.wrap (9223372036854775807 - ((base + lsum ws i : Nat) : Int)) = 9223372036854775807 - ((base + lsum ws i : Nat) : Int) := wrapI (by constructor <;> omega)
    have hgt : (((ws[i]).length : Int) > 9223372036854775807 - ((base + lsum ws i : Nat) : Int)) = False := by simp; omega
    have hw2 : IntKind.i64.wrap (((base + lsum ws i : Nat) : Int) + ((ws[i]).length : Int)) = ((base + lsum ws (i + 1) : Nat) : Int) := by rw [wrapI (by constructor <;> omega), hls]; omega
    have hw3 := wrapS (i := i) (by omega)
    simp only [↓aD, ↓aE, ↓aF, ↓aG, ↓aH, ↓aI, ↓aJ, ↓aK, aL, ↓aM, ↓aN, aO, stepA, opA, convA, isCall, put?, ev, aP, aQ, builtinA, callA, argEnv, wantedS, aR, aS, aT, aU, aV, aW, aX, aY, aZ, undef, z_none, bA, bB, bC, bD, bE, bF, bG, bH, bI, bJ, extractOp, bK, bL, bM, bN, Nat.reduceLT, Nat.reduceEqDiff, Nat.reduceAdd, bO, bP, bQ, bR, bS, ↓reduceIte, bT, bU, reduceCtorEq, resA, resOf, bV, bW, bX, bY, bZ, cA, cB, cC, cD, cE, cF, cG, cH, cI, cJ, cK, cL, cM, cN, cO, maxA, minA, cP, cQ, cR, cS, cT, cU, cV, cW, cX, cY, cZ, dA, e0, e1, e39, e40, e41, e5, hii, hix, wds_ld hm hlt, str_len, hw1, hgt, hw2, hw3]
    refine ⟨ws.length - (i + 1), by omega, i + 1, rfl, by omega, ?_, rfl, rfl⟩
    constructor <;> simp only [↓aD, ↓aE, ↓aF, ↓aG, ↓aH, ↓aI, ↓aJ, ↓aK, aL, ↓aM, ↓aN, aO, stepA, opA, convA, isCall, put?, ev, aP, aQ, builtinA, callA, argEnv, wantedS, aR, aS, aT, aU, aV, aW, aX, aY, aZ, undef, z_none, bA, bB, bC, bD, bE, bF, bG, bH, bI, bJ, extractOp, bK, bL, bM, bN, Nat.reduceLT, Nat.reduceEqDiff, Nat.reduceAdd, bO, bP, bQ, bR, bS, ↓reduceIte, bT, bU, reduceCtorEq, resA, resOf, bV, bW, bX, bY, bZ, cA, cB, cC, cD, cE, cF, cG, cH, cI, cJ, cK, cL, cM, cN, cO, maxA, minA, cP, cQ, cR, cS, cT, cU, cV, cW, cX, cY, cZ, dA, e0, e1]
  · obtain rfl : i = ws.length := by omega
    have hii : ((ws.length : Int) < (ws.length : Int)) = False := by simp
    simp only [↓aD, ↓aE, ↓aF, ↓aG, ↓aH, ↓aI, ↓aJ, ↓aK, aL, ↓aM, ↓aN, aO, stepA, opA, convA, isCall, put?, ev, aP, aQ, builtinA, callA, argEnv, wantedS, aR, aS, aT, aU, aV, aW, aX, aY, aZ, undef, z_none, bA, bB, bC, bD, bE, bF, bG, bH, bI, bJ, extractOp, bK, bL, bM, bN, Nat.reduceLT, Nat.reduceEqDiff, Nat.reduceAdd, bO, bP, bQ, bR, bS, ↓reduceIte, bT, bU, reduceCtorEq, resA, resOf, bV, bW, bX, bY, bZ, cA, cB, cC, cD, cE, cF, cG, cH, cI, cJ, cK, cL, cM, cN, cO, maxA, minA, cP, cQ, cR, cS, cT, cU, cV, cW, cX, cY, cZ, dA, e0, e1, e39, e40, e41, e5, hii]
    refine hQ _ ?_ ?_
    · constructor <;> simp only [↓aD, ↓aE, ↓aF, ↓aG, ↓aH, ↓aI, ↓aJ, ↓aK, aL, ↓aM, ↓aN, aO, stepA, opA, convA, isCall, put?, ev, aP, aQ, builtinA, callA, argEnv, wantedS, aR, aS, aT, aU, aV, aW, aX, aY, aZ, undef, z_none, bA, bB, bC, bD, bE, bF, bG, bH, bI, bJ, extractOp, bK, bL, bM, bN, Nat.reduceLT, Nat.reduceEqDiff, Nat.reduceAdd, bO, bP, bQ, bR, bS, ↓reduceIte, bT, bU, reduceCtorEq, resA, resOf, bV, bW, bX, bY, bZ, cA, cB, cC, cD, cE, cF, cG, cH, cI, cJ, cK, cL, cM, cN, cO, maxA, minA, cP, cQ, cR, cS, cT, cU, cV, cW, cX, cY, cZ, dA, e0, e1]
    · simp only [↓aD, ↓aE, ↓aF, ↓aG, ↓aH, ↓aI, ↓aJ, ↓aK, aL, ↓aM, ↓aN, aO, stepA, opA, convA, isCall, put?, ev, aP, aQ, builtinA, callA, argEnv, wantedS, aR, aS, aT, aU, aV, aW, aX, aY, aZ, undef, z_none, bA, bB, bC, bD, bE, bF, bG, bH, bI, bJ, extractOp, bK, bL, bM, bN, Nat.reduceLT, Nat.reduceEqDiff, Nat.reduceAdd, bO, bP, bQ, bR, bS, ↓reduceIte, bT, bU, reduceCtorEq, resA, resOf, bV, bW, bX, bY, bZ, cA, cB, cC, cD, cE, cF, cG, cH, cI, cJ, cK, cL, cM, cN, cO, maxA, minA, cP, cQ, cR, cS, cT, cU, cV, cW, cX, cY, cZ, dA, e5]
theorem jw_loop {n0 p b : Nat} {k2 : Option Nat} {cs : List AV} {w : List UInt8} {wt : List (List UInt8)} {E : Tr AV} (hm : H.get b = some (.cells ((w :: wt).map strA) 9 false)) (hbn : b < n0) (hl : (Spl.joi (w :: wt)).length ≤ 20000000) (hwt : wt.length ≤ 20000000)
    (hb : Bld n0 H nx p 0 cs 125 w) (e1 : E.get 1 = some (strA [32])) (e8 : E.get 8 = some (.ptr p 0)) (e63 : E.get 63 = some (.slice b 1 wt.length k2 1)) (e64 : E.get 64 = some (.lit (.int .i64 wt.length)))
    (e65 : E.get 65 = some (.lit (.int .i64 ((0 : Nat) : Int))))
    (hQ : ∀ E' H' nx' cs', E'.get 8 = some (.ptr p 0) → Bld n0 H' nx' p 0 cs' 125 (Spl.joi (w :: wt)) → (∀ c, c < n0 → H'.get c = H.get c) → QQ (.exit 3) ⟨E', H', nx'⟩) : Wp cx 75 (.loop s141_l1) ⟨E, H, nx⟩ QQ := by
  refine Wp_loop (fun n st => ∃ (i : Nat) (cs' : List AV), n = wt.length - i ∧ i ≤ wt.length ∧ Bld n0 st.H st.nx p 0 cs' 125 (w ++ Spl.joiT (wt.take i)) ∧ (∀ c, c < n0 → st.H.get c = H.get c) ∧ st.env.get 1 = some (strA [32]) ∧
    st.env.get 8 = some (.ptr p 0) ∧ st.env.get 63 = some (.slice b 1 wt.length k2 1) ∧ st.env.get 64 = some (.lit (.int .i64 wt.length)) ∧ st.env.get 65 = some (.lit (.int .i64 i))) ?_ wt.length _
    ⟨0, cs, by omega, by omega, by simpa [Spl.joiT] using hb, fun _ _ => rfl, e1, e8, e63, e64, e65⟩
  rintro n ⟨E, H1, nx1⟩ ⟨i, cs', hn1, hi, hb, hold, e1, e8, e63, e64, e65⟩
  simp only at hb hold e1 e8 e63 e64 e65
  have hjl : ∀ k, (w ++ Spl.joiT (wt.take k)).length ≤ 20000000 := by
    intro k
    have h1 : Spl.joiT wt = Spl.joiT (wt.take k) ++ Spl.joiT (wt.drop k) := by rw [← Spl.joiT_app, List.take_append_drop]
    simp only [Spl.joi, h1, List.length_append] at hl
    rw [List.length_append]; omega
  refine Wp_of ?_
  unfold s141_l1
  by_cases hlt : i < wt.length
  · have hii : ((i : Int) < (wt.length : Int)) = True := by simp; omega
    have hix : indexAddrOp cx.T 100 (.slice b 1 wt.length k2 1) (.lit (.int .i64 (i : Int))) = some (.ptr b (1 + i)) := ix100o hlt
    have hm1 : H1.get b = some (.cells ((w :: wt).map strA) 9 false) := (hold b hbn).trans hm
    have hld := wds_ld (ws := w :: wt) (i := 1 + i) hm1 (by simp; omega)
    have hwi : (w :: wt)[1 + i]'(by simp; omega) = wt[i] := by
      have : ∀ (j : Nat) (h : j < (w :: wt).length), j = i + 1 → (w :: wt)[j] = wt[i] := by
        rintro j h rfl; rfl
      exact this _ _ (by omega)
    rw [hwi] at hld
    have hw3 := wrapS (i := i) (by omega)
    have hj1 := hjl i
    have hj2 := hjl (i + 1)
    have hts : wt.take (i + 1) = wt.take i ++ [wt[i]] := by rw [List.take_add_one, List.getElem?_eq_getElem hlt]; rfl
    have hjs : w ++ Spl.joiT (wt.take (i + 1)) = w ++ Spl.joiT (wt.take i) ++ [32] ++ wt[i] := by
      rw [hts, Spl.joiT_app]; simp [Spl.joiT]
    rw [hjs] at hj2
    obtain ⟨H2, nx2, cs2, a1, a2, a3, a4, a5, a6⟩ := ws_cl hb [32] (by simp only [List.length_cons, List.length_nil]; omega)
    obtain ⟨H3, nx3, cs3, b1, b2, b3, b4, b5, b6⟩ := ws_cl a2 wt[i] (by simp only [List.length_append] at hj2 ⊢; omega)
    have ha1 : Cl cx 70 [.ptr p 0, strA [32]] H1 nx1 = some (.tuple [.lit (.int .i64 (1 : Nat)), .lit .nilIface], H2, nx2) := a1
    simp only [↓aD, ↓aE, ↓aF, ↓aG, ↓aH, ↓aI, ↓aJ, ↓aK, aL, ↓aM, ↓aN, aO, stepA, opA, convA, isCall, put?, ev, aP, aQ, builtinA, callA, argEnv, wantedS, aR, aS, aT, aU, aV, aW, aX, aY, aZ, undef, z_none, bA, bB, bC, bD, bE, bF, bG, bH, bI, bJ, extractOp, bK, bL, bM, bN, Nat.reduceLT, Nat.reduceEqDiff, Nat.reduceAdd, bO, bP, bQ, bR, bS, ↓reduceIte, bT, bU, reduceCtorEq, resA, resOf, bV, bW, bX, bY, bZ, cA, cB, cC, cD, cE, cF, cG, cH, cI, cJ, cK, cL, cM, cN, cO, maxA, minA, cP, cQ, cR, cS, cT, cU, cV, cW, cX, cY, cZ, dA, x_none, e1, e8, e63, e64, e65, hii, hix, hld, ha1, b1, hw3]
    refine ⟨wt.length - (i + 1), by omega, i + 1, cs3, rfl, by omega, ?_, fun c hc => ?_, rfl⟩
    · rw [hjs]; exact b2
    · rw [b6 c hc, a6 c hc, hold c hc]
  · obtain rfl : i = wt.length := by omega
    have hii : ((wt.length : Int) < (wt.length : Int)) = False := by simp
    simp only [↓aD, ↓aE, ↓aF, ↓aG, ↓aH, ↓aI, ↓aJ, ↓aK, aL, ↓aM, ↓aN, aO, stepA, opA, convA, isCall, put?, ev, aP, aQ, builtinA, callA, argEnv, wantedS, aR, aS, aT, aU, aV, aW, aX, aY, aZ, undef, z_none, bA, bB, bC, bD, bE, bF, bG, bH, bI, bJ, extractOp, bK, bL, bM, bN, Nat.reduceLT, Nat.reduceEqDiff, Nat.reduceAdd, bO, bP, bQ, bR, bS, ↓reduceIte, bT, bU, reduceCtorEq, resA, resOf, bV, bW, bX, bY, bZ, cA, cB, cC, cD, cE, cF, cG, cH, cI, cJ, cK, cL, cM, cN, cO, maxA, minA, cP, cQ, cR, cS, cT, cU, cV, cW, cX, cY, cZ, dA, e1, e8, e63, e64, e65, hii]
    refine hQ _ _ _ cs' ?_ ?_ hold
    · simp only [↓aD, ↓aE, ↓aF, ↓aG, ↓aH, ↓aI, ↓aJ, ↓aK, aL, ↓aM, ↓aN, aO, stepA, opA, convA, isCall, put?, ev, aP, aQ, builtinA, callA, argEnv, wantedS, aR, aS, aT, aU, aV, aW, aX, aY, aZ, undef, z_none, bA, bB, bC, bD, bE, bF, bG, bH, bI, bJ, extractOp, bK, bL, bM, bN, Nat.reduceLT, Nat.reduceEqDiff, Nat.reduceAdd, bO, bP, bQ, bR, bS, ↓reduceIte, bT, bU, reduceCtorEq, resA, resOf, bV, bW, bX, bY, bZ, cA, cB, cC, cD, cE, cF, cG, cH, cI, cJ, cK, cL, cM, cN, cO, maxA, minA, cP, cQ, cR, cS, cT, cU, cV, cW, cX, cY, cZ, dA, e8]
    · rw [List.take_length] at hb; exact hb
end
theorem join_cl {b : Nat} {k : Option Nat} {w : List UInt8} {wt : List (List UInt8)} (hm : H.get b = some (.cells ((w :: wt).map strA) 9 false)) (hb : b < nx) (hfr : ∀ c, nx ≤ c → H.get c = none) (hwt : wt.length ≤ 19999999) (hk : k = none ∨ k = some (wt.length + 1)) (hl : (Spl.joi (w :: wt)).length ≤ 20000000) :
    ∃ v H' nx', Cl cx 141 [.slice b 0 (wt.length + 1) k 1, strA [32]] H nx = some (v, H', nx') ∧ v = strA (Spl.joi (w :: wt)) ∧ Fr H nx H' nx' := by
  refine wpP141 _ _ _ _ (by simp) ?_
  unfold s141
  have e0 : (((wt.length + 1 : Nat) : Int) = 0) = False := by simp; omega
  have hix0 : indexAddrOp cx.T 100 (.slice b 0 (wt.length + 1) k 1) (.lit (.int .i64 0)) = some (.ptr b 0) := by
    have := ix100 (b := b) (n := wt.length + 1) (i := 0) (c := k) (by omega)
    exact this
  have hld0 : loadOp cx.T H 9 (.ptr b 0) = some (strA w) := wds_ld (ws := w :: wt) (i := 0) hm (by simp)
  by_cases h1 : wt = []
  · subst h1
    have e1 : (((([] : List (List UInt8)).length + 1 : Nat) : Int) = 1) = True := by simp
    have hld0' := hld0
    simp only [↓aD, ↓aE, ↓aF, ↓aG, ↓aH, ↓aI, ↓aJ, ↓aK, aL, ↓aM, ↓aN, aO, stepA, opA, convA, isCall, put?, ev, aP, aQ, builtinA, callA, argEnv, wantedS, aR, aS, aT, aU, aV, aW, aX, aY, aZ, undef, z_none, bA, bB, bC, bD, bE, bF, bG, bH, bI, bJ, extractOp, bK, bL, bM, bN, Nat.reduceLT, Nat.reduceEqDiff, Nat.reduceAdd, bO, bP, bQ, bR, bS, ↓reduceIte, bT, bU, reduceCtorEq, resA, resOf, bV, bW, bX, bY, bZ, cA, cB, cC, cD, cE, cF, cG, cH, cI, cJ, cK, cL, cM, cN, cO, maxA, minA, cP, cQ, cR, cS, cT, cU, cV, cW, cX, cY, cZ, dA, ln100, e0, e1, hix0, hld0]
    exact ⟨by simp [Spl.joi, Spl.joiT], Fr.refl hfr⟩
  · have hpos : 1 ≤ wt.length := List.length_pos_iff.2 h1
    have e1 : (((wt.length + 1 : Nat) : Int) = 1) = False := by simp; omega
    have e2 : (((1 : Nat) : Int) > 0) = True := by simp
    have hw1 : IntKind.i64.wrap (((wt.length + 1 : Nat) : Int) - 1) = (wt.length : Int) := wrapP (by omega)
    have hq : binOpA cx.P cx.T .quo 3 (.const (.int .i64 9223372036854775807)) (.tmp 27) (.lit (.int .i64 9223372036854775807)) (.lit (.int .i64 (wt.length : Int))) = some (.lit (.int .i64 (9223372036854775807 / (wt.length : Int)))) := by
      have hd : (9223372036854775807 : Int) / (wt.length : Int) ≤ 9223372036854775807 := Int.ediv_le_self _ (by omega)
      have hd0 : 0 ≤ (9223372036854775807 : Int) / (wt.length : Int) := Int.ediv_nonneg (by omega) (by omega)
      rw [bin_quo _ _ _ _ _ _ _ _ (by omega), Int.tdiv_eq_ediv_of_nonneg (by omega), wrapI (by constructor <;> omega)]
    have hge : ((((1 : Nat) : Int)) ≥ 9223372036854775807 / (wt.length : Int)) = False := by
      simp only [eq_iff_iff, iff_false, ge_iff_le, Int.not_le]
      have : (2 : Int) ≤ 9223372036854775807 / (wt.length : Int) := (Int.le_ediv_iff_mul_le (by omega)).2 (by omega)
      omega
    have hw2 : IntKind.i64.wrap (((1 : Nat) : Int) * (wt.length : Int)) = (wt.length : Int) := by rw [wrapI (by constructor <;> omega)]; omega
    have hw3 : IntKind.i64.wrap (0 + (wt.length : Int)) = (wt.length : Int) := by rw [wrapI (by constructor <;> omega)]; omega
    have hjl := Spl.joi_len (w :: wt)
    have hls : lsum (w :: wt) (w :: wt).length = ((w :: wt).map List.length).sum := by unfold lsum; rw [List.take_length]
    simp only [↓aD, ↓aE, ↓aF, ↓aG, ↓aH, ↓aI, ↓aJ, ↓aK, aL, ↓aM, ↓aN, aO, stepA, opA, convA, isCall, put?, ev, aP, aQ, builtinA, callA, argEnv, wantedS, aR, aS, aT, aU, aV, aW, aX, aY, aZ, undef, z_none, bA, bB, bC, bD, bE, bF, bG, bH, bI, bJ, extractOp, bK, bL, bM, bN, Nat.reduceLT, Nat.reduceEqDiff, Nat.reduceAdd, bO, bP, bQ, bR, bS, ↓reduceIte, bT, bU, reduceCtorEq, resA, resOf, bV, bW, bX, bY, bZ, cA, cB, cC, cD, cE, cF, cG, cH, cI, cJ, cK, cL, cM, cN, cO, maxA, minA, cP, cQ, cR, cS, cT, cU, cV, cW, cX, cY, cZ, dA, ln100, sep_len 32, e0, e1, e2, hw1, hq, hge, hw2, hw3]
    have hsum : wt.length + lsum (w :: wt) (w :: wt).length = (Spl.joi (w :: wt)).length := by rw [hls, hjl]; simp only [List.length_cons]; omega
    refine js_loop (k := k) (ws := w :: wt) (base := wt.length) hm (by simp only [List.length_cons]; omega) (by omega) (by omega) ?_ ?_ ?_ ?_ ?_ ?_
    · constructor <;> simp only [↓aD, ↓aE, ↓aF, ↓aG, ↓aH, ↓aI, ↓aJ, ↓aK, aL, ↓aM, ↓aN, aO, stepA, opA, convA, isCall, put?, ev, aP, aQ, builtinA, callA, argEnv, wantedS, aR, aS, aT, aU, aV, aW, aX, aY, aZ, undef, z_none, bA, bB, bC, bD, bE, bF, bG, bH, bI, bJ, extractOp, bK, bL, bM, bN, Nat.reduceLT, Nat.reduceEqDiff, Nat.reduceAdd, bO, bP, bQ, bR, bS, ↓reduceIte, bT, bU, reduceCtorEq, resA, resOf, bV, bW, bX, bY, bZ, cA, cB, cC, cD, cE, cF, cG, cH, cI, cJ, cK, cL, cM, cN, cO, maxA, minA, cP, cQ, cR, cS, cT, cU, cV, cW, cX, cY, cZ, dA, List.length_cons]
    · simp only [↓aD, ↓aE, ↓aF, ↓aG, ↓aH, ↓aI, ↓aJ, ↓aK, aL, ↓aM, ↓aN, aO, stepA, opA, convA, isCall, put?, ev, aP, aQ, builtinA, callA, argEnv, wantedS, aR, aS, aT, aU, aV, aW, aX, aY, aZ, undef, z_none, bA, bB, bC, bD, bE, bF, bG, bH, bI, bJ, extractOp, bK, bL, bM, bN, Nat.reduceLT, Nat.reduceEqDiff, Nat.reduceAdd, bO, bP, bQ, bR, bS, ↓reduceIte, bT, bU, reduceCtorEq, resA, resOf, bV, bW, bX, bY, bZ, cA, cB, cC, cD, cE, cF, cG, cH, cI, cJ, cK, cL, cM, cN, cO, maxA, minA, cP, cQ, cR, cS, cT, cU, cV, cW, cX, cY, cZ, dA, List.length_cons]
    · simp only [↓aD, ↓aE, ↓aF, ↓aG, ↓aH, ↓aI, ↓aJ, ↓aK, aL, ↓aM, ↓aN, aO, stepA, opA, convA, isCall, put?, ev, aP, aQ, builtinA, callA, argEnv, wantedS, aR, aS, aT, aU, aV, aW, aX, aY, aZ, undef, z_none, bA, bB, bC, bD, bE, bF, bG, bH, bI, bJ, extractOp, bK, bL, bM, bN, Nat.reduceLT, Nat.reduceEqDiff, Nat.reduceAdd, bO, bP, bQ, bR, bS, ↓reduceIte, bT, bU, reduceCtorEq, resA, resOf, bV, bW, bX, bY, bZ, cA, cB, cC, cD, cE, cF, cG, cH, cI, cJ, cK, cL, cM, cN, cO, maxA, minA, cP, cQ, cR, cS, cT, cU, cV, cW, cX, cY, cZ, dA, List.length_cons]
    · simp only [↓aD, ↓aE, ↓aF, ↓aG, ↓aH, ↓aI, ↓aJ, ↓aK, aL, ↓aM, ↓aN, aO, stepA, opA, convA, isCall, put?, ev, aP, aQ, builtinA, callA, argEnv, wantedS, aR, aS, aT, aU, aV, aW, aX, aY, aZ, undef, z_none, bA, bB, bC, bD, bE, bF, bG, bH, bI, bJ, extractOp, bK, bL, bM, bN, Nat.reduceLT, Nat.reduceEqDiff, Nat.reduceAdd, bO, bP, bQ, bR, bS, ↓reduceIte, bT, bU, reduceCtorEq, resA, resOf, bV, bW, bX, bY, bZ, cA, cB, cC, cD, cE, cF, cG, cH, cI, cJ, cK, cL, cM, cN, cO, maxA, minA, cP, cQ, cR, cS, cT, cU, cV, cW, cX, cY, cZ, dA]; rfl
    · simp only [↓aD, ↓aE, ↓aF, ↓aG, ↓aH, ↓aI, ↓aJ, ↓aK, aL, ↓aM, ↓aN, aO, stepA, opA, convA, isCall, put?, ev, aP, aQ, builtinA, callA, argEnv, wantedS, aR, aS, aT, aU, aV, aW, aX, aY, aZ, undef, z_none, bA, bB, bC, bD, bE, bF, bG, bH, bI, bJ, extractOp, bK, bL, bM, bN, Nat.reduceLT, Nat.reduceEqDiff, Nat.reduceAdd, bO, bP, bQ, bR, bS, ↓reduceIte, bT, bU, reduceCtorEq, resA, resOf, bV, bW, bX, bY, bZ, cA, cB, cC, cD, cE, cF, cG, cH, cI, cJ, cK, cL, cM, cN, cO, maxA, minA, cP, cQ, cR, cS, cT, cU, cV, cW, cX, cY, cZ, dA]
    · rintro E' ⟨e0', e1'⟩ e5
      rw [hsum] at e5
      obtain ⟨H2, nx2, cs2, g1, g2, g3, g4, g5⟩ := Grow_cl (bld_new hfr) rfl (Spl.joi (w :: wt)).length (by omega) (by omega)
      obtain ⟨H3, nx3, cs3, k1, k2, k3, k4, k5, k6⟩ := ws_cl g2 w (by have := hl; simp only [Spl.joi, List.length_append, List.length_nil] at this ⊢; omega)
      have hm2 : H2.get b = some (.cells ((w :: wt).map strA) 9 false) := by
        rw [g5 b hb, Tr.get_put_ne _ _ _ _ (by omega)]; exact hm
      have hm3 : H3.get b = some (.cells ((w :: wt).map strA) 9 false) := by rw [k6 b hb]; exact hm2
      have hld2 : loadOp cx.T H2 9 (.ptr b 0) = some (strA w) := wds_ld (ws := w :: wt) (i := 0) hm2 (by simp)
      obtain ⟨kk, hsl⟩ : ∃ kk, sliceOp cx.P cx.T H3 100 (.slice b 0 (wt.length + 1) k 1) (some (.lit (.int .i64 1))) none none = some (.slice b 1 wt.length kk 1) := by
        rcases hk with rfl | rfl
        · exact ⟨none, sl100g b (wt.length + 1) (by omega)⟩
        · exact ⟨some wt.length, sl100f b (wt.length + 1) (by omega)⟩
      simp only [List.length_cons] at e0'
      simp only [↓aD, ↓aE, ↓aF, ↓aG, ↓aH, ↓aI, ↓aJ, ↓aK, aL, ↓aM, ↓aN, aO, stepA, opA, convA, isCall, put?, ev, aP, aQ, builtinA, callA, argEnv, wantedS, aR, aS, aT, aU, aV, aW, aX, aY, aZ, undef, z_none, bA, bB, bC, bD, bE, bF, bG, bH, bI, bJ, extractOp, bK, bL, bM, bN, Nat.reduceLT, Nat.reduceEqDiff, Nat.reduceAdd, bO, bP, bQ, bR, bS, ↓reduceIte, bT, bU, reduceCtorEq, resA, resOf, bV, bW, bX, bY, bZ, cA, cB, cC, cD, cE, cF, cG, cH, cI, cJ, cK, cL, cM, cN, cO, maxA, minA, cP, cQ, cR, cS, cT, cU, cV, cW, cX, cY, cZ, dA, e0', e1', e5, al125, g1, x_none, hix0, hld2, k1, hsl, ln100]
      refine jw_loop (k2 := kk) (w := w) (wt := wt) (n0 := nx) (p := nx) (b := b) hm3 hb hl (by omega) (by simpa using k2) ?_ ?_ ?_ ?_ ?_ ?_
      · simp only [↓aD, ↓aE, ↓aF, ↓aG, ↓aH, ↓aI, ↓aJ, ↓aK, aL, ↓aM, ↓aN, aO, stepA, opA, convA, isCall, put?, ev, aP, aQ, builtinA, callA, argEnv, wantedS, aR, aS, aT, aU, aV, aW, aX, aY, aZ, undef, z_none, bA, bB, bC, bD, bE, bF, bG, bH, bI, bJ, extractOp, bK, bL, bM, bN, Nat.reduceLT, Nat.reduceEqDiff, Nat.reduceAdd, bO, bP, bQ, bR, bS, ↓reduceIte, bT, bU, reduceCtorEq, resA, resOf, bV, bW, bX, bY, bZ, cA, cB, cC, cD, cE, cF, cG, cH, cI, cJ, cK, cL, cM, cN, cO, maxA, minA, cP, cQ, cR, cS, cT, cU, cV, cW, cX, cY, cZ, dA, e1']
      · simp only [↓aD, ↓aE, ↓aF, ↓aG, ↓aH, ↓aI, ↓aJ, ↓aK, aL, ↓aM, ↓aN, aO, stepA, opA, convA, isCall, put?, ev, aP, aQ, builtinA, callA, argEnv, wantedS, aR, aS, aT, aU, aV, aW, aX, aY, aZ, undef, z_none, bA, bB, bC, bD, bE, bF, bG, bH, bI, bJ, extractOp, bK, bL, bM, bN, Nat.reduceLT, Nat.reduceEqDiff, Nat.reduceAdd, bO, bP, bQ, bR, bS, ↓reduceIte, bT, bU, reduceCtorEq, resA, resOf, bV, bW, bX, bY, bZ, cA, cB, cC, cD, cE, cF, cG, cH, cI, cJ, cK, cL, cM, cN, cO, maxA, minA, cP, cQ, cR, cS, cT, cU, cV, cW, cX, cY, cZ, dA]
      · simp only [↓aD, ↓aE, ↓aF, ↓aG, ↓aH, ↓aI, ↓aJ, ↓aK, aL, ↓aM, ↓aN, aO, stepA, opA, convA, isCall, put?, ev, aP, aQ, builtinA, callA, argEnv, wantedS, aR, aS, aT, aU, aV, aW, aX, aY, aZ, undef, z_none, bA, bB, bC, bD, bE, bF, bG, bH, bI, bJ, extractOp, bK, bL, bM, bN, Nat.reduceLT, Nat.reduceEqDiff, Nat.reduceAdd, bO, bP, bQ, bR, bS, ↓reduceIte, bT, bU, reduceCtorEq, resA, resOf, bV, bW, bX, bY, bZ, cA, cB, cC, cD, cE, cF, cG, cH, cI, cJ, cK, cL, cM, cN, cO, maxA, minA, cP, cQ, cR, cS, cT, cU, cV, cW, cX, cY, cZ, dA]
      · simp only [↓aD, ↓aE, ↓aF, ↓aG, ↓aH, ↓aI, ↓aJ, ↓aK, aL, ↓aM, ↓aN, aO, stepA, opA, convA, isCall, put?, ev, aP, aQ, builtinA, callA, argEnv, wantedS, aR, aS, aT, aU, aV, aW, aX, aY, aZ, undef, z_none, bA, bB, bC, bD, bE, bF, bG, bH, bI, bJ, extractOp, bK, bL, bM, bN, Nat.reduceLT, Nat.reduceEqDiff, Nat.reduceAdd, bO, bP, bQ, bR, bS, ↓reduceIte, bT, bU, reduceCtorEq, resA, resOf, bV, bW, bX, bY, bZ, cA, cB, cC, cD, cE, cF, cG, cH, cI, cJ, cK, cL, cM, cN, cO, maxA, minA, cP, cQ, cR, cS, cT, cU, cV, cW, cX, cY, cZ, dA]
      · simp only [↓aD, ↓aE, ↓aF, ↓aG, ↓aH, ↓aI, ↓aJ, ↓aK, aL, ↓aM, ↓aN, aO, stepA, opA, convA, isCall, put?, ev, aP, aQ, builtinA, callA, argEnv, wantedS, aR, aS, aT, aU, aV, aW, aX, aY, aZ, undef, z_none, bA, bB, bC, bD, bE, bF, bG, bH, bI, bJ, extractOp, bK, bL, bM, bN, Nat.reduceLT, Nat.reduceEqDiff, Nat.reduceAdd, bO, bP, bQ, bR, bS, ↓reduceIte, bT, bU, reduceCtorEq, resA, resOf, bV, bW, bX, bY, bZ, cA, cB, cC, cD, cE, cF, cG, cH, cI, cJ, cK, cL, cM, cN, cO, maxA, minA, cP, cQ, cR, cS, cT, cU, cV, cW, cX, cY, cZ, dA]; rfl
      · intro E2 H4 nx4 cs4 f8 hb4 hold4
        have hne : Spl.joi (w :: wt) ≠ [] := by
          intro hh
          have hz : (Spl.joi (w :: wt)).length = 0 := by rw [hh]; rfl
          omega
        obtain ⟨H5, s1, s2, s3⟩ := bstr_cl hb4 (by omega) (.inl hne)
        simp only [↓aD, ↓aE, ↓aF, ↓aG, ↓aH, ↓aI, ↓aJ, ↓aK, aL, ↓aM, ↓aN, aO, stepA, opA, convA, isCall, put?, ev, aP, aQ, builtinA, callA, argEnv, wantedS, aR, aS, aT, aU, aV, aW, aX, aY, aZ, undef, z_none, bA, bB, bC, bD, bE, bF, bG, bH, bI, bJ, extractOp, bK, bL, bM, bN, Nat.reduceLT, Nat.reduceEqDiff, Nat.reduceAdd, bO, bP, bQ, bR, bS, ↓reduceIte, bT, bU, reduceCtorEq, resA, resOf, bV, bW, bX, bY, bZ, cA, cB, cC, cD, cE, cF, cG, cH, cI, cJ, cK, cL, cM, cN, cO, maxA, minA, cP, cQ, cR, cS, cT, cU, cV, cW, cX, cY, cZ, dA, f8, s1, x_none]
        have hp4 := hb4.p1
        exact ⟨by omega, fun c hc => by rw [s2 c hc, hold4 c hc, k6 c hc, g5 c hc, Tr.get_put_ne _ _ _ _ (by omega)], s3⟩
end Seat
end CI
namespace CI
open Go
namespace Seat
variable {H : Heap} {nx : Nat}
theorem words_cl {b : Nat} {k : Option Nat} {ws : List (List UInt8)} (h0 : ws ≠ []) (hm : H.get b = some (.cells (ws.map strA) 9 false)) (hb : b < nx) (hfr : ∀ c, nx ≤ c → H.get c = none) (hwt : ws.length ≤ 19999999) (hk : k = none ∨ k = some ws.length) (hl : (Spl.joi ws).length ≤ 19999999) :
    ∃ H' nx', Cl cx 71 [.slice b 0 ws.length k 1] H nx = some (strA (Spl.joi ws), H', nx') ∧ Fr H nx H' nx' := by
  cases ws with
  | nil => exact absurd rfl h0
  | cons w wt =>
    obtain ⟨v, H', nx', h1, rfl, hF⟩ := join_cl hm hb hfr (by simp only [List.length_cons] at hwt; omega) (by simpa using hk) (by omega)
    refine ⟨H', nx', ?_, hF⟩
    refine wp71 _ _ _ _ (by simp) ?_
    unfold s71
    simp only [↓aD, ↓aE, ↓aF, ↓aG, ↓aH, ↓aI, ↓aJ, ↓aK, aL, ↓aM, ↓aN, aO, stepA, opA, convA, isCall, put?, ev, aP, aQ, builtinA, callA, argEnv, wantedS, aR, aS, aT, aU, aV, aW, aX, aY, aZ, undef, z_none, bA, bB, bC, bD, bE, bF, bG, bH, bI, bJ, extractOp, bK, bL, bM, bN, Nat.reduceLT, Nat.reduceEqDiff, Nat.reduceAdd, bO, bP, bQ, bR, bS, ↓reduceIte, bT, bU, reduceCtorEq, resA, resOf, bV, bW, bX, bY, bZ, cA, cB, cC, cD, cE, cF, cG, cH, cI, cJ, cK, cL, cM, cN, cO, maxA, minA, cP, cQ, cR, cS, cT, cU, cV, cW, cX, cY, cZ, dA, x_none, lit32, List.length_cons, h1]
end Seat
end CI
namespace CI
open Go
namespace Seat
open Quo
variable {H : Heap} {nx : Nat}
theorem plain_cl (b : UInt8) : Cl cx 142 [byteA b] H nx = some (.lit (.bool (plainN b.toNat)), H, nx) := by
  refine wp142 _ _ _ _ (by simp) ?_
  unfold s142 byteA
  have hp : plainN b.toNat = (decide (((b.toNat : Nat) : Int) > 32) && decide (((b.toNat : Nat) : Int) < 127) && decide (¬ ((b.toNat : Nat) : Int) = 92)) := by
    unfold plainN
    rw [Bool.eq_iff_iff]
    simp only [Bool.and_eq_true, decide_eq_true_eq]
    omega
  rw [hp]
  generalize ((b.toNat : Nat) : Int) = n
  by_cases h1 : n > 32 <;> by_cases h2 : n < 127
  all_goals simp only [↓aD, ↓aE, ↓aF, ↓aG, ↓aH, ↓aI, ↓aJ, ↓aK, aL, ↓aM, ↓aN, aO, stepA, opA, convA, isCall, put?, ev, aP, aQ, builtinA, callA, argEnv, wantedS, aR, aS, aT, aU, aV, aW, aX, aY, aZ, undef, z_none, bA, bB, bC, bD, bE, bF, bG, bH, bI, bJ, extractOp, bK, bL, bM, bN, Nat.reduceLT, Nat.reduceEqDiff, Nat.reduceAdd, bO, bP, bQ, bR, bS, ↓reduceIte, bT, bU, reduceCtorEq, resA, resOf, bV, bW, bX, bY, bZ, cA, cB, cC, cD, cE, cF, cG, cH, cI, cJ, cK, cL, cM, cN, cO, maxA, minA, cP, cQ, cR, cS, cT, cU, cV, cW, cX, cY, cZ, dA, h1, h2, Bool.and_true, Bool.and_false, Bool.true_and, Bool.false_and]
theorem eqB_strA (l : List UInt8) : AV.eqB (strA l) (strA l) = true := eqB_str _
theorem below_strA (n : Nat) (l : List UInt8) : AV.belowB n (strA l) = true := rfl
theorem lit_e : AV.lit (.string (ByteArray.mk #[92, 101])) = strA [92, 101] := rfl
theorem lit_ss : AV.lit (.string (ByteArray.mk #[92, 92])) = strA [92, 92] := rfl
theorem lit_x : AV.lit (.string (ByteArray.mk #[92, 120])) = strA [92, 120] := rfl
theorem lit_nil : AV.lit (.string (ByteArray.mk #[])) = strA [] := rfl
theorem ix_hex (k : IntKind) (i : Nat) (h : i < 16) :
    indexOp cx.P cx.T 9 (.lit (.string (ByteArray.mk #[48, 49, 50, 51, 52, 53, 54, 55, 56, 57, 97, 98, 99, 100, 101, 102]))) (.lit (.int k i)) = some (byteA (hexC i)) := by
  refine str_ix [48, 49, 50, 51, 52, 53, 54, 55, 56, 57, 97, 98, 99, 100, 101, 102] i (hexC i) k ?_
  have : ∀ i : Fin 16, ([48, 49, 50, 51, 52, 53, 54, 55, 56, 57, 97, 98, 99, 100, 101, 102] : List UInt8)[i.val]? = some (hexC i.val) := by decide
  exact this ⟨i, h⟩
theorem bin_shr4 (P : Program) (T : Tr TInfo) (t : TypeId) (x y : Operand) (a : Nat) : binOpA P T .shr t x y (.lit (.int .u8 a)) (.lit (.int .u64 4)) = some (.lit (.int .u8 ((a / 16 : Nat) : Int))) := by
  rw [bin_shr P T t x y .u8 .u64 a 4 (by decide)]
  have : (2 : Int) ^ (min (4 : Int).toNat IntKind.u8.bits) = 16 := by decide
  rw [this]
  congr 3
theorem bin_and15 (P : Program) (T : Tr TInfo) (t : TypeId) (x y : Operand) (a : Nat) : binOpA P T .and t x y (.lit (.int .u8 a)) (.lit (.int .u8 15)) = some (.lit (.int .u8 ((a % 16 : Nat) : Int))) := by
  have : binOpA P T .and t x y (.lit (.int .u8 a)) (.lit (.int .u8 15)) = some (.lit (.int .u8 (IntKind.u8.wrap ((BitVec.ofInt 8 a &&& BitVec.ofInt 8 15).toNat : Int)))) := rfl
  rw [this]
  have e : (BitVec.ofInt 8 15).toNat = 2 ^ 4 - 1 := by decide
  rw [BitVec.toNat_and, e, Nat.and_two_pow_sub_one_eq_mod, BitVec.toNat_ofInt]
  simp only [IntKind.wrap, IntKind.signed, IntKind.bits, Bool.false_and, Bool.false_eq_true, if_false]
  congr 3
  omega
theorem cv_bytes {X : Heap} {n c m : Nat} {k : Option Nat} {l : List UInt8} {t : TypeId} {ro : Bool} (hc : X.get c = some (.cells (l.map byteA) t ro)) (hm : l.length = m) :
    convOp cx.P cx.T X n 81 9 (.slice c 0 m k 1) = some (strA l, X, n) := by
  have e : plain1 cx.P (convert 81 9) (.slice c 0 m k 1) = none := by kernel_rfl
  have hcut : cut (l.map byteA) 0 m = some (l.map byteA) := by
    have : (l.map byteA).take m = l.map byteA := List.take_of_length_le (by simp [hm])
    simp [cut, hm, this]
  unfold convOp
  rw [e]
  simp only [T81, T9, ti81, ti9, T5, ti5, hc, hcut, Option.bind_some, bytesOf_map, Option.map_some, fold_bytes]
  rfl
theorem cv_nil {n c m : Nat} {k : Option Nat} : convOp cx.P cx.T .nil n 81 9 (.slice c 0 m k 1) = none := by kernel_rfl
theorem cu_nil {c m : Nat} {k : Option Nat} : convU cx.P cx.T .nil 81 9 (.slice c 0 m k 1) = none := by kernel_rfl
theorem ro_two (a b : UInt8) : (roAll (H.put nx (some (.cells [byteA a, byteA b] 5 false)))).get nx = some (.cells ([a, b].map byteA) 5 true) := by
  rw [roAll_get, Tr.get_put_same]; rfl
theorem Bld.put {n0 p o : Nat} {cs : List AV} {t : TypeId} {bs : List UInt8} (hb : Bld n0 H nx p o cs t bs) (ob : Option AObj) : Bld n0 (H.put nx ob) (nx + 1) p o cs t bs where
  hp := by rw [Tr.get_put_ne _ _ _ _ (by have := hb.p1; omega)]; exact hb.hp
  p0 := hb.p0
  p1 := by have := hb.p1; omega
  lies := hb.lies
  self := hb.self
  buf := by
    rcases hb.buf with h | ⟨c, h1, h2, h3, h5, h6⟩
    · exact .inl h
    · exact .inr ⟨c, h1, h2, by omega, h5, by rw [Tr.get_put_ne _ _ _ _ (by omega)]; exact h6⟩
  fr := fun b h => by rw [Tr.get_put_ne _ _ _ _ (by omega)]; exact hb.fr b (by omega)
theorem oneW_len (l : List UInt8) : (l.flatMap oneW).length ≤ 4 * l.length := by
  induction l with
  | nil => simp
  | cons b l ih =>
    have := oneW_le b
    simp only [List.flatMap_cons, List.length_append, List.length_cons]
    omega
theorem flat_succ {l : List UInt8} {i : Nat} (h : i < l.length) : (l.take (i + 1)).flatMap oneW = (l.take i).flatMap oneW ++ oneW l[i] := by
  rw [List.take_add_one, List.getElem?_eq_getElem h, List.flatMap_append]
  simp only [Option.toList_some, List.flatMap_cons, List.flatMap_nil, List.append_nil]
theorem write_l0 {n0 p : Nat} {cs : List AV} {s : List UInt8} {E : Tr AV} {QQ : Ex → St → Prop} (hs : s.length ≤ 1000000) (hb : Bld n0 H nx p 0 cs 125 []) (e0 : E.get 0 = some (strA s)) (e3 : E.get 3 = some (.ptr p 0))
    (e9 : E.get 9 = some (.lit (.int .i64 s.length))) (e10 : E.get 10 = some (.lit (.int .i64 0)))
    (hQ : ∀ E' H' nx' cs', E'.get 3 = some (.ptr p 0) → Bld n0 H' nx' p 0 cs' 125 (s.flatMap oneW) → nx ≤ nx' → (∀ c, c < n0 → H'.get c = H.get c) → QQ (.exit 0) ⟨E', H', nx'⟩) :
    Wp cx 37 (.loop s76_l0) ⟨E, H, nx⟩ QQ := by
  refine Wp_loop (fun n st => ∃ (i : Nat) (cs' : List AV), n = s.length - i ∧ i ≤ s.length ∧ Bld n0 st.H st.nx p 0 cs' 125 ((s.take i).flatMap oneW) ∧ nx ≤ st.nx ∧ (∀ c, c < n0 → st.H.get c = H.get c) ∧
    st.env.get 0 = some (strA s) ∧ st.env.get 3 = some (.ptr p 0) ∧ st.env.get 9 = some (.lit (.int .i64 s.length)) ∧ st.env.get 10 = some (.lit (.int .i64 i))) ?_ s.length _ ⟨0, cs, by omega, by omega, by simpa using hb, Nat.le_refl _, fun _ _ => rfl, e0, e3, e9, e10⟩
  rintro n ⟨E, H1, nx1⟩ ⟨i, cs', hn, hi, hb, hnx, hold, e0, e3, e9, e10⟩
  simp only at hb hnx hold e0 e3 e9 e10
  refine Wp_of ?_
  unfold s76_l0
  by_cases hlt : i < s.length
  · have hix := str_ix s i s[i] .i64 (List.getElem?_eq_getElem hlt)
    have hw : IntKind.i64.wrap ((i : Int) + 1) = ((i + 1 : Nat) : Int) := by rw [wrapI (by constructor <;> omega)]; rfl
    have hlen := oneW_len (s.take i)
    have hlen2 : (s.take i).length ≤ s.length := by rw [List.length_take]; omega
    have hfl := flat_succ hlt
    have hbt : s[i].toNat < 256 := s[i].toNat_lt
    by_cases hp : plainN s[i].toNat = true
    · have h1 : oneW s[i] = [s[i]] := by
        unfold oneW oneN
        have := (plainN_ok _ hbt).1 hp
        rw [if_neg this.2.2, if_pos ⟨this.1, this.2.1⟩, UInt8.ofNat_toNat]
      obtain ⟨H2, nx2, cs2, w1, w2, w3, w4, w5, w6⟩ := wb_cl hb (by omega) s[i]
      simp only [↓aD, ↓aE, ↓aF, ↓aG, ↓aH, ↓aI, ↓aJ, ↓aK, aL, ↓aM, ↓aN, aO, stepA, opA, convA, isCall, put?, ev, aP, aQ, builtinA, callA, argEnv, wantedS, aR, aS, aT, aU, aV, aW, aX, aY, aZ, undef, z_none, bA, bB, bC, bD, bE, bF, bG, bH, bI, bJ, extractOp, bK, bL, bM, bN, Nat.reduceLT, Nat.reduceEqDiff, Nat.reduceAdd, bO, bP, bQ, bR, bS, ↓reduceIte, bT, bU, reduceCtorEq, resA, resOf, bV, bW, bX, bY, bZ, cA, cB, cC, cD, cE, cF, cG, cH, cI, cJ, cK, cL, cM, cN, cO, maxA, minA, cP, cQ, cR, cS, cT, cU, cV, cW, cX, cY, cZ, dA, x_none, e0, e3, e9, e10, Int.ofNat_lt, hlt, hix, plain_cl, hp, w1, hw]
      refine ⟨s.length - (i + 1), by omega, i + 1, cs2, rfl, by omega, ?_, by omega, fun c hc => (w6 c hc).trans (hold c hc), rfl⟩
      rw [hfl, h1]; exact w2
    · simp only [Bool.not_eq_true] at hp
      by_cases h92 : s[i].toNat = 92
      · have h1 : oneW s[i] = [92, 92] := by unfold oneW oneN; rw [if_pos h92]
        have hb92 : byteA s[i] = .lit (.int .u8 92) := by unfold byteA; rw [h92]; rfl
        obtain ⟨H2, nx2, cs2, w1, w2, w3, w4, w5, w6⟩ := ws_cl hb [92, 92] (by simp only [List.length_cons, List.length_nil]; omega)
        have hpl := plain_cl (H := H1) (nx := nx1) s[i]
        rw [hp, hb92] at hpl
        rw [hb92] at hix
        simp only [↓aD, ↓aE, ↓aF, ↓aG, ↓aH, ↓aI, ↓aJ, ↓aK, aL, ↓aM, ↓aN, aO, stepA, opA, convA, isCall, put?, ev, aP, aQ, builtinA, callA, argEnv, wantedS, aR, aS, aT, aU, aV, aW, aX, aY, aZ, undef, z_none, bA, bB, bC, bD, bE, bF, bG, bH, bI, bJ, extractOp, bK, bL, bM, bN, Nat.reduceLT, Nat.reduceEqDiff, Nat.reduceAdd, bO, bP, bQ, bR, bS, ↓reduceIte, bT, bU, reduceCtorEq, resA, resOf, bV, bW, bX, bY, bZ, cA, cB, cC, cD, cE, cF, cG, cH, cI, cJ, cK, cL, cM, cN, cO, maxA, minA, cP, cQ, cR, cS, cT, cU, cV, cW, cX, cY, cZ, dA, x_none, e0, e3, e9, e10, Int.ofNat_lt, hlt, hix, hpl, lit_ss, w1, hw]
        refine ⟨s.length - (i + 1), by omega, i + 1, cs2, rfl, by omega, ?_, by omega, fun c hc => (w6 c hc).trans (hold c hc), rfl⟩
        rw [hfl, h1]; exact w2
      · have h1 : oneW s[i] = [92, 120, hexC (s[i].toNat / 16), hexC (s[i].toNat % 16)] := by
          unfold oneW oneN
          rw [if_neg h92, if_neg ?_]
          rintro ⟨h3, h4⟩
          have := (plainN_ok _ hbt).2 ⟨h3, h4, h92⟩
          rw [hp] at this; cases this
        have hb2 := hb.put (some (.cells [byteA (hexC (s[i].toNat / 16)), byteA (hexC (s[i].toNat % 16))] 5 false))
        obtain ⟨H2, nx2, cs2, w1, w2, w3, w4, w5, w6⟩ := ws_cl hb2 [92, 120, hexC (s[i].toNat / 16), hexC (s[i].toNat % 16)] (by simp only [List.length_cons, List.length_nil]; omega)
        have hpl := plain_cl (H := H1) (nx := nx1) s[i]
        rw [hp] at hpl
        have h92' : ¬ ((s[i].toNat : Nat) : Int) = 92 := by omega
        have hst := str_add (.const (.string (ByteArray.mk #[92, 120]))) (.tmp 23) [92, 120] [hexC (s[i].toNat / 16), hexC (s[i].toNat % 16)] (by simp)
        have e23 : binOpA cx.P cx.T .eql 5 (.tmp 32) (.const (.int .u8 92)) (byteA s[i]) (.lit (.int .u8 92)) = some (.lit (.bool false)) := by
          unfold byteA; rw [bin_eql]; simp [h92']
        simp only [↓aD, ↓aE, ↓aF, ↓aG, ↓aH, ↓aI, ↓aJ, ↓aK, aL, ↓aM, ↓aN, aO, stepA, opA, convA, isCall, put?, ev, aP, aQ, builtinA, callA, argEnv, wantedS, aR, aS, aT, aU, aV, aW, aX, aY, aZ, undef, z_none, bA, bB, bC, bD, bE, bF, bG, bH, bI, bJ, extractOp, bK, bL, bM, bN, Nat.reduceLT, Nat.reduceEqDiff, Nat.reduceAdd, bO, bP, bQ, bR, bS, ↓reduceIte, bT, bU, reduceCtorEq, resA, resOf, bV, bW, bX, bY, bZ, cA, cB, cC, cD, cE, cF, cG, cH, cI, cJ, cK, cL, cM, cN, cO, maxA, minA, cP, cQ, cR, cS, cT, cU, cV, cW, cX, cY, cZ, dA, x_none, e0, e3, e9, e10, Int.ofNat_lt, hlt, hix, hpl, e23, hw]
        refine s76_d0_wq ?_
        unfold s76_d0s
        have hb5 : byteA s[i] = .lit (.int .u8 s[i].toNat) := rfl
        have i1 := ix_hex .u8 (s[i].toNat / 16) (by omega)
        have i2 := ix_hex .u8 (s[i].toNat % 16) (by omega)
        have hcv := cv_bytes (n := nx1 + 1) (k := some 2) (ro_two (H := H1) (nx := nx1) (hexC (s[i].toNat / 16)) (hexC (s[i].toNat % 16))) (m := 2) rfl
        have hle : nx1 + 1 ≤ nx2 := w3
        simp only [↓aD, ↓aE, ↓aF, ↓aG, ↓aH, ↓aI, ↓aJ, ↓aK, aL, ↓aM, ↓aN, aO, stepA, opA, convA, isCall, put?, ev, aP, aQ, builtinA, callA, argEnv, wantedS, aR, aS, aT, aU, aV, aW, aX, aY, aZ, undef, z_none, bA, bB, bC, bD, bE, bF, bG, bH, bI, bJ, extractOp, bK, bL, bM, bN, Nat.reduceLT, Nat.reduceEqDiff, Nat.reduceAdd, bO, bP, bQ, bR, bS, ↓reduceIte, bT, bU, reduceCtorEq, resA, resOf, bV, bW, bX, bY, bZ, cA, cB, cC, cD, cE, cF, cG, cH, cI, cJ, cK, cL, cM, cN, cO, maxA, minA, cP, cQ, cR, cS, cT, cU, cV, cW, cX, cY, cZ, dA, ↓dB, ↓dC, txS, dD, dE, dF, dG, dH, dI, dJ, dK, dL, dM, dN, dO, dP, isEff, dQ, dR, dS, dT, dU, dV, AV.belowB, dW, dX, x_none, e0, e3, e9, e10, hw, eqB_strA, below_strA, hb5, bin_shr4, bin_and15, i1, i2, partsA, bs_two, cv_nil, cu_nil, hcv, lit_x, hst, w1, hle]
        refine ⟨s.length - (i + 1), by omega, i + 1, cs2, rfl, by omega, ?_, by omega, fun c hc => ?_, rfl⟩
        · rw [hfl, h1]; exact w2
        · rw [w6 c hc, Tr.get_put_ne _ _ _ _ (by have := hb.p0; have := hb.p1; omega)]; exact hold c hc
  · have hi2 : i = s.length := by omega
    subst hi2
    simp only [↓aD, ↓aE, ↓aF, ↓aG, ↓aH, ↓aI, ↓aJ, ↓aK, aL, ↓aM, ↓aN, aO, stepA, opA, convA, isCall, put?, ev, aP, aQ, builtinA, callA, argEnv, wantedS, aR, aS, aT, aU, aV, aW, aX, aY, aZ, undef, z_none, bA, bB, bC, bD, bE, bF, bG, bH, bI, bJ, extractOp, bK, bL, bM, bN, Nat.reduceLT, Nat.reduceEqDiff, Nat.reduceAdd, bO, bP, bQ, bR, bS, ↓reduceIte, bT, bU, reduceCtorEq, resA, resOf, bV, bW, bX, bY, bZ, cA, cB, cC, cD, cE, cF, cG, cH, cI, cJ, cK, cL, cM, cN, cO, maxA, minA, cP, cQ, cR, cS, cT, cU, cV, cW, cX, cY, cZ, dA, e0, e3, e9, e10, Int.ofNat_lt, Nat.lt_irrefl]
    refine hQ _ _ _ cs' ?_ ?_ hnx hold
    · simp only [↓aD, ↓aE, ↓aF, ↓aG, ↓aH, ↓aI, ↓aJ, ↓aK, aL, ↓aM, ↓aN, aO, stepA, opA, convA, isCall, put?, ev, aP, aQ, builtinA, callA, argEnv, wantedS, aR, aS, aT, aU, aV, aW, aX, aY, aZ, undef, z_none, bA, bB, bC, bD, bE, bF, bG, bH, bI, bJ, extractOp, bK, bL, bM, bN, Nat.reduceLT, Nat.reduceEqDiff, Nat.reduceAdd, bO, bP, bQ, bR, bS, ↓reduceIte, bT, bU, reduceCtorEq, resA, resOf, bV, bW, bX, bY, bZ, cA, cB, cC, cD, cE, cF, cG, cH, cI, cJ, cK, cL, cM, cN, cO, maxA, minA, cP, cQ, cR, cS, cT, cU, cV, cW, cX, cY, cZ, dA, e3]
    · simpa using hb
theorem flat_ne (s : List UInt8) (h : s ≠ []) : s.flatMap oneW ≠ [] := by
  cases s with
  | nil => exact absurd rfl h
  | cons b l =>
    intro hh
    have h1 := oneW_pos b
    have h2 : (oneW b ++ l.flatMap oneW).length = 0 := by rw [← List.flatMap_cons, hh]; rfl
    rw [List.length_append] at h2
    omega
theorem write_cl {s : List UInt8} (hs : s.length ≤ 1000000) (hfr : ∀ b, nx ≤ b → H.get b = none) :
    ∃ v H' nx', Cl cx 76 [strA s] H nx = some (v, H', nx') ∧ v = strA (writeW s) ∧ Fr H nx H' nx' := by
  refine wpP76 _ _ _ _ (by simp) ?_
  unfold s76
  have he := str_eql (.tmp 6) (.const (.string (ByteArray.mk #[]))) s []
  by_cases h0 : s = []
  · subst h0
    simp only [↓aD, ↓aE, ↓aF, ↓aG, ↓aH, ↓aI, ↓aJ, ↓aK, aL, ↓aM, ↓aN, aO, stepA, opA, convA, isCall, put?, ev, aP, aQ, builtinA, callA, argEnv, wantedS, aR, aS, aT, aU, aV, aW, aX, aY, aZ, undef, z_none, bA, bB, bC, bD, bE, bF, bG, bH, bI, bJ, extractOp, bK, bL, bM, bN, Nat.reduceLT, Nat.reduceEqDiff, Nat.reduceAdd, bO, bP, bQ, bR, bS, ↓reduceIte, bT, bU, reduceCtorEq, resA, resOf, bV, bW, bX, bY, bZ, cA, cB, cC, cD, cE, cF, cG, cH, cI, cJ, cK, cL, cM, cN, cO, maxA, minA, cP, cQ, cR, cS, cT, cU, cV, cW, cX, cY, cZ, dA, lit_nil, he, lit_e]
    exact ⟨rfl, Fr.refl hfr⟩
  · simp only [↓aD, ↓aE, ↓aF, ↓aG, ↓aH, ↓aI, ↓aJ, ↓aK, aL, ↓aM, ↓aN, aO, stepA, opA, convA, isCall, put?, ev, aP, aQ, builtinA, callA, argEnv, wantedS, aR, aS, aT, aU, aV, aW, aX, aY, aZ, undef, z_none, bA, bB, bC, bD, bE, bF, bG, bH, bI, bJ, extractOp, bK, bL, bM, bN, Nat.reduceLT, Nat.reduceEqDiff, Nat.reduceAdd, bO, bP, bQ, bR, bS, ↓reduceIte, bT, bU, reduceCtorEq, resA, resOf, bV, bW, bX, bY, bZ, cA, cB, cC, cD, cE, cF, cG, cH, cI, cJ, cK, cL, cM, cN, cO, maxA, minA, cP, cQ, cR, cS, cT, cU, cV, cW, cX, cY, cZ, dA, lit_nil, he, h0, al125, str_len]
    refine write_l0 hs (bld_new hfr) ?_ ?_ ?_ ?_ fun E' H' nx' cs' e3 hb hnx hold => ?_
    · simp only [↓aD, ↓aE, ↓aF, ↓aG, ↓aH, ↓aI, ↓aJ, ↓aK, aL, ↓aM, ↓aN, aO, stepA, opA, convA, isCall, put?, ev, aP, aQ, builtinA, callA, argEnv, wantedS, aR, aS, aT, aU, aV, aW, aX, aY, aZ, undef, z_none, bA, bB, bC, bD, bE, bF, bG, bH, bI, bJ, extractOp, bK, bL, bM, bN, Nat.reduceLT, Nat.reduceEqDiff, Nat.reduceAdd, bO, bP, bQ, bR, bS, ↓reduceIte, bT, bU, reduceCtorEq, resA, resOf, bV, bW, bX, bY, bZ, cA, cB, cC, cD, cE, cF, cG, cH, cI, cJ, cK, cL, cM, cN, cO, maxA, minA, cP, cQ, cR, cS, cT, cU, cV, cW, cX, cY, cZ, dA]
    · simp only [↓aD, ↓aE, ↓aF, ↓aG, ↓aH, ↓aI, ↓aJ, ↓aK, aL, ↓aM, ↓aN, aO, stepA, opA, convA, isCall, put?, ev, aP, aQ, builtinA, callA, argEnv, wantedS, aR, aS, aT, aU, aV, aW, aX, aY, aZ, undef, z_none, bA, bB, bC, bD, bE, bF, bG, bH, bI, bJ, extractOp, bK, bL, bM, bN, Nat.reduceLT, Nat.reduceEqDiff, Nat.reduceAdd, bO, bP, bQ, bR, bS, ↓reduceIte, bT, bU, reduceCtorEq, resA, resOf, bV, bW, bX, bY, bZ, cA, cB, cC, cD, cE, cF, cG, cH, cI, cJ, cK, cL, cM, cN, cO, maxA, minA, cP, cQ, cR, cS, cT, cU, cV, cW, cX, cY, cZ, dA]
    · simp only [↓aD, ↓aE, ↓aF, ↓aG, ↓aH, ↓aI, ↓aJ, ↓aK, aL, ↓aM, ↓aN, aO, stepA, opA, convA, isCall, put?, ev, aP, aQ, builtinA, callA, argEnv, wantedS, aR, aS, aT, aU, aV, aW, aX, aY, aZ, undef, z_none, bA, bB, bC, bD, bE, bF, bG, bH, bI, bJ, extractOp, bK, bL, bM, bN, Nat.reduceLT, Nat.reduceEqDiff, Nat.reduceAdd, bO, bP, bQ, bR, bS, ↓reduceIte, bT, bU, reduceCtorEq, resA, resOf, bV, bW, bX, bY, bZ, cA, cB, cC, cD, cE, cF, cG, cH, cI, cJ, cK, cL, cM, cN, cO, maxA, minA, cP, cQ, cR, cS, cT, cU, cV, cW, cX, cY, cZ, dA]
    · simp only [↓aD, ↓aE, ↓aF, ↓aG, ↓aH, ↓aI, ↓aJ, ↓aK, aL, ↓aM, ↓aN, aO, stepA, opA, convA, isCall, put?, ev, aP, aQ, builtinA, callA, argEnv, wantedS, aR, aS, aT, aU, aV, aW, aX, aY, aZ, undef, z_none, bA, bB, bC, bD, bE, bF, bG, bH, bI, bJ, extractOp, bK, bL, bM, bN, Nat.reduceLT, Nat.reduceEqDiff, Nat.reduceAdd, bO, bP, bQ, bR, bS, ↓reduceIte, bT, bU, reduceCtorEq, resA, resOf, bV, bW, bX, bY, bZ, cA, cB, cC, cD, cE, cF, cG, cH, cI, cJ, cK, cL, cM, cN, cO, maxA, minA, cP, cQ, cR, cS, cT, cU, cV, cW, cX, cY, cZ, dA]
    · have hl := oneW_len s
      obtain ⟨H2, k1, k2, k3⟩ := bstr_cl hb (by omega) (.inl (by intro hh; have := flat_ne s h0; exact this hh))
      simp only [↓aD, ↓aE, ↓aF, ↓aG, ↓aH, ↓aI, ↓aJ, ↓aK, aL, ↓aM, ↓aN, aO, stepA, opA, convA, isCall, put?, ev, aP, aQ, builtinA, callA, argEnv, wantedS, aR, aS, aT, aU, aV, aW, aX, aY, aZ, undef, z_none, bA, bB, bC, bD, bE, bF, bG, bH, bI, bJ, extractOp, bK, bL, bM, bN, Nat.reduceLT, Nat.reduceEqDiff, Nat.reduceAdd, bO, bP, bQ, bR, bS, ↓reduceIte, bT, bU, reduceCtorEq, resA, resOf, bV, bW, bX, bY, bZ, cA, cB, cC, cD, cE, cF, cG, cH, cI, cJ, cK, cL, cM, cN, cO, maxA, minA, cP, cQ, cR, cS, cT, cU, cV, cW, cX, cY, cZ, dA, x_none, e3, k1]
      refine ⟨?_, by omega, fun c hc => ?_, k3⟩
      · unfold writeW; rw [if_neg h0]
      · rw [k2 c hc, hold c hc, Tr.get_put_ne _ _ _ _ (by omega)]
theorem cv_3_5 (n : Nat) (h : n < 256) : convOp cx.P cx.T H nx 3 5 (.lit (.int .i64 n)) = some (byteA (UInt8.ofNat n), H, nx) := by
  have : convOp cx.P cx.T H nx 3 5 (.lit (.int .i64 n)) = some (.lit (.int .u8 (IntKind.u8.wrap n)), H, nx) := by kernel_rfl
  rw [this]
  have e : IntKind.u8.wrap (n : Int) = ((UInt8.ofNat n).toNat : Int) := by
    simp only [IntKind.wrap, IntKind.signed, IntKind.bits, Bool.false_and, Bool.false_eq_true, if_false, UInt8.toNat_ofNat']
    omega
  rw [e]; rfl
theorem cv_5_3 (b : UInt8) : convOp cx.P cx.T H nx 5 3 (byteA b) = some (.lit (.int .i64 b.toNat), H, nx) := by
  have : convOp cx.P cx.T H nx 5 3 (byteA b) = some (.lit (.int .i64 (IntKind.i64.wrap b.toNat)), H, nx) := by kernel_rfl
  rw [this, wrapI]
  have : b.toNat < 256 := b.toNat_lt
  constructor <;> omega
theorem one_cl {n : Nat} (hn : n < 256) (hfr : ∀ b, nx ≤ b → H.get b = none) :
    ∃ v H' nx', Cl cx 90 [.lit (.int .i64 n)] H nx = some (v, H', nx') ∧ v = strA (oneN n) ∧ Fr H nx H' nx' := by
  refine wpP90 _ _ _ _ (by simp) ?_
  unfold s90
  unfold oneN
  by_cases h92 : n = 92
  · subst h92
    have : (((92 : Nat) : Int) = 92) = True := by simp
    simp only [↓aD, ↓aE, ↓aF, ↓aG, ↓aH, ↓aI, ↓aJ, ↓aK, aL, ↓aM, ↓aN, aO, stepA, opA, convA, isCall, put?, ev, aP, aQ, builtinA, callA, argEnv, wantedS, aR, aS, aT, aU, aV, aW, aX, aY, aZ, undef, z_none, bA, bB, bC, bD, bE, bF, bG, bH, bI, bJ, extractOp, bK, bL, bM, bN, Nat.reduceLT, Nat.reduceEqDiff, Nat.reduceAdd, bO, bP, bQ, bR, bS, ↓reduceIte, bT, bU, reduceCtorEq, resA, resOf, bV, bW, bX, bY, bZ, cA, cB, cC, cD, cE, cF, cG, cH, cI, cJ, cK, cL, cM, cN, cO, maxA, minA, cP, cQ, cR, cS, cT, cU, cV, cW, cX, cY, cZ, dA, this, lit_ss]
    exact Fr.refl hfr
  · have e1 : (((n : Nat) : Int) = 92) = False := by simp; omega
    by_cases h1 : 32 < n ∧ n < 127
    · have e2 : (((n : Nat) : Int) > 32) = True := by simp; omega
      have e3 : (((n : Nat) : Int) < 127) = True := by simp; omega
      have hcv := cv_bytes (X := H.put nx (some (.cells [byteA (UInt8.ofNat n)] 5 false))) (n := nx + 1) (k := some 1) (l := [UInt8.ofNat n]) (t := 5) (ro := false) (Tr.get_put_same _ _ _) (m := 1) rfl
      simp only [↓aD, ↓aE, ↓aF, ↓aG, ↓aH, ↓aI, ↓aJ, ↓aK, aL, ↓aM, ↓aN, aO, stepA, opA, convA, isCall, put?, ev, aP, aQ, builtinA, callA, argEnv, wantedS, aR, aS, aT, aU, aV, aW, aX, aY, aZ, undef, z_none, bA, bB, bC, bD, bE, bF, bG, bH, bI, bJ, extractOp, bK, bL, bM, bN, Nat.reduceLT, Nat.reduceEqDiff, Nat.reduceAdd, bO, bP, bQ, bR, bS, ↓reduceIte, bT, bU, reduceCtorEq, resA, resOf, bV, bW, bX, bY, bZ, cA, cB, cC, cD, cE, cF, cG, cH, cI, cJ, cK, cL, cM, cN, cO, maxA, minA, cP, cQ, cR, cS, cT, cU, cV, cW, cX, cY, cZ, dA, e1, e2, e3, cv_3_5 n hn, partsA, bs_one, hcv]
      rw [if_neg h92, if_pos h1]
      exact ⟨rfl, Fr.put hfr _⟩
    · rw [if_neg h92, if_neg h1]
      have i1 := ix_hex .i64 (n / 16) (by omega)
      have i2 := ix_hex .i64 (n % 16) (by omega)
      have q1 : binOpA cx.P cx.T .quo 3 (.tmp 17) (.const (.int .i64 16)) (.lit (.int .i64 n)) (.lit (.int .i64 16)) = some (.lit (.int .i64 ((n / 16 : Nat) : Int))) := by
        rw [bin_quo _ _ _ _ _ _ _ _ (by decide), Int.tdiv_eq_ediv_of_nonneg (by omega), wrapI]
        · rfl
        · constructor <;> omega
      have q2 : binOpA cx.P cx.T .rem 3 (.tmp 20) (.const (.int .i64 16)) (.lit (.int .i64 n)) (.lit (.int .i64 16)) = some (.lit (.int .i64 ((n % 16 : Nat) : Int))) := by
        rw [bin_rem _ _ _ _ _ _ _ _ (by decide), Int.tmod_eq_emod_of_nonneg (by omega)]
        rfl
      have hcv := cv_bytes (n := nx + 1) (k := some 2) (ro_two (H := H) (nx := nx) (hexC (n / 16)) (hexC (n % 16))) (m := 2) rfl
      have hst := str_add (.const (.string (ByteArray.mk #[92, 120]))) (.tmp 24) [92, 120] [hexC (n / 16), hexC (n % 16)] (by simp)
      by_cases e2 : ((n : Nat) : Int) > 32
      · have e3 : (((n : Nat) : Int) < 127) = False := by simp; omega
        simp only [↓aD, ↓aE, ↓aF, ↓aG, ↓aH, ↓aI, ↓aJ, ↓aK, aL, ↓aM, ↓aN, aO, stepA, opA, convA, isCall, put?, ev, aP, aQ, builtinA, callA, argEnv, wantedS, aR, aS, aT, aU, aV, aW, aX, aY, aZ, undef, z_none, bA, bB, bC, bD, bE, bF, bG, bH, bI, bJ, extractOp, bK, bL, bM, bN, Nat.reduceLT, Nat.reduceEqDiff, Nat.reduceAdd, bO, bP, bQ, bR, bS, ↓reduceIte, bT, bU, reduceCtorEq, resA, resOf, bV, bW, bX, bY, bZ, cA, cB, cC, cD, cE, cF, cG, cH, cI, cJ, cK, cL, cM, cN, cO, maxA, minA, cP, cQ, cR, cS, cT, cU, cV, cW, cX, cY, cZ, dA, e1, e2, e3]
        refine s90_d0_wq ?_
        unfold s90_d0s
        simp only [↓aD, ↓aE, ↓aF, ↓aG, ↓aH, ↓aI, ↓aJ, ↓aK, aL, ↓aM, ↓aN, aO, stepA, opA, convA, isCall, put?, ev, aP, aQ, builtinA, callA, argEnv, wantedS, aR, aS, aT, aU, aV, aW, aX, aY, aZ, undef, z_none, bA, bB, bC, bD, bE, bF, bG, bH, bI, bJ, extractOp, bK, bL, bM, bN, Nat.reduceLT, Nat.reduceEqDiff, Nat.reduceAdd, bO, bP, bQ, bR, bS, ↓reduceIte, bT, bU, reduceCtorEq, resA, resOf, bV, bW, bX, bY, bZ, cA, cB, cC, cD, cE, cF, cG, cH, cI, cJ, cK, cL, cM, cN, cO, maxA, minA, cP, cQ, cR, cS, cT, cU, cV, cW, cX, cY, cZ, dA, ↓dB, ↓dC, txS, dD, dE, dF, dG, dH, dI, dJ, dK, dL, dM, dN, dO, dP, isEff, dQ, dR, dS, dT, dU, dV, AV.belowB, dW, dX, q1, q2, i1, i2, partsA, bs_two, cv_nil, cu_nil, hcv, lit_x, hst, eqB_strA, below_strA]
        exact Fr.put hfr _
      · simp only [↓aD, ↓aE, ↓aF, ↓aG, ↓aH, ↓aI, ↓aJ, ↓aK, aL, ↓aM, ↓aN, aO, stepA, opA, convA, isCall, put?, ev, aP, aQ, builtinA, callA, argEnv, wantedS, aR, aS, aT, aU, aV, aW, aX, aY, aZ, undef, z_none, bA, bB, bC, bD, bE, bF, bG, bH, bI, bJ, extractOp, bK, bL, bM, bN, Nat.reduceLT, Nat.reduceEqDiff, Nat.reduceAdd, bO, bP, bQ, bR, bS, ↓reduceIte, bT, bU, reduceCtorEq, resA, resOf, bV, bW, bX, bY, bZ, cA, cB, cC, cD, cE, cF, cG, cH, cI, cJ, cK, cL, cM, cN, cO, maxA, minA, cP, cQ, cR, cS, cT, cU, cV, cW, cX, cY, cZ, dA, e1, e2]
        refine s90_d0_wq ?_
        unfold s90_d0s
        simp only [↓aD, ↓aE, ↓aF, ↓aG, ↓aH, ↓aI, ↓aJ, ↓aK, aL, ↓aM, ↓aN, aO, stepA, opA, convA, isCall, put?, ev, aP, aQ, builtinA, callA, argEnv, wantedS, aR, aS, aT, aU, aV, aW, aX, aY, aZ, undef, z_none, bA, bB, bC, bD, bE, bF, bG, bH, bI, bJ, extractOp, bK, bL, bM, bN, Nat.reduceLT, Nat.reduceEqDiff, Nat.reduceAdd, bO, bP, bQ, bR, bS, ↓reduceIte, bT, bU, reduceCtorEq, resA, resOf, bV, bW, bX, bY, bZ, cA, cB, cC, cD, cE, cF, cG, cH, cI, cJ, cK, cL, cM, cN, cO, maxA, minA, cP, cQ, cR, cS, cT, cU, cV, cW, cX, cY, cZ, dA, ↓dB, ↓dC, txS, dD, dE, dF, dG, dH, dI, dJ, dK, dL, dM, dN, dO, dP, isEff, dQ, dR, dS, dT, dU, dV, AV.belowB, dW, dX, q1, q2, i1, i2, partsA, bs_two, cv_nil, cu_nil, hcv, lit_x, hst, eqB_strA, below_strA]
        exact Fr.put hfr _
theorem rwrite_l0 {s : List UInt8} {E : Tr AV} {QQ : Ex → St → Prop} (hs : s.length ≤ 1000000) (hfr : ∀ b, nx ≤ b → H.get b = none) (e0 : E.get 0 = some (strA s)) (e3 : E.get 3 = some (strA [])) (e4 : E.get 4 = some (.lit (.int .i64 0)))
    (hQ : ∀ E' H' nx', E'.get 3 = some (strA (s.flatMap oneW)) → Fr H nx H' nx' → QQ (.exit 0) ⟨E', H', nx'⟩) :
    Wp cx 22 (.loop s45_l0) ⟨E, H, nx⟩ QQ := by
  refine Wp_loop (fun n st => ∃ (i : Nat), n = s.length - i ∧ i ≤ s.length ∧ Fr H nx st.H st.nx ∧
    st.env.get 0 = some (strA s) ∧ st.env.get 3 = some (strA ((s.take i).flatMap oneW)) ∧ st.env.get 4 = some (.lit (.int .i64 i))) ?_ s.length _ ⟨0, by omega, by omega, Fr.refl hfr, e0, by simpa using e3, e4⟩
  rintro n ⟨E, H1, nx1⟩ ⟨i, hn, hi, hF, e0, e3, e4⟩
  simp only at hF e0 e3 e4
  refine Wp_of ?_
  unfold s45_l0
  by_cases hlt : i < s.length
  · have hix := str_ix s i s[i] .i64 (List.getElem?_eq_getElem hlt)
    have hw : IntKind.i64.wrap ((i : Int) + 1) = ((i + 1 : Nat) : Int) := by rw [wrapI (by constructor <;> omega)]; rfl
    have hlen := oneW_len (s.take i)
    have hlen1 := oneW_le s[i]
    have hlen2 : (s.take i).length ≤ s.length := by rw [List.length_take]; omega
    have hfl := flat_succ hlt
    obtain ⟨v, H2, nx2, k1, rfl, k2⟩ := one_cl (n := s[i].toNat) (s[i].toNat_lt) hF.fr
    have hst := str_add (.tmp 14) (.tmp 19) ((s.take i).flatMap oneW) (oneN s[i].toNat) (by
      have : (oneN s[i].toNat).length ≤ 4 := hlen1
      omega)
    simp only [↓aD, ↓aE, ↓aF, ↓aG, ↓aH, ↓aI, ↓aJ, ↓aK, aL, ↓aM, ↓aN, aO, stepA, opA, convA, isCall, put?, ev, aP, aQ, builtinA, callA, argEnv, wantedS, aR, aS, aT, aU, aV, aW, aX, aY, aZ, undef, z_none, bA, bB, bC, bD, bE, bF, bG, bH, bI, bJ, extractOp, bK, bL, bM, bN, Nat.reduceLT, Nat.reduceEqDiff, Nat.reduceAdd, bO, bP, bQ, bR, bS, ↓reduceIte, bT, bU, reduceCtorEq, resA, resOf, bV, bW, bX, bY, bZ, cA, cB, cC, cD, cE, cF, cG, cH, cI, cJ, cK, cL, cM, cN, cO, maxA, minA, cP, cQ, cR, cS, cT, cU, cV, cW, cX, cY, cZ, dA, x_none, e0, e3, e4, str_len, Int.ofNat_lt, hlt, hix, cv_5_3, k1, hst, hw]
    refine ⟨s.length - (i + 1), by omega, i + 1, rfl, by omega, hF.trans k2, ?_, rfl⟩
    rw [hfl]; rfl
  · have hi2 : i = s.length := by omega
    subst hi2
    simp only [↓aD, ↓aE, ↓aF, ↓aG, ↓aH, ↓aI, ↓aJ, ↓aK, aL, ↓aM, ↓aN, aO, stepA, opA, convA, isCall, put?, ev, aP, aQ, builtinA, callA, argEnv, wantedS, aR, aS, aT, aU, aV, aW, aX, aY, aZ, undef, z_none, bA, bB, bC, bD, bE, bF, bG, bH, bI, bJ, extractOp, bK, bL, bM, bN, Nat.reduceLT, Nat.reduceEqDiff, Nat.reduceAdd, bO, bP, bQ, bR, bS, ↓reduceIte, bT, bU, reduceCtorEq, resA, resOf, bV, bW, bX, bY, bZ, cA, cB, cC, cD, cE, cF, cG, cH, cI, cJ, cK, cL, cM, cN, cO, maxA, minA, cP, cQ, cR, cS, cT, cU, cV, cW, cX, cY, cZ, dA, e0, e3, e4, str_len, Int.ofNat_lt, Nat.lt_irrefl]
    refine hQ _ _ _ ?_ hF
    simp only [↓aD, ↓aE, ↓aF, ↓aG, ↓aH, ↓aI, ↓aJ, ↓aK, aL, ↓aM, ↓aN, aO, stepA, opA, convA, isCall, put?, ev, aP, aQ, builtinA, callA, argEnv, wantedS, aR, aS, aT, aU, aV, aW, aX, aY, aZ, undef, z_none, bA, bB, bC, bD, bE, bF, bG, bH, bI, bJ, extractOp, bK, bL, bM, bN, Nat.reduceLT, Nat.reduceEqDiff, Nat.reduceAdd, bO, bP, bQ, bR, bS, ↓reduceIte, bT, bU, reduceCtorEq, resA, resOf, bV, bW, bX, bY, bZ, cA, cB, cC, cD, cE, cF, cG, cH, cI, cJ, cK, cL, cM, cN, cO, maxA, minA, cP, cQ, cR, cS, cT, cU, cV, cW, cX, cY, cZ, dA, e3, List.take_length]
theorem rwrite_cl {s : List UInt8} (hs : s.length ≤ 1000000) (hfr : ∀ b, nx ≤ b → H.get b = none) :
    ∃ v H' nx', Cl cx 45 [strA s] H nx = some (v, H', nx') ∧ v = strA (writeW s) ∧ Fr H nx H' nx' := by
  refine wpP45 _ _ _ _ (by simp) ?_
  unfold s45
  by_cases h0 : s = []
  · subst h0
    have : (((([] : List UInt8).length : Nat) : Int) = 0) = True := by simp
    simp only [↓aD, ↓aE, ↓aF, ↓aG, ↓aH, ↓aI, ↓aJ, ↓aK, aL, ↓aM, ↓aN, aO, stepA, opA, convA, isCall, put?, ev, aP, aQ, builtinA, callA, argEnv, wantedS, aR, aS, aT, aU, aV, aW, aX, aY, aZ, undef, z_none, bA, bB, bC, bD, bE, bF, bG, bH, bI, bJ, extractOp, bK, bL, bM, bN, Nat.reduceLT, Nat.reduceEqDiff, Nat.reduceAdd, bO, bP, bQ, bR, bS, ↓reduceIte, bT, bU, reduceCtorEq, resA, resOf, bV, bW, bX, bY, bZ, cA, cB, cC, cD, cE, cF, cG, cH, cI, cJ, cK, cL, cM, cN, cO, maxA, minA, cP, cQ, cR, cS, cT, cU, cV, cW, cX, cY, cZ, dA, lit_nil, str_len, this, lit_e]
    exact ⟨rfl, Fr.refl hfr⟩
  · have : (((s.length : Nat) : Int) = 0) = False := by simp [h0]
    simp only [↓aD, ↓aE, ↓aF, ↓aG, ↓aH, ↓aI, ↓aJ, ↓aK, aL, ↓aM, ↓aN, aO, stepA, opA, convA, isCall, put?, ev, aP, aQ, builtinA, callA, argEnv, wantedS, aR, aS, aT, aU, aV, aW, aX, aY, aZ, undef, z_none, bA, bB, bC, bD, bE, bF, bG, bH, bI, bJ, extractOp, bK, bL, bM, bN, Nat.reduceLT, Nat.reduceEqDiff, Nat.reduceAdd, bO, bP, bQ, bR, bS, ↓reduceIte, bT, bU, reduceCtorEq, resA, resOf, bV, bW, bX, bY, bZ, cA, cB, cC, cD, cE, cF, cG, cH, cI, cJ, cK, cL, cM, cN, cO, maxA, minA, cP, cQ, cR, cS, cT, cU, cV, cW, cX, cY, cZ, dA, lit_nil, str_len, this]
    refine rwrite_l0 hs hfr ?_ ?_ ?_ fun E' H' nx' e3 hF => ?_
    · simp only [↓aD, ↓aE, ↓aF, ↓aG, ↓aH, ↓aI, ↓aJ, ↓aK, aL, ↓aM, ↓aN, aO, stepA, opA, convA, isCall, put?, ev, aP, aQ, builtinA, callA, argEnv, wantedS, aR, aS, aT, aU, aV, aW, aX, aY, aZ, undef, z_none, bA, bB, bC, bD, bE, bF, bG, bH, bI, bJ, extractOp, bK, bL, bM, bN, Nat.reduceLT, Nat.reduceEqDiff, Nat.reduceAdd, bO, bP, bQ, bR, bS, ↓reduceIte, bT, bU, reduceCtorEq, resA, resOf, bV, bW, bX, bY, bZ, cA, cB, cC, cD, cE, cF, cG, cH, cI, cJ, cK, cL, cM, cN, cO, maxA, minA, cP, cQ, cR, cS, cT, cU, cV, cW, cX, cY, cZ, dA]
    · simp only [↓aD, ↓aE, ↓aF, ↓aG, ↓aH, ↓aI, ↓aJ, ↓aK, aL, ↓aM, ↓aN, aO, stepA, opA, convA, isCall, put?, ev, aP, aQ, builtinA, callA, argEnv, wantedS, aR, aS, aT, aU, aV, aW, aX, aY, aZ, undef, z_none, bA, bB, bC, bD, bE, bF, bG, bH, bI, bJ, extractOp, bK, bL, bM, bN, Nat.reduceLT, Nat.reduceEqDiff, Nat.reduceAdd, bO, bP, bQ, bR, bS, ↓reduceIte, bT, bU, reduceCtorEq, resA, resOf, bV, bW, bX, bY, bZ, cA, cB, cC, cD, cE, cF, cG, cH, cI, cJ, cK, cL, cM, cN, cO, maxA, minA, cP, cQ, cR, cS, cT, cU, cV, cW, cX, cY, cZ, dA]
    · simp only [↓aD, ↓aE, ↓aF, ↓aG, ↓aH, ↓aI, ↓aJ, ↓aK, aL, ↓aM, ↓aN, aO, stepA, opA, convA, isCall, put?, ev, aP, aQ, builtinA, callA, argEnv, wantedS, aR, aS, aT, aU, aV, aW, aX, aY, aZ, undef, z_none, bA, bB, bC, bD, bE, bF, bG, bH, bI, bJ, extractOp, bK, bL, bM, bN, Nat.reduceLT, Nat.reduceEqDiff, Nat.reduceAdd, bO, bP, bQ, bR, bS, ↓reduceIte, bT, bU, reduceCtorEq, resA, resOf, bV, bW, bX, bY, bZ, cA, cB, cC, cD, cE, cF, cG, cH, cI, cJ, cK, cL, cM, cN, cO, maxA, minA, cP, cQ, cR, cS, cT, cU, cV, cW, cX, cY, cZ, dA]
    · simp only [↓aD, ↓aE, ↓aF, ↓aG, ↓aH, ↓aI, ↓aJ, ↓aK, aL, ↓aM, ↓aN, aO, stepA, opA, convA, isCall, put?, ev, aP, aQ, builtinA, callA, argEnv, wantedS, aR, aS, aT, aU, aV, aW, aX, aY, aZ, undef, z_none, bA, bB, bC, bD, bE, bF, bG, bH, bI, bJ, extractOp, bK, bL, bM, bN, Nat.reduceLT, Nat.reduceEqDiff, Nat.reduceAdd, bO, bP, bQ, bR, bS, ↓reduceIte, bT, bU, reduceCtorEq, resA, resOf, bV, bW, bX, bY, bZ, cA, cB, cC, cD, cE, cF, cG, cH, cI, cJ, cK, cL, cM, cN, cO, maxA, minA, cP, cQ, cR, cS, cT, cU, cV, cW, cX, cY, cZ, dA, e3]
      refine ⟨?_, hF⟩
      unfold writeW; rw [if_neg h0]
end Seat
end CI
