/- Merged: Tt Wp Tj Tr. -/
import Derived.Test.YtbdlpeldglggkaaGreatDoorTl
import Derived.Laws.Strings
import Derived.Lib.Bytealg
/- Texts and builders, walked. -/
set_option linter.unusedVariables false
set_option linter.unusedSimpArgs false
set_option maxRecDepth 10000
namespace CI
open Go
namespace Seat
variable {H : Heap} {nx : Nat}

/-! ### texts -/
def B (l : List UInt8) : ByteArray := ⟨l.toArray⟩
def strA (l : List UInt8) : AV := .lit (.string (B l))
def byteA (b : UInt8) : AV := .lit (.int .u8 b.toNat)
theorem B_size (l : List UInt8) : (B l).size = l.length := by simp [B, ByteArray.size]
theorem B_data (l : List UInt8) : (B l).data.toList = l := by simp [B]
theorem B_toList (l : List UInt8) : (B l).toList = l := by
  rw [ByteArray.toList_eq, B_data]
theorem B_append (l m : List UInt8) : B l ++ B m = B (l ++ m) := by
  apply ByteArray.ext
  simp [B, ByteArray.data_append]
theorem B_of (s : ByteArray) : s = B s.data.toList := by
  cases s; simp [B]
theorem B_inj {l m : List UInt8} : B l = B m ↔ l = m := by
  constructor
  · intro h
    have := congrArg (fun s => s.data.toList) h
    simpa [B_data] using this
  · rintro rfl; rfl
section
variable (x y : Operand) (l m : List UInt8)
theorem str_add (h : l.length + m.length ≤ 1000000000) : binOpA cx.P cx.T .add 9 x y (strA l) (strA m) = some (strA (l ++ m)) := by
  have e : plain2 cx.P (fun p q => do eqGuard .add 9 x y p q; binOp .add 9 p q) (strA l) (strA m) = (pureRun cx.P (Op.stringOp .add (B l) (B m))).map abs := rfl
  unfold binOpA
  rw [e]
  simp only [Op.stringOp, B_size]
  rw [if_neg (by
    have e : IntKind.i64.max = 9223372036854775807 := by decide
    rw [e]; omega)]
  rw [B_append]
  rfl
theorem str_eql : binOpA cx.P cx.T .eql 9 x y (strA l) (strA m) = some (.lit (.bool (decide (l = m)))) := by
  have e : plain2 cx.P (fun p q => do eqGuard .eql 9 x y p q; binOp .eql 9 p q) (strA l) (strA m) = (pureRun cx.P (Op.stringOp .eql (B l) (B m))).map abs := rfl
  unfold binOpA
  rw [e]
  simp only [Op.stringOp, B_toList]
  rw [show (l == m) = decide (l = m) from by by_cases h : l = m <;> simp [h]]
  rfl
theorem str_len : lenOp cx.T H 9 (strA l) = some l.length := by
  have : lenOp cx.T H 9 (strA l) = some (B l).size := by kernel_rfl
  rw [this, B_size]
theorem str_ix (i : Nat) (b : UInt8) (k : IntKind) (h : l[i]? = some b) : indexOp cx.P cx.T 9 (strA l) (.lit (.int k i)) = some (byteA b) := by
  have : indexOp cx.P cx.T 9 (strA l) (.lit (.int k i)) = ((B l).data.toList[i]?).map fun c => .lit (.int .u8 c.toNat) := by kernel_rfl
  rw [this, B_data, h]
  rfl
end
/-! ### memory -/
theorem ld_at {t : TypeId} {p o : Nat} {cs : List AV} {tb : TypeId} {ro : Bool} {v : AV} (ht : (cx.T.get t).map (·.agg) = some false) (hp : H.get p = some (.cells cs tb ro)) (hv : cs[o]? = some v) :
    loadOp cx.T H t (.ptr p o) = some v := by
  unfold loadOp
  simp only [Option.map_eq_some_iff] at ht
  obtain ⟨i, h1, h2⟩ := ht
  simp only [h1, hp, h2]
  have hlt : o < cs.length := (List.getElem?_eq_some_iff.1 hv).1
  simp only [cut, if_pos (show o + 1 ≤ cs.length by omega), Option.bind_some, Bool.false_eq_true, if_false]
  rw [List.getElem?_take, if_pos (by omega), List.getElem?_drop]
  simpa using hv
theorem overA_one (cs : List AV) (o : Nat) (v : AV) (h : o < cs.length) : overA cs o [v] = cs.set o v := by
  apply List.ext_getElem?
  intro j
  rw [overA_get _ _ _ (by simp only [List.length_singleton]; omega), List.getElem?_set]
  simp only [List.length_singleton]
  by_cases hj : o = j
  · subst hj
    simp [h]
  · rw [if_neg (by omega), if_neg hj]
theorem st_at {t : TypeId} {p o : Nat} {cs : List AV} {tb : TypeId} {v : AV} (ht : (cx.T.get t).map (·.size) = some 1) (hp : H.get p = some (.cells cs tb false)) (ho : o < cs.length) (hv : cellsOf v = [v]) (h1 : one v = true) :
    storeOp cx.T H t (.ptr p o) v = some (H.put p (some (.cells (cs.set o v) tb false))) := by
  unfold storeOp
  simp only [Option.map_eq_some_iff] at ht
  obtain ⟨i, e1, e2⟩ := ht
  simp only [e1, hp, hv, e2]
  rw [if_pos ⟨by simp, by simp only [List.length_singleton]; omega, by simp [h1]⟩, overA_one _ _ _ ho]

/-! ### builders -/
structure Bld (n0 : Nat) (H : Heap) (nx p o : Nat) (cs : List AV) (t : TypeId) (bs : List UInt8) : Prop where
  hp : H.get p = some (.cells cs t false)
  p0 : n0 ≤ p
  p1 : p < nx
  lies : liesAt cx.P cx.P.depth t (cs.length / cx.P.cellsOf t) o 46 1 = true
  self : cs[o]? = some (.lit (.pointer none)) ∨ cs[o]? = some (.ptr p o)
  buf : (bs = [] ∧ cs[o + 1]? = some (.lit (.slice none 0 0))) ∨ ∃ c, c ≠ p ∧ n0 ≤ c ∧ c < nx ∧ cs[o + 1]? = some (.slice c 0 bs.length none 1) ∧ H.get c = some (.cells (bs.map byteA) 5 false)
  fr : ∀ b, nx ≤ b → H.get b = none
theorem x44 (v : AV) : cx.X 50 [v] = some v := by kernel_rfl
theorem fa47_0 (p o : Nat) : fieldAddrOp cx.T 46 (.ptr p o) 0 = some (.ptr p o) := by kernel_rfl
theorem fa47_1 (p o : Nat) : fieldAddrOp cx.T 46 (.ptr p o) 1 = some (.ptr p (o + 1)) := by kernel_rfl
theorem nc_ptr (p o : Nat) : nilCheckOp (.ptr p o) = some (.ptr p o) := rfl
theorem eql45n (x y : Operand) : binOpA cx.P cx.T .eql 44 x y (.lit (.pointer none)) (.lit (.pointer none)) = some (.lit (.bool true)) := by
  cases x <;> cases y <;> kernel_rfl
theorem eql45p (x y : Operand) (p o : Nat) : binOpA cx.P cx.T .eql 44 x y (.ptr p o) (.lit (.pointer none)) = some (.lit (.bool false)) := by kernel_rfl
theorem neq45 (x y : Operand) (p o : Nat) : binOpA cx.P cx.T .neq 44 x y (.ptr p o) (.ptr p o) = some (.lit (.bool false)) := by
  have e : binOpA cx.P cx.T .neq 44 x y (.ptr p o) (.ptr p o) = (if p = p ∧ (1 : Nat) ≠ 0 ∨ True then (if p = p ∧ (2 : Nat) ≠ 0 then some (decide (o = o)) else none) else none).map fun r => .lit (.bool !r) := by
    rw [if_pos (.inr trivial)]
    kernel_rfl
  rw [e]
  simp
theorem T44 : cx.T.get 44 = some ti44 := by kernel_rfl
theorem T43 : cx.T.get 43 = some ti43 := by kernel_rfl
theorem T46 : cx.T.get 46 = some ti46 := by kernel_rfl
theorem T94 : cx.T.get 94 = some ti94 := by kernel_rfl
theorem T5 : cx.T.get 5 = some ti5 := by kernel_rfl
theorem T9 : cx.T.get 9 = some ti9 := by kernel_rfl
theorem co45 (p o : Nat) : convOp cx.P cx.T H nx 44 94 (.ptr p o) = none := by kernel_rfl
theorem co72 (p o : Nat) : convOp cx.P cx.T H nx 94 44 (.ptr p o) = none := by kernel_rfl
theorem cu45 {p o : Nat} {cs : List AV} {t : TypeId} {ro : Bool} (hp : H.get p = some (.cells cs t ro)) (ho : o < cs.length) : convU cx.P cx.T H 44 94 (.ptr p o) = some (.ptr p o) := by
  unfold convU
  simp only [T44, T94, T46, ti44, ti94, ti46, hp]
  rw [if_pos ⟨by decide, ho⟩]
theorem cu72 {p o : Nat} {cs : List AV} {t : TypeId} {ro : Bool} (hp : H.get p = some (.cells cs t ro)) (hl : liesAt cx.P cx.P.depth t (cs.length / cx.P.cellsOf t) o 46 1 = true) : convU cx.P cx.T H 94 44 (.ptr p o) = some (.ptr p o) := by
  unfold convU
  simp only [T44, T94, T46, ti44, ti94, ti46, hp, hl, if_true]
theorem set_get {cs : List AV} {o j : Nat} {v : AV} (h : j ≠ o) : (cs.set o v)[j]? = cs[j]? := by
  rw [List.getElem?_set, if_neg (fun e => h e.symm)]
/-- copyCheck. -/
theorem cc_cl {n0 p o : Nat} {cs : List AV} {t : TypeId} {bs : List UInt8} (hb : Bld n0 H nx p o cs t bs) :
    ∃ H' cs', Cl cx 30 [.ptr p o] H nx = some (.tuple [], H', nx) ∧ Bld n0 H' nx p o cs' t bs ∧ cs'[o]? = some (.ptr p o) ∧ (∀ j, j ≠ o → cs'[j]? = cs[j]?) ∧ (∀ c, c ≠ p → H'.get c = H.get c) ∧ cs'.length = cs.length := by
  have ho : o < cs.length := by
    rcases hb.self with h | h <;> exact (List.getElem?_eq_some_iff.1 h).1
  rcases hb.self with h | h
  · refine ⟨H.put p (some (.cells (cs.set o (.ptr p o)) t false)), cs.set o (.ptr p o), ?_, ?_, by simp [List.getElem?_set, ho], fun j hj => set_get hj, fun c hc => Tr.get_put_ne _ _ _ _ hc, by simp⟩
    · refine wp30 _ _ _ _ (by simp) ?_
      unfold s30
      simp only [↓wpS_skip, ↓wpS_ops, ↓wpS_seq, ↓wpS_cond, ↓wpS_block, ↓wpS_loop, ↓wpS_exit, ↓wpS_ret, condW_bool, ↓WOps_go, ↓WOps_skip, WOps_nil, stepA, opA, convA, isCall, put?, ev, Tr.get_put, Tr.get_nil, builtinA, callA, argEnv, wantedS, abs_int, abs_bool, abs_string, abs_nilp, abs_nili, abs_nilf, abs_nilm, abs_nils, un_not, undef, z_none, List.zipIdx_cons, List.zipIdx_nil, List.foldl_cons, List.foldl_nil, List.map_cons, List.map_nil, List.map_toArray, List.nil_append, List.cons_append, List.append_nil, extractOp, List.getElem?_cons_zero, List.getElem?_cons_succ,
    Option.map_some, Option.map_none, Nat.reduceLT, Nat.reduceEqDiff, Nat.reduceAdd, Nat.zero_add, if_true, if_false, Option.getD_some, Option.getD_none, ↓reduceIte, Bool.false_eq_true, Bool.true_eq_false, reduceCtorEq, resA, resOf, Option.some.injEq, exists_eq_left', beq_self_eq_true, decide_true, decide_false, decide_eq_true_eq, ne_eq, not_true_eq_false, not_false_eq_true, Bool.not_eq_true, beq_iff_eq, bin_add, bin_sub, bin_mul, bin_eql, bin_neq, bin_lss, bin_leq, bin_gtr, bin_geq, maxA, minA, Prod.mk.injEq, and_true, true_and, beq_eq_false_iff_ne, decide_eq_false_iff_not, Bool.true_beq, Bool.false_beq, beq_true, beq_false, Bool.not_true, Bool.not_false, List.getElem?_toArray, nc_ptr, fa47_0, ld_at (t := 44) (by kernel_rfl) hb.hp h, abs_nilp, eql45n, co45, cu45 hb.hp ho, x44, co72, cu72 hb.hp hb.lies, st_at (t := 44) (v := .ptr p o) (by kernel_rfl) hb.hp ho rfl rfl]
    · exact {
        hp := Tr.get_put_same _ _ _
        p0 := hb.p0
        p1 := hb.p1
        lies := by simpa using hb.lies
        self := .inr (by simp [List.getElem?_set, ho])
        buf := by
          rw [set_get (by omega)]
          rcases hb.buf with h | ⟨c, h1, h2, h3, h5, h6⟩
          · exact .inl h
          · exact .inr ⟨c, h1, h2, h3, h5, by rw [Tr.get_put_ne _ _ _ _ h1]; exact h6⟩
        fr := fun b hb2 => by rw [Tr.get_put_ne _ _ _ _ (by have := hb.p1; omega)]; exact hb.fr b hb2 }
  · refine ⟨H, cs, ?_, hb, h, fun _ _ => rfl, fun _ _ => rfl, rfl⟩
    refine wp30 _ _ _ _ (by simp) ?_
    unfold s30
    simp only [↓wpS_skip, ↓wpS_ops, ↓wpS_seq, ↓wpS_cond, ↓wpS_block, ↓wpS_loop, ↓wpS_exit, ↓wpS_ret, condW_bool, ↓WOps_go, ↓WOps_skip, WOps_nil, stepA, opA, convA, isCall, put?, ev, Tr.get_put, Tr.get_nil, builtinA, callA, argEnv, wantedS, abs_int, abs_bool, abs_string, abs_nilp, abs_nili, abs_nilf, abs_nilm, abs_nils, un_not, undef, z_none, List.zipIdx_cons, List.zipIdx_nil, List.foldl_cons, List.foldl_nil, List.map_cons, List.map_nil, List.map_toArray, List.nil_append, List.cons_append, List.append_nil, extractOp, List.getElem?_cons_zero, List.getElem?_cons_succ,
    Option.map_some, Option.map_none, Nat.reduceLT, Nat.reduceEqDiff, Nat.reduceAdd, Nat.zero_add, if_true, if_false, Option.getD_some, Option.getD_none, ↓reduceIte, Bool.false_eq_true, Bool.true_eq_false, reduceCtorEq, resA, resOf, Option.some.injEq, exists_eq_left', beq_self_eq_true, decide_true, decide_false, decide_eq_true_eq, ne_eq, not_true_eq_false, not_false_eq_true, Bool.not_eq_true, beq_iff_eq, bin_add, bin_sub, bin_mul, bin_eql, bin_neq, bin_lss, bin_leq, bin_gtr, bin_geq, maxA, minA, Prod.mk.injEq, and_true, true_and, beq_eq_false_iff_ne, decide_eq_false_iff_not, Bool.true_beq, Bool.false_beq, beq_true, beq_false, Bool.not_true, Bool.not_false, List.getElem?_toArray, nc_ptr, fa47_0, ld_at (t := 44) (by kernel_rfl) hb.hp h, abs_nilp, eql45p, neq45]
/-! append, of bytes -/
theorem one_byteA : ∀ l : List UInt8, (l.map byteA).all one = true
  | [] => rfl
  | b :: l => by simp only [List.map_cons, List.all_cons, one_byteA l, Bool.and_true]; rfl
theorem appLim_ok {n m : Nat} (h : n + m ≤ 1000000000) : appLim n m 1 = true := by
  unfold appLim
  simp only [decide_eq_true_eq]
  omega
theorem app_nil {t2 : TypeId} (h2 : t2 = 43 ∨ t2 = 9) {x : AV} {m : Nat} {new : List AV} (hs : srcCells H 1 x = some (m, new)) (h0 : m ≠ 0) (hm : m ≤ 1000000000) :
    appendOp cx.T H nx 43 (.lit (.slice none 0 0)) t2 x = some (.slice nx 0 m none 1, H.put nx (some (.cells new 5 false)), nx + 1) := by
  unfold appendOp
  rcases h2 with rfl | rfl
  all_goals
    simp only [T43, T5, T9, ti43, ti5, ti9, isIntD, hs, Bool.false_eq_true, if_false]
    rw [if_neg h0, if_pos (appLim_ok (by omega))]
theorem app_open {t2 : TypeId} (h2 : t2 = 43 ∨ t2 = 9) {x : AV} {m c : Nat} {new old : List AV} (hc : H.get c = some (.cells old 5 false)) (hs : srcCells H 1 x = some (m, new)) (h0 : m ≠ 0)
    (hl : new.length = m) (hm : old.length + m ≤ 1000000000) (h1 : new.all one = true) :
    appendOp cx.T H nx 43 (.slice c 0 old.length none 1) t2 x = some (.slice nx 0 (old.length + m) none 1, (H.put c none).put nx (some (.cells (old ++ new) 5 false)), nx + 1) := by
  have hcut : cut old 0 (old.length * 1) = some old := by simp [cut]
  unfold appendOp
  rcases h2 with rfl | rfl
  all_goals
    simp only [T43, T5, T9, ti43, ti5, ti9, isIntD, hs, Bool.false_eq_true, if_false, hc]
    rw [if_neg h0, if_neg (by simp), if_neg (by omega), hcut]
    simp only
    rw [if_pos (by simp [appLim_ok hm, h1])]

theorem bs_one (b : UInt8) : buildSliceOp cx.T H nx 43 1 [(0, byteA b)] = some (.slice nx 0 1 (some 1) 1, H.put nx (some (.cells [byteA b] 5 false)), nx + 1) := by kernel_rfl
theorem bs_two (a b : UInt8) : buildSliceOp cx.T H nx 43 2 [(0, byteA a), (1, byteA b)] = some (.slice nx 0 2 (some 2) 1, H.put nx (some (.cells [byteA a, byteA b] 5 false)), nx + 1) := by kernel_rfl
theorem app_bld {n0 p o : Nat} {cs : List AV} {t t2 : TypeId} {bs more : List UInt8} {H2 : Heap} {nx2 : Nat} {x bf : AV} (hb : Bld n0 H nx p o cs t bs) (hself : cs[o]? = some (.ptr p o)) (hbf : cs[o + 1]? = some bf) (hnx : nx ≤ nx2)
    (hold : ∀ c, c < nx → H2.get c = H.get c) (hfr : ∀ c, nx2 ≤ c → H2.get c = none) (h2 : t2 = 43 ∨ t2 = 9) (hs : srcCells H2 1 x = some (more.length, more.map byteA)) (h0 : more ≠ []) (hm : bs.length + more.length ≤ 1000000000) :
    ∃ H3 bf' H4, appendOp cx.T H2 nx2 43 bf t2 x = some (bf', H3, nx2 + 1) ∧ storeOp cx.T H3 43 (.ptr p (o + 1)) bf' = some H4 ∧ Bld n0 H4 (nx2 + 1) p o (cs.set (o + 1) bf') t (bs ++ more) ∧ ∀ c, c < n0 → H4.get c = H.get c := by
  have ho : o + 1 < cs.length := (List.getElem?_eq_some_iff.1 hbf).1
  have hp1 := hb.p1
  have hp0 := hb.p0
  have hne : more.length ≠ 0 := by simpa using h0
  have fin : ∀ (H3 : Heap) (k : Nat), k = bs.length + more.length → H3.get p = H.get p → H3.get nx2 = some (.cells ((bs ++ more).map byteA) 5 false) → (∀ c, c < n0 → H3.get c = H.get c) → (∀ c, nx2 < c → H3.get c = none) →
      storeOp cx.T H3 43 (.ptr p (o + 1)) (.slice nx2 0 k none 1) = some (H3.put p (some (.cells (cs.set (o + 1) (.slice nx2 0 k none 1)) t false))) ∧
      Bld n0 (H3.put p (some (.cells (cs.set (o + 1) (.slice nx2 0 k none 1)) t false))) (nx2 + 1) p o (cs.set (o + 1) (.slice nx2 0 k none 1)) t (bs ++ more) ∧
      ∀ c, c < n0 → (H3.put p (some (.cells (cs.set (o + 1) (.slice nx2 0 k none 1)) t false))).get c = H.get c := by
    intro H3 k hk hp hn ho3 hf3
    refine ⟨st_at (by kernel_rfl) (hp.trans hb.hp) ho rfl rfl, ?_, fun c hc => by rw [Tr.get_put_ne _ _ _ _ (by omega)]; exact ho3 c hc⟩
    exact {
      hp := Tr.get_put_same _ _ _
      p0 := hp0
      p1 := by omega
      lies := by simpa using hb.lies
      self := .inr (by rw [set_get (by omega)]; exact hself)
      buf := .inr ⟨nx2, by omega, by omega, by omega, by simp [List.getElem?_set, ho, hk], by rw [Tr.get_put_ne _ _ _ _ (by omega)]; exact hn⟩
      fr := fun b h => by rw [Tr.get_put_ne _ _ _ _ (by omega)]; exact hf3 b (by omega) }
  rcases hb.buf with ⟨rfl, h⟩ | ⟨c, c1, c2, c3, c5, c6⟩
  · rw [hbf] at h
    injection h with h
    subst h
    obtain ⟨f1, f2, f3⟩ := fin (H2.put nx2 (some (.cells (more.map byteA) 5 false))) more.length (by simp) (by rw [Tr.get_put_ne _ _ _ _ (by omega)]; exact hold _ hp1) (by rw [Tr.get_put_same]; simp)
      (fun c hc => by rw [Tr.get_put_ne _ _ _ _ (by omega)]; exact hold _ (by omega)) (fun c hc => by rw [Tr.get_put_ne _ _ _ _ (by omega)]; exact hfr _ (by omega))
    exact ⟨_, _, _, app_nil h2 hs hne (by simpa using hm), f1, f2, f3⟩
  · rw [hbf] at c5
    injection c5 with c5
    subst c5
    have hc2 : H2.get c = some (.cells (bs.map byteA) 5 false) := (hold c c3).trans c6
    obtain ⟨f1, f2, f3⟩ := fin ((H2.put c none).put nx2 (some (.cells (bs.map byteA ++ more.map byteA) 5 false))) (bs.length + more.length) rfl
      (by rw [Tr.get_put_ne _ _ _ _ (by omega), Tr.get_put_ne _ _ _ _ (Ne.symm c1)]; exact hold _ hp1) (by rw [Tr.get_put_same]; simp)
      (fun c' hc => by rw [Tr.get_put_ne _ _ _ _ (by omega), Tr.get_put_ne _ _ _ _ (by omega)]; exact hold _ (by omega))
      (fun c' hc => by rw [Tr.get_put_ne _ _ _ _ (by omega), Tr.get_put_ne _ _ _ _ (by omega)]; exact hfr _ (by omega))
    have ha := app_open (nx := nx2) h2 hc2 hs hne (by simp) (by simpa using hm) (one_byteA more)
    simp only [List.length_map] at ha
    exact ⟨_, _, _, ha, f1, f2, f3⟩
/-- WriteString. -/
theorem ws_cl {n0 p o : Nat} {cs : List AV} {t : TypeId} {bs : List UInt8} (hb : Bld n0 H nx p o cs t bs) (more : List UInt8) (hlen : bs.length + more.length ≤ 100000000) :
    ∃ H' nx' cs', Cl cx 20 [.ptr p o, strA more] H nx = some (.tuple [.lit (.int .i64 more.length), .lit .nilIface], H', nx') ∧ Bld n0 H' nx' p o cs' t (bs ++ more) ∧ nx ≤ nx' ∧ (∀ j, j ≠ o → j ≠ o + 1 → cs'[j]? = cs[j]?) ∧ cs'.length = cs.length ∧
      ∀ c, c < n0 → H'.get c = H.get c := by
  obtain ⟨H1, cs1, k1, k2, k3, k4, k5, k6⟩ := cc_cl hb
  obtain ⟨bf, hbf⟩ : ∃ bf, cs1[o + 1]? = some bf := by
    rcases k2.buf with ⟨_, h⟩ | ⟨c, _, _, _, h, _⟩ <;> exact ⟨_, h⟩
  have hp1 := hb.p1
  have hp0 := hb.p0
  have ho : o + 1 < cs1.length := (List.getElem?_eq_some_iff.1 hbf).1
  have hsrc : srcCells H1 1 (strA more) = some (more.length, more.map byteA) := by
    simp only [srcCells, strA, if_true, B_size, B_data]
    rfl
  by_cases h0 : more = []
  · subst h0
    have ha : appendOp cx.T H1 nx 43 bf 9 (strA []) = some (bf, H1, nx) := by
      unfold appendOp
      simp only [T43, T5, T9, ti43, ti5, ti9, isIntD, hsrc, Bool.false_eq_true, if_false]
      rcases k2.buf with ⟨_, h⟩ | ⟨c, _, _, _, h, _⟩ <;> (rw [hbf] at h; injection h with h; subst h; rfl)
    have hone : cellsOf bf = [bf] ∧ one bf = true := by
      rcases k2.buf with ⟨_, h⟩ | ⟨c, _, _, _, h, _⟩ <;> (rw [hbf] at h; injection h with h; subst h; exact ⟨rfl, rfl⟩)
    have hst := st_at (t := 43) (by kernel_rfl) k2.hp ho hone.1 hone.2
    have hset : cs1.set (o + 1) bf = cs1 := by
      apply List.ext_getElem?
      intro j
      by_cases hj : j = o + 1
      · subst hj; rw [hbf]; simp [List.getElem?_set, ho]
      · exact set_get hj
    rw [hset] at hst
    refine ⟨H1.put p (some (.cells cs1 t false)), nx, cs1, ?_, ?_, Nat.le_refl _, fun j h1 h2 => k4 j h1, k6, fun c hc => by rw [Tr.get_put_ne _ _ _ _ (by omega), k5 c (by omega)]⟩
    · refine wp20 _ _ _ _ (by simp) ?_
      unfold s20
      simp only [↓wpS_skip, ↓wpS_ops, ↓wpS_seq, ↓wpS_cond, ↓wpS_block, ↓wpS_loop, ↓wpS_exit, ↓wpS_ret, condW_bool, ↓WOps_go, ↓WOps_skip, WOps_nil, stepA, opA, convA, isCall, put?, ev, Tr.get_put, Tr.get_nil, builtinA, callA, argEnv, wantedS, abs_int, abs_bool, abs_string, abs_nilp, abs_nili, abs_nilf, abs_nilm, abs_nils, un_not, undef, z_none, List.zipIdx_cons, List.zipIdx_nil, List.foldl_cons, List.foldl_nil, List.map_cons, List.map_nil, List.map_toArray, List.nil_append, List.cons_append, List.append_nil, extractOp, List.getElem?_cons_zero, List.getElem?_cons_succ,
    Option.map_some, Option.map_none, Nat.reduceLT, Nat.reduceEqDiff, Nat.reduceAdd, Nat.zero_add, if_true, if_false, Option.getD_some, Option.getD_none, ↓reduceIte, Bool.false_eq_true, Bool.true_eq_false, reduceCtorEq, resA, resOf, Option.some.injEq, exists_eq_left', beq_self_eq_true, decide_true, decide_false, decide_eq_true_eq, ne_eq, not_true_eq_false, not_false_eq_true, Bool.not_eq_true, beq_iff_eq, bin_add, bin_sub, bin_mul, bin_eql, bin_neq, bin_lss, bin_leq, bin_gtr, bin_geq, maxA, minA, Prod.mk.injEq, and_true, true_and, beq_eq_false_iff_ne, decide_eq_false_iff_not, Bool.true_beq, Bool.false_beq, beq_true, beq_false, Bool.not_true, Bool.not_false, List.getElem?_toArray, x_none, k1, nc_ptr, fa47_1, ld_at (t := 43) (by kernel_rfl) k2.hp hbf, ha, hst, str_len]
    · rw [List.append_nil]
      exact {
        hp := Tr.get_put_same _ _ _
        p0 := hp0
        p1 := hp1
        lies := k2.lies
        self := .inr k3
        buf := by
          rcases k2.buf with h | ⟨c, h1, h2, h3, h5, h6⟩
          · exact .inl h
          · exact .inr ⟨c, h1, h2, h3, h5, by rw [Tr.get_put_ne _ _ _ _ h1]; exact h6⟩
        fr := fun b h => by rw [Tr.get_put_ne _ _ _ _ (by omega)]; exact k2.fr b h }
  · obtain ⟨H3, bf', H4, a1, a2, a3, a4⟩ := app_bld (H2 := H1) (nx2 := nx) (t2 := 9) (x := strA more) (more := more) k2 k3 hbf (by omega) (fun c hc => rfl) k2.fr (.inr rfl) hsrc h0 (by omega)
    refine ⟨H4, nx + 1, cs1.set (o + 1) bf', ?_, a3, by omega, fun j h1 h2 => by rw [set_get h2, k4 j h1], by simp [k6], fun c hc => ?_⟩
    · refine wp20 _ _ _ _ (by simp) ?_
      unfold s20
      simp only [↓wpS_skip, ↓wpS_ops, ↓wpS_seq, ↓wpS_cond, ↓wpS_block, ↓wpS_loop, ↓wpS_exit, ↓wpS_ret, condW_bool, ↓WOps_go, ↓WOps_skip, WOps_nil, stepA, opA, convA, isCall, put?, ev, Tr.get_put, Tr.get_nil, builtinA, callA, argEnv, wantedS, abs_int, abs_bool, abs_string, abs_nilp, abs_nili, abs_nilf, abs_nilm, abs_nils, un_not, undef, z_none, List.zipIdx_cons, List.zipIdx_nil, List.foldl_cons, List.foldl_nil, List.map_cons, List.map_nil, List.map_toArray, List.nil_append, List.cons_append, List.append_nil, extractOp, List.getElem?_cons_zero, List.getElem?_cons_succ,
    Option.map_some, Option.map_none, Nat.reduceLT, Nat.reduceEqDiff, Nat.reduceAdd, Nat.zero_add, if_true, if_false, Option.getD_some, Option.getD_none, ↓reduceIte, Bool.false_eq_true, Bool.true_eq_false, reduceCtorEq, resA, resOf, Option.some.injEq, exists_eq_left', beq_self_eq_true, decide_true, decide_false, decide_eq_true_eq, ne_eq, not_true_eq_false, not_false_eq_true, Bool.not_eq_true, beq_iff_eq, bin_add, bin_sub, bin_mul, bin_eql, bin_neq, bin_lss, bin_leq, bin_gtr, bin_geq, maxA, minA, Prod.mk.injEq, and_true, true_and, beq_eq_false_iff_ne, decide_eq_false_iff_not, Bool.true_beq, Bool.false_beq, beq_true, beq_false, Bool.not_true, Bool.not_false, List.getElem?_toArray, x_none, k1, nc_ptr, fa47_1, ld_at (t := 43) (by kernel_rfl) k2.hp hbf, a1, a2, str_len]
    · rw [a4 c hc, k5 c (by omega)]
theorem T64 : cx.T.get 64 = some ti64 := by kernel_rfl
theorem bytesOf_map : ∀ l : List UInt8, bytesOf (l.map byteA) = some (l.map fun b => (b.toNat : Int))
  | [] => rfl
  | b :: l => by
    have := bytesOf_map l
    simp only [List.map_cons, byteA, bytesOf, this, Option.map_some]
theorem fold_push (l : List UInt8) : ∀ acc : ByteArray, (l.map fun b => (b.toNat : Int)).foldl (fun r n => r.push (UInt8.ofNat n.toNat)) acc = ⟨acc.data ++ l.toArray⟩ := by
  induction l with
  | nil => intro acc; simp
  | cons b l ih =>
    intro acc
    simp only [List.map_cons, List.foldl_cons]
    rw [ih]
    simp [ByteArray.push]
theorem fold_bytes (l : List UInt8) : (l.map fun b => (b.toNat : Int)).foldl (fun r n => r.push (UInt8.ofNat n.toNat)) ByteArray.empty = B l := by
  rw [fold_push]
  simp [B, ByteArray.empty, ByteArray.emptyWithCapacity]
  rfl
theorem lies_bytes {n : Nat} (h : 1 ≤ n) : liesAt cx.P cx.P.depth 5 (n / cx.P.cellsOf 5) 0 5 n = true := by
  have hd : (cx.P.depth == 0) = false := by kernel_rfl
  obtain ⟨d, hd⟩ : ∃ d, cx.P.depth = d + 1 := ⟨cx.P.depth - 1, by simp at hd; omega⟩
  have hc : cx.P.cellsOf 5 = 1 := by kernel_rfl
  rw [hd, hc]
  simp only [liesAt, Bool.or_eq_true]
  left
  rw [hd]
  simp only [rowAt, hc]
  simp [sameLayout]
theorem us_cl {c : Nat} {bs : List UInt8} (hc : H.get c = some (.cells (bs.map byteA) 5 false)) (h0 : bs ≠ []) (hm : bs.length ≤ 100000000) :
    unsafeStringOp cx.P cx.T H nx 64 (.ptr c 0) (.lit (.int .i64 bs.length)) = some (strA bs, H.put c (some (.cells (bs.map byteA) 5 true)), nx) := by
  obtain ⟨k, hk⟩ : ∃ k, bs.length = k + 1 := ⟨bs.length - 1, by have := List.length_pos_iff.2 h0; omega⟩
  have hcut : cut (bs.map byteA) 0 (k + 1) = some (bs.map byteA) := by
    have : (bs.map byteA).take bs.length = bs.map byteA := List.take_of_length_le (by simp)
    simp [cut, ← hk, this]
  have hl : liesAt cx.P cx.P.depth 5 ((bs.map byteA).length / cx.P.cellsOf 5) 0 5 (k + 1) = true := by
    rw [List.length_map, hk]; exact lies_bytes (by omega)
  have hmx : ((k + 1 : Nat) : Int) ≤ IntKind.i64.max := by
    have e : IntKind.i64.max = 9223372036854775807 := by decide
    rw [e]; omega
  rw [hk]
  show (match cx.T.get 64, H.get c with
    | some { desc := .pointer e, .. }, some (.cells cs tb false) =>
      if liesAt cx.P cx.P.depth tb (cs.length / cx.P.cellsOf tb) 0 e (k + 1) = true ∧ ((k + 1 : Nat) : Int) ≤ IntKind.i64.max then
        ((cut cs 0 (k + 1)).bind bytesOf).map fun (ns : List Int) => (AV.lit (Value.string (ns.foldl (fun (r : ByteArray) (n : Int) => r.push (UInt8.ofNat n.toNat)) ByteArray.empty)), H.put c (some (.cells cs tb true)), nx)
      else none
    | _, _ => none) = _
  simp only [T64, ti64, hc]
  rw [if_pos ⟨hl, hmx⟩, hcut]
  simp only [Option.bind_some, bytesOf_map, Option.map_some, fold_bytes]
  rfl
/-- String. -/
theorem bstr_cl {n0 p o : Nat} {cs : List AV} {t : TypeId} {bs : List UInt8} (hb : Bld n0 H nx p o cs t bs) (hm : bs.length ≤ 100000000) (h0 : bs ≠ []) :
    ∃ H', Cl cx 23 [.ptr p o] H nx = some (strA bs, H', nx) ∧ (∀ c, c < n0 → H'.get c = H.get c) ∧ (∀ b, nx ≤ b → H'.get b = none) := by
  rcases hb.buf with ⟨h, _⟩ | ⟨c, c1, c2, c3, c5, c6⟩
  · exact absurd h h0
  · refine ⟨H.put c (some (.cells (bs.map byteA) 5 true)), ?_, fun c' hc => Tr.get_put_ne _ _ _ _ (by omega), fun b hb2 => by rw [Tr.get_put_ne _ _ _ _ (by omega)]; exact hb.fr b hb2⟩
    refine wp23 _ _ _ _ (by simp) ?_
    unfold s23
    simp only [↓wpS_skip, ↓wpS_ops, ↓wpS_seq, ↓wpS_cond, ↓wpS_block, ↓wpS_loop, ↓wpS_exit, ↓wpS_ret, condW_bool, ↓WOps_go, ↓WOps_skip, WOps_nil, stepA, opA, convA, isCall, put?, ev, Tr.get_put, Tr.get_nil, builtinA, callA, argEnv, wantedS, abs_int, abs_bool, abs_string, abs_nilp, abs_nili, abs_nilf, abs_nilm, abs_nils, un_not, undef, z_none, List.zipIdx_cons, List.zipIdx_nil, List.foldl_cons, List.foldl_nil, List.map_cons, List.map_nil, List.map_toArray, List.nil_append, List.cons_append, List.append_nil, extractOp, List.getElem?_cons_zero, List.getElem?_cons_succ,
    Option.map_some, Option.map_none, Nat.reduceLT, Nat.reduceEqDiff, Nat.reduceAdd, Nat.zero_add, if_true, if_false, Option.getD_some, Option.getD_none, ↓reduceIte, Bool.false_eq_true, Bool.true_eq_false, reduceCtorEq, resA, resOf, Option.some.injEq, exists_eq_left', beq_self_eq_true, decide_true, decide_false, decide_eq_true_eq, ne_eq, not_true_eq_false, not_false_eq_true, Bool.not_eq_true, beq_iff_eq, bin_add, bin_sub, bin_mul, bin_eql, bin_neq, bin_lss, bin_leq, bin_gtr, bin_geq, maxA, minA, Prod.mk.injEq, and_true, true_and, beq_eq_false_iff_ne, decide_eq_false_iff_not, Bool.true_beq, Bool.false_beq, beq_true, beq_false, Bool.not_true, Bool.not_false, List.getElem?_toArray]
    refine s23_d0_wq ?_
    unfold s23_d0s
    have hln : lenOp cx.T .nil 43 (.slice c 0 bs.length none 1) = some bs.length := by kernel_rfl
    have hsd : sliceDataOp (.slice c 0 bs.length none 1) = some (.ptr c 0) := by
      cases bs with
      | nil => exact absurd rfl h0
      | cons => rfl
    simp only [↓wpS_skip, ↓wpS_ops, ↓wpS_seq, ↓wpS_cond, ↓wpS_block, ↓wpS_loop, ↓wpS_exit, ↓wpS_ret, condW_bool, ↓WOps_go, ↓WOps_skip, WOps_nil, stepA, opA, convA, isCall, put?, ev, Tr.get_put, Tr.get_nil, builtinA, callA, argEnv, wantedS, abs_int, abs_bool, abs_string, abs_nilp, abs_nili, abs_nilf, abs_nilm, abs_nils, un_not, undef, z_none, List.zipIdx_cons, List.zipIdx_nil, List.foldl_cons, List.foldl_nil, List.map_cons, List.map_nil, List.map_toArray, List.nil_append, List.cons_append, List.append_nil, extractOp, List.getElem?_cons_zero, List.getElem?_cons_succ,
    Option.map_some, Option.map_none, Nat.reduceLT, Nat.reduceEqDiff, Nat.reduceAdd, Nat.zero_add, if_true, if_false, Option.getD_some, Option.getD_none, ↓reduceIte, Bool.false_eq_true, Bool.true_eq_false, reduceCtorEq, resA, resOf, Option.some.injEq, exists_eq_left', beq_self_eq_true, decide_true, decide_false, decide_eq_true_eq, ne_eq, not_true_eq_false, not_false_eq_true, Bool.not_eq_true, beq_iff_eq, bin_add, bin_sub, bin_mul, bin_eql, bin_neq, bin_lss, bin_leq, bin_gtr, bin_geq, maxA, minA, Prod.mk.injEq, and_true, true_and, beq_eq_false_iff_ne, decide_eq_false_iff_not, Bool.true_beq, Bool.false_beq, beq_true, beq_false, Bool.not_true, Bool.not_false, List.getElem?_toArray, ↓WQ_cons, ↓WQ_nil, txS, ph0_still, ph0_skip, ph0_new, ph0_read, ph0_eff, ph1_still, ph1_skip, ph1_read, ph1_eff, ph2_still, ph2_skip, loadOp_ro, loadOp_nil, isEff, eqB_int, eqB_str, eqB_bool, eqB_ptr, eqB_slice, eqB_nils, AV.belowB, Nat.le_refl, nx_succ, nc_ptr, fa47_1, ld_at (t := 43) (by kernel_rfl) hb.hp c5, hsd, hln, us_cl c6 h0 hm, decide_eq_true c3]

theorem z49 (n : Nat) (h : n ≤ 281474976710656) : cx.Z 95 [.lit (.int .i64 n)] H nx = some (.slice nx 0 n none 1, H.put nx (some (.cells [] 5 false)), nx + 1) := by
  show mzA 95 5 95 [.lit (.int .i64 (.ofNat n))] H nx = _
  unfold mzA
  rw [if_pos rfl]
  simp only
  rw [if_pos h]
theorem x49 (args : List AV) : cx.X 95 args = none := x_none 95 rfl rfl rfl rfl rfl rfl args
theorem sl_open (b n : Nat) (h : 1 ≤ n) : sliceOp cx.P cx.T H 43 (.slice b 0 n none 1) none (some (.lit (.int .i64 ((0 : Nat) : Int)))) none = some (.slice b 0 0 none 1) := by
  unfold sliceOp
  simp only [T43, T5, ti43, ti5]
  have e1 : bnd (some (.lit (.int .i64 ((0 : Nat) : Int)))) n = some 0 := rfl
  have e2 : bnd none 0 = some 0 := rfl
  rw [if_neg (by simp)]
  simp only [e1, e2]
  rw [if_pos ⟨by omega, by omega⟩, if_pos (by omega)]
/-- grow. -/
theorem grow_cl {n0 p o : Nat} {cs : List AV} {t : TypeId} (hb : Bld n0 H nx p o cs t []) (hbf : cs[o + 1]? = some (.lit (.slice none 0 0))) (n : Nat) (h1 : 1 ≤ n) (hn : n ≤ 1000000000) :
    ∃ H' cs', Cl cx 72 [.ptr p o, .lit (.int .i64 n)] H nx = some (.tuple [], H', nx + 1) ∧ Bld n0 H' (nx + 1) p o cs' t [] ∧ (∀ j, j ≠ o + 1 → cs'[j]? = cs[j]?) ∧ cs'.length = cs.length ∧ ∀ c, c < n0 → H'.get c = H.get c := by
  have ho : o + 1 < cs.length := (List.getElem?_eq_some_iff.1 hbf).1
  have hp1 := hb.p1
  have hp0 := hb.p0
  have hp2 : (H.put nx (some (.cells [] 5 false))).get p = some (.cells cs t false) := by rw [Tr.get_put_ne _ _ _ _ (by omega)]; exact hb.hp
  have hp3 : ((H.put nx (some (.cells [] 5 false))).put nx (some (.cells [] 5 false))).get p = some (.cells cs t false) := by rw [Tr.get_put_ne _ _ _ _ (by omega)]; exact hp2
  refine ⟨((H.put nx (some (.cells [] 5 false))).put nx (some (.cells [] 5 false))).put p (some (.cells (cs.set (o + 1) (.slice nx 0 0 none 1)) t false)), cs.set (o + 1) (.slice nx 0 0 none 1), ?_, ?_, fun j hj => set_get hj, by simp, fun c hc => ?_⟩
  · refine wp72 _ _ _ _ (by simp) ?_
    unfold s72
    simp only [↓wpS_skip, ↓wpS_ops, ↓wpS_seq, ↓wpS_cond, ↓wpS_block, ↓wpS_loop, ↓wpS_exit, ↓wpS_ret, condW_bool, ↓WOps_go, ↓WOps_skip, WOps_nil, stepA, opA, convA, isCall, put?, ev, Tr.get_put, Tr.get_nil, builtinA, callA, argEnv, wantedS, abs_int, abs_bool, abs_string, abs_nilp, abs_nili, abs_nilf, abs_nilm, abs_nils, un_not, undef, z_none, List.zipIdx_cons, List.zipIdx_nil, List.foldl_cons, List.foldl_nil, List.map_cons, List.map_nil, List.map_toArray, List.nil_append, List.cons_append, List.append_nil, extractOp, List.getElem?_cons_zero, List.getElem?_cons_succ,
    Option.map_some, Option.map_none, Nat.reduceLT, Nat.reduceEqDiff, Nat.reduceAdd, Nat.zero_add, if_true, if_false, Option.getD_some, Option.getD_none, ↓reduceIte, Bool.false_eq_true, Bool.true_eq_false, reduceCtorEq, resA, resOf, Option.some.injEq, exists_eq_left', beq_self_eq_true, decide_true, decide_false, decide_eq_true_eq, ne_eq, not_true_eq_false, not_false_eq_true, Bool.not_eq_true, beq_iff_eq, bin_add, bin_sub, bin_mul, bin_eql, bin_neq, bin_lss, bin_leq, bin_gtr, bin_geq, maxA, minA, Prod.mk.injEq, and_true, true_and, beq_eq_false_iff_ne, decide_eq_false_iff_not, Bool.true_beq, Bool.false_beq, beq_true, beq_false, Bool.not_true, Bool.not_false, List.getElem?_toArray]
    refine wpS_draw3 (show effOK s72_d0 = true by kernel_rfl) (show s72_d0.toList.map (stripO s72_d0) = s72_d0s by kernel_rfl) ?_
    unfold s72_d0s
    have hcap : capOp cx.T 43 (.lit (.slice none 0 0)) = some 0 := by kernel_rfl
    have hln : lenOp cx.T .nil 43 (.lit (.slice none 0 0)) = some 0 := by kernel_rfl
    have hw : IntKind.i64.wrap (IntKind.i64.wrap (2 * ((0 : Nat) : Int)) + (n : Int)) = (n : Int) := by
      rw [show IntKind.i64.wrap (2 * ((0 : Nat) : Int)) = 0 by decide, Int.zero_add, wrapI (by constructor <;> omega)]
    have hcp : copyOp cx.T (H.put nx (some (.cells [] 5 false))) 43 (.slice nx 0 0 none 1) (.lit (.slice none 0 0)) = some (0, (H.put nx (some (.cells [] 5 false))).put nx (some (.cells [] 5 false))) := by
      unfold copyOp
      simp only [T43, T5, ti43, ti5, Option.bind_some, lenS, firstA, Tr.get_put, if_true, Nat.min_self, overA]
      rw [if_pos ⟨by simp, by simp⟩]
      rfl
    simp only [↓wpS_skip, ↓wpS_ops, ↓wpS_seq, ↓wpS_cond, ↓wpS_block, ↓wpS_loop, ↓wpS_exit, ↓wpS_ret, condW_bool, ↓WOps_go, ↓WOps_skip, WOps_nil, stepA, opA, convA, isCall, put?, ev, Tr.get_put, Tr.get_nil, builtinA, callA, argEnv, wantedS, abs_int, abs_bool, abs_string, abs_nilp, abs_nili, abs_nilf, abs_nilm, abs_nils, un_not, undef, z_none, List.zipIdx_cons, List.zipIdx_nil, List.foldl_cons, List.foldl_nil, List.map_cons, List.map_nil, List.map_toArray, List.nil_append, List.cons_append, List.append_nil, extractOp, List.getElem?_cons_zero, List.getElem?_cons_succ,
    Option.map_some, Option.map_none, Nat.reduceLT, Nat.reduceEqDiff, Nat.reduceAdd, Nat.zero_add, if_true, if_false, Option.getD_some, Option.getD_none, ↓reduceIte, Bool.false_eq_true, Bool.true_eq_false, reduceCtorEq, resA, resOf, Option.some.injEq, exists_eq_left', beq_self_eq_true, decide_true, decide_false, decide_eq_true_eq, ne_eq, not_true_eq_false, not_false_eq_true, Bool.not_eq_true, beq_iff_eq, bin_add, bin_sub, bin_mul, bin_eql, bin_neq, bin_lss, bin_leq, bin_gtr, bin_geq, maxA, minA, Prod.mk.injEq, and_true, true_and, beq_eq_false_iff_ne, decide_eq_false_iff_not, Bool.true_beq, Bool.false_beq, beq_true, beq_false, Bool.not_true, Bool.not_false, List.getElem?_toArray, ↓WR_cons, ↓WR_nil, ↓W2_cons, ↓W2_nil, goodAt_eq, txS, ph0_still, ph0_skip, ph0_new, ph0_read, ph0_eff, ph1_still, ph1_skip, ph1_read, ph1_eff, ph2_still, ph2_skip, loadOp_ro, loadOp_nil, isEff, eqB_int, eqB_str, eqB_bool, eqB_ptr, eqB_slice, eqB_nils, AV.belowB, Nat.le_refl, nx_succ, nc_ptr, fa47_1, ld_at (t := 43) (by kernel_rfl) hb.hp hbf, ld_at (t := 43) (by kernel_rfl) hp2 hbf, hcap, hln, x49, hw, z49 n (by omega), sl_open _ n h1, Nat.le_add_right, hcp, st_at (t := 43) (v := .slice nx 0 0 none 1) (by kernel_rfl) hp3 ho rfl rfl]
  · exact {
      hp := Tr.get_put_same _ _ _
      p0 := hp0
      p1 := by omega
      lies := by simpa using hb.lies
      self := by rw [set_get (by omega)]; exact hb.self
      buf := .inr ⟨nx, by omega, by omega, by omega, by simp [List.getElem?_set, ho], by rw [Tr.get_put_ne _ _ _ _ (by omega), Tr.get_put_same]; rfl⟩
      fr := fun b h => by rw [Tr.get_put_ne _ _ _ _ (by omega), Tr.get_put_ne _ _ _ _ (by omega), Tr.get_put_ne _ _ _ _ (by omega)]; exact hb.fr b (by omega) }
  · rw [Tr.get_put_ne _ _ _ _ (by omega), Tr.get_put_ne _ _ _ _ (by omega), Tr.get_put_ne _ _ _ _ (by omega)]
/-- Grow. -/
theorem Grow_cl {n0 p o : Nat} {cs : List AV} {t : TypeId} (hb : Bld n0 H nx p o cs t []) (hbf : cs[o + 1]? = some (.lit (.slice none 0 0))) (n : Nat) (h1 : 1 ≤ n) (hn : n ≤ 1000000000) :
    ∃ H' nx' cs', Cl cx 48 [.ptr p o, .lit (.int .i64 n)] H nx = some (.tuple [], H', nx') ∧ Bld n0 H' nx' p o cs' t [] ∧ nx ≤ nx' ∧ cs'.length = cs.length ∧ ∀ c, c < n0 → H'.get c = H.get c := by
  obtain ⟨H1, cs1, k1, k2, k3, k4, k5, k6⟩ := cc_cl hb
  have hbf1 : cs1[o + 1]? = some (.lit (.slice none 0 0)) := by rw [k4 _ (by omega)]; exact hbf
  obtain ⟨H2, cs2, g1, g2, g3, g4, g5⟩ := grow_cl k2 hbf1 n h1 hn
  have hp1 := hb.p1
  have hp0 := hb.p0
  refine ⟨H2, nx + 1, cs2, ?_, g2, by omega, by omega, fun c hc => by rw [g5 c hc, k5 c (by omega)]⟩
  refine wp48 _ _ _ _ (by simp) ?_
  unfold s48
  have e0 : (((n : Nat) : Int) < 0) = False := by simp
  simp only [↓wpS_skip, ↓wpS_ops, ↓wpS_seq, ↓wpS_cond, ↓wpS_block, ↓wpS_loop, ↓wpS_exit, ↓wpS_ret, condW_bool, ↓WOps_go, ↓WOps_skip, WOps_nil, stepA, opA, convA, isCall, put?, ev, Tr.get_put, Tr.get_nil, builtinA, callA, argEnv, wantedS, abs_int, abs_bool, abs_string, abs_nilp, abs_nili, abs_nilf, abs_nilm, abs_nils, un_not, undef, z_none, List.zipIdx_cons, List.zipIdx_nil, List.foldl_cons, List.foldl_nil, List.map_cons, List.map_nil, List.map_toArray, List.nil_append, List.cons_append, List.append_nil, extractOp, List.getElem?_cons_zero, List.getElem?_cons_succ,
    Option.map_some, Option.map_none, Nat.reduceLT, Nat.reduceEqDiff, Nat.reduceAdd, Nat.zero_add, if_true, if_false, Option.getD_some, Option.getD_none, ↓reduceIte, Bool.false_eq_true, Bool.true_eq_false, reduceCtorEq, resA, resOf, Option.some.injEq, exists_eq_left', beq_self_eq_true, decide_true, decide_false, decide_eq_true_eq, ne_eq, not_true_eq_false, not_false_eq_true, Bool.not_eq_true, beq_iff_eq, bin_add, bin_sub, bin_mul, bin_eql, bin_neq, bin_lss, bin_leq, bin_gtr, bin_geq, maxA, minA, Prod.mk.injEq, and_true, true_and, beq_eq_false_iff_ne, decide_eq_false_iff_not, Bool.true_beq, Bool.false_beq, beq_true, beq_false, Bool.not_true, Bool.not_false, List.getElem?_toArray, x_none, k1, e0]
  refine s48_d0_wq ?_
  unfold s48_d0s
  have hcap : capOp cx.T 43 (.lit (.slice none 0 0)) = some 0 := by kernel_rfl
  have hln : lenOp cx.T .nil 43 (.lit (.slice none 0 0)) = some 0 := by kernel_rfl
  have hw : IntKind.i64.wrap (((0 : Nat) : Int) - ((0 : Nat) : Int)) = 0 := by decide
  have e1 : ((0 : Int) < (n : Int)) = True := by simp; omega
  simp only [↓wpS_skip, ↓wpS_ops, ↓wpS_seq, ↓wpS_cond, ↓wpS_block, ↓wpS_loop, ↓wpS_exit, ↓wpS_ret, condW_bool, ↓WOps_go, ↓WOps_skip, WOps_nil, stepA, opA, convA, isCall, put?, ev, Tr.get_put, Tr.get_nil, builtinA, callA, argEnv, wantedS, abs_int, abs_bool, abs_string, abs_nilp, abs_nili, abs_nilf, abs_nilm, abs_nils, un_not, undef, z_none, List.zipIdx_cons, List.zipIdx_nil, List.foldl_cons, List.foldl_nil, List.map_cons, List.map_nil, List.map_toArray, List.nil_append, List.cons_append, List.append_nil, extractOp, List.getElem?_cons_zero, List.getElem?_cons_succ,
    Option.map_some, Option.map_none, Nat.reduceLT, Nat.reduceEqDiff, Nat.reduceAdd, Nat.zero_add, if_true, if_false, Option.getD_some, Option.getD_none, ↓reduceIte, Bool.false_eq_true, Bool.true_eq_false, reduceCtorEq, resA, resOf, Option.some.injEq, exists_eq_left', beq_self_eq_true, decide_true, decide_false, decide_eq_true_eq, ne_eq, not_true_eq_false, not_false_eq_true, Bool.not_eq_true, beq_iff_eq, bin_add, bin_sub, bin_mul, bin_eql, bin_neq, bin_lss, bin_leq, bin_gtr, bin_geq, maxA, minA, Prod.mk.injEq, and_true, true_and, beq_eq_false_iff_ne, decide_eq_false_iff_not, Bool.true_beq, Bool.false_beq, beq_true, beq_false, Bool.not_true, Bool.not_false, List.getElem?_toArray, ↓WQ_cons, ↓WQ_nil, txS, ph0_still, ph0_skip, ph0_new, ph0_read, ph0_eff, ph1_still, ph1_skip, ph1_read, ph1_eff, ph2_still, ph2_skip, loadOp_ro, loadOp_nil, isEff, eqB_int, eqB_str, eqB_bool, eqB_ptr, eqB_slice, eqB_nils, AV.belowB, Nat.le_refl, nx_succ, nc_ptr, fa47_1, ld_at (t := 43) (by kernel_rfl) k2.hp hbf1, hcap, hln, hw, e1, g1, x_none]
end Seat
end CI
/- The plain law of a line's words: split at blanks, joined again. -/
set_option linter.unusedVariables false
set_option linter.unusedSimpArgs false
namespace CI
open Go
namespace Spl
/-- A line's words. -/
def spl : List UInt8 → List (List UInt8)
  | [] => [[]]
  | b :: r => if b = 32 then [] :: spl r else (b :: (spl r).headD []) :: (spl r).tail
/-- What is written behind the first word. -/
def joiT : List (List UInt8) → List UInt8
  | [] => []
  | x :: xs => 32 :: (x ++ joiT xs)
def joi : List (List UInt8) → List UInt8
  | [] => []
  | x :: xs => x ++ joiT xs
theorem spl_ne (l : List UInt8) : spl l ≠ [] := by
  cases l with
  | nil => simp [spl]
  | cons b r => unfold spl; split <;> simp
theorem spl_len (l : List UInt8) : (spl l).length = l.count 32 + 1 := by
  induction l with
  | nil => rfl
  | cons b r ih =>
    unfold spl
    split
    · rename_i h
      subst h
      simp [ih]
    · rename_i h
      rw [List.length_cons, List.length_tail, ih, List.count_cons]
      simp [h]
theorem spl_joi (l : List UInt8) : joi (spl l) = l := by
  induction l with
  | nil => rfl
  | cons b r ih =>
    have hn := spl_ne r
    unfold spl
    split
    · rename_i h
      subst h
      revert ih hn
      cases spl r with
      | nil => intro _ h; exact absurd rfl h
      | cons x xs => intro ih _; simp only [joi] at ih; simp only [joi, joiT, List.nil_append, ih]
    · revert ih hn
      cases spl r with
      | nil => intro _ h; exact absurd rfl h
      | cons x xs => intro ih _; simp only [joi] at ih; simp only [joi, List.headD_cons, List.tail_cons, List.cons_append, ih]
theorem spl_free (l : List UInt8) : ∀ w, w ∈ spl l → (32 : UInt8) ∉ w := by
  induction l with
  | nil => intro w h; simp [spl] at h; subst h; simp
  | cons b r ih =>
    have hn := spl_ne r
    intro w h
    unfold spl at h
    split at h
    · rcases List.mem_cons.1 h with rfl | h
      · simp
      · exact ih w h
    · rename_i hb
      revert ih hn h
      cases spl r with
      | nil => intro _ h; exact absurd rfl h
      | cons x xs =>
        intro ih _ h
        rcases List.mem_cons.1 h with rfl | h
        · simp only [List.headD_cons, List.mem_cons, not_or]
          exact ⟨fun e => hb e.symm, ih x (List.mem_cons_self ..)⟩
        · exact ih w (List.mem_cons_of_mem _ h)
theorem ix_none {l : List UInt8} (h : Lib.indexByte l 32 = -1) : spl l = [l] := by
  induction l with
  | nil => rfl
  | cons b r ih =>
    unfold Lib.indexByte at h
    split at h
    · cases h
    · rename_i hb
      split at h
      · rename_i h2
        have hb' : b ≠ 32 := by simpa using hb
        unfold spl
        rw [if_neg hb', ih (by simpa using h2)]
        rfl
      · have := Lib.indexByte_ge r 32
        omega
theorem ix_some {l : List UInt8} {m : Nat} (h : Lib.indexByte l 32 = m) : m < l.length ∧ spl l = l.take m :: spl (l.drop (m + 1)) := by
  induction l generalizing m with
  | nil => simp [Lib.indexByte] at h
  | cons b r ih =>
    unfold Lib.indexByte at h
    split at h
    · rename_i hb
      obtain rfl : m = 0 := by omega
      have hb' : b = 32 := by simpa using hb
      refine ⟨by simp, ?_⟩
      conv => lhs; unfold spl
      rw [if_pos hb']
      simp
    · rename_i hb
      have hb' : b ≠ 32 := by simpa using hb
      split at h
      · omega
      · have := Lib.indexByte_ge r 32
        rename_i h2
        have h2' : Lib.indexByte r 32 ≠ -1 := by simpa using h2
        obtain ⟨k, rfl⟩ : ∃ k, m = k + 1 := ⟨m - 1, by omega⟩
        obtain ⟨i1, i2⟩ := ih (m := k) (by omega)
        refine ⟨by simp; omega, ?_⟩
        conv => lhs; unfold spl
        rw [if_neg hb', i2]
        simp
theorem ix_count {l : List UInt8} {m : Nat} (h : Lib.indexByte l 32 = m) : l.count 32 = (l.drop (m + 1)).count 32 + 1 := by
  have h1 := spl_len l
  rw [(ix_some h).2, List.length_cons, spl_len] at h1
  omega
theorem ix_free {l : List UInt8} (h : Lib.indexByte l 32 = -1) : l.count 32 = 0 := by
  have h1 := spl_len l
  rw [ix_none h] at h1
  simp at h1
  simpa using h1
theorem joiT_len (xs : List (List UInt8)) : (joiT xs).length = (xs.map List.length).sum + xs.length := by
  induction xs with
  | nil => rfl
  | cons x xs ih => simp [joiT, ih]; omega
theorem joi_len (xs : List (List UInt8)) : (joi xs).length = (xs.map List.length).sum + (xs.length - 1) := by
  cases xs with
  | nil => rfl
  | cons x xs => simp [joi, joiT_len]; omega
theorem joiT_app (xs ys : List (List UInt8)) : joiT (xs ++ ys) = joiT xs ++ joiT ys := by
  induction xs with
  | nil => rfl
  | cons x xs ih => simp [joiT, ih]
end Spl
end CI
/- strings.Join with blanks between, walked. -/
set_option linter.unusedVariables false
set_option linter.unusedSimpArgs false
set_option maxRecDepth 10000
namespace CI
open Go
namespace Seat
variable {H : Heap} {nx : Nat}
theorem T62 : cx.T.get 62 = some ti62 := by kernel_rfl
theorem wrapP {i : Nat} (h : i < 9223372036854775807) : IntKind.i64.wrap (((i + 1 : Nat) : Int) - 1) = (i : Int) := by
  rw [wrapI]; · omega
  constructor <;> omega
theorem ix23 {b n i : Nat} {c : Option Nat} (h : i < n) : indexAddrOp cx.T 62 (.slice b 0 n c 1) (.lit (.int .i64 i)) = some (.ptr b i) := by
  unfold indexAddrOp
  simp only [T62, ti62, T9, ti9]
  rw [if_pos ⟨by omega, by omega, trivial⟩]
  simp
theorem sep_len (H : Heap) : lenOp cx.T H 9 (.lit (.string (ByteArray.mk #[32]))) = some 1 := by kernel_rfl

theorem al47 : allocOp cx.T H nx 46 = some (.ptr nx 0, H.put nx (some (.cells [.lit (.pointer none), .lit (.slice none 0 0)] 46 false)), nx + 1) := by kernel_rfl
theorem bld_new (h : ∀ b, nx ≤ b → H.get b = none) : Bld nx (H.put nx (some (.cells [.lit (.pointer none), .lit (.slice none 0 0)] 46 false))) (nx + 1) nx 0 [.lit (.pointer none), .lit (.slice none 0 0)] 46 [] where
  hp := Tr.get_put_same _ _ _
  p0 := Nat.le_refl _
  p1 := by omega
  lies := by kernel_rfl
  self := .inl rfl
  buf := .inl ⟨rfl, rfl⟩
  fr := fun b hb => by rw [Tr.get_put_ne _ _ _ _ (by omega)]; exact h b (by omega)
theorem ix23o {b o n i : Nat} {c : Option Nat} (h : i < n) : indexAddrOp cx.T 62 (.slice b o n c 1) (.lit (.int .i64 i)) = some (.ptr b (o + i)) := by
  unfold indexAddrOp
  simp only [T62, ti62, T9, ti9]
  rw [if_pos ⟨by omega, by omega, trivial⟩]
  simp
theorem ln23 (H : Heap) (b o n : Nat) (c : Option Nat) : lenOp cx.T H 62 (.slice b o n c 1) = some n := by kernel_rfl
theorem sl23f (b n : Nat) (h : 2 ≤ n) : sliceOp cx.P cx.T H 62 (.slice b 0 n (some n) 1) (some (.lit (.int .i64 1))) none none = some (.slice b 1 (n - 1) (some (n - 1)) 1) := by
  unfold sliceOp
  simp only [T62, ti62, T9, ti9]
  have e1 : ∀ k, bnd (some (.lit (.int .i64 1))) k = some 1 := fun _ => rfl
  have e2 : ∀ k, bnd none k = some k := fun _ => rfl
  rw [if_neg (by simp)]
  simp only [e1, e2]
  rw [if_pos ⟨Nat.le_refl _, Nat.le_refl _, by omega, by simp⟩]
  unfold cutTo
  rw [if_neg (by omega)]
section
variable {ws : List (List UInt8)} {QQ : Ex → St → Prop}
def lsum (ws : List (List UInt8)) (k : Nat) : Nat := ((ws.take k).map List.length).sum
theorem lsum_succ {k : Nat} (h : k < ws.length) : lsum ws (k + 1) = lsum ws k + (ws[k]).length := by
  have e : ws.take (k + 1) = ws.take k ++ [ws[k]] := by rw [List.take_add_one, List.getElem?_eq_getElem h]; rfl
  unfold lsum
  rw [e, List.map_append, List.sum_append]
  simp
theorem lsum_le (k : Nat) : lsum ws k ≤ lsum ws ws.length := by
  unfold lsum
  conv => rhs; rw [List.take_length]
  conv => rhs; rw [← List.take_append_drop k ws]
  rw [List.map_append, List.sum_append]
  omega
theorem wds_ld {b i : Nat} (hm : H.get b = some (.cells (ws.map strA) 9 false)) (h : i < ws.length) : loadOp cx.T H 9 (.ptr b i) = some (strA ws[i]) :=
  ld_at (by kernel_rfl) hm (by simp [List.getElem?_map, List.getElem?_eq_getElem h])
/-- What stands while the lengths are summed up. -/
structure JS (b : Nat) (ws : List (List UInt8)) (E : Tr AV) : Prop where
  t0 : E.get 0 = some (.slice b 0 ws.length (some ws.length) 1)
  t1 : E.get 1 = some (.lit (.string (ByteArray.mk #[32])))
theorem js_loop {b : Nat} {E : Tr AV} {base : Nat} (hm : H.get b = some (.cells (ws.map strA) 9 false)) (hn : ws.length ≤ 1000) (hl : lsum ws ws.length ≤ 1000) (hb : base ≤ 1000) (h : JS b ws E)
    (e39 : E.get 39 = some (.slice b 0 ws.length (some ws.length) 1)) (e40 : E.get 40 = some (.lit (.int .i64 ws.length))) (e41 : E.get 41 = some (.lit (.int .i64 ((0 : Nat) : Int)))) (e5 : E.get 5 = some (.lit (.int .i64 base)))
    (hQ : ∀ E', JS b ws E' → E'.get 5 = some (.lit (.int .i64 ((base + lsum ws ws.length : Nat) : Int))) → QQ (.exit 1) ⟨E', H, nx⟩) : Wp cx 75 (.loop s31_l0) ⟨E, H, nx⟩ QQ := by
  refine Wp_loop (fun n st => ∃ i, n = ws.length - i ∧ i ≤ ws.length ∧ st.H = H ∧ st.nx = nx ∧ JS b ws st.env ∧ st.env.get 39 = some (.slice b 0 ws.length (some ws.length) 1) ∧ st.env.get 40 = some (.lit (.int .i64 ws.length)) ∧
    st.env.get 41 = some (.lit (.int .i64 i)) ∧ st.env.get 5 = some (.lit (.int .i64 ((base + lsum ws i : Nat) : Int)))) ?_ ws.length _ ⟨0, by omega, by omega, rfl, rfl, h, e39, e40, e41, by simpa [lsum] using e5⟩
  rintro n ⟨E, H1, nx1⟩ ⟨i, hn1, hi, q1, q2, ⟨e0, e1⟩, e39, e40, e41, e5⟩
  simp only at q1 q2 e0 e1 e39 e40 e41 e5; subst q1; subst q2
  refine Wp_of ?_
  unfold s31_l0
  by_cases hlt : i < ws.length
  · have hls := lsum_succ hlt
    have hle := lsum_le (ws := ws) (i + 1)
    have hii : ((i : Int) < (ws.length : Int)) = True := by simp; omega
    have hix : indexAddrOp cx.T 62 (.slice b 0 ws.length (some ws.length) 1) (.lit (.int .i64 (i : Int))) = some (.ptr b i) := ix23 hlt
    have hw1 : IntKind.i64.wrap (9223372036854775807 - ((base + lsum ws i : Nat) : Int)) = 9223372036854775807 - ((base + lsum ws i : Nat) : Int) := wrapI (by constructor <;> omega)
    have hgt : (((ws[i]).length : Int) > 9223372036854775807 - ((base + lsum ws i : Nat) : Int)) = False := by simp; omega
    have hw2 : IntKind.i64.wrap (((base + lsum ws i : Nat) : Int) + ((ws[i]).length : Int)) = ((base + lsum ws (i + 1) : Nat) : Int) := by rw [wrapI (by constructor <;> omega), hls]; omega
    have hw3 := wrapS (i := i) (by omega)
    simp only [↓wpS_skip, ↓wpS_ops, ↓wpS_seq, ↓wpS_cond, ↓wpS_block, ↓wpS_loop, ↓wpS_exit, ↓wpS_ret, condW_bool, ↓WOps_go, ↓WOps_skip, WOps_nil, stepA, opA, convA, isCall, put?, ev, Tr.get_put, Tr.get_nil, builtinA, callA, argEnv, wantedS, abs_int, abs_bool, abs_string, abs_nilp, abs_nili, abs_nilf, abs_nilm, abs_nils, un_not, undef, z_none, List.zipIdx_cons, List.zipIdx_nil, List.foldl_cons, List.foldl_nil, List.map_cons, List.map_nil, List.map_toArray, List.nil_append, List.cons_append, List.append_nil, extractOp, List.getElem?_cons_zero, List.getElem?_cons_succ,
    Option.map_some, Option.map_none, Nat.reduceLT, Nat.reduceEqDiff, Nat.reduceAdd, Nat.zero_add, if_true, if_false, Option.getD_some, Option.getD_none, ↓reduceIte, Bool.false_eq_true, Bool.true_eq_false, reduceCtorEq, resA, resOf, Option.some.injEq, exists_eq_left', beq_self_eq_true, decide_true, decide_false, decide_eq_true_eq, ne_eq, not_true_eq_false, not_false_eq_true, Bool.not_eq_true, beq_iff_eq, bin_add, bin_sub, bin_mul, bin_eql, bin_neq, bin_lss, bin_leq, bin_gtr, bin_geq, maxA, minA, Prod.mk.injEq, and_true, true_and, beq_eq_false_iff_ne, decide_eq_false_iff_not, Bool.true_beq, Bool.false_beq, beq_true, beq_false, Bool.not_true, Bool.not_false, List.getElem?_toArray, e0, e1, e39, e40, e41, e5, hii, hix, wds_ld hm hlt, str_len, hw1, hgt, hw2, hw3]
    refine ⟨ws.length - (i + 1), by omega, i + 1, rfl, by omega, ?_, rfl, rfl⟩
    constructor <;> simp only [↓wpS_skip, ↓wpS_ops, ↓wpS_seq, ↓wpS_cond, ↓wpS_block, ↓wpS_loop, ↓wpS_exit, ↓wpS_ret, condW_bool, ↓WOps_go, ↓WOps_skip, WOps_nil, stepA, opA, convA, isCall, put?, ev, Tr.get_put, Tr.get_nil, builtinA, callA, argEnv, wantedS, abs_int, abs_bool, abs_string, abs_nilp, abs_nili, abs_nilf, abs_nilm, abs_nils, un_not, undef, z_none, List.zipIdx_cons, List.zipIdx_nil, List.foldl_cons, List.foldl_nil, List.map_cons, List.map_nil, List.map_toArray, List.nil_append, List.cons_append, List.append_nil, extractOp, List.getElem?_cons_zero, List.getElem?_cons_succ,
    Option.map_some, Option.map_none, Nat.reduceLT, Nat.reduceEqDiff, Nat.reduceAdd, Nat.zero_add, if_true, if_false, Option.getD_some, Option.getD_none, ↓reduceIte, Bool.false_eq_true, Bool.true_eq_false, reduceCtorEq, resA, resOf, Option.some.injEq, exists_eq_left', beq_self_eq_true, decide_true, decide_false, decide_eq_true_eq, ne_eq, not_true_eq_false, not_false_eq_true, Bool.not_eq_true, beq_iff_eq, bin_add, bin_sub, bin_mul, bin_eql, bin_neq, bin_lss, bin_leq, bin_gtr, bin_geq, maxA, minA, Prod.mk.injEq, and_true, true_and, beq_eq_false_iff_ne, decide_eq_false_iff_not, Bool.true_beq, Bool.false_beq, beq_true, beq_false, Bool.not_true, Bool.not_false, List.getElem?_toArray, e0, e1]
  · obtain rfl : i = ws.length := by omega
    have hii : ((ws.length : Int) < (ws.length : Int)) = False := by simp
    simp only [↓wpS_skip, ↓wpS_ops, ↓wpS_seq, ↓wpS_cond, ↓wpS_block, ↓wpS_loop, ↓wpS_exit, ↓wpS_ret, condW_bool, ↓WOps_go, ↓WOps_skip, WOps_nil, stepA, opA, convA, isCall, put?, ev, Tr.get_put, Tr.get_nil, builtinA, callA, argEnv, wantedS, abs_int, abs_bool, abs_string, abs_nilp, abs_nili, abs_nilf, abs_nilm, abs_nils, un_not, undef, z_none, List.zipIdx_cons, List.zipIdx_nil, List.foldl_cons, List.foldl_nil, List.map_cons, List.map_nil, List.map_toArray, List.nil_append, List.cons_append, List.append_nil, extractOp, List.getElem?_cons_zero, List.getElem?_cons_succ,
    Option.map_some, Option.map_none, Nat.reduceLT, Nat.reduceEqDiff, Nat.reduceAdd, Nat.zero_add, if_true, if_false, Option.getD_some, Option.getD_none, ↓reduceIte, Bool.false_eq_true, Bool.true_eq_false, reduceCtorEq, resA, resOf, Option.some.injEq, exists_eq_left', beq_self_eq_true, decide_true, decide_false, decide_eq_true_eq, ne_eq, not_true_eq_false, not_false_eq_true, Bool.not_eq_true, beq_iff_eq, bin_add, bin_sub, bin_mul, bin_eql, bin_neq, bin_lss, bin_leq, bin_gtr, bin_geq, maxA, minA, Prod.mk.injEq, and_true, true_and, beq_eq_false_iff_ne, decide_eq_false_iff_not, Bool.true_beq, Bool.false_beq, beq_true, beq_false, Bool.not_true, Bool.not_false, List.getElem?_toArray, e0, e1, e39, e40, e41, e5, hii]
    refine hQ _ ?_ ?_
    · constructor <;> simp only [↓wpS_skip, ↓wpS_ops, ↓wpS_seq, ↓wpS_cond, ↓wpS_block, ↓wpS_loop, ↓wpS_exit, ↓wpS_ret, condW_bool, ↓WOps_go, ↓WOps_skip, WOps_nil, stepA, opA, convA, isCall, put?, ev, Tr.get_put, Tr.get_nil, builtinA, callA, argEnv, wantedS, abs_int, abs_bool, abs_string, abs_nilp, abs_nili, abs_nilf, abs_nilm, abs_nils, un_not, undef, z_none, List.zipIdx_cons, List.zipIdx_nil, List.foldl_cons, List.foldl_nil, List.map_cons, List.map_nil, List.map_toArray, List.nil_append, List.cons_append, List.append_nil, extractOp, List.getElem?_cons_zero, List.getElem?_cons_succ,
    Option.map_some, Option.map_none, Nat.reduceLT, Nat.reduceEqDiff, Nat.reduceAdd, Nat.zero_add, if_true, if_false, Option.getD_some, Option.getD_none, ↓reduceIte, Bool.false_eq_true, Bool.true_eq_false, reduceCtorEq, resA, resOf, Option.some.injEq, exists_eq_left', beq_self_eq_true, decide_true, decide_false, decide_eq_true_eq, ne_eq, not_true_eq_false, not_false_eq_true, Bool.not_eq_true, beq_iff_eq, bin_add, bin_sub, bin_mul, bin_eql, bin_neq, bin_lss, bin_leq, bin_gtr, bin_geq, maxA, minA, Prod.mk.injEq, and_true, true_and, beq_eq_false_iff_ne, decide_eq_false_iff_not, Bool.true_beq, Bool.false_beq, beq_true, beq_false, Bool.not_true, Bool.not_false, List.getElem?_toArray, e0, e1]
    · simp only [↓wpS_skip, ↓wpS_ops, ↓wpS_seq, ↓wpS_cond, ↓wpS_block, ↓wpS_loop, ↓wpS_exit, ↓wpS_ret, condW_bool, ↓WOps_go, ↓WOps_skip, WOps_nil, stepA, opA, convA, isCall, put?, ev, Tr.get_put, Tr.get_nil, builtinA, callA, argEnv, wantedS, abs_int, abs_bool, abs_string, abs_nilp, abs_nili, abs_nilf, abs_nilm, abs_nils, un_not, undef, z_none, List.zipIdx_cons, List.zipIdx_nil, List.foldl_cons, List.foldl_nil, List.map_cons, List.map_nil, List.map_toArray, List.nil_append, List.cons_append, List.append_nil, extractOp, List.getElem?_cons_zero, List.getElem?_cons_succ,
    Option.map_some, Option.map_none, Nat.reduceLT, Nat.reduceEqDiff, Nat.reduceAdd, Nat.zero_add, if_true, if_false, Option.getD_some, Option.getD_none, ↓reduceIte, Bool.false_eq_true, Bool.true_eq_false, reduceCtorEq, resA, resOf, Option.some.injEq, exists_eq_left', beq_self_eq_true, decide_true, decide_false, decide_eq_true_eq, ne_eq, not_true_eq_false, not_false_eq_true, Bool.not_eq_true, beq_iff_eq, bin_add, bin_sub, bin_mul, bin_eql, bin_neq, bin_lss, bin_leq, bin_gtr, bin_geq, maxA, minA, Prod.mk.injEq, and_true, true_and, beq_eq_false_iff_ne, decide_eq_false_iff_not, Bool.true_beq, Bool.false_beq, beq_true, beq_false, Bool.not_true, Bool.not_false, List.getElem?_toArray, e5]
theorem jw_loop {n0 p b : Nat} {cs : List AV} {w : List UInt8} {wt : List (List UInt8)} {E : Tr AV} (hm : H.get b = some (.cells ((w :: wt).map strA) 9 false)) (hbn : b < n0) (hl : (Spl.joi (w :: wt)).length ≤ 1000) (hwt : wt.length ≤ 1000)
    (hb : Bld n0 H nx p 0 cs 46 w) (e1 : E.get 1 = some (.lit (.string (ByteArray.mk #[32])))) (e8 : E.get 8 = some (.ptr p 0)) (e63 : E.get 63 = some (.slice b 1 wt.length (some wt.length) 1)) (e64 : E.get 64 = some (.lit (.int .i64 wt.length)))
    (e65 : E.get 65 = some (.lit (.int .i64 ((0 : Nat) : Int))))
    (hQ : ∀ E' H' nx' cs', E'.get 8 = some (.ptr p 0) → Bld n0 H' nx' p 0 cs' 46 (Spl.joi (w :: wt)) → (∀ c, c < n0 → H'.get c = H.get c) → nx ≤ nx' → QQ (.exit 3) ⟨E', H', nx'⟩) : Wp cx 75 (.loop s31_l1) ⟨E, H, nx⟩ QQ := by
  refine Wp_loop (fun n st => ∃ (i : Nat) (cs' : List AV), n = wt.length - i ∧ i ≤ wt.length ∧ Bld n0 st.H st.nx p 0 cs' 46 (w ++ Spl.joiT (wt.take i)) ∧ (∀ c, c < n0 → st.H.get c = H.get c) ∧ nx ≤ st.nx ∧ st.env.get 1 = some (.lit (.string (ByteArray.mk #[32]))) ∧
    st.env.get 8 = some (.ptr p 0) ∧ st.env.get 63 = some (.slice b 1 wt.length (some wt.length) 1) ∧ st.env.get 64 = some (.lit (.int .i64 wt.length)) ∧ st.env.get 65 = some (.lit (.int .i64 i))) ?_ wt.length _
    ⟨0, cs, by omega, by omega, by simpa [Spl.joiT] using hb, fun _ _ => rfl, Nat.le_refl _, e1, e8, e63, e64, e65⟩
  rintro n ⟨E, H1, nx1⟩ ⟨i, cs', hn1, hi, hb, hold, hnx, e1, e8, e63, e64, e65⟩
  simp only at hb hold hnx e1 e8 e63 e64 e65
  have hjl : ∀ k, (w ++ Spl.joiT (wt.take k)).length ≤ 1000 := by
    intro k
    have h1 : Spl.joiT wt = Spl.joiT (wt.take k) ++ Spl.joiT (wt.drop k) := by rw [← Spl.joiT_app, List.take_append_drop]
    simp only [Spl.joi, h1, List.length_append] at hl
    rw [List.length_append]; omega
  refine Wp_of ?_
  unfold s31_l1
  by_cases hlt : i < wt.length
  · have hii : ((i : Int) < (wt.length : Int)) = True := by simp; omega
    have hix : indexAddrOp cx.T 62 (.slice b 1 wt.length (some wt.length) 1) (.lit (.int .i64 (i : Int))) = some (.ptr b (1 + i)) := ix23o hlt
    have hm1 : H1.get b = some (.cells ((w :: wt).map strA) 9 false) := (hold b hbn).trans hm
    have hld := wds_ld (ws := w :: wt) (i := 1 + i) hm1 (by simp; omega)
    have hwi : (w :: wt)[1 + i]'(by simp; omega) = wt[i] := by
      have : ∀ (j : Nat) (h : j < (w :: wt).length), j = i + 1 → (w :: wt)[j] = wt[i] := by
        rintro j h rfl; rfl
      exact this _ _ (by omega)
    rw [hwi] at hld
    have hw3 := wrapS (i := i) (by omega)
    have hj1 := hjl i
    have hj2 := hjl (i + 1)
    have hts : wt.take (i + 1) = wt.take i ++ [wt[i]] := by rw [List.take_add_one, List.getElem?_eq_getElem hlt]; rfl
    have hjs : w ++ Spl.joiT (wt.take (i + 1)) = w ++ Spl.joiT (wt.take i) ++ [32] ++ wt[i] := by
      rw [hts, Spl.joiT_app]; simp [Spl.joiT]
    rw [hjs] at hj2
    obtain ⟨H2, nx2, cs2, a1, a2, a3, a4, a5, a6⟩ := ws_cl hb [32] (by simp only [List.length_cons, List.length_nil]; omega)
    obtain ⟨H3, nx3, cs3, b1, b2, b3, b4, b5, b6⟩ := ws_cl a2 wt[i] (by simp only [List.length_append] at hj2 ⊢; omega)
    have ha1 : Cl cx 20 [.ptr p 0, .lit (.string (ByteArray.mk #[32]))] H1 nx1 = some (.tuple [.lit (.int .i64 (1 : Nat)), .lit .nilIface], H2, nx2) := a1
    simp only [↓wpS_skip, ↓wpS_ops, ↓wpS_seq, ↓wpS_cond, ↓wpS_block, ↓wpS_loop, ↓wpS_exit, ↓wpS_ret, condW_bool, ↓WOps_go, ↓WOps_skip, WOps_nil, stepA, opA, convA, isCall, put?, ev, Tr.get_put, Tr.get_nil, builtinA, callA, argEnv, wantedS, abs_int, abs_bool, abs_string, abs_nilp, abs_nili, abs_nilf, abs_nilm, abs_nils, un_not, undef, z_none, List.zipIdx_cons, List.zipIdx_nil, List.foldl_cons, List.foldl_nil, List.map_cons, List.map_nil, List.map_toArray, List.nil_append, List.cons_append, List.append_nil, extractOp, List.getElem?_cons_zero, List.getElem?_cons_succ,
    Option.map_some, Option.map_none, Nat.reduceLT, Nat.reduceEqDiff, Nat.reduceAdd, Nat.zero_add, if_true, if_false, Option.getD_some, Option.getD_none, ↓reduceIte, Bool.false_eq_true, Bool.true_eq_false, reduceCtorEq, resA, resOf, Option.some.injEq, exists_eq_left', beq_self_eq_true, decide_true, decide_false, decide_eq_true_eq, ne_eq, not_true_eq_false, not_false_eq_true, Bool.not_eq_true, beq_iff_eq, bin_add, bin_sub, bin_mul, bin_eql, bin_neq, bin_lss, bin_leq, bin_gtr, bin_geq, maxA, minA, Prod.mk.injEq, and_true, true_and, beq_eq_false_iff_ne, decide_eq_false_iff_not, Bool.true_beq, Bool.false_beq, beq_true, beq_false, Bool.not_true, Bool.not_false, List.getElem?_toArray, x_none, e1, e8, e63, e64, e65, hii, hix, hld, ha1, b1, hw3]
    refine ⟨wt.length - (i + 1), by omega, i + 1, cs3, rfl, by omega, ?_, fun c hc => ?_, Nat.le_trans hnx (Nat.le_trans a3 b3), rfl⟩
    · rw [hjs]; exact b2
    · rw [b6 c hc, a6 c hc, hold c hc]
  · obtain rfl : i = wt.length := by omega
    have hii : ((wt.length : Int) < (wt.length : Int)) = False := by simp
    simp only [↓wpS_skip, ↓wpS_ops, ↓wpS_seq, ↓wpS_cond, ↓wpS_block, ↓wpS_loop, ↓wpS_exit, ↓wpS_ret, condW_bool, ↓WOps_go, ↓WOps_skip, WOps_nil, stepA, opA, convA, isCall, put?, ev, Tr.get_put, Tr.get_nil, builtinA, callA, argEnv, wantedS, abs_int, abs_bool, abs_string, abs_nilp, abs_nili, abs_nilf, abs_nilm, abs_nils, un_not, undef, z_none, List.zipIdx_cons, List.zipIdx_nil, List.foldl_cons, List.foldl_nil, List.map_cons, List.map_nil, List.map_toArray, List.nil_append, List.cons_append, List.append_nil, extractOp, List.getElem?_cons_zero, List.getElem?_cons_succ,
    Option.map_some, Option.map_none, Nat.reduceLT, Nat.reduceEqDiff, Nat.reduceAdd, Nat.zero_add, if_true, if_false, Option.getD_some, Option.getD_none, ↓reduceIte, Bool.false_eq_true, Bool.true_eq_false, reduceCtorEq, resA, resOf, Option.some.injEq, exists_eq_left', beq_self_eq_true, decide_true, decide_false, decide_eq_true_eq, ne_eq, not_true_eq_false, not_false_eq_true, Bool.not_eq_true, beq_iff_eq, bin_add, bin_sub, bin_mul, bin_eql, bin_neq, bin_lss, bin_leq, bin_gtr, bin_geq, maxA, minA, Prod.mk.injEq, and_true, true_and, beq_eq_false_iff_ne, decide_eq_false_iff_not, Bool.true_beq, Bool.false_beq, beq_true, beq_false, Bool.not_true, Bool.not_false, List.getElem?_toArray, e1, e8, e63, e64, e65, hii]
    refine hQ _ _ _ cs' ?_ ?_ hold hnx
    · simp only [↓wpS_skip, ↓wpS_ops, ↓wpS_seq, ↓wpS_cond, ↓wpS_block, ↓wpS_loop, ↓wpS_exit, ↓wpS_ret, condW_bool, ↓WOps_go, ↓WOps_skip, WOps_nil, stepA, opA, convA, isCall, put?, ev, Tr.get_put, Tr.get_nil, builtinA, callA, argEnv, wantedS, abs_int, abs_bool, abs_string, abs_nilp, abs_nili, abs_nilf, abs_nilm, abs_nils, un_not, undef, z_none, List.zipIdx_cons, List.zipIdx_nil, List.foldl_cons, List.foldl_nil, List.map_cons, List.map_nil, List.map_toArray, List.nil_append, List.cons_append, List.append_nil, extractOp, List.getElem?_cons_zero, List.getElem?_cons_succ,
    Option.map_some, Option.map_none, Nat.reduceLT, Nat.reduceEqDiff, Nat.reduceAdd, Nat.zero_add, if_true, if_false, Option.getD_some, Option.getD_none, ↓reduceIte, Bool.false_eq_true, Bool.true_eq_false, reduceCtorEq, resA, resOf, Option.some.injEq, exists_eq_left', beq_self_eq_true, decide_true, decide_false, decide_eq_true_eq, ne_eq, not_true_eq_false, not_false_eq_true, Bool.not_eq_true, beq_iff_eq, bin_add, bin_sub, bin_mul, bin_eql, bin_neq, bin_lss, bin_leq, bin_gtr, bin_geq, maxA, minA, Prod.mk.injEq, and_true, true_and, beq_eq_false_iff_ne, decide_eq_false_iff_not, Bool.true_beq, Bool.false_beq, beq_true, beq_false, Bool.not_true, Bool.not_false, List.getElem?_toArray, e8]
    · rw [List.take_length] at hb; exact hb
end
theorem join_cl {b : Nat} {w : List UInt8} {wt : List (List UInt8)} (hm : H.get b = some (.cells ((w :: wt).map strA) 9 false)) (hb : b < nx) (hfr : ∀ c, nx ≤ c → H.get c = none) (hwt : wt.length ≤ 999) (hl : (Spl.joi (w :: wt)).length ≤ 1000) :
    ∃ v H' nx', Cl cx 31 [.slice b 0 (wt.length + 1) (some (wt.length + 1)) 1, .lit (.string (ByteArray.mk #[32]))] H nx = some (v, H', nx') ∧ (v = strA (Spl.joi (w :: wt)) ∧ (∀ c, c < nx → H'.get c = H.get c) ∧ nx ≤ nx' ∧ ∀ b, nx' ≤ b → H'.get b = none) := by
  refine wpP31 _ _ _ _ (by simp) ?_
  unfold s31
  have e0 : (((wt.length + 1 : Nat) : Int) = 0) = False := by simp; omega
  have hix0 : indexAddrOp cx.T 62 (.slice b 0 (wt.length + 1) (some (wt.length + 1)) 1) (.lit (.int .i64 0)) = some (.ptr b 0) := by
    have := ix23 (b := b) (n := wt.length + 1) (i := 0) (c := some (wt.length + 1)) (by omega)
    exact this
  have hld0 : loadOp cx.T H 9 (.ptr b 0) = some (strA w) := wds_ld (ws := w :: wt) (i := 0) hm (by simp)
  by_cases h1 : wt = []
  · subst h1
    have e1 : (((([] : List (List UInt8)).length + 1 : Nat) : Int) = 1) = True := by simp
    have hld0' := hld0
    simp only [↓wpS_skip, ↓wpS_ops, ↓wpS_seq, ↓wpS_cond, ↓wpS_block, ↓wpS_loop, ↓wpS_exit, ↓wpS_ret, condW_bool, ↓WOps_go, ↓WOps_skip, WOps_nil, stepA, opA, convA, isCall, put?, ev, Tr.get_put, Tr.get_nil, builtinA, callA, argEnv, wantedS, abs_int, abs_bool, abs_string, abs_nilp, abs_nili, abs_nilf, abs_nilm, abs_nils, un_not, undef, z_none, List.zipIdx_cons, List.zipIdx_nil, List.foldl_cons, List.foldl_nil, List.map_cons, List.map_nil, List.map_toArray, List.nil_append, List.cons_append, List.append_nil, extractOp, List.getElem?_cons_zero, List.getElem?_cons_succ,
    Option.map_some, Option.map_none, Nat.reduceLT, Nat.reduceEqDiff, Nat.reduceAdd, Nat.zero_add, if_true, if_false, Option.getD_some, Option.getD_none, ↓reduceIte, Bool.false_eq_true, Bool.true_eq_false, reduceCtorEq, resA, resOf, Option.some.injEq, exists_eq_left', beq_self_eq_true, decide_true, decide_false, decide_eq_true_eq, ne_eq, not_true_eq_false, not_false_eq_true, Bool.not_eq_true, beq_iff_eq, bin_add, bin_sub, bin_mul, bin_eql, bin_neq, bin_lss, bin_leq, bin_gtr, bin_geq, maxA, minA, Prod.mk.injEq, and_true, true_and, beq_eq_false_iff_ne, decide_eq_false_iff_not, Bool.true_beq, Bool.false_beq, beq_true, beq_false, Bool.not_true, Bool.not_false, List.getElem?_toArray, ln23, e0, e1, hix0, hld0]
    exact ⟨by simp [Spl.joi, Spl.joiT], fun _ _ => trivial, Nat.le_refl _, hfr⟩
  · have hpos : 1 ≤ wt.length := List.length_pos_iff.2 h1
    have e1 : (((wt.length + 1 : Nat) : Int) = 1) = False := by simp; omega
    have e2 : (((1 : Nat) : Int) > 0) = True := by simp
    have hw1 : IntKind.i64.wrap (((wt.length + 1 : Nat) : Int) - 1) = (wt.length : Int) := wrapP (by omega)
    have hq : binOpA cx.P cx.T .quo 3 (.const (.int .i64 9223372036854775807)) (.tmp 27) (.lit (.int .i64 9223372036854775807)) (.lit (.int .i64 (wt.length : Int))) = some (.lit (.int .i64 (9223372036854775807 / (wt.length : Int)))) := by
      have hd : (9223372036854775807 : Int) / (wt.length : Int) ≤ 9223372036854775807 := Int.ediv_le_self _ (by omega)
      have hd0 : 0 ≤ (9223372036854775807 : Int) / (wt.length : Int) := Int.ediv_nonneg (by omega) (by omega)
      rw [bin_quo _ _ _ _ _ _ _ _ (by omega), Int.tdiv_eq_ediv_of_nonneg (by omega), wrapI (by constructor <;> omega)]
    have hge : ((((1 : Nat) : Int)) ≥ 9223372036854775807 / (wt.length : Int)) = False := by
      simp only [eq_iff_iff, iff_false, ge_iff_le, Int.not_le]
      have : (2 : Int) ≤ 9223372036854775807 / (wt.length : Int) := (Int.le_ediv_iff_mul_le (by omega)).2 (by omega)
      omega
    have hw2 : IntKind.i64.wrap (((1 : Nat) : Int) * (wt.length : Int)) = (wt.length : Int) := by rw [wrapI (by constructor <;> omega)]; omega
    have hw3 : IntKind.i64.wrap (0 + (wt.length : Int)) = (wt.length : Int) := by rw [wrapI (by constructor <;> omega)]; omega
    have hjl := Spl.joi_len (w :: wt)
    have hls : lsum (w :: wt) (w :: wt).length = ((w :: wt).map List.length).sum := by unfold lsum; rw [List.take_length]
    simp only [↓wpS_skip, ↓wpS_ops, ↓wpS_seq, ↓wpS_cond, ↓wpS_block, ↓wpS_loop, ↓wpS_exit, ↓wpS_ret, condW_bool, ↓WOps_go, ↓WOps_skip, WOps_nil, stepA, opA, convA, isCall, put?, ev, Tr.get_put, Tr.get_nil, builtinA, callA, argEnv, wantedS, abs_int, abs_bool, abs_string, abs_nilp, abs_nili, abs_nilf, abs_nilm, abs_nils, un_not, undef, z_none, List.zipIdx_cons, List.zipIdx_nil, List.foldl_cons, List.foldl_nil, List.map_cons, List.map_nil, List.map_toArray, List.nil_append, List.cons_append, List.append_nil, extractOp, List.getElem?_cons_zero, List.getElem?_cons_succ,
    Option.map_some, Option.map_none, Nat.reduceLT, Nat.reduceEqDiff, Nat.reduceAdd, Nat.zero_add, if_true, if_false, Option.getD_some, Option.getD_none, ↓reduceIte, Bool.false_eq_true, Bool.true_eq_false, reduceCtorEq, resA, resOf, Option.some.injEq, exists_eq_left', beq_self_eq_true, decide_true, decide_false, decide_eq_true_eq, ne_eq, not_true_eq_false, not_false_eq_true, Bool.not_eq_true, beq_iff_eq, bin_add, bin_sub, bin_mul, bin_eql, bin_neq, bin_lss, bin_leq, bin_gtr, bin_geq, maxA, minA, Prod.mk.injEq, and_true, true_and, beq_eq_false_iff_ne, decide_eq_false_iff_not, Bool.true_beq, Bool.false_beq, beq_true, beq_false, Bool.not_true, Bool.not_false, List.getElem?_toArray, ln23, sep_len, e0, e1, e2, hw1, hq, hge, hw2, hw3]
    have hsum : wt.length + lsum (w :: wt) (w :: wt).length = (Spl.joi (w :: wt)).length := by rw [hls, hjl]; simp only [List.length_cons]; omega
    refine js_loop (ws := w :: wt) (base := wt.length) hm (by simp only [List.length_cons]; omega) (by omega) (by omega) ?_ ?_ ?_ ?_ ?_ ?_
    · constructor <;> simp only [↓wpS_skip, ↓wpS_ops, ↓wpS_seq, ↓wpS_cond, ↓wpS_block, ↓wpS_loop, ↓wpS_exit, ↓wpS_ret, condW_bool, ↓WOps_go, ↓WOps_skip, WOps_nil, stepA, opA, convA, isCall, put?, ev, Tr.get_put, Tr.get_nil, builtinA, callA, argEnv, wantedS, abs_int, abs_bool, abs_string, abs_nilp, abs_nili, abs_nilf, abs_nilm, abs_nils, un_not, undef, z_none, List.zipIdx_cons, List.zipIdx_nil, List.foldl_cons, List.foldl_nil, List.map_cons, List.map_nil, List.map_toArray, List.nil_append, List.cons_append, List.append_nil, extractOp, List.getElem?_cons_zero, List.getElem?_cons_succ,
    Option.map_some, Option.map_none, Nat.reduceLT, Nat.reduceEqDiff, Nat.reduceAdd, Nat.zero_add, if_true, if_false, Option.getD_some, Option.getD_none, ↓reduceIte, Bool.false_eq_true, Bool.true_eq_false, reduceCtorEq, resA, resOf, Option.some.injEq, exists_eq_left', beq_self_eq_true, decide_true, decide_false, decide_eq_true_eq, ne_eq, not_true_eq_false, not_false_eq_true, Bool.not_eq_true, beq_iff_eq, bin_add, bin_sub, bin_mul, bin_eql, bin_neq, bin_lss, bin_leq, bin_gtr, bin_geq, maxA, minA, Prod.mk.injEq, and_true, true_and, beq_eq_false_iff_ne, decide_eq_false_iff_not, Bool.true_beq, Bool.false_beq, beq_true, beq_false, Bool.not_true, Bool.not_false, List.getElem?_toArray, List.length_cons]
    · simp only [↓wpS_skip, ↓wpS_ops, ↓wpS_seq, ↓wpS_cond, ↓wpS_block, ↓wpS_loop, ↓wpS_exit, ↓wpS_ret, condW_bool, ↓WOps_go, ↓WOps_skip, WOps_nil, stepA, opA, convA, isCall, put?, ev, Tr.get_put, Tr.get_nil, builtinA, callA, argEnv, wantedS, abs_int, abs_bool, abs_string, abs_nilp, abs_nili, abs_nilf, abs_nilm, abs_nils, un_not, undef, z_none, List.zipIdx_cons, List.zipIdx_nil, List.foldl_cons, List.foldl_nil, List.map_cons, List.map_nil, List.map_toArray, List.nil_append, List.cons_append, List.append_nil, extractOp, List.getElem?_cons_zero, List.getElem?_cons_succ,
    Option.map_some, Option.map_none, Nat.reduceLT, Nat.reduceEqDiff, Nat.reduceAdd, Nat.zero_add, if_true, if_false, Option.getD_some, Option.getD_none, ↓reduceIte, Bool.false_eq_true, Bool.true_eq_false, reduceCtorEq, resA, resOf, Option.some.injEq, exists_eq_left', beq_self_eq_true, decide_true, decide_false, decide_eq_true_eq, ne_eq, not_true_eq_false, not_false_eq_true, Bool.not_eq_true, beq_iff_eq, bin_add, bin_sub, bin_mul, bin_eql, bin_neq, bin_lss, bin_leq, bin_gtr, bin_geq, maxA, minA, Prod.mk.injEq, and_true, true_and, beq_eq_false_iff_ne, decide_eq_false_iff_not, Bool.true_beq, Bool.false_beq, beq_true, beq_false, Bool.not_true, Bool.not_false, List.getElem?_toArray, List.length_cons]
    · simp only [↓wpS_skip, ↓wpS_ops, ↓wpS_seq, ↓wpS_cond, ↓wpS_block, ↓wpS_loop, ↓wpS_exit, ↓wpS_ret, condW_bool, ↓WOps_go, ↓WOps_skip, WOps_nil, stepA, opA, convA, isCall, put?, ev, Tr.get_put, Tr.get_nil, builtinA, callA, argEnv, wantedS, abs_int, abs_bool, abs_string, abs_nilp, abs_nili, abs_nilf, abs_nilm, abs_nils, un_not, undef, z_none, List.zipIdx_cons, List.zipIdx_nil, List.foldl_cons, List.foldl_nil, List.map_cons, List.map_nil, List.map_toArray, List.nil_append, List.cons_append, List.append_nil, extractOp, List.getElem?_cons_zero, List.getElem?_cons_succ,
    Option.map_some, Option.map_none, Nat.reduceLT, Nat.reduceEqDiff, Nat.reduceAdd, Nat.zero_add, if_true, if_false, Option.getD_some, Option.getD_none, ↓reduceIte, Bool.false_eq_true, Bool.true_eq_false, reduceCtorEq, resA, resOf, Option.some.injEq, exists_eq_left', beq_self_eq_true, decide_true, decide_false, decide_eq_true_eq, ne_eq, not_true_eq_false, not_false_eq_true, Bool.not_eq_true, beq_iff_eq, bin_add, bin_sub, bin_mul, bin_eql, bin_neq, bin_lss, bin_leq, bin_gtr, bin_geq, maxA, minA, Prod.mk.injEq, and_true, true_and, beq_eq_false_iff_ne, decide_eq_false_iff_not, Bool.true_beq, Bool.false_beq, beq_true, beq_false, Bool.not_true, Bool.not_false, List.getElem?_toArray, List.length_cons]
    · simp only [↓wpS_skip, ↓wpS_ops, ↓wpS_seq, ↓wpS_cond, ↓wpS_block, ↓wpS_loop, ↓wpS_exit, ↓wpS_ret, condW_bool, ↓WOps_go, ↓WOps_skip, WOps_nil, stepA, opA, convA, isCall, put?, ev, Tr.get_put, Tr.get_nil, builtinA, callA, argEnv, wantedS, abs_int, abs_bool, abs_string, abs_nilp, abs_nili, abs_nilf, abs_nilm, abs_nils, un_not, undef, z_none, List.zipIdx_cons, List.zipIdx_nil, List.foldl_cons, List.foldl_nil, List.map_cons, List.map_nil, List.map_toArray, List.nil_append, List.cons_append, List.append_nil, extractOp, List.getElem?_cons_zero, List.getElem?_cons_succ,
    Option.map_some, Option.map_none, Nat.reduceLT, Nat.reduceEqDiff, Nat.reduceAdd, Nat.zero_add, if_true, if_false, Option.getD_some, Option.getD_none, ↓reduceIte, Bool.false_eq_true, Bool.true_eq_false, reduceCtorEq, resA, resOf, Option.some.injEq, exists_eq_left', beq_self_eq_true, decide_true, decide_false, decide_eq_true_eq, ne_eq, not_true_eq_false, not_false_eq_true, Bool.not_eq_true, beq_iff_eq, bin_add, bin_sub, bin_mul, bin_eql, bin_neq, bin_lss, bin_leq, bin_gtr, bin_geq, maxA, minA, Prod.mk.injEq, and_true, true_and, beq_eq_false_iff_ne, decide_eq_false_iff_not, Bool.true_beq, Bool.false_beq, beq_true, beq_false, Bool.not_true, Bool.not_false, List.getElem?_toArray]; rfl
    · simp only [↓wpS_skip, ↓wpS_ops, ↓wpS_seq, ↓wpS_cond, ↓wpS_block, ↓wpS_loop, ↓wpS_exit, ↓wpS_ret, condW_bool, ↓WOps_go, ↓WOps_skip, WOps_nil, stepA, opA, convA, isCall, put?, ev, Tr.get_put, Tr.get_nil, builtinA, callA, argEnv, wantedS, abs_int, abs_bool, abs_string, abs_nilp, abs_nili, abs_nilf, abs_nilm, abs_nils, un_not, undef, z_none, List.zipIdx_cons, List.zipIdx_nil, List.foldl_cons, List.foldl_nil, List.map_cons, List.map_nil, List.map_toArray, List.nil_append, List.cons_append, List.append_nil, extractOp, List.getElem?_cons_zero, List.getElem?_cons_succ,
    Option.map_some, Option.map_none, Nat.reduceLT, Nat.reduceEqDiff, Nat.reduceAdd, Nat.zero_add, if_true, if_false, Option.getD_some, Option.getD_none, ↓reduceIte, Bool.false_eq_true, Bool.true_eq_false, reduceCtorEq, resA, resOf, Option.some.injEq, exists_eq_left', beq_self_eq_true, decide_true, decide_false, decide_eq_true_eq, ne_eq, not_true_eq_false, not_false_eq_true, Bool.not_eq_true, beq_iff_eq, bin_add, bin_sub, bin_mul, bin_eql, bin_neq, bin_lss, bin_leq, bin_gtr, bin_geq, maxA, minA, Prod.mk.injEq, and_true, true_and, beq_eq_false_iff_ne, decide_eq_false_iff_not, Bool.true_beq, Bool.false_beq, beq_true, beq_false, Bool.not_true, Bool.not_false, List.getElem?_toArray]
    · rintro E' ⟨e0', e1'⟩ e5
      rw [hsum] at e5
      obtain ⟨H2, nx2, cs2, g1, g2, g3, g4, g5⟩ := Grow_cl (bld_new hfr) rfl (Spl.joi (w :: wt)).length (by omega) (by omega)
      obtain ⟨H3, nx3, cs3, k1, k2, k3, k4, k5, k6⟩ := ws_cl g2 w (by have := hl; simp only [Spl.joi, List.length_append, List.length_nil] at this ⊢; omega)
      have hm2 : H2.get b = some (.cells ((w :: wt).map strA) 9 false) := by
        rw [g5 b hb, Tr.get_put_ne _ _ _ _ (by omega)]; exact hm
      have hm3 : H3.get b = some (.cells ((w :: wt).map strA) 9 false) := by rw [k6 b hb]; exact hm2
      have hld2 : loadOp cx.T H2 9 (.ptr b 0) = some (strA w) := wds_ld (ws := w :: wt) (i := 0) hm2 (by simp)
      have hsl : sliceOp cx.P cx.T H3 62 (.slice b 0 (wt.length + 1) (some (wt.length + 1)) 1) (some (.lit (.int .i64 1))) none none = some (.slice b 1 wt.length (some wt.length) 1) := sl23f b (wt.length + 1) (by omega)
      simp only [List.length_cons] at e0'
      simp only [↓wpS_skip, ↓wpS_ops, ↓wpS_seq, ↓wpS_cond, ↓wpS_block, ↓wpS_loop, ↓wpS_exit, ↓wpS_ret, condW_bool, ↓WOps_go, ↓WOps_skip, WOps_nil, stepA, opA, convA, isCall, put?, ev, Tr.get_put, Tr.get_nil, builtinA, callA, argEnv, wantedS, abs_int, abs_bool, abs_string, abs_nilp, abs_nili, abs_nilf, abs_nilm, abs_nils, un_not, undef, z_none, List.zipIdx_cons, List.zipIdx_nil, List.foldl_cons, List.foldl_nil, List.map_cons, List.map_nil, List.map_toArray, List.nil_append, List.cons_append, List.append_nil, extractOp, List.getElem?_cons_zero, List.getElem?_cons_succ,
    Option.map_some, Option.map_none, Nat.reduceLT, Nat.reduceEqDiff, Nat.reduceAdd, Nat.zero_add, if_true, if_false, Option.getD_some, Option.getD_none, ↓reduceIte, Bool.false_eq_true, Bool.true_eq_false, reduceCtorEq, resA, resOf, Option.some.injEq, exists_eq_left', beq_self_eq_true, decide_true, decide_false, decide_eq_true_eq, ne_eq, not_true_eq_false, not_false_eq_true, Bool.not_eq_true, beq_iff_eq, bin_add, bin_sub, bin_mul, bin_eql, bin_neq, bin_lss, bin_leq, bin_gtr, bin_geq, maxA, minA, Prod.mk.injEq, and_true, true_and, beq_eq_false_iff_ne, decide_eq_false_iff_not, Bool.true_beq, Bool.false_beq, beq_true, beq_false, Bool.not_true, Bool.not_false, List.getElem?_toArray, e0', e1', e5, al47, g1, x_none, hix0, hld2, k1, hsl, ln23]
      refine jw_loop (w := w) (wt := wt) (n0 := nx) (p := nx) (b := b) hm3 hb hl (by omega) (by simpa using k2) ?_ ?_ ?_ ?_ ?_ ?_
      · simp only [↓wpS_skip, ↓wpS_ops, ↓wpS_seq, ↓wpS_cond, ↓wpS_block, ↓wpS_loop, ↓wpS_exit, ↓wpS_ret, condW_bool, ↓WOps_go, ↓WOps_skip, WOps_nil, stepA, opA, convA, isCall, put?, ev, Tr.get_put, Tr.get_nil, builtinA, callA, argEnv, wantedS, abs_int, abs_bool, abs_string, abs_nilp, abs_nili, abs_nilf, abs_nilm, abs_nils, un_not, undef, z_none, List.zipIdx_cons, List.zipIdx_nil, List.foldl_cons, List.foldl_nil, List.map_cons, List.map_nil, List.map_toArray, List.nil_append, List.cons_append, List.append_nil, extractOp, List.getElem?_cons_zero, List.getElem?_cons_succ,
    Option.map_some, Option.map_none, Nat.reduceLT, Nat.reduceEqDiff, Nat.reduceAdd, Nat.zero_add, if_true, if_false, Option.getD_some, Option.getD_none, ↓reduceIte, Bool.false_eq_true, Bool.true_eq_false, reduceCtorEq, resA, resOf, Option.some.injEq, exists_eq_left', beq_self_eq_true, decide_true, decide_false, decide_eq_true_eq, ne_eq, not_true_eq_false, not_false_eq_true, Bool.not_eq_true, beq_iff_eq, bin_add, bin_sub, bin_mul, bin_eql, bin_neq, bin_lss, bin_leq, bin_gtr, bin_geq, maxA, minA, Prod.mk.injEq, and_true, true_and, beq_eq_false_iff_ne, decide_eq_false_iff_not, Bool.true_beq, Bool.false_beq, beq_true, beq_false, Bool.not_true, Bool.not_false, List.getElem?_toArray, e1']
      · simp only [↓wpS_skip, ↓wpS_ops, ↓wpS_seq, ↓wpS_cond, ↓wpS_block, ↓wpS_loop, ↓wpS_exit, ↓wpS_ret, condW_bool, ↓WOps_go, ↓WOps_skip, WOps_nil, stepA, opA, convA, isCall, put?, ev, Tr.get_put, Tr.get_nil, builtinA, callA, argEnv, wantedS, abs_int, abs_bool, abs_string, abs_nilp, abs_nili, abs_nilf, abs_nilm, abs_nils, un_not, undef, z_none, List.zipIdx_cons, List.zipIdx_nil, List.foldl_cons, List.foldl_nil, List.map_cons, List.map_nil, List.map_toArray, List.nil_append, List.cons_append, List.append_nil, extractOp, List.getElem?_cons_zero, List.getElem?_cons_succ,
    Option.map_some, Option.map_none, Nat.reduceLT, Nat.reduceEqDiff, Nat.reduceAdd, Nat.zero_add, if_true, if_false, Option.getD_some, Option.getD_none, ↓reduceIte, Bool.false_eq_true, Bool.true_eq_false, reduceCtorEq, resA, resOf, Option.some.injEq, exists_eq_left', beq_self_eq_true, decide_true, decide_false, decide_eq_true_eq, ne_eq, not_true_eq_false, not_false_eq_true, Bool.not_eq_true, beq_iff_eq, bin_add, bin_sub, bin_mul, bin_eql, bin_neq, bin_lss, bin_leq, bin_gtr, bin_geq, maxA, minA, Prod.mk.injEq, and_true, true_and, beq_eq_false_iff_ne, decide_eq_false_iff_not, Bool.true_beq, Bool.false_beq, beq_true, beq_false, Bool.not_true, Bool.not_false, List.getElem?_toArray]
      · simp only [↓wpS_skip, ↓wpS_ops, ↓wpS_seq, ↓wpS_cond, ↓wpS_block, ↓wpS_loop, ↓wpS_exit, ↓wpS_ret, condW_bool, ↓WOps_go, ↓WOps_skip, WOps_nil, stepA, opA, convA, isCall, put?, ev, Tr.get_put, Tr.get_nil, builtinA, callA, argEnv, wantedS, abs_int, abs_bool, abs_string, abs_nilp, abs_nili, abs_nilf, abs_nilm, abs_nils, un_not, undef, z_none, List.zipIdx_cons, List.zipIdx_nil, List.foldl_cons, List.foldl_nil, List.map_cons, List.map_nil, List.map_toArray, List.nil_append, List.cons_append, List.append_nil, extractOp, List.getElem?_cons_zero, List.getElem?_cons_succ,
    Option.map_some, Option.map_none, Nat.reduceLT, Nat.reduceEqDiff, Nat.reduceAdd, Nat.zero_add, if_true, if_false, Option.getD_some, Option.getD_none, ↓reduceIte, Bool.false_eq_true, Bool.true_eq_false, reduceCtorEq, resA, resOf, Option.some.injEq, exists_eq_left', beq_self_eq_true, decide_true, decide_false, decide_eq_true_eq, ne_eq, not_true_eq_false, not_false_eq_true, Bool.not_eq_true, beq_iff_eq, bin_add, bin_sub, bin_mul, bin_eql, bin_neq, bin_lss, bin_leq, bin_gtr, bin_geq, maxA, minA, Prod.mk.injEq, and_true, true_and, beq_eq_false_iff_ne, decide_eq_false_iff_not, Bool.true_beq, Bool.false_beq, beq_true, beq_false, Bool.not_true, Bool.not_false, List.getElem?_toArray]
      · simp only [↓wpS_skip, ↓wpS_ops, ↓wpS_seq, ↓wpS_cond, ↓wpS_block, ↓wpS_loop, ↓wpS_exit, ↓wpS_ret, condW_bool, ↓WOps_go, ↓WOps_skip, WOps_nil, stepA, opA, convA, isCall, put?, ev, Tr.get_put, Tr.get_nil, builtinA, callA, argEnv, wantedS, abs_int, abs_bool, abs_string, abs_nilp, abs_nili, abs_nilf, abs_nilm, abs_nils, un_not, undef, z_none, List.zipIdx_cons, List.zipIdx_nil, List.foldl_cons, List.foldl_nil, List.map_cons, List.map_nil, List.map_toArray, List.nil_append, List.cons_append, List.append_nil, extractOp, List.getElem?_cons_zero, List.getElem?_cons_succ,
    Option.map_some, Option.map_none, Nat.reduceLT, Nat.reduceEqDiff, Nat.reduceAdd, Nat.zero_add, if_true, if_false, Option.getD_some, Option.getD_none, ↓reduceIte, Bool.false_eq_true, Bool.true_eq_false, reduceCtorEq, resA, resOf, Option.some.injEq, exists_eq_left', beq_self_eq_true, decide_true, decide_false, decide_eq_true_eq, ne_eq, not_true_eq_false, not_false_eq_true, Bool.not_eq_true, beq_iff_eq, bin_add, bin_sub, bin_mul, bin_eql, bin_neq, bin_lss, bin_leq, bin_gtr, bin_geq, maxA, minA, Prod.mk.injEq, and_true, true_and, beq_eq_false_iff_ne, decide_eq_false_iff_not, Bool.true_beq, Bool.false_beq, beq_true, beq_false, Bool.not_true, Bool.not_false, List.getElem?_toArray]
      · simp only [↓wpS_skip, ↓wpS_ops, ↓wpS_seq, ↓wpS_cond, ↓wpS_block, ↓wpS_loop, ↓wpS_exit, ↓wpS_ret, condW_bool, ↓WOps_go, ↓WOps_skip, WOps_nil, stepA, opA, convA, isCall, put?, ev, Tr.get_put, Tr.get_nil, builtinA, callA, argEnv, wantedS, abs_int, abs_bool, abs_string, abs_nilp, abs_nili, abs_nilf, abs_nilm, abs_nils, un_not, undef, z_none, List.zipIdx_cons, List.zipIdx_nil, List.foldl_cons, List.foldl_nil, List.map_cons, List.map_nil, List.map_toArray, List.nil_append, List.cons_append, List.append_nil, extractOp, List.getElem?_cons_zero, List.getElem?_cons_succ,
    Option.map_some, Option.map_none, Nat.reduceLT, Nat.reduceEqDiff, Nat.reduceAdd, Nat.zero_add, if_true, if_false, Option.getD_some, Option.getD_none, ↓reduceIte, Bool.false_eq_true, Bool.true_eq_false, reduceCtorEq, resA, resOf, Option.some.injEq, exists_eq_left', beq_self_eq_true, decide_true, decide_false, decide_eq_true_eq, ne_eq, not_true_eq_false, not_false_eq_true, Bool.not_eq_true, beq_iff_eq, bin_add, bin_sub, bin_mul, bin_eql, bin_neq, bin_lss, bin_leq, bin_gtr, bin_geq, maxA, minA, Prod.mk.injEq, and_true, true_and, beq_eq_false_iff_ne, decide_eq_false_iff_not, Bool.true_beq, Bool.false_beq, beq_true, beq_false, Bool.not_true, Bool.not_false, List.getElem?_toArray]; rfl
      · intro E2 H4 nx4 cs4 f8 hb4 hold4 hnx4
        have hne : Spl.joi (w :: wt) ≠ [] := by
          intro hh
          have hz : (Spl.joi (w :: wt)).length = 0 := by rw [hh]; rfl
          omega
        obtain ⟨H5, s1, s2, s3⟩ := bstr_cl hb4 (by omega) hne
        simp only [↓wpS_skip, ↓wpS_ops, ↓wpS_seq, ↓wpS_cond, ↓wpS_block, ↓wpS_loop, ↓wpS_exit, ↓wpS_ret, condW_bool, ↓WOps_go, ↓WOps_skip, WOps_nil, stepA, opA, convA, isCall, put?, ev, Tr.get_put, Tr.get_nil, builtinA, callA, argEnv, wantedS, abs_int, abs_bool, abs_string, abs_nilp, abs_nili, abs_nilf, abs_nilm, abs_nils, un_not, undef, z_none, List.zipIdx_cons, List.zipIdx_nil, List.foldl_cons, List.foldl_nil, List.map_cons, List.map_nil, List.map_toArray, List.nil_append, List.cons_append, List.append_nil, extractOp, List.getElem?_cons_zero, List.getElem?_cons_succ,
    Option.map_some, Option.map_none, Nat.reduceLT, Nat.reduceEqDiff, Nat.reduceAdd, Nat.zero_add, if_true, if_false, Option.getD_some, Option.getD_none, ↓reduceIte, Bool.false_eq_true, Bool.true_eq_false, reduceCtorEq, resA, resOf, Option.some.injEq, exists_eq_left', beq_self_eq_true, decide_true, decide_false, decide_eq_true_eq, ne_eq, not_true_eq_false, not_false_eq_true, Bool.not_eq_true, beq_iff_eq, bin_add, bin_sub, bin_mul, bin_eql, bin_neq, bin_lss, bin_leq, bin_gtr, bin_geq, maxA, minA, Prod.mk.injEq, and_true, true_and, beq_eq_false_iff_ne, decide_eq_false_iff_not, Bool.true_beq, Bool.false_beq, beq_true, beq_false, Bool.not_true, Bool.not_false, List.getElem?_toArray, f8, s1, x_none]
        refine ⟨fun c hc => ?_, by omega, s3⟩
        rw [s2 c hc, hold4 c hc, k6 c hc, g5 c hc, Tr.get_put_ne _ _ _ _ (by omega)]
theorem words_cl {b : Nat} {ws : List (List UInt8)} (h0 : ws ≠ []) (hm : H.get b = some (.cells (ws.map strA) 9 false)) (hb : b < nx) (hfr : ∀ c, nx ≤ c → H.get c = none) (hwt : ws.length ≤ 1000) (hl : (Spl.joi ws).length ≤ 1000) :
    ∃ H' nx', Cl cx 21 [.slice b 0 ws.length (some ws.length) 1] H nx = some (strA (Spl.joi ws), H', nx') ∧ (∀ c, c < nx → H'.get c = H.get c) ∧ nx ≤ nx' ∧ ∀ b, nx' ≤ b → H'.get b = none := by
  cases ws with
  | nil => exact absurd rfl h0
  | cons w wt =>
    obtain ⟨v, H', nx', h1, rfl, h2⟩ := join_cl hm hb hfr (by simp only [List.length_cons] at hwt; omega) hl
    refine ⟨H', nx', ?_, h2⟩
    refine wp21 _ _ _ _ (by simp) ?_
    unfold s21
    simp only [↓wpS_skip, ↓wpS_ops, ↓wpS_seq, ↓wpS_cond, ↓wpS_block, ↓wpS_loop, ↓wpS_exit, ↓wpS_ret, condW_bool, ↓WOps_go, ↓WOps_skip, WOps_nil, stepA, opA, convA, isCall, put?, ev, Tr.get_put, Tr.get_nil, builtinA, callA, argEnv, wantedS, abs_int, abs_bool, abs_string, abs_nilp, abs_nili, abs_nilf, abs_nilm, abs_nils, un_not, undef, z_none, List.zipIdx_cons, List.zipIdx_nil, List.foldl_cons, List.foldl_nil, List.map_cons, List.map_nil, List.map_toArray, List.nil_append, List.cons_append, List.append_nil, extractOp, List.getElem?_cons_zero, List.getElem?_cons_succ,
    Option.map_some, Option.map_none, Nat.reduceLT, Nat.reduceEqDiff, Nat.reduceAdd, Nat.zero_add, if_true, if_false, Option.getD_some, Option.getD_none, ↓reduceIte, Bool.false_eq_true, Bool.true_eq_false, reduceCtorEq, resA, resOf, Option.some.injEq, exists_eq_left', beq_self_eq_true, decide_true, decide_false, decide_eq_true_eq, ne_eq, not_true_eq_false, not_false_eq_true, Bool.not_eq_true, beq_iff_eq, bin_add, bin_sub, bin_mul, bin_eql, bin_neq, bin_lss, bin_leq, bin_gtr, bin_geq, maxA, minA, Prod.mk.injEq, and_true, true_and, beq_eq_false_iff_ne, decide_eq_false_iff_not, Bool.true_beq, Bool.false_beq, beq_true, beq_false, Bool.not_true, Bool.not_false, List.getElem?_toArray, x_none, List.length_cons, h1]
end Seat
end CI
/- The document's number, told. -/
set_option linter.unusedVariables false
set_option linter.unusedSimpArgs false
set_option maxRecDepth 10000
namespace CI
open Go
namespace Seat
variable {H : Heap} {nx : Nat}
/-- What is still to be told, and what was told. -/
def decS (n : Nat) (acc : List UInt8) : List UInt8 := if n = 0 then acc else Lib.decDigits n ++ acc
theorem decS_step (n : Nat) (acc : List UInt8) : decS (n / 10) (UInt8.ofNat (48 + n % 10) :: acc) = Lib.decDigits n ++ acc := by
  unfold decS
  by_cases h : n < 10
  · rw [if_pos (by omega)]
    rw [Lib.decDigits, dif_pos h, Nat.mod_eq_of_lt h]
    rfl
  · rw [if_neg (by omega)]
    conv => rhs; rw [Lib.decDigits, dif_neg h]
    simp
theorem cv_3_5 (n : Nat) (h : n < 256) : convOp cx.P cx.T H nx 3 5 (.lit (.int .i64 n)) = some (byteA (UInt8.ofNat n), H, nx) := by
  have : convOp cx.P cx.T H nx 3 5 (.lit (.int .i64 n)) = some (.lit (.int .u8 (IntKind.u8.wrap n)), H, nx) := by kernel_rfl
  rw [this]
  have e : IntKind.u8.wrap (n : Int) = ((UInt8.ofNat n).toNat : Int) := by
    simp only [IntKind.wrap, IntKind.signed, IntKind.bits, Bool.false_and, Bool.false_eq_true, if_false, UInt8.toNat_ofNat']
    omega
  rw [e]
  rfl
theorem cv_bytes {X : Heap} {n c m : Nat} {k : Option Nat} {l : List UInt8} {t : TypeId} {ro : Bool} (hc : X.get c = some (.cells (l.map byteA) t ro)) (hm : l.length = m) :
    convOp cx.P cx.T X n 43 9 (.slice c 0 m k 1) = some (strA l, X, n) := by
  have e : plain1 cx.P (convert 43 9) (.slice c 0 m k 1) = none := by kernel_rfl
  have hcut : cut (l.map byteA) 0 m = some (l.map byteA) := by
    have : (l.map byteA).take m = l.map byteA := List.take_of_length_le (by simp [hm])
    simp [cut, hm, this]
  unfold convOp
  rw [e]
  simp only [T43, T9, ti43, ti9, T5, ti5, hc, hcut, Option.bind_some, bytesOf_map, Option.map_some, fold_bytes]
  rfl

theorem dec_len : ∀ (k u : Nat), 1 ≤ k → u < 10 ^ k → (Lib.decDigits u).length ≤ k
  | 0, _, h, _ => by omega
  | 1, u, _, h => by rw [Lib.decDigits, dif_pos (by simpa using h)]; simp
  | k + 2, u, _, h => by
    by_cases hu : u < 10
    · rw [Lib.decDigits, dif_pos hu]; simp
    · have h2 : u / 10 < 10 ^ (k + 1) := by rw [Nat.pow_succ] at h; omega
      have := dec_len (k + 1) (u / 10) (by omega) h2
      rw [Lib.decDigits, dif_neg hu, List.length_append]
      simp only [List.length_singleton]
      omega
theorem ref_loop {E : Tr AV} {QQ : Ex → St → Prop} {u : Nat} (hu : u ≤ 9223372036854775807) (hfh : ∀ c, nx ≤ c → H.get c = none) (e0 : E.get 0 = some (.lit (.int .i64 u))) (e3 : E.get 3 = some (strA []))
    (hQ : ∀ E' H' nx', E'.get 3 = some (strA (Lib.decDigits u)) → nx ≤ nx' → (∀ c, c < nx → H'.get c = H.get c) → (∀ c, nx' ≤ c → H'.get c = none) → QQ (.exit 0) ⟨E', H', nx'⟩) : Wp cx 29 (.loop s11_l0) ⟨E, H, nx⟩ QQ := by
  refine Wp_loop (fun k st => ∃ (n : Nat) (acc : List UInt8), k = n + (if acc = [] then 1 else 0) ∧ n ≤ u ∧ (acc = [] → n = u) ∧ (acc ≠ [] → decS n acc = Lib.decDigits u) ∧ acc.length + n ≤ u + 1 ∧ nx ≤ st.nx ∧ (∀ c, c < nx → st.H.get c = H.get c) ∧ (∀ c, st.nx ≤ c → st.H.get c = none) ∧
    st.env.get 0 = some (.lit (.int .i64 n)) ∧ st.env.get 3 = some (strA acc)) ?_ (u + 1) _ ⟨u, [], by simp, by omega, fun _ => rfl, fun h => absurd rfl h, by simp, Nat.le_refl _, fun _ _ => rfl, hfh, e0, e3⟩
  rintro k ⟨E, H1, nx1⟩ ⟨n, acc, hk, hn, ha0, ha, hlen, hnx, hold, hf, e0, e3⟩
  simp only at hnx hold hf e0 e3
  refine Wp_of ?_
  unfold s11_l0
  have hw1 : IntKind.i64.wrap (48 + ((n % 10 : Nat) : Int)) = ((48 + n % 10 : Nat) : Int) := by rw [wrapI (by constructor <;> omega)]; omega
  have hrem : binOpA cx.P cx.T .rem 3 (.tmp 18) (.const (.int .i64 10)) (.lit (.int .i64 n)) (.lit (.int .i64 10)) = some (.lit (.int .i64 ((n % 10 : Nat) : Int))) := by
    rw [bin_rem _ _ _ _ _ _ _ _ (by decide), Int.tmod_eq_emod_of_nonneg (by omega)]; rfl
  have hquo : binOpA cx.P cx.T .quo 3 (.tmp 26) (.const (.int .i64 10)) (.lit (.int .i64 n)) (.lit (.int .i64 10)) = some (.lit (.int .i64 ((n / 10 : Nat) : Int))) := by
    rw [bin_quo _ _ _ _ _ _ _ _ (by decide), Int.tdiv_eq_ediv_of_nonneg (by omega), wrapI]
    · rfl
    · constructor <;> omega
  have hcv := cv_bytes (X := H1.put nx1 (some (.cells [byteA (UInt8.ofNat (48 + n % 10))] 5 false))) (n := nx1 + 1) (k := some 1) (l := [UInt8.ofNat (48 + n % 10)]) (t := 5) (ro := false) (Tr.get_put_same _ _ _) (m := 1) rfl
  have heq := str_eql (.tmp 12) (.const (.string (ByteArray.mk #[]))) acc []
  have heq' : binOpA cx.P cx.T .eql 9 (.tmp 12) (.const (.string (ByteArray.mk #[]))) (strA acc) (.lit (.string (ByteArray.mk #[]))) = some (.lit (.bool (decide (acc = [])))) := heq
  have hacc : acc.length ≤ 20 := by
    by_cases h : acc = []
    · rw [h]; simp
    · have h1 := dec_len 20 u (by omega) (by omega)
      rw [← ha h] at h1
      unfold decS at h1
      split at h1
      · exact h1
      · rw [List.length_append] at h1; omega
  have hadd := str_add (.tmp 23) (.tmp 24) [UInt8.ofNat (48 + n % 10)] acc (by simp only [List.length_singleton]; omega)
  by_cases h0 : acc = []
  · subst h0
    have hnu : n = u := ha0 rfl
    have hstep : decS (n / 10) [UInt8.ofNat (48 + n % 10)] = Lib.decDigits u := by
      rw [← hnu]
      have := decS_step n []
      simpa using this
    have ht : (([] : List UInt8) = []) = True := by simp
    simp only [↓wpS_skip, ↓wpS_ops, ↓wpS_seq, ↓wpS_cond, ↓wpS_block, ↓wpS_loop, ↓wpS_exit, ↓wpS_ret, condW_bool, ↓WOps_go, ↓WOps_skip, WOps_nil, stepA, opA, convA, isCall, put?, ev, Tr.get_put, Tr.get_nil, builtinA, callA, argEnv, wantedS, abs_int, abs_bool, abs_string, abs_nilp, abs_nili, abs_nilf, abs_nilm, abs_nils, un_not, undef, z_none, List.zipIdx_cons, List.zipIdx_nil, List.foldl_cons, List.foldl_nil, List.map_cons, List.map_nil, List.map_toArray, List.nil_append, List.cons_append, List.append_nil, extractOp, List.getElem?_cons_zero, List.getElem?_cons_succ,
    Option.map_some, Option.map_none, Nat.reduceLT, Nat.reduceEqDiff, Nat.reduceAdd, Nat.zero_add, if_true, if_false, Option.getD_some, Option.getD_none, ↓reduceIte, Bool.false_eq_true, Bool.true_eq_false, reduceCtorEq, resA, resOf, Option.some.injEq, exists_eq_left', beq_self_eq_true, decide_true, decide_false, decide_eq_true_eq, ne_eq, not_true_eq_false, not_false_eq_true, Bool.not_eq_true, beq_iff_eq, bin_add, bin_sub, bin_mul, bin_eql, bin_neq, bin_lss, bin_leq, bin_gtr, bin_geq, maxA, minA, Prod.mk.injEq, and_true, true_and, beq_eq_false_iff_ne, decide_eq_false_iff_not, Bool.true_beq, Bool.false_beq, beq_true, beq_false, Bool.not_true, Bool.not_false, List.getElem?_toArray, e0, e3, heq', ht, hrem, hw1, cv_3_5 (48 + n % 10) (by omega), partsA, bs_one, hcv, hquo, hadd]
    refine ⟨n / 10 + 0, by simp at hk ⊢; omega, n / 10, [UInt8.ofNat (48 + n % 10)], by simp, by omega, by simp, fun _ => hstep, by simp at hlen ⊢; omega, by omega, fun c hc => ?_, fun c hc => ?_, rfl, rfl⟩
    · rw [if_neg (by omega)]; exact hold c hc
    · rw [if_neg (by omega)]; exact hf c (by omega)
  · by_cases hn0 : n = 0
    · subst hn0
      have hd := ha h0
      unfold decS at hd
      rw [if_pos rfl] at hd
      have e1 : (((0 : Nat) : Int) > 0) = False := by simp
      simp only [↓wpS_skip, ↓wpS_ops, ↓wpS_seq, ↓wpS_cond, ↓wpS_block, ↓wpS_loop, ↓wpS_exit, ↓wpS_ret, condW_bool, ↓WOps_go, ↓WOps_skip, WOps_nil, stepA, opA, convA, isCall, put?, ev, Tr.get_put, Tr.get_nil, builtinA, callA, argEnv, wantedS, abs_int, abs_bool, abs_string, abs_nilp, abs_nili, abs_nilf, abs_nilm, abs_nils, un_not, undef, z_none, List.zipIdx_cons, List.zipIdx_nil, List.foldl_cons, List.foldl_nil, List.map_cons, List.map_nil, List.map_toArray, List.nil_append, List.cons_append, List.append_nil, extractOp, List.getElem?_cons_zero, List.getElem?_cons_succ,
    Option.map_some, Option.map_none, Nat.reduceLT, Nat.reduceEqDiff, Nat.reduceAdd, Nat.zero_add, if_true, if_false, Option.getD_some, Option.getD_none, ↓reduceIte, Bool.false_eq_true, Bool.true_eq_false, reduceCtorEq, resA, resOf, Option.some.injEq, exists_eq_left', beq_self_eq_true, decide_true, decide_false, decide_eq_true_eq, ne_eq, not_true_eq_false, not_false_eq_true, Bool.not_eq_true, beq_iff_eq, bin_add, bin_sub, bin_mul, bin_eql, bin_neq, bin_lss, bin_leq, bin_gtr, bin_geq, maxA, minA, Prod.mk.injEq, and_true, true_and, beq_eq_false_iff_ne, decide_eq_false_iff_not, Bool.true_beq, Bool.false_beq, beq_true, beq_false, Bool.not_true, Bool.not_false, List.getElem?_toArray, e0, e3, heq', h0, e1]
      refine hQ _ _ _ ?_ hnx hold hf
      rw [← hd]
      simp only [↓wpS_skip, ↓wpS_ops, ↓wpS_seq, ↓wpS_cond, ↓wpS_block, ↓wpS_loop, ↓wpS_exit, ↓wpS_ret, condW_bool, ↓WOps_go, ↓WOps_skip, WOps_nil, stepA, opA, convA, isCall, put?, ev, Tr.get_put, Tr.get_nil, builtinA, callA, argEnv, wantedS, abs_int, abs_bool, abs_string, abs_nilp, abs_nili, abs_nilf, abs_nilm, abs_nils, un_not, undef, z_none, List.zipIdx_cons, List.zipIdx_nil, List.foldl_cons, List.foldl_nil, List.map_cons, List.map_nil, List.map_toArray, List.nil_append, List.cons_append, List.append_nil, extractOp, List.getElem?_cons_zero, List.getElem?_cons_succ,
    Option.map_some, Option.map_none, Nat.reduceLT, Nat.reduceEqDiff, Nat.reduceAdd, Nat.zero_add, if_true, if_false, Option.getD_some, Option.getD_none, ↓reduceIte, Bool.false_eq_true, Bool.true_eq_false, reduceCtorEq, resA, resOf, Option.some.injEq, exists_eq_left', beq_self_eq_true, decide_true, decide_false, decide_eq_true_eq, ne_eq, not_true_eq_false, not_false_eq_true, Bool.not_eq_true, beq_iff_eq, bin_add, bin_sub, bin_mul, bin_eql, bin_neq, bin_lss, bin_leq, bin_gtr, bin_geq, maxA, minA, Prod.mk.injEq, and_true, true_and, beq_eq_false_iff_ne, decide_eq_false_iff_not, Bool.true_beq, Bool.false_beq, beq_true, beq_false, Bool.not_true, Bool.not_false, List.getElem?_toArray, e3]
    · have e1 : ((n : Int) > 0) = True := by simp; omega
      have hstep : decS (n / 10) ([UInt8.ofNat (48 + n % 10)] ++ acc) = Lib.decDigits u := by
        rw [← ha h0]
        have := decS_step n acc
        unfold decS at this ⊢
        rw [if_neg hn0]
        simpa using this
      simp only [↓wpS_skip, ↓wpS_ops, ↓wpS_seq, ↓wpS_cond, ↓wpS_block, ↓wpS_loop, ↓wpS_exit, ↓wpS_ret, condW_bool, ↓WOps_go, ↓WOps_skip, WOps_nil, stepA, opA, convA, isCall, put?, ev, Tr.get_put, Tr.get_nil, builtinA, callA, argEnv, wantedS, abs_int, abs_bool, abs_string, abs_nilp, abs_nili, abs_nilf, abs_nilm, abs_nils, un_not, undef, z_none, List.zipIdx_cons, List.zipIdx_nil, List.foldl_cons, List.foldl_nil, List.map_cons, List.map_nil, List.map_toArray, List.nil_append, List.cons_append, List.append_nil, extractOp, List.getElem?_cons_zero, List.getElem?_cons_succ,
    Option.map_some, Option.map_none, Nat.reduceLT, Nat.reduceEqDiff, Nat.reduceAdd, Nat.zero_add, if_true, if_false, Option.getD_some, Option.getD_none, ↓reduceIte, Bool.false_eq_true, Bool.true_eq_false, reduceCtorEq, resA, resOf, Option.some.injEq, exists_eq_left', beq_self_eq_true, decide_true, decide_false, decide_eq_true_eq, ne_eq, not_true_eq_false, not_false_eq_true, Bool.not_eq_true, beq_iff_eq, bin_add, bin_sub, bin_mul, bin_eql, bin_neq, bin_lss, bin_leq, bin_gtr, bin_geq, maxA, minA, Prod.mk.injEq, and_true, true_and, beq_eq_false_iff_ne, decide_eq_false_iff_not, Bool.true_beq, Bool.false_beq, beq_true, beq_false, Bool.not_true, Bool.not_false, List.getElem?_toArray, e0, e3, heq', h0, e1, hrem, hw1, cv_3_5 (48 + n % 10) (by omega), partsA, bs_one, hcv, hquo, hadd]
      refine ⟨n / 10 + 0, by simp [h0] at hk ⊢; omega, n / 10, [UInt8.ofNat (48 + n % 10)] ++ acc, by simp, by omega, by simp, fun _ => hstep, by simp at hlen ⊢; omega, by omega, fun c hc => ?_, fun c hc => ?_, rfl, rfl⟩
      · rw [if_neg (by omega)]; exact hold c hc
      · rw [if_neg (by omega)]; exact hf c (by omega)
theorem ref_pos (u : Nat) (hu : u ≤ 9223372036854775807) (hfh : ∀ c, nx ≤ c → H.get c = none) :
    ∃ v H' nx', Cl cx 11 [.lit (.int .i64 u)] H nx = some (v, H', nx') ∧ (v = strA (Lib.decDigits u) ∧ nx ≤ nx' ∧ (∀ c, c < nx → H'.get c = H.get c) ∧ ∀ c, nx' ≤ c → H'.get c = none) := by
  refine wpP11 _ _ _ _ (by simp) ?_
  unfold s11
  have e1 : ((u : Int) < 0) = False := by simp
  simp only [↓wpS_skip, ↓wpS_ops, ↓wpS_seq, ↓wpS_cond, ↓wpS_block, ↓wpS_loop, ↓wpS_exit, ↓wpS_ret, condW_bool, ↓WOps_go, ↓WOps_skip, WOps_nil, stepA, opA, convA, isCall, put?, ev, Tr.get_put, Tr.get_nil, builtinA, callA, argEnv, wantedS, abs_int, abs_bool, abs_string, abs_nilp, abs_nili, abs_nilf, abs_nilm, abs_nils, un_not, undef, z_none, List.zipIdx_cons, List.zipIdx_nil, List.foldl_cons, List.foldl_nil, List.map_cons, List.map_nil, List.map_toArray, List.nil_append, List.cons_append, List.append_nil, extractOp, List.getElem?_cons_zero, List.getElem?_cons_succ,
    Option.map_some, Option.map_none, Nat.reduceLT, Nat.reduceEqDiff, Nat.reduceAdd, Nat.zero_add, if_true, if_false, Option.getD_some, Option.getD_none, ↓reduceIte, Bool.false_eq_true, Bool.true_eq_false, reduceCtorEq, resA, resOf, Option.some.injEq, exists_eq_left', beq_self_eq_true, decide_true, decide_false, decide_eq_true_eq, ne_eq, not_true_eq_false, not_false_eq_true, Bool.not_eq_true, beq_iff_eq, bin_add, bin_sub, bin_mul, bin_eql, bin_neq, bin_lss, bin_leq, bin_gtr, bin_geq, maxA, minA, Prod.mk.injEq, and_true, true_and, beq_eq_false_iff_ne, decide_eq_false_iff_not, Bool.true_beq, Bool.false_beq, beq_true, beq_false, Bool.not_true, Bool.not_false, List.getElem?_toArray, e1]
  refine ref_loop (u := u) hu hfh ?_ ?_ ?_
  · simp only [↓wpS_skip, ↓wpS_ops, ↓wpS_seq, ↓wpS_cond, ↓wpS_block, ↓wpS_loop, ↓wpS_exit, ↓wpS_ret, condW_bool, ↓WOps_go, ↓WOps_skip, WOps_nil, stepA, opA, convA, isCall, put?, ev, Tr.get_put, Tr.get_nil, builtinA, callA, argEnv, wantedS, abs_int, abs_bool, abs_string, abs_nilp, abs_nili, abs_nilf, abs_nilm, abs_nils, un_not, undef, z_none, List.zipIdx_cons, List.zipIdx_nil, List.foldl_cons, List.foldl_nil, List.map_cons, List.map_nil, List.map_toArray, List.nil_append, List.cons_append, List.append_nil, extractOp, List.getElem?_cons_zero, List.getElem?_cons_succ,
    Option.map_some, Option.map_none, Nat.reduceLT, Nat.reduceEqDiff, Nat.reduceAdd, Nat.zero_add, if_true, if_false, Option.getD_some, Option.getD_none, ↓reduceIte, Bool.false_eq_true, Bool.true_eq_false, reduceCtorEq, resA, resOf, Option.some.injEq, exists_eq_left', beq_self_eq_true, decide_true, decide_false, decide_eq_true_eq, ne_eq, not_true_eq_false, not_false_eq_true, Bool.not_eq_true, beq_iff_eq, bin_add, bin_sub, bin_mul, bin_eql, bin_neq, bin_lss, bin_leq, bin_gtr, bin_geq, maxA, minA, Prod.mk.injEq, and_true, true_and, beq_eq_false_iff_ne, decide_eq_false_iff_not, Bool.true_beq, Bool.false_beq, beq_true, beq_false, Bool.not_true, Bool.not_false, List.getElem?_toArray]
  · simp only [↓wpS_skip, ↓wpS_ops, ↓wpS_seq, ↓wpS_cond, ↓wpS_block, ↓wpS_loop, ↓wpS_exit, ↓wpS_ret, condW_bool, ↓WOps_go, ↓WOps_skip, WOps_nil, stepA, opA, convA, isCall, put?, ev, Tr.get_put, Tr.get_nil, builtinA, callA, argEnv, wantedS, abs_int, abs_bool, abs_string, abs_nilp, abs_nili, abs_nilf, abs_nilm, abs_nils, un_not, undef, z_none, List.zipIdx_cons, List.zipIdx_nil, List.foldl_cons, List.foldl_nil, List.map_cons, List.map_nil, List.map_toArray, List.nil_append, List.cons_append, List.append_nil, extractOp, List.getElem?_cons_zero, List.getElem?_cons_succ,
    Option.map_some, Option.map_none, Nat.reduceLT, Nat.reduceEqDiff, Nat.reduceAdd, Nat.zero_add, if_true, if_false, Option.getD_some, Option.getD_none, ↓reduceIte, Bool.false_eq_true, Bool.true_eq_false, reduceCtorEq, resA, resOf, Option.some.injEq, exists_eq_left', beq_self_eq_true, decide_true, decide_false, decide_eq_true_eq, ne_eq, not_true_eq_false, not_false_eq_true, Bool.not_eq_true, beq_iff_eq, bin_add, bin_sub, bin_mul, bin_eql, bin_neq, bin_lss, bin_leq, bin_gtr, bin_geq, maxA, minA, Prod.mk.injEq, and_true, true_and, beq_eq_false_iff_ne, decide_eq_false_iff_not, Bool.true_beq, Bool.false_beq, beq_true, beq_false, Bool.not_true, Bool.not_false, List.getElem?_toArray]; rfl
  · intro E' H' nx' f3 h1 h2 h3
    simp only [↓wpS_skip, ↓wpS_ops, ↓wpS_seq, ↓wpS_cond, ↓wpS_block, ↓wpS_loop, ↓wpS_exit, ↓wpS_ret, condW_bool, ↓WOps_go, ↓WOps_skip, WOps_nil, stepA, opA, convA, isCall, put?, ev, Tr.get_put, Tr.get_nil, builtinA, callA, argEnv, wantedS, abs_int, abs_bool, abs_string, abs_nilp, abs_nili, abs_nilf, abs_nilm, abs_nils, un_not, undef, z_none, List.zipIdx_cons, List.zipIdx_nil, List.foldl_cons, List.foldl_nil, List.map_cons, List.map_nil, List.map_toArray, List.nil_append, List.cons_append, List.append_nil, extractOp, List.getElem?_cons_zero, List.getElem?_cons_succ,
    Option.map_some, Option.map_none, Nat.reduceLT, Nat.reduceEqDiff, Nat.reduceAdd, Nat.zero_add, if_true, if_false, Option.getD_some, Option.getD_none, ↓reduceIte, Bool.false_eq_true, Bool.true_eq_false, reduceCtorEq, resA, resOf, Option.some.injEq, exists_eq_left', beq_self_eq_true, decide_true, decide_false, decide_eq_true_eq, ne_eq, not_true_eq_false, not_false_eq_true, Bool.not_eq_true, beq_iff_eq, bin_add, bin_sub, bin_mul, bin_eql, bin_neq, bin_lss, bin_leq, bin_gtr, bin_geq, maxA, minA, Prod.mk.injEq, and_true, true_and, beq_eq_false_iff_ne, decide_eq_false_iff_not, Bool.true_beq, Bool.false_beq, beq_true, beq_false, Bool.not_true, Bool.not_false, List.getElem?_toArray, f3]
    exact ⟨h1, h2, h3⟩
theorem ref_cl (n : Int) (hn : -9223372036854775808 ≤ n ∧ n ≤ 9223372036854775807) (hfh : ∀ c, nx ≤ c → H.get c = none) :
    ∃ v H' nx', Cl cx 11 [.lit (.int .i64 n)] H nx = some (v, H', nx') ∧ (v = strA (Lib.itoa n) ∧ nx ≤ nx' ∧ (∀ c, c < nx → H'.get c = H.get c) ∧ ∀ c, nx' ≤ c → H'.get c = none) := by
  by_cases h0 : n < 0
  · have e1 : (n < 0) = True := by simp [h0]
    unfold Lib.itoa
    rw [if_pos h0]
    by_cases hm : n = -9223372036854775808
    · subst hm
      refine wpP11 _ _ _ _ (by simp) ?_
      unfold s11
      have e2 : ((-9223372036854775808 : Int) = -9223372036854775808) = True := by simp
      simp only [↓wpS_skip, ↓wpS_ops, ↓wpS_seq, ↓wpS_cond, ↓wpS_block, ↓wpS_loop, ↓wpS_exit, ↓wpS_ret, condW_bool, ↓WOps_go, ↓WOps_skip, WOps_nil, stepA, opA, convA, isCall, put?, ev, Tr.get_put, Tr.get_nil, builtinA, callA, argEnv, wantedS, abs_int, abs_bool, abs_string, abs_nilp, abs_nili, abs_nilf, abs_nilm, abs_nils, un_not, undef, z_none, List.zipIdx_cons, List.zipIdx_nil, List.foldl_cons, List.foldl_nil, List.map_cons, List.map_nil, List.map_toArray, List.nil_append, List.cons_append, List.append_nil, extractOp, List.getElem?_cons_zero, List.getElem?_cons_succ,
    Option.map_some, Option.map_none, Nat.reduceLT, Nat.reduceEqDiff, Nat.reduceAdd, Nat.zero_add, if_true, if_false, Option.getD_some, Option.getD_none, ↓reduceIte, Bool.false_eq_true, Bool.true_eq_false, reduceCtorEq, resA, resOf, Option.some.injEq, exists_eq_left', beq_self_eq_true, decide_true, decide_false, decide_eq_true_eq, ne_eq, not_true_eq_false, not_false_eq_true, Bool.not_eq_true, beq_iff_eq, bin_add, bin_sub, bin_mul, bin_eql, bin_neq, bin_lss, bin_leq, bin_gtr, bin_geq, maxA, minA, Prod.mk.injEq, and_true, true_and, beq_eq_false_iff_ne, decide_eq_false_iff_not, Bool.true_beq, Bool.false_beq, beq_true, beq_false, Bool.not_true, Bool.not_false, List.getElem?_toArray, e1, e2]
      refine ⟨?_, Nat.le_refl _, fun _ _ => trivial, hfh⟩
      have : (45 :: Lib.decDigits 9223372036854775808) = [45, 57, 50, 50, 51, 51, 55, 50, 48, 51, 54, 56, 53, 52, 55, 55, 53, 56, 48, 56] := by
        simp [Lib.decDigits]
      show _ = strA (45 :: Lib.decDigits 9223372036854775808)
      rw [this]
      rfl
    · obtain ⟨v, H', nx', p1, rfl, p2, p3⟩ := ref_pos (H := H) (nx := nx) n.natAbs (by omega) hfh
      have hna : ((n.natAbs : Nat) : Int) = -n := by omega
      rw [hna] at p1
      refine wpP11 _ _ _ _ (by simp) ?_
      unfold s11
      have e2 : (n = -9223372036854775808) = False := by simp [hm]
      have hw : IntKind.i64.wrap (-n) = -n := wrapI (by constructor <;> omega)
      have hneg : plain1 cx.P (Op.unary .neg) (.lit (.int .i64 n)) = some (.lit (.int .i64 (-n))) := by
        have : plain1 cx.P (Op.unary .neg) (.lit (.int .i64 n)) = some (.lit (.int .i64 (IntKind.i64.wrap (0 - n)))) := by kernel_rfl
        rw [this, Int.zero_sub, hw]
      have hl := dec_len 20 n.natAbs (by omega) (by omega)
      have hadd : binOpA cx.P cx.T .add 9 (.const (.string (ByteArray.mk #[45]))) (.tmp 10) (.lit (.string (ByteArray.mk #[45]))) (strA (Lib.decDigits n.natAbs)) = some (strA (45 :: Lib.decDigits n.natAbs)) := str_add _ _ [45] _ (by simp only [List.length_singleton]; omega)
      simp only [↓wpS_skip, ↓wpS_ops, ↓wpS_seq, ↓wpS_cond, ↓wpS_block, ↓wpS_loop, ↓wpS_exit, ↓wpS_ret, condW_bool, ↓WOps_go, ↓WOps_skip, WOps_nil, stepA, opA, convA, isCall, put?, ev, Tr.get_put, Tr.get_nil, builtinA, callA, argEnv, wantedS, abs_int, abs_bool, abs_string, abs_nilp, abs_nili, abs_nilf, abs_nilm, abs_nils, un_not, undef, z_none, List.zipIdx_cons, List.zipIdx_nil, List.foldl_cons, List.foldl_nil, List.map_cons, List.map_nil, List.map_toArray, List.nil_append, List.cons_append, List.append_nil, extractOp, List.getElem?_cons_zero, List.getElem?_cons_succ,
    Option.map_some, Option.map_none, Nat.reduceLT, Nat.reduceEqDiff, Nat.reduceAdd, Nat.zero_add, if_true, if_false, Option.getD_some, Option.getD_none, ↓reduceIte, Bool.false_eq_true, Bool.true_eq_false, reduceCtorEq, resA, resOf, Option.some.injEq, exists_eq_left', beq_self_eq_true, decide_true, decide_false, decide_eq_true_eq, ne_eq, not_true_eq_false, not_false_eq_true, Bool.not_eq_true, beq_iff_eq, bin_add, bin_sub, bin_mul, bin_eql, bin_neq, bin_lss, bin_leq, bin_gtr, bin_geq, maxA, minA, Prod.mk.injEq, and_true, true_and, beq_eq_false_iff_ne, decide_eq_false_iff_not, Bool.true_beq, Bool.false_beq, beq_true, beq_false, Bool.not_true, Bool.not_false, List.getElem?_toArray, e1, e2, hneg, x_none, p1, hadd]
      exact ⟨p2, p3⟩
  · obtain ⟨u, rfl⟩ : ∃ u : Nat, n = u := ⟨n.toNat, by omega⟩
    have := ref_pos (H := H) (nx := nx) u (by omega) hfh
    unfold Lib.itoa
    rw [if_neg h0]
    exact this
end Seat
end CI
