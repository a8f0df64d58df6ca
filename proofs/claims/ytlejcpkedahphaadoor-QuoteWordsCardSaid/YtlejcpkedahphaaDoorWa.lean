/- Texts and builders, walked. -/
import Derived.Test.YtlejcpkedahphaaDoorWx
import Derived.Laws.Strings
set_option linter.unusedVariables false
set_option linter.unusedSimpArgs false
namespace CI
open Go
namespace Seat
variable {H : Heap} {nx : Nat}
/-! ### texts -/
def B (l : List UInt8) : ByteArray := ⟨l.toArray⟩
def strA (l : List UInt8) : AV := .lit (.string (B l))
def byteA (b : UInt8) : AV := .lit (.int .u8 b.toNat)
theorem B_size (l : List UInt8) : (B l).size = l.length := by simp [B, ByteArray.size]
theorem B_data (l : List UInt8) : (B l).data.toList = l := by simp [B]
theorem B_toList (l : List UInt8) : (B l).toList = l := by
  rw [ByteArray.toList_eq, B_data]
theorem B_append (l m : List UInt8) : B l ++ B m = B (l ++ m) := by
  apply ByteArray.ext
  simp [B, ByteArray.data_append]
theorem B_of (s : ByteArray) : s = B s.data.toList := by
  cases s; simp [B]
theorem B_inj {l m : List UInt8} : B l = B m ↔ l = m := by
  constructor
  · intro h
    have := congrArg (fun s => s.data.toList) h
    simpa [B_data] using this
  · rintro rfl; rfl
section
variable (x y : Operand) (l m : List UInt8)
theorem str_add (h : l.length + m.length ≤ 1000000000) : binOpA cx.P cx.T .add 9 x y (strA l) (strA m) = some (strA (l ++ m)) := by
  have e : plain2 cx.P (fun p q => do eqGuard .add 9 x y p q; binOp .add 9 p q) (strA l) (strA m) = (pureRun cx.P (Op.stringOp .add (B l) (B m))).map abs := rfl
  unfold binOpA
  rw [e]
  simp only [Op.stringOp, B_size]
  rw [if_neg (by
    have e : IntKind.i64.max = 9223372036854775807 := by decide
    rw [e]; omega)]
  rw [B_append]
  rfl
theorem str_eql : binOpA cx.P cx.T .eql 9 x y (strA l) (strA m) = some (.lit (.bool (decide (l = m)))) := by
  have e : plain2 cx.P (fun p q => do eqGuard .eql 9 x y p q; binOp .eql 9 p q) (strA l) (strA m) = (pureRun cx.P (Op.stringOp .eql (B l) (B m))).map abs := rfl
  unfold binOpA
  rw [e]
  simp only [Op.stringOp, B_toList]
  rw [show (l == m) = decide (l = m) from by by_cases h : l = m <;> simp [h]]
  rfl
theorem str_len : lenOp cx.T H 9 (strA l) = some l.length := by
  have : lenOp cx.T H 9 (strA l) = some (B l).size := by kernel_rfl
  rw [this, B_size]
theorem str_ix (i : Nat) (b : UInt8) (k : IntKind) (h : l[i]? = some b) : indexOp cx.P cx.T 9 (strA l) (.lit (.int k i)) = some (byteA b) := by
  have : indexOp cx.P cx.T 9 (strA l) (.lit (.int k i)) = ((B l).data.toList[i]?).map fun c => .lit (.int .u8 c.toNat) := by kernel_rfl
  rw [this, B_data, h]
  rfl
end
/-! ### memory -/
theorem ld_at {t : TypeId} {p o : Nat} {cs : List AV} {tb : TypeId} {ro : Bool} {v : AV} (ht : (cx.T.get t).map (·.agg) = some false) (hp : H.get p = some (.cells cs tb ro)) (hv : cs[o]? = some v) :
    loadOp cx.T H t (.ptr p o) = some v := by
  unfold loadOp
  simp only [Option.map_eq_some_iff] at ht
  obtain ⟨i, h1, h2⟩ := ht
  simp only [h1, hp, h2]
  have hlt : o < cs.length := (List.getElem?_eq_some_iff.1 hv).1
  simp only [cut, if_pos (show o + 1 ≤ cs.length by omega), Option.bind_some, Bool.false_eq_true, if_false]
  rw [List.getElem?_take, if_pos (by omega), List.getElem?_drop]
  simpa using hv
theorem overA_one (cs : List AV) (o : Nat) (v : AV) (h : o < cs.length) : overA cs o [v] = cs.set o v := by
  apply List.ext_getElem?
  intro j
  rw [overA_get _ _ _ (by simp only [List.length_singleton]; omega), List.getElem?_set]
  simp only [List.length_singleton]
  by_cases hj : o = j
  · subst hj
    simp [h]
  · rw [if_neg (by omega), if_neg hj]
theorem st_at {t : TypeId} {p o : Nat} {cs : List AV} {tb : TypeId} {v : AV} (ht : (cx.T.get t).map (·.size) = some 1) (hp : H.get p = some (.cells cs tb false)) (ho : o < cs.length) (hv : cellsOf v = [v]) (h1 : one v = true) :
    storeOp cx.T H t (.ptr p o) v = some (H.put p (some (.cells (cs.set o v) tb false))) := by
  unfold storeOp
  simp only [Option.map_eq_some_iff] at ht
  obtain ⟨i, e1, e2⟩ := ht
  simp only [e1, hp, hv, e2]
  rw [if_pos ⟨by simp, by simp only [List.length_singleton]; omega, by simp [h1]⟩, overA_one _ _ _ ho]

/-! ### builders -/
structure Bld (n0 : Nat) (H : Heap) (nx p o : Nat) (cs : List AV) (t : TypeId) (bs : List UInt8) : Prop where
  hp : H.get p = some (.cells cs t false)
  p0 : n0 ≤ p
  p1 : p < nx
  lies : liesAt cx.P cx.P.depth t (cs.length / cx.P.cellsOf t) o 47 1 = true
  self : cs[o]? = some (.lit (.pointer none)) ∨ cs[o]? = some (.ptr p o)
  buf : (bs = [] ∧ cs[o + 1]? = some (.lit (.slice none 0 0))) ∨ ∃ c, c ≠ p ∧ n0 ≤ c ∧ c < nx ∧ cs[o + 1]? = some (.slice c 0 bs.length none 1) ∧ H.get c = some (.cells (bs.map byteA) 5 false)
  fr : ∀ b, nx ≤ b → H.get b = none
theorem x44 (v : AV) : cx.X 44 [v] = some v := by kernel_rfl
theorem fa47_0 (p o : Nat) : fieldAddrOp cx.T 47 (.ptr p o) 0 = some (.ptr p o) := by kernel_rfl
theorem fa47_1 (p o : Nat) : fieldAddrOp cx.T 47 (.ptr p o) 1 = some (.ptr p (o + 1)) := by kernel_rfl
theorem nc_ptr (p o : Nat) : nilCheckOp (.ptr p o) = some (.ptr p o) := rfl
theorem eql45n (x y : Operand) : binOpA cx.P cx.T .eql 45 x y (.lit (.pointer none)) (.lit (.pointer none)) = some (.lit (.bool true)) := by
  cases x <;> cases y <;> kernel_rfl
theorem eql45p (x y : Operand) (p o : Nat) : binOpA cx.P cx.T .eql 45 x y (.ptr p o) (.lit (.pointer none)) = some (.lit (.bool false)) := by kernel_rfl
theorem neq45 (x y : Operand) (p o : Nat) : binOpA cx.P cx.T .neq 45 x y (.ptr p o) (.ptr p o) = some (.lit (.bool false)) := by
  have e : binOpA cx.P cx.T .neq 45 x y (.ptr p o) (.ptr p o) = (if p = p ∧ (1 : Nat) ≠ 0 ∨ True then (if p = p ∧ (2 : Nat) ≠ 0 then some (decide (o = o)) else none) else none).map fun r => .lit (.bool !r) := by
    rw [if_pos (.inr trivial)]
    kernel_rfl
  rw [e]
  simp
theorem T45 : cx.T.get 45 = some ti45 := by kernel_rfl
theorem T41 : cx.T.get 41 = some ti41 := by kernel_rfl
theorem T47 : cx.T.get 47 = some ti47 := by kernel_rfl
theorem T72 : cx.T.get 72 = some ti72 := by kernel_rfl
theorem T5 : cx.T.get 5 = some ti5 := by kernel_rfl
theorem T9 : cx.T.get 9 = some ti9 := by kernel_rfl
theorem co45 (p o : Nat) : convOp cx.P cx.T H nx 45 72 (.ptr p o) = none := by kernel_rfl
theorem co72 (p o : Nat) : convOp cx.P cx.T H nx 72 45 (.ptr p o) = none := by kernel_rfl
theorem cu45 {p o : Nat} {cs : List AV} {t : TypeId} {ro : Bool} (hp : H.get p = some (.cells cs t ro)) (ho : o < cs.length) : convU cx.P cx.T H 45 72 (.ptr p o) = some (.ptr p o) := by
  unfold convU
  simp only [T45, T72, T47, ti45, ti72, ti47, hp]
  rw [if_pos ⟨by decide, ho⟩]
theorem cu72 {p o : Nat} {cs : List AV} {t : TypeId} {ro : Bool} (hp : H.get p = some (.cells cs t ro)) (hl : liesAt cx.P cx.P.depth t (cs.length / cx.P.cellsOf t) o 47 1 = true) : convU cx.P cx.T H 72 45 (.ptr p o) = some (.ptr p o) := by
  unfold convU
  simp only [T45, T72, T47, ti45, ti72, ti47, hp, hl, if_true]
theorem set_get {cs : List AV} {o j : Nat} {v : AV} (h : j ≠ o) : (cs.set o v)[j]? = cs[j]? := by
  rw [List.getElem?_set, if_neg (fun e => h e.symm)]
/-- copyCheck. -/
theorem cc_cl {n0 p o : Nat} {cs : List AV} {t : TypeId} {bs : List UInt8} (hb : Bld n0 H nx p o cs t bs) :
    ∃ H' cs', Cl cx 31 [.ptr p o] H nx = some (.tuple [], H', nx) ∧ Bld n0 H' nx p o cs' t bs ∧ cs'[o]? = some (.ptr p o) ∧ (∀ j, j ≠ o → cs'[j]? = cs[j]?) ∧ (∀ c, c ≠ p → H'.get c = H.get c) ∧ cs'.length = cs.length := by
  have ho : o < cs.length := by
    rcases hb.self with h | h <;> exact (List.getElem?_eq_some_iff.1 h).1
  rcases hb.self with h | h
  · refine ⟨H.put p (some (.cells (cs.set o (.ptr p o)) t false)), cs.set o (.ptr p o), ?_, ?_, by simp [List.getElem?_set, ho], fun j hj => set_get hj, fun c hc => Tr.get_put_ne _ _ _ _ hc, by simp⟩
    · refine wp31 _ _ _ _ (by simp) ?_
      unfold s31
      simp only [↓wpS_skip, ↓wpS_ops, ↓wpS_seq, ↓wpS_cond, ↓wpS_block, ↓wpS_loop, ↓wpS_exit, ↓wpS_ret, condW_bool, ↓WOps_go, ↓WOps_skip, WOps_nil, stepA, opA, convA, isCall, put?, ev, Tr.get_put, Tr.get_nil, builtinA, callA, argEnv, wantedS, abs_int, abs_bool, abs_string, abs_nilp, abs_nili, abs_nilf, abs_nilm, abs_nils, un_not, z_none, List.zipIdx_cons, List.zipIdx_nil, List.foldl_cons, List.foldl_nil, List.map_cons, List.map_nil, List.map_toArray, List.nil_append, List.cons_append, List.append_nil, extractOp, List.getElem?_cons_zero, List.getElem?_cons_succ,
    Option.map_some, Option.map_none, Nat.reduceLT, Nat.reduceEqDiff, Nat.reduceAdd, Nat.zero_add, if_true, if_false, Option.getD_some, Option.getD_none, ↓reduceIte, Bool.false_eq_true, Bool.true_eq_false, reduceCtorEq, resA, resOf, Option.some.injEq, exists_eq_left', beq_self_eq_true, decide_true, decide_false, decide_eq_true_eq, ne_eq, not_true_eq_false, not_false_eq_true, Bool.not_eq_true, beq_iff_eq, bin_add, bin_sub, bin_mul, bin_eql, bin_neq, bin_lss, bin_leq, bin_gtr, bin_geq, maxA, minA, Prod.mk.injEq, and_true, true_and, beq_eq_false_iff_ne, decide_eq_false_iff_not, Bool.true_beq, Bool.false_beq, beq_true, beq_false, Bool.not_true, Bool.not_false, List.getElem?_toArray, nc_ptr, fa47_0, ld_at (t := 45) (by kernel_rfl) hb.hp h, abs_nilp, eql45n, co45, cu45 hb.hp ho, x44, co72, cu72 hb.hp hb.lies, st_at (t := 45) (v := .ptr p o) (by kernel_rfl) hb.hp ho rfl rfl]
    · exact {
        hp := Tr.get_put_same _ _ _
        p0 := hb.p0
        p1 := hb.p1
        lies := by simpa using hb.lies
        self := .inr (by simp [List.getElem?_set, ho])
        buf := by
          rw [set_get (by omega)]
          rcases hb.buf with h | ⟨c, h1, h2, h3, h5, h6⟩
          · exact .inl h
          · exact .inr ⟨c, h1, h2, h3, h5, by rw [Tr.get_put_ne _ _ _ _ h1]; exact h6⟩
        fr := fun b hb2 => by rw [Tr.get_put_ne _ _ _ _ (by have := hb.p1; omega)]; exact hb.fr b hb2 }
  · refine ⟨H, cs, ?_, hb, h, fun _ _ => rfl, fun _ _ => rfl, rfl⟩
    refine wp31 _ _ _ _ (by simp) ?_
    unfold s31
    simp only [↓wpS_skip, ↓wpS_ops, ↓wpS_seq, ↓wpS_cond, ↓wpS_block, ↓wpS_loop, ↓wpS_exit, ↓wpS_ret, condW_bool, ↓WOps_go, ↓WOps_skip, WOps_nil, stepA, opA, convA, isCall, put?, ev, Tr.get_put, Tr.get_nil, builtinA, callA, argEnv, wantedS, abs_int, abs_bool, abs_string, abs_nilp, abs_nili, abs_nilf, abs_nilm, abs_nils, un_not, z_none, List.zipIdx_cons, List.zipIdx_nil, List.foldl_cons, List.foldl_nil, List.map_cons, List.map_nil, List.map_toArray, List.nil_append, List.cons_append, List.append_nil, extractOp, List.getElem?_cons_zero, List.getElem?_cons_succ,
    Option.map_some, Option.map_none, Nat.reduceLT, Nat.reduceEqDiff, Nat.reduceAdd, Nat.zero_add, if_true, if_false, Option.getD_some, Option.getD_none, ↓reduceIte, Bool.false_eq_true, Bool.true_eq_false, reduceCtorEq, resA, resOf, Option.some.injEq, exists_eq_left', beq_self_eq_true, decide_true, decide_false, decide_eq_true_eq, ne_eq, not_true_eq_false, not_false_eq_true, Bool.not_eq_true, beq_iff_eq, bin_add, bin_sub, bin_mul, bin_eql, bin_neq, bin_lss, bin_leq, bin_gtr, bin_geq, maxA, minA, Prod.mk.injEq, and_true, true_and, beq_eq_false_iff_ne, decide_eq_false_iff_not, Bool.true_beq, Bool.false_beq, beq_true, beq_false, Bool.not_true, Bool.not_false, List.getElem?_toArray, nc_ptr, fa47_0, ld_at (t := 45) (by kernel_rfl) hb.hp h, abs_nilp, eql45p, neq45]
/-! append, of bytes -/
theorem one_byteA : ∀ l : List UInt8, (l.map byteA).all one = true
  | [] => rfl
  | b :: l => by simp only [List.map_cons, List.all_cons, one_byteA l, Bool.and_true]; rfl
theorem appLim_ok {n m : Nat} (h : n + m ≤ 1000000000) : appLim n m 1 = true := by
  unfold appLim
  simp only [decide_eq_true_eq]
  omega
theorem app_nil {t2 : TypeId} (h2 : t2 = 41 ∨ t2 = 9) {x : AV} {m : Nat} {new : List AV} (hs : srcCells H 1 x = some (m, new)) (h0 : m ≠ 0) (hm : m ≤ 1000000000) :
    appendOp cx.T H nx 41 (.lit (.slice none 0 0)) t2 x = some (.slice nx 0 m none 1, H.put nx (some (.cells new 5 false)), nx + 1) := by
  unfold appendOp
  rcases h2 with rfl | rfl
  all_goals
    simp only [T41, T5, T9, ti41, ti5, ti9, isIntD, hs, Bool.false_eq_true, if_false]
    rw [if_neg h0, if_pos (appLim_ok (by omega))]
theorem app_open {t2 : TypeId} (h2 : t2 = 41 ∨ t2 = 9) {x : AV} {m c : Nat} {new old : List AV} (hc : H.get c = some (.cells old 5 false)) (hs : srcCells H 1 x = some (m, new)) (h0 : m ≠ 0)
    (hl : new.length = m) (hm : old.length + m ≤ 1000000000) (h1 : new.all one = true) :
    appendOp cx.T H nx 41 (.slice c 0 old.length none 1) t2 x = some (.slice nx 0 (old.length + m) none 1, (H.put c none).put nx (some (.cells (old ++ new) 5 false)), nx + 1) := by
  have hcut : cut old 0 (old.length * 1) = some old := by simp [cut]
  unfold appendOp
  rcases h2 with rfl | rfl
  all_goals
    simp only [T41, T5, T9, ti41, ti5, ti9, isIntD, hs, Bool.false_eq_true, if_false, hc]
    rw [if_neg h0, if_neg (by simp), if_neg (by omega), hcut]
    simp only
    rw [if_pos (by simp [appLim_ok hm, h1])]
end Seat
end CI
