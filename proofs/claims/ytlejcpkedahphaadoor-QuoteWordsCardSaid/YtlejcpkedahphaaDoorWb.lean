/- Builders, walked: what is written into them. -/
import Derived.Test.YtlejcpkedahphaaDoorWa
set_option linter.unusedVariables false
set_option linter.unusedSimpArgs false
namespace CI
open Go
namespace Seat
variable {H : Heap} {nx : Nat}
theorem bs_one (b : UInt8) : buildSliceOp cx.T H nx 41 1 [(0, byteA b)] = some (.slice nx 0 1 (some 1) 1, H.put nx (some (.cells [byteA b] 5 false)), nx + 1) := by kernel_rfl
theorem bs_two (a b : UInt8) : buildSliceOp cx.T H nx 41 2 [(0, byteA a), (1, byteA b)] = some (.slice nx 0 2 (some 2) 1, H.put nx (some (.cells [byteA a, byteA b] 5 false)), nx + 1) := by kernel_rfl
theorem app_bld {n0 p o : Nat} {cs : List AV} {t t2 : TypeId} {bs more : List UInt8} {H2 : Heap} {nx2 : Nat} {x bf : AV} (hb : Bld n0 H nx p o cs t bs) (hself : cs[o]? = some (.ptr p o)) (hbf : cs[o + 1]? = some bf) (hnx : nx ≤ nx2)
    (hold : ∀ c, c < nx → H2.get c = H.get c) (hfr : ∀ c, nx2 ≤ c → H2.get c = none) (h2 : t2 = 41 ∨ t2 = 9) (hs : srcCells H2 1 x = some (more.length, more.map byteA)) (h0 : more ≠ []) (hm : bs.length + more.length ≤ 1000000000) :
    ∃ H3 bf' H4, appendOp cx.T H2 nx2 41 bf t2 x = some (bf', H3, nx2 + 1) ∧ storeOp cx.T H3 41 (.ptr p (o + 1)) bf' = some H4 ∧ Bld n0 H4 (nx2 + 1) p o (cs.set (o + 1) bf') t (bs ++ more) ∧ ∀ c, c < n0 → H4.get c = H.get c := by
  have ho : o + 1 < cs.length := (List.getElem?_eq_some_iff.1 hbf).1
  have hp1 := hb.p1
  have hp0 := hb.p0
  have hne : more.length ≠ 0 := by simpa using h0
  have fin : ∀ (H3 : Heap) (k : Nat), k = bs.length + more.length → H3.get p = H.get p → H3.get nx2 = some (.cells ((bs ++ more).map byteA) 5 false) → (∀ c, c < n0 → H3.get c = H.get c) → (∀ c, nx2 < c → H3.get c = none) →
      storeOp cx.T H3 41 (.ptr p (o + 1)) (.slice nx2 0 k none 1) = some (H3.put p (some (.cells (cs.set (o + 1) (.slice nx2 0 k none 1)) t false))) ∧
      Bld n0 (H3.put p (some (.cells (cs.set (o + 1) (.slice nx2 0 k none 1)) t false))) (nx2 + 1) p o (cs.set (o + 1) (.slice nx2 0 k none 1)) t (bs ++ more) ∧
      ∀ c, c < n0 → (H3.put p (some (.cells (cs.set (o + 1) (.slice nx2 0 k none 1)) t false))).get c = H.get c := by
    intro H3 k hk hp hn ho3 hf3
    refine ⟨st_at (by kernel_rfl) (hp.trans hb.hp) ho rfl rfl, ?_, fun c hc => by rw [Tr.get_put_ne _ _ _ _ (by omega)]; exact ho3 c hc⟩
    exact {
      hp := Tr.get_put_same _ _ _
      p0 := hp0
      p1 := by omega
      lies := by simpa using hb.lies
      self := .inr (by rw [set_get (by omega)]; exact hself)
      buf := .inr ⟨nx2, by omega, by omega, by omega, by simp [List.getElem?_set, ho, hk], by rw [Tr.get_put_ne _ _ _ _ (by omega)]; exact hn⟩
      fr := fun b h => by rw [Tr.get_put_ne _ _ _ _ (by omega)]; exact hf3 b (by omega) }
  rcases hb.buf with ⟨rfl, h⟩ | ⟨c, c1, c2, c3, c5, c6⟩
  · rw [hbf] at h
    injection h with h
    subst h
    obtain ⟨f1, f2, f3⟩ := fin (H2.put nx2 (some (.cells (more.map byteA) 5 false))) more.length (by simp) (by rw [Tr.get_put_ne _ _ _ _ (by omega)]; exact hold _ hp1) (by rw [Tr.get_put_same]; simp)
      (fun c hc => by rw [Tr.get_put_ne _ _ _ _ (by omega)]; exact hold _ (by omega)) (fun c hc => by rw [Tr.get_put_ne _ _ _ _ (by omega)]; exact hfr _ (by omega))
    exact ⟨_, _, _, app_nil h2 hs hne (by simpa using hm), f1, f2, f3⟩
  · rw [hbf] at c5
    injection c5 with c5
    subst c5
    have hc2 : H2.get c = some (.cells (bs.map byteA) 5 false) := (hold c c3).trans c6
    obtain ⟨f1, f2, f3⟩ := fin ((H2.put c none).put nx2 (some (.cells (bs.map byteA ++ more.map byteA) 5 false))) (bs.length + more.length) rfl
      (by rw [Tr.get_put_ne _ _ _ _ (by omega), Tr.get_put_ne _ _ _ _ (Ne.symm c1)]; exact hold _ hp1) (by rw [Tr.get_put_same]; simp)
      (fun c' hc => by rw [Tr.get_put_ne _ _ _ _ (by omega), Tr.get_put_ne _ _ _ _ (by omega)]; exact hold _ (by omega))
      (fun c' hc => by rw [Tr.get_put_ne _ _ _ _ (by omega), Tr.get_put_ne _ _ _ _ (by omega)]; exact hfr _ (by omega))
    have ha := app_open (nx := nx2) h2 hc2 hs hne (by simp) (by simpa using hm) (one_byteA more)
    simp only [List.length_map] at ha
    exact ⟨_, _, _, ha, f1, f2, f3⟩
/-- WriteByte. -/
theorem wb_cl {n0 p o : Nat} {cs : List AV} {t : TypeId} {bs : List UInt8} (hb : Bld n0 H nx p o cs t bs) (hlen : bs.length ≤ 100000000) (b : UInt8) :
    ∃ H' nx' cs', Cl cx 21 [.ptr p o, byteA b] H nx = some (.lit .nilIface, H', nx') ∧ Bld n0 H' nx' p o cs' t (bs ++ [b]) ∧ nx ≤ nx' ∧ (∀ j, j ≠ o → j ≠ o + 1 → cs'[j]? = cs[j]?) ∧ cs'.length = cs.length ∧ ∀ c, c < n0 → H'.get c = H.get c := by
  obtain ⟨H1, cs1, k1, k2, k3, k4, k5, k6⟩ := cc_cl hb
  obtain ⟨bf, hbf⟩ : ∃ bf, cs1[o + 1]? = some bf := by
    rcases k2.buf with ⟨_, h⟩ | ⟨c, _, _, _, h, _⟩ <;> exact ⟨_, h⟩
  have hp1 := hb.p1
  have hp0 := hb.p0
  obtain ⟨H3, bf', H4, a1, a2, a3, a4⟩ := app_bld (H2 := H1.put nx (some (.cells [byteA b] 5 false))) (nx2 := nx + 1) (t2 := 41) (x := .slice nx 0 1 (some 1) 1) (more := [b]) k2 k3 hbf (by omega)
    (fun c hc => Tr.get_put_ne _ _ _ _ (by omega)) (fun c hc => by rw [Tr.get_put_ne _ _ _ _ (by omega)]; exact k2.fr c (by omega)) (.inl rfl)
    (by simp [srcCells, Tr.get_put, cut]) (by simp) (by simp; omega)
  refine ⟨H4, nx + 1 + 1, cs1.set (o + 1) bf', ?_, a3, by omega, fun j h1 h2 => by rw [set_get h2, k4 j h1], by simp [k6], fun c hc => ?_⟩
  · refine wp21 _ _ _ _ (by simp) ?_
    unfold s21
    have hbs := bs_one (H := H1) (nx := nx) b
    simp only [↓wpS_skip, ↓wpS_ops, ↓wpS_seq, ↓wpS_cond, ↓wpS_block, ↓wpS_loop, ↓wpS_exit, ↓wpS_ret, condW_bool, ↓WOps_go, ↓WOps_skip, WOps_nil, stepA, opA, convA, isCall, put?, ev, Tr.get_put, Tr.get_nil, builtinA, callA, argEnv, wantedS, abs_int, abs_bool, abs_string, abs_nilp, abs_nili, abs_nilf, abs_nilm, abs_nils, un_not, z_none, List.zipIdx_cons, List.zipIdx_nil, List.foldl_cons, List.foldl_nil, List.map_cons, List.map_nil, List.map_toArray, List.nil_append, List.cons_append, List.append_nil, extractOp, List.getElem?_cons_zero, List.getElem?_cons_succ,
    Option.map_some, Option.map_none, Nat.reduceLT, Nat.reduceEqDiff, Nat.reduceAdd, Nat.zero_add, if_true, if_false, Option.getD_some, Option.getD_none, ↓reduceIte, Bool.false_eq_true, Bool.true_eq_false, reduceCtorEq, resA, resOf, Option.some.injEq, exists_eq_left', beq_self_eq_true, decide_true, decide_false, decide_eq_true_eq, ne_eq, not_true_eq_false, not_false_eq_true, Bool.not_eq_true, beq_iff_eq, bin_add, bin_sub, bin_mul, bin_eql, bin_neq, bin_lss, bin_leq, bin_gtr, bin_geq, maxA, minA, Prod.mk.injEq, and_true, true_and, beq_eq_false_iff_ne, decide_eq_false_iff_not, Bool.true_beq, Bool.false_beq, beq_true, beq_false, Bool.not_true, Bool.not_false, List.getElem?_toArray, x_none, k1, nc_ptr, fa47_1, ld_at (t := 41) (by kernel_rfl) k2.hp hbf, partsA, hbs, a1, a2]
  · rw [a4 c hc, k5 c (by omega)]
/-- WriteString. -/
theorem ws_cl {n0 p o : Nat} {cs : List AV} {t : TypeId} {bs : List UInt8} (hb : Bld n0 H nx p o cs t bs) (more : List UInt8) (hlen : bs.length + more.length ≤ 100000000) :
    ∃ H' nx' cs', Cl cx 22 [.ptr p o, strA more] H nx = some (.tuple [.lit (.int .i64 more.length), .lit .nilIface], H', nx') ∧ Bld n0 H' nx' p o cs' t (bs ++ more) ∧ nx ≤ nx' ∧ (∀ j, j ≠ o → j ≠ o + 1 → cs'[j]? = cs[j]?) ∧ cs'.length = cs.length ∧
      ∀ c, c < n0 → H'.get c = H.get c := by
  obtain ⟨H1, cs1, k1, k2, k3, k4, k5, k6⟩ := cc_cl hb
  obtain ⟨bf, hbf⟩ : ∃ bf, cs1[o + 1]? = some bf := by
    rcases k2.buf with ⟨_, h⟩ | ⟨c, _, _, _, h, _⟩ <;> exact ⟨_, h⟩
  have hp1 := hb.p1
  have hp0 := hb.p0
  have ho : o + 1 < cs1.length := (List.getElem?_eq_some_iff.1 hbf).1
  have hsrc : srcCells H1 1 (strA more) = some (more.length, more.map byteA) := by
    simp only [srcCells, strA, if_true, B_size, B_data]
    rfl
  by_cases h0 : more = []
  · subst h0
    have ha : appendOp cx.T H1 nx 41 bf 9 (strA []) = some (bf, H1, nx) := by
      unfold appendOp
      simp only [T41, T5, T9, ti41, ti5, ti9, isIntD, hsrc, Bool.false_eq_true, if_false]
      rcases k2.buf with ⟨_, h⟩ | ⟨c, _, _, _, h, _⟩ <;> (rw [hbf] at h; injection h with h; subst h; rfl)
    have hone : cellsOf bf = [bf] ∧ one bf = true := by
      rcases k2.buf with ⟨_, h⟩ | ⟨c, _, _, _, h, _⟩ <;> (rw [hbf] at h; injection h with h; subst h; exact ⟨rfl, rfl⟩)
    have hst := st_at (t := 41) (by kernel_rfl) k2.hp ho hone.1 hone.2
    have hset : cs1.set (o + 1) bf = cs1 := by
      apply List.ext_getElem?
      intro j
      by_cases hj : j = o + 1
      · subst hj; rw [hbf]; simp [List.getElem?_set, ho]
      · exact set_get hj
    rw [hset] at hst
    refine ⟨H1.put p (some (.cells cs1 t false)), nx, cs1, ?_, ?_, Nat.le_refl _, fun j h1 h2 => k4 j h1, k6, fun c hc => by rw [Tr.get_put_ne _ _ _ _ (by omega), k5 c (by omega)]⟩
    · refine wp22 _ _ _ _ (by simp) ?_
      unfold s22
      simp only [↓wpS_skip, ↓wpS_ops, ↓wpS_seq, ↓wpS_cond, ↓wpS_block, ↓wpS_loop, ↓wpS_exit, ↓wpS_ret, condW_bool, ↓WOps_go, ↓WOps_skip, WOps_nil, stepA, opA, convA, isCall, put?, ev, Tr.get_put, Tr.get_nil, builtinA, callA, argEnv, wantedS, abs_int, abs_bool, abs_string, abs_nilp, abs_nili, abs_nilf, abs_nilm, abs_nils, un_not, z_none, List.zipIdx_cons, List.zipIdx_nil, List.foldl_cons, List.foldl_nil, List.map_cons, List.map_nil, List.map_toArray, List.nil_append, List.cons_append, List.append_nil, extractOp, List.getElem?_cons_zero, List.getElem?_cons_succ,
    Option.map_some, Option.map_none, Nat.reduceLT, Nat.reduceEqDiff, Nat.reduceAdd, Nat.zero_add, if_true, if_false, Option.getD_some, Option.getD_none, ↓reduceIte, Bool.false_eq_true, Bool.true_eq_false, reduceCtorEq, resA, resOf, Option.some.injEq, exists_eq_left', beq_self_eq_true, decide_true, decide_false, decide_eq_true_eq, ne_eq, not_true_eq_false, not_false_eq_true, Bool.not_eq_true, beq_iff_eq, bin_add, bin_sub, bin_mul, bin_eql, bin_neq, bin_lss, bin_leq, bin_gtr, bin_geq, maxA, minA, Prod.mk.injEq, and_true, true_and, beq_eq_false_iff_ne, decide_eq_false_iff_not, Bool.true_beq, Bool.false_beq, beq_true, beq_false, Bool.not_true, Bool.not_false, List.getElem?_toArray, x_none, k1, nc_ptr, fa47_1, ld_at (t := 41) (by kernel_rfl) k2.hp hbf, ha, hst, str_len]
    · rw [List.append_nil]
      exact {
        hp := Tr.get_put_same _ _ _
        p0 := hp0
        p1 := hp1
        lies := k2.lies
        self := .inr k3
        buf := by
          rcases k2.buf with h | ⟨c, h1, h2, h3, h5, h6⟩
          · exact .inl h
          · exact .inr ⟨c, h1, h2, h3, h5, by rw [Tr.get_put_ne _ _ _ _ h1]; exact h6⟩
        fr := fun b h => by rw [Tr.get_put_ne _ _ _ _ (by omega)]; exact k2.fr b h }
  · obtain ⟨H3, bf', H4, a1, a2, a3, a4⟩ := app_bld (H2 := H1) (nx2 := nx) (t2 := 9) (x := strA more) (more := more) k2 k3 hbf (by omega) (fun c hc => rfl) k2.fr (.inr rfl) hsrc h0 (by omega)
    refine ⟨H4, nx + 1, cs1.set (o + 1) bf', ?_, a3, by omega, fun j h1 h2 => by rw [set_get h2, k4 j h1], by simp [k6], fun c hc => ?_⟩
    · refine wp22 _ _ _ _ (by simp) ?_
      unfold s22
      simp only [↓wpS_skip, ↓wpS_ops, ↓wpS_seq, ↓wpS_cond, ↓wpS_block, ↓wpS_loop, ↓wpS_exit, ↓wpS_ret, condW_bool, ↓WOps_go, ↓WOps_skip, WOps_nil, stepA, opA, convA, isCall, put?, ev, Tr.get_put, Tr.get_nil, builtinA, callA, argEnv, wantedS, abs_int, abs_bool, abs_string, abs_nilp, abs_nili, abs_nilf, abs_nilm, abs_nils, un_not, z_none, List.zipIdx_cons, List.zipIdx_nil, List.foldl_cons, List.foldl_nil, List.map_cons, List.map_nil, List.map_toArray, List.nil_append, List.cons_append, List.append_nil, extractOp, List.getElem?_cons_zero, List.getElem?_cons_succ,
    Option.map_some, Option.map_none, Nat.reduceLT, Nat.reduceEqDiff, Nat.reduceAdd, Nat.zero_add, if_true, if_false, Option.getD_some, Option.getD_none, ↓reduceIte, Bool.false_eq_true, Bool.true_eq_false, reduceCtorEq, resA, resOf, Option.some.injEq, exists_eq_left', beq_self_eq_true, decide_true, decide_false, decide_eq_true_eq, ne_eq, not_true_eq_false, not_false_eq_true, Bool.not_eq_true, beq_iff_eq, bin_add, bin_sub, bin_mul, bin_eql, bin_neq, bin_lss, bin_leq, bin_gtr, bin_geq, maxA, minA, Prod.mk.injEq, and_true, true_and, beq_eq_false_iff_ne, decide_eq_false_iff_not, Bool.true_beq, Bool.false_beq, beq_true, beq_false, Bool.not_true, Bool.not_false, List.getElem?_toArray, x_none, k1, nc_ptr, fa47_1, ld_at (t := 41) (by kernel_rfl) k2.hp hbf, a1, a2, str_len]
    · rw [a4 c hc, k5 c (by omega)]
theorem T61 : cx.T.get 61 = some ti61 := by kernel_rfl
theorem bytesOf_map : ∀ l : List UInt8, bytesOf (l.map byteA) = some (l.map fun b => (b.toNat : Int))
  | [] => rfl
  | b :: l => by
    have := bytesOf_map l
    simp only [List.map_cons, byteA, bytesOf, this, Option.map_some]
theorem fold_push (l : List UInt8) : ∀ acc : ByteArray, (l.map fun b => (b.toNat : Int)).foldl (fun r n => r.push (UInt8.ofNat n.toNat)) acc = ⟨acc.data ++ l.toArray⟩ := by
  induction l with
  | nil => intro acc; simp
  | cons b l ih =>
    intro acc
    simp only [List.map_cons, List.foldl_cons]
    rw [ih]
    simp [ByteArray.push]
theorem fold_bytes (l : List UInt8) : (l.map fun b => (b.toNat : Int)).foldl (fun r n => r.push (UInt8.ofNat n.toNat)) ByteArray.empty = B l := by
  rw [fold_push]
  simp [B, ByteArray.empty, ByteArray.emptyWithCapacity]
  rfl
theorem lies_bytes {n : Nat} (h : 1 ≤ n) : liesAt cx.P cx.P.depth 5 (n / cx.P.cellsOf 5) 0 5 n = true := by
  have hd : (cx.P.depth == 0) = false := by kernel_rfl
  obtain ⟨d, hd⟩ : ∃ d, cx.P.depth = d + 1 := ⟨cx.P.depth - 1, by simp at hd; omega⟩
  have hc : cx.P.cellsOf 5 = 1 := by kernel_rfl
  rw [hd, hc]
  simp only [liesAt, Bool.or_eq_true]
  left
  rw [hd]
  simp only [rowAt, hc]
  simp [sameLayout]
theorem us_cl {c : Nat} {bs : List UInt8} (hc : H.get c = some (.cells (bs.map byteA) 5 false)) (h0 : bs ≠ []) (hm : bs.length ≤ 100000000) :
    unsafeStringOp cx.P cx.T H nx 61 (.ptr c 0) (.lit (.int .i64 bs.length)) = some (strA bs, H.put c (some (.cells (bs.map byteA) 5 true)), nx) := by
  obtain ⟨k, hk⟩ : ∃ k, bs.length = k + 1 := ⟨bs.length - 1, by have := List.length_pos_iff.2 h0; omega⟩
  have hcut : cut (bs.map byteA) 0 (k + 1) = some (bs.map byteA) := by
    have : (bs.map byteA).take bs.length = bs.map byteA := List.take_of_length_le (by simp)
    simp [cut, ← hk, this]
  have hl : liesAt cx.P cx.P.depth 5 ((bs.map byteA).length / cx.P.cellsOf 5) 0 5 (k + 1) = true := by
    rw [List.length_map, hk]; exact lies_bytes (by omega)
  have hmx : ((k + 1 : Nat) : Int) ≤ IntKind.i64.max := by
    have e : IntKind.i64.max = 9223372036854775807 := by decide
    rw [e]; omega
  rw [hk]
  show (match cx.T.get 61, H.get c with
    | some { desc := .pointer e, .. }, some (.cells cs tb false) =>
      if liesAt cx.P cx.P.depth tb (cs.length / cx.P.cellsOf tb) 0 e (k + 1) = true ∧ ((k + 1 : Nat) : Int) ≤ IntKind.i64.max then
        ((cut cs 0 (k + 1)).bind bytesOf).map fun (ns : List Int) => (AV.lit (Value.string (ns.foldl (fun (r : ByteArray) (n : Int) => r.push (UInt8.ofNat n.toNat)) ByteArray.empty)), H.put c (some (.cells cs tb true)), nx)
      else none
    | _, _ => none) = _
  simp only [T61, ti61, hc]
  rw [if_pos ⟨hl, hmx⟩, hcut]
  simp only [Option.bind_some, bytesOf_map, Option.map_some, fold_bytes]
  rfl
/-- String. -/
theorem bstr_cl {n0 p o : Nat} {cs : List AV} {t : TypeId} {bs : List UInt8} (hb : Bld n0 H nx p o cs t bs) (hm : bs.length ≤ 100000000) (h0 : bs ≠ []) :
    ∃ H', Cl cx 19 [.ptr p o] H nx = some (strA bs, H', nx) ∧ (∀ c, c < n0 → H'.get c = H.get c) ∧ (∀ b, nx ≤ b → H'.get b = none) := by
  rcases hb.buf with ⟨h, _⟩ | ⟨c, c1, c2, c3, c5, c6⟩
  · exact absurd h h0
  · refine ⟨H.put c (some (.cells (bs.map byteA) 5 true)), ?_, fun c' hc => Tr.get_put_ne _ _ _ _ (by omega), fun b hb2 => by rw [Tr.get_put_ne _ _ _ _ (by omega)]; exact hb.fr b hb2⟩
    refine wp19 _ _ _ _ (by simp) ?_
    unfold s19
    simp only [↓wpS_skip, ↓wpS_ops, ↓wpS_seq, ↓wpS_cond, ↓wpS_block, ↓wpS_loop, ↓wpS_exit, ↓wpS_ret, condW_bool, ↓WOps_go, ↓WOps_skip, WOps_nil, stepA, opA, convA, isCall, put?, ev, Tr.get_put, Tr.get_nil, builtinA, callA, argEnv, wantedS, abs_int, abs_bool, abs_string, abs_nilp, abs_nili, abs_nilf, abs_nilm, abs_nils, un_not, z_none, List.zipIdx_cons, List.zipIdx_nil, List.foldl_cons, List.foldl_nil, List.map_cons, List.map_nil, List.map_toArray, List.nil_append, List.cons_append, List.append_nil, extractOp, List.getElem?_cons_zero, List.getElem?_cons_succ,
    Option.map_some, Option.map_none, Nat.reduceLT, Nat.reduceEqDiff, Nat.reduceAdd, Nat.zero_add, if_true, if_false, Option.getD_some, Option.getD_none, ↓reduceIte, Bool.false_eq_true, Bool.true_eq_false, reduceCtorEq, resA, resOf, Option.some.injEq, exists_eq_left', beq_self_eq_true, decide_true, decide_false, decide_eq_true_eq, ne_eq, not_true_eq_false, not_false_eq_true, Bool.not_eq_true, beq_iff_eq, bin_add, bin_sub, bin_mul, bin_eql, bin_neq, bin_lss, bin_leq, bin_gtr, bin_geq, maxA, minA, Prod.mk.injEq, and_true, true_and, beq_eq_false_iff_ne, decide_eq_false_iff_not, Bool.true_beq, Bool.false_beq, beq_true, beq_false, Bool.not_true, Bool.not_false, List.getElem?_toArray]
    refine s19_d0_wq ?_
    unfold s19_d0s
    have hln : lenOp cx.T .nil 41 (.slice c 0 bs.length none 1) = some bs.length := by kernel_rfl
    have hsd : sliceDataOp (.slice c 0 bs.length none 1) = some (.ptr c 0) := by
      cases bs with
      | nil => exact absurd rfl h0
      | cons => rfl
    simp only [↓wpS_skip, ↓wpS_ops, ↓wpS_seq, ↓wpS_cond, ↓wpS_block, ↓wpS_loop, ↓wpS_exit, ↓wpS_ret, condW_bool, ↓WOps_go, ↓WOps_skip, WOps_nil, stepA, opA, convA, isCall, put?, ev, Tr.get_put, Tr.get_nil, builtinA, callA, argEnv, wantedS, abs_int, abs_bool, abs_string, abs_nilp, abs_nili, abs_nilf, abs_nilm, abs_nils, un_not, z_none, List.zipIdx_cons, List.zipIdx_nil, List.foldl_cons, List.foldl_nil, List.map_cons, List.map_nil, List.map_toArray, List.nil_append, List.cons_append, List.append_nil, extractOp, List.getElem?_cons_zero, List.getElem?_cons_succ,
    Option.map_some, Option.map_none, Nat.reduceLT, Nat.reduceEqDiff, Nat.reduceAdd, Nat.zero_add, if_true, if_false, Option.getD_some, Option.getD_none, ↓reduceIte, Bool.false_eq_true, Bool.true_eq_false, reduceCtorEq, resA, resOf, Option.some.injEq, exists_eq_left', beq_self_eq_true, decide_true, decide_false, decide_eq_true_eq, ne_eq, not_true_eq_false, not_false_eq_true, Bool.not_eq_true, beq_iff_eq, bin_add, bin_sub, bin_mul, bin_eql, bin_neq, bin_lss, bin_leq, bin_gtr, bin_geq, maxA, minA, Prod.mk.injEq, and_true, true_and, beq_eq_false_iff_ne, decide_eq_false_iff_not, Bool.true_beq, Bool.false_beq, beq_true, beq_false, Bool.not_true, Bool.not_false, List.getElem?_toArray, ↓WQ_cons, ↓WQ_nil, txS, ph0_still, ph0_skip, ph0_new, ph0_read, ph0_eff, ph1_still, ph1_skip, ph1_read, ph1_eff, ph2_still, ph2_skip, loadOp_ro, loadOp_nil, isEff, eqB_int, eqB_str, eqB_bool, eqB_ptr, eqB_slice, eqB_nils, AV.belowB, Nat.le_refl, nx_succ, nc_ptr, fa47_1, ld_at (t := 41) (by kernel_rfl) hb.hp c5, hsd, hln, us_cl c6 h0 hm, decide_eq_true c3]
end Seat
end CI
