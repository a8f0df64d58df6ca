/- CI, part e: the operations that build, cut and compare. -/
import Derived.Test.YtdkicjlbfhmfkaaGreatDoorCid
set_option linter.unusedVariables false
set_option linter.unusedSimpArgs false
noncomputable section
namespace CI
open Go

variable {P : Program} {σ σ' : Sig} {H H' : Heap} {nx nx' : Nat} {w w' : World}

theorem over_VRs {cs : List AV} {C : List Value} (h : VRs σ cs C) {vs : List AV} {xs : List Value} (hv : VRs σ vs xs) {o : Nat} (hle : o + vs.length ≤ cs.length) :
    VRs σ (overA cs o vs) (over C o xs) := by
  have h1 := h.length
  have h2 := hv.length
  refine VRs.of_get (by rw [over_length, overA_length _ _ _ hle, h1]) fun i v hi => ?_
  rw [overA_get _ _ _ hle] at hi
  rw [over_get _ _ _ _ (by omega)]
  split at hi
  · rw [if_pos (by omega)]; exact hv.get? hi
  · rw [if_neg (by omega)]; exact h.get? hi

theorem zip_over (off : Nat) : ∀ (xs : List Value) (k : Nat) (C : Array Value),
    ((xs.zipIdx k).foldl (fun (cs : Array Value) (p : Value × Nat) => cs.setIfInBounds (off + p.2) p.1) C).toList = over C.toList (off + k) xs
  | [], k, C => by simp [over]
  | x :: xs, k, C => by
    simp only [List.zipIdx_cons, List.foldl_cons, over]
    rw [zip_over off xs (k + 1) (C.setIfInBounds (off + k) x)]
    simp [Nat.add_assoc]

def fillA (place : Nat → Option (Nat × Nat)) (cells : List AV) : List (Nat × AV) → Option (List AV)
  | [] => some cells
  | (i, v) :: rest =>
    match place i with
    | none => none
    | some (off, size) =>
      let vs := cellsOf v
      if vs.length = size ∧ off + vs.length ≤ cells.length then fillA place (overA cells off vs) rest else none

def PRs (σ : Sig) : List (Nat × AV) → List (Nat × Value) → Prop
  | [], xs => xs = []
  | (i, v) :: vs, xs => ∃ y ys, xs = (i, y) :: ys ∧ VR σ v y ∧ PRs σ vs ys

theorem fill_ok {place : Nat → Option (Nat × Nat)} : ∀ {parts : List (Nat × AV)} {xs : List (Nat × Value)} {cells : List AV} {C : Array Value} {out : List AV},
    PRs σ parts xs → VRs σ cells C.toList → fillA place cells parts = some out → ∃ D : Array Value, Instr.fill place C xs = some D ∧ VRs σ out D.toList
  | [], xs, cells, C, out, hp, hc, h => by
    simp only [PRs] at hp; subst hp
    simp only [fillA, Option.some.injEq] at h; subst h
    exact ⟨C, rfl, hc⟩
  | (i, v) :: parts, xs, cells, C, out, hp, hc, h => by
    simp only [PRs] at hp
    obtain ⟨y, ys, rfl, hv, hp⟩ := hp
    simp only [fillA] at h
    cases hpl : place i with
    | none => rw [hpl] at h; cases h
    | some p =>
      obtain ⟨off, size⟩ := p
      rw [hpl] at h
      simp only at h
      split at h
      · rename_i hcond
        have hvs := cellsOf_VRs hv
        have hl := hvs.length
        have hcl := hc.length
        simp only [Array.length_toList] at hl hcl
        have key := over_VRs hc hvs hcond.2
        rw [← Nat.add_zero off, ← zip_over off y.cells.toList 0 C] at key
        obtain ⟨D, h1, h2⟩ := fill_ok hp (C := (y.cells.toList.zipIdx 0).foldl (fun (cs : Array Value) (p : Value × Nat) => cs.setIfInBounds (off + p.2) p.1) C) (by simpa using key) h
        refine ⟨D, ?_, h2⟩
        simp only [Instr.fill, hpl]
        rw [if_neg (by simp only [ne_eq, Bool.or_eq_true, decide_eq_true_eq, not_or, Decidable.not_not]; omega)]
        rw [← h1]
        congr 1
        rw [← Array.foldl_toList]
        simp
      · cases h

theorem run_places {w : World} : ∀ (fs : List Field) (ps : List (Nat × Nat)), ps.length = fs.length →
    (∀ (j : Nat) (p : Nat × Nat), ps[j]? = some p → ∃ f fi, fs[j]? = some f ∧ P.info? f.type = some fi ∧ p = (f.offset, fi.size)) →
    (fs.mapM (m := Sem) fun f => do pure (f.offset, ← Go.sizeOf f.type)).run P w = .ok ps w
  | [], ps, hl, _ => by
    have : ps = [] := List.eq_nil_of_length_eq_zero (by simpa using hl)
    subst this; simp
  | f :: fs, [], hl, _ => by simp at hl
  | f :: fs, p :: ps, hl, h => by
    obtain ⟨f', fi, e1, e2, e3⟩ := h 0 p rfl
    simp at e1; subst e1
    rw [List.mapM_cons, run_bind_ok (a := p) (w' := w) (by rw [run_bind_ok (run_sizeOf e2 w)]; rw [e3]; rfl)]
    rw [run_bind_ok (run_places fs ps (by simpa using hl) fun j q hq => by simpa using h (j + 1) q (by simpa using hq))]
    rfl

def partsA (ρ : Operand → AV) (ps : List (Nat × Operand)) : List (Nat × AV) := ps.map fun p => (p.1, ρ p.2)
theorem partsA_PRs {ρ : Operand → AV} {a : Act} (h : ∀ x, VR σ (ρ x) (a.eval x)) : ∀ ps : List (Nat × Operand), PRs σ (partsA ρ ps) (ps.map fun p => (p.1, a.eval p.2))
  | [] => by simp [partsA, PRs]
  | (i, x) :: ps => by simp only [partsA, List.map_cons, PRs]; exact ⟨_, _, rfl, h x, partsA_PRs h ps⟩

def buildOp (T : Tr TInfo) (t : TypeId) (parts : List (Nat × AV)) : Option AV :=
  match T.get t with
  | some { desc := .struct _, zero := some z, parts := ps, .. } =>
    (fillA (fun i => (ps[i]?).map fun p => (p.1, p.2.1)) (cellsOf (abs z)) parts).map .agg
  | some { desc := .array _ e, zero := some z, .. } =>
    match T.get e with
    | some ei => (fillA (fun i => some (i * ei.size, ei.size)) (cellsOf (abs z)) parts).map .agg
    | none => none
  | _ => none
theorem buildOp_out {T : Tr TInfo} (hT : TOK P T) (g : Good σ H nx w) {t : TypeId} {parts : List (Nat × AV)} {xs : Array (Nat × Value)} {v : AV} (hp : PRs σ parts xs.toList)
    (h : buildOp T t parts = some v) : Out P σ H nx w v H nx (Instr.build t xs) := by
  unfold buildOp at h
  split at h
  · rename_i fs sz by_ ag z ps hi
    simp only [Option.map_eq_some_iff] at h
    obtain ⟨out, hf, rfl⟩ := h
    have F := hT _ _ hi
    obtain ⟨info, e1, e2, e3, e4⟩ := F.info
    obtain ⟨D, h1, h2⟩ := fill_ok hp (C := z.cells) (cellsOf_VRs (abs_VR σ z)) hf
    unfold Instr.build
    refine Out.bind (run_zero e1 e4 w) ?_
    refine Out.bind (run_under F.under w) ?_
    simp only
    have hpl : (fs.mapM (m := Sem) fun f => do pure (f.offset, ← Go.sizeOf f.type)).run P w = .ok (ps.map fun (p : Nat × Nat × Bool) => (p.1, p.2.1)).toArray w := by
      rw [Array.mapM_eq_mapM_toList]
      rw [show ((fun a : List (Nat × Nat) => a.toArray) <$> (fs.toList.mapM (m := Sem) fun f => do pure (f.offset, ← Go.sizeOf f.type))) = ((fs.toList.mapM (m := Sem) fun f => do pure (f.offset, ← Go.sizeOf f.type)) >>= fun a => pure a.toArray) from rfl]
      rw [run_bind_ok (run_places fs.toList (ps.map fun (p : Nat × Nat × Bool) => (p.1, p.2.1)) (by have := F.lens fs rfl; simpa using this) ?_)]
      · rfl
      · intro j p hj
        rw [List.getElem?_map, Option.map_eq_some_iff] at hj
        obtain ⟨q, hq, rfl⟩ := hj
        obtain ⟨f, fi, d, g1, g2, g3, g4⟩ := F.parts fs rfl j q hq
        exact ⟨f, fi, by simpa using g1, g2, by rw [g4]⟩
    refine Out.bind hpl ?_
    have : (fun (i : Nat) => (ps.map fun (p : Nat × Nat × Bool) => (p.1, p.2.1)).toArray[i]?) = fun (i : Nat) => (ps[i]?).map fun (p : Nat × Nat × Bool) => (p.1, p.2.1) := by
      funext i; simp
    rw [this, h1]
    exact Out.pure g (by simp only [VR]; exact ⟨D.toList, by simp, h2⟩)
  · rename_i n e sz by_ ag z ps hi
    split at h
    · rename_i ei he
      simp only [Option.map_eq_some_iff] at h
      obtain ⟨out, hf, rfl⟩ := h
      have F := hT _ _ hi
      obtain ⟨info, e1, e2, e3, e4⟩ := F.info
      obtain ⟨einfo, f1, f2, f3, f4⟩ := (hT _ _ he).info
      obtain ⟨D, h1, h2⟩ := fill_ok hp (C := z.cells) (cellsOf_VRs (abs_VR σ z)) hf
      unfold Instr.build
      refine Out.bind (run_zero e1 e4 w) ?_
      refine Out.bind (run_under F.under w) ?_
      simp only
      refine Out.bind (run_sizeOf f1 w) ?_
      rw [f2, h1]
      exact Out.pure g (by simp only [VR]; exact ⟨D.toList, by simp, h2⟩)
    · cases h
  · cases h

/-- A row of zero elements. -/
def zrow (n : Nat) (zs : List AV) : List AV := (List.range n).map fun i => zs.getD (i % zs.length) (.lit undef)
theorem zrow_VRs {zs : List AV} {Z : Array Value} (h : VRs σ zs Z.toList) (n : Nat) (h0 : n = 0 ∨ zs ≠ []) :
    VRs σ (zrow n zs) ((Array.range n).map (Z[· % Z.size]!)).toList := by
  have hl := h.length
  simp only [Array.length_toList] at hl
  refine VRs.of_get (by simp [zrow]) fun i v hi => ?_
  simp only [zrow, List.getElem?_map, Option.map_eq_some_iff] at hi
  obtain ⟨j, hj, rfl⟩ := hi
  obtain ⟨hlt, rfl⟩ := List.getElem?_eq_some_iff.1 hj
  simp only [List.length_range] at hlt
  simp only [List.getElem_range]
  have hz : 0 < zs.length := by
    rcases h0 with h0 | h0
    · omega
    · exact List.length_pos_iff.2 h0
  have hm : i % zs.length < zs.length := Nat.mod_lt _ hz
  obtain ⟨x, hx, hv⟩ := h.get? (List.getElem?_eq_getElem hm)
  refine ⟨x, ?_, ?_⟩
  · rw [Array.getElem?_toList, Array.getElem?_map]
    have : (Array.range n)[i]? = some i := by simp [hlt]
    rw [this]
    simp only [Option.map_some, Option.some.injEq]
    rw [hl, getElem!_def, ← Array.getElem?_toList, hx]
  · rw [List.getD_eq_getElem?_getD, List.getElem?_eq_getElem hm]; exact hv

def buildSliceOp (T : Tr TInfo) (H : Heap) (nx : Nat) (t : TypeId) (len : Nat) (parts : List (Nat × AV)) : Res :=
  match T.get t with
  | some { desc := .slice e, .. } =>
    match T.get e with
    | some { size := sz, zero := some z, .. } =>
      if len = 0 ∧ parts = [] then some (.slice nx 0 0 (some 0) sz, H.put nx (some (.cells [] e false)), nx + 1) else
      if len * sz ≤ 16777216 ∧ 0 < len * sz ∧ cellsOf (abs z) ≠ [] then
        match fillA (fun i => some (i * sz, sz)) (zrow (len * sz) (cellsOf (abs z))) parts with
        | some cs => if cs.length = len * sz then some (.slice nx 0 len (some len) sz, H.put nx (some (.cells cs e false)), nx + 1) else none
        | none => none
      else none
    | _ => none
  | _ => none
theorem buildSliceOp_out {T : Tr TInfo} (hT : TOK P T) (g : Good σ H nx w) {t : TypeId} {len : Nat} {parts : List (Nat × AV)} {xs : Array (Nat × Value)} {v : AV} (hp : PRs σ parts xs.toList)
    (h : buildSliceOp T H nx t len parts = some (v, H', nx')) : Out P σ H nx w v H' nx' (Instr.buildSlice t len xs) := by
  unfold buildSliceOp at h
  split at h
  · rename_i e sz0 by0 ag0 ze0 ps0 hi
    split at h
    · rename_i d sz by_ ag z ps he
      split at h
      · rename_i hc
        obtain ⟨rfl, rfl⟩ := hc
        simp only [Option.some.injEq, Prod.mk.injEq] at h
        obtain ⟨rfl, rfl, rfl⟩ := h
        have F := hT _ _ hi
        obtain ⟨info, e1, e2, e3, e4⟩ := (hT _ _ he).info
        obtain ⟨w', σ', r1, r2, r3, r4⟩ := newRow_out (P := P) g e [] [] rfl false
        have hxs : xs.toList = [] := by
          cases hx : xs.toList with
          | nil => rfl
          | cons y ys => rw [hx] at hp; simp [PRs] at hp
        refine ⟨.slice (some ⟨w.heap.size, 0, none⟩) 0 0, w', σ', ?_, ?_, r3, r4⟩
        · unfold Instr.buildSlice
          rw [run_bind_ok (run_under F.under w)]
          simp only
          rw [run_bind_ok (run_sizeOf e1 w)]
          simp only [Nat.zero_mul]
          rw [if_neg (by omega), if_pos trivial]
          rw [run_bind_ok (a := (#[] : Array Value)) (w' := w) rfl, hxs]
          have hfill : Instr.fill (fun i => some (i * info.size, info.size)) ((Array.range 0).map fun x => (#[] : Array Value)[x % (#[] : Array Value).size]!) [] = some #[] := by simp [Instr.fill]
          rw [hfill]
          simp only
          rw [run_bind_ok (a := (⟨w.heap.size, 0, none⟩ : Addr)) (w' := w') (by simpa using r1)]
          rfl
        · simp only [VR]
          exact ⟨_, 0, r2, by simp [Loc.base_eq], by omega, by simp [Loc.base_eq], rfl⟩
      split at h
      · rename_i hc
        obtain ⟨c1, c2, c3⟩ := hc
        split at h
        · rename_i cs hf
          split at h
          · rename_i hlen
            simp only [Option.some.injEq, Prod.mk.injEq] at h
            obtain ⟨rfl, rfl, rfl⟩ := h
            have F := hT _ _ hi
            obtain ⟨info, e1, e2, e3, e4⟩ := (hT _ _ he).info
            simp only at e2 e3 e4
            have hz := zrow_VRs (cellsOf_VRs (abs_VR σ z)) (len * sz) (.inr c3)
            obtain ⟨D, h1, h2⟩ := fill_ok hp (C := (Array.range (len * sz)).map (z.cells[· % z.cells.size]!)) hz hf
            obtain ⟨w', σ', r1, r2, r3, r4⟩ := newRow_out (P := P) g e cs D.toList h2 false
            have hD := h2.length
            refine ⟨.slice (some ⟨w.heap.size, 0, none⟩) len len, w', σ', ?_, ?_, r3, r4⟩
            · unfold Instr.buildSlice
              rw [run_bind_ok (run_under F.under w)]
              simp only
              rw [run_bind_ok (run_sizeOf e1 w), e2]
              rw [if_neg (by omega), if_neg (by omega), run_bind_ok (run_zero e1 e4 w), run_bind_ok (a := z.cells) (w' := w) rfl]
              simp only [h1]
              rw [run_bind_ok (a := (⟨w.heap.size, 0, none⟩ : Addr)) (w' := w') (by simpa using r1)]
              rfl
            · simp only [VR]
              refine ⟨_, len, r2, rfl, Nat.le_refl _, ?_, rfl⟩
              simp only [Nat.zero_add]
              rw [hD, hlen]; simp [Loc.base_eq]
          · cases h
        · cases h
      · cases h
    · cases h
  · cases h

def makeSliceOp (T : Tr TInfo) (H : Heap) (nx : Nat) (t : TypeId) (l c : AV) : Res :=
  match T.get t, l, c with
  | some { desc := .slice e, .. }, .lit (.int .i64 l), .lit (.int .i64 c) =>
    match T.get e with
    | some { size := sz, zero := some z, bytes := bs, .. } =>
      if 0 ≤ l ∧ l ≤ c ∧ c ≤ 4611686018427387904 ∧ bs * c ≤ 140737488355328 ∧ cellsOf (abs z) ≠ [] ∧ sz ≠ 0 then
        some (.slice nx 0 l.toNat (some c.toNat) sz, H.put nx (some (.cells (zrow (c.toNat * sz) (cellsOf (abs z))) e false)), nx + 1)
      else none
    | _ => none
  | _, _, _ => none

theorem wrap64_id {n : Int} (h1 : 0 ≤ n) (h2 : n ≤ 4611686018427387904) : IntKind.i64.wrap n = n := by
  simp only [IntKind.wrap, IntKind.bits, IntKind.signed]
  simp only [Bool.true_and, ge_iff_le, decide_eq_true_eq]
  split <;> omega

theorem makeSliceOp_out {T : Tr TInfo} (hT : TOK P T) (g : Good σ H nx w) {t : TypeId} {l c v : AV} {x y : Value} (hl : VR σ l x) (hc : VR σ c y)
    (h : makeSliceOp T H nx t l c = some (v, H', nx')) : Out P σ H nx w v H' nx' (Instr.makeSlice t x y) := by
  unfold makeSliceOp at h
  split at h
  · rename_i e sz0 by0 ag0 ze0 ps0 l c hi
    split at h
    · rename_i d sz bs ag z ps he
      split at h
      · rename_i hcond
        obtain ⟨c1, c2, c3, c4, c5, c6⟩ := hcond
        simp only [Option.some.injEq, Prod.mk.injEq] at h
        obtain ⟨rfl, rfl, rfl⟩ := h
        simp only [VR] at hl hc
        subst hl; subst hc
        have F := hT _ _ hi
        obtain ⟨info, e1, e2, e3, e4⟩ := (hT _ _ he).info
        simp only at e2 e3 e4
        have hz := zrow_VRs (cellsOf_VRs (abs_VR σ z)) (c.toNat * sz) (.inr c5)
        obtain ⟨w', σ', r1, r2, r3, r4⟩ := newRow_out (P := P) g e _ _ hz false
        have hw1 := wrap64_id c1 (by omega)
        have hw2 := wrap64_id (n := c) (by omega) c3
        refine ⟨.slice (some ⟨w.heap.size, 0, none⟩) l.toNat c.toNat, w', σ', ?_, ?_, r3, r4⟩
        · unfold Instr.makeSlice
          rw [run_bind_ok (run_under F.under w)]
          simp only
          rw [run_bind_ok (a := l) (w' := w) rfl, run_bind_ok (a := c) (w' := w) rfl, run_bind_ok (run_tinfo e1 w)]
          simp only [hw1, hw2]
          rw [if_neg (by
            have h1 : ¬ c < 0 := by omega
            have h2 : ¬ l < 0 := by omega
            have h3 : ¬ l > c := by omega
            have h4 : ¬ ((info.bytes : Int) * c > 2 ^ 48) := by rw [e3]; omega
            simp [h1, h2, h3]; omega)]
          rw [run_bind_ok (a := ()) (w' := w) (by
            unfold askRoom
            rw [if_neg]; rfl
            simp only [roomBytes, e3]
            have : ((c.toNat : Int) * (bs : Int)) ≤ 140737488355328 := by rw [Int.toNat_of_nonneg (by omega), Int.mul_comm]; exact c4
            have h2 : ((c.toNat * bs : Nat) : Int) ≤ 140737488355328 := by rw [Int.natCast_mul]; exact this
            omega)]
          rw [run_bind_ok (run_sizeOf e1 w), e2]
          by_cases hn : c.toNat * sz = 0
          · rw [if_pos hn]
            rw [run_bind_ok (a := #[]) (w' := w) rfl]
            rw [Array.toArray_toList] at r1
            rw [run_bind_ok (a := (⟨w.heap.size, 0, none⟩ : Addr)) (w' := w') (by
              rw [← r1, hn]; congr 2; simp)]
            rfl
          · rw [if_neg hn]
            rw [run_bind_ok (run_zero e1 e4 w), run_bind_ok (a := z.cells) (w' := w) rfl]
            rw [Array.toArray_toList] at r1
            rw [run_bind_ok (a := (⟨w.heap.size, 0, none⟩ : Addr)) (w' := w') r1]
            rfl
        · simp only [VR]
          refine ⟨_, c.toNat, r2, rfl, by omega, ?_, rfl⟩
          simp [Loc.base_eq]
      · cases h
    · cases h
  · cases h
end CI
