/- CI, part j: the interpreter, and that the model does what it says. -/
import Derived.Test.YtdkicjlbfhmfkaaGreatDoorCo
import Derived.Test.YtdkicjlbfhmfkaaGreatDoorCmb
set_option linter.unusedVariables false
set_option linter.unusedSimpArgs false
noncomputable section
namespace CI
open Go

structure Cx where
  P : Program
  T : Tr TInfo
  F : Tr Func
  X : FuncId → List AV → Option AV
  /-- Functions that are run by other means. -/
  Y : FuncId → List AV → Heap → Nat → Option (AV × Heap × Nat)
  /-- Functions without a body that make a block. -/
  Z : FuncId → List AV → Heap → Nat → Option (AV × Heap × Nat)

structure Cx.OK (C : Cx) : Prop where
  types : TOK C.P C.T
  funs : ∀ k fn, C.F.get k = some fn → C.P.funcs[k]? = some fn ∧ (fn.name == "runtime.NumGoroutine") = false
  zs : ∀ k args H nx v H' nx', C.Z k args H nx = some (v, H', nx') → ∀ (σ : Sig) (w : World) (xs : List Value), VRs σ args xs → Good σ H nx w →
    ∃ x w' σ', (callFunc k xs.toArray).run C.P w = .ok (.value x) w' ∧ VR σ' v x ∧ Step σ H nx w σ' H' nx' w' ∧ Good σ' H' nx' w'
  exts : ∀ f args v, C.X f args = some v → ∀ (σ : Sig) (w : World) (xs : List Value), Glb w → VRs σ args xs → (∃ x, (callFunc f xs.toArray).run C.P w = .ok (.value x) w ∧ VR σ v x) ∨
    ((callFunc f xs.toArray).run C.P w = .ok (.enter f xs.toArray) w ∧ Calls C.P f xs.toArray w fun e w' => ∃ x, e = .returned x ∧ VR σ v x ∧ RowKit.Below w.heap.size w w')

variable {σ σ' : Sig} {H H' : Heap} {nx nx' : Nat} {w w' : World}

theorem Step.below (b : RowKit.Below w.heap.size w w') : Step σ H nx w σ H nx w' where
  os := b.os
  tape := b.tape
  output := b.output
  size := b.size
  grow := Nat.le_refl _
  old := fun _ _ => rfl
  ro := fun _ _ h _ => h
  dead := fun _ _ h => h
  unreal := fun _ _ _ => rfl
  frame := fun k hk _ => b.block k hk
  own := fun b l o hb hl _ => ⟨b, l, o, hb, hl, rfl, .inr rfl⟩
theorem Good.below (g : Good σ H nx w) (b : RowKit.Below w.heap.size w w') : Good σ H nx w' where
  obj := fun i o l hi hl => by rw [b.block _ (g.toSim.lt hi hl)]; exact g.obj i o l hi hl
  inj := g.inj
  fresh := g.fresh
  glb := fun k q h => by
    obtain ⟨cs, t, fz, e, hq⟩ := g.glb k q h
    exact ⟨cs, t, fz, by rw [b.block _ (g.glb.lt h)]; exact e, hq⟩
  apart := g.apart

def builtinA (C : Cx) (H : Heap) (nx : Nat) (b : Builtin) (ts : List TypeId) (xs : List AV) : Res :=
  match b, ts, xs with
  | .len, [t], [x] => (lenOp C.T H t x).map fun (n : Nat) => (.lit (.int .i64 n), H, nx)
  | .append, [t1, t2], [s, x] => appendOp C.T H nx t1 s t2 x
  | .max, _, xs => (foldOp C.P Builtin.max2 xs).map fun v => (v, H, nx)
  | .min, _, xs => (foldOp C.P Builtin.min2 xs).map fun v => (v, H, nx)
  | .unsafeSliceData, _, [x] => (sliceDataOp x).map fun v => (v, H, nx)
  | .unsafeString, [t, _], [x, n] => unsafeStringOp C.P C.T H nx t x n
  | .copy, [t, _], [d, x] => (copyOp C.T H t d x).map fun (p : Nat × Heap) => (.lit (.int .i64 p.1), p.2, nx)
  | .cap, [t], [x] => (capOp C.T t x).map fun (n : Nat) => (.lit (.int .i64 n), H, nx)
  | .delete, [t, _], [m, k] => (deleteOp C.P C.T H t m k).map fun H' => (.tuple [], H', nx)
  | _, _, _ => none

def opA (C : Cx) (ρ : Operand → AV) (o : Op) (H : Heap) (nx : Nat) : Res :=
  match o with
  | .move x => some (ρ x, H, nx)
  | .assign x => some (ρ x, H, nx)
  | .pick c a b =>
    match ρ c with
    | .lit (.bool t) => some (if t then ρ a else ρ b, H, nx)
    | _ => none
  | .alloc t => allocOp C.T H nx t
  | .box t x => boxOp H nx t (ρ x)
  | .build t ps => (buildOp C.T t (partsA ρ ps.toList)).map fun v => (v, H, nx)
  | .buildSlice t len ps => buildSliceOp C.T H nx t len (partsA ρ ps.toList)
  | .load t a => (loadOp C.T H t (ρ a)).map fun v => (v, H, nx)
  | .store t a x => (storeOp C.T H t (ρ a) (ρ x)).map fun H' => (.lit undef, H', nx)
  | .nilCheck x => (nilCheckOp (ρ x)).map fun v => (v, H, nx)
  | .binOp op t x y _ => (binOpA C.P C.T op t x y (ρ x) (ρ y)).map fun v => (v, H, nx)
  | .unOp op _ x => (plain1 C.P (Op.unary op) (ρ x)).map fun v => (v, H, nx)
  | .convert s d x => convA C.P C.T H nx s d (ρ x)
  | .makeInterface t x => (mkIfaceOp C.T t (ρ x)).map fun v => (v, H, nx)
  | .makeFunc fn fs cs => some (.func fn (fs.toList.map ρ) (cs.toList.map ρ), H, nx)
  | .makeMap t r => makeMapOp C.T H nx t (r.map ρ)
  | .makeSlice t l c => makeSliceOp C.T H nx t (ρ l) (ρ c)
  | .slice t x lo hi mx => (sliceOp C.P C.T H t (ρ x) (lo.map ρ) (hi.map ρ) (mx.map ρ)).map fun v => (v, H, nx)
  | .fieldAddr s x f => (fieldAddrOp C.T s (ρ x) f).map fun v => (v, H, nx)
  | .field t x f => (fieldOp C.T t (ρ x) f).map fun v => (v, H, nx)
  | .indexAddr t x i => (indexAddrOp C.T t (ρ x) (ρ i)).map fun v => (v, H, nx)
  | .index t x i => (indexOp C.P C.T t (ρ x) (ρ i)).map fun v => (v, H, nx)
  | .extract x i => (extractOp (ρ x) i).map fun v => (v, H, nx)
  | .lookup t x i ok => (lookupOp C.P C.T H t (ρ x) (ρ i) ok).map fun v => (v, H, nx)
  | .mapUpdate t m k x => (mapUpdateOp C.P C.T H t (ρ m) (ρ k) (ρ x)).map fun H' => (.lit undef, H', nx)
  | .insert t m k x => (mapUpdateOp C.P C.T H t (ρ m) (ρ k) (ρ x)).map fun H' => (.lit undef, H', nx)
  | .call { callee := .builtin b, args := xs, argTypes := ts } => builtinA C H nx b ts.toList (xs.toList.map ρ)
  | _ => none

/-- What an operation comes to: a value, or nothing. -/
def OutN (P : Program) (σ : Sig) (H : Heap) (nx : Nat) (w : World) (v : AV) (H' : Heap) (nx' : Nat) (m : Sem Next) : Prop :=
  ∃ x w' σ', (m.run P w = .ok (.value x) w' ∨ (m.run P w = .ok .skip w' ∧ x = undef)) ∧ VR σ' v x ∧ Step σ H nx w σ' H' nx' w' ∧ Good σ' H' nx' w'

theorem OutN.of {P : Program} {m : Sem Value} {v : AV} (h : Out P σ H nx w v H' nx' m) : OutN P σ H nx w v H' nx' (do pure (.value (← m))) := by
  obtain ⟨x, w', σ', h1, h2, h3, h4⟩ := h
  exact ⟨x, w', σ', .inl (by rw [run_bind_ok h1]; rfl), h2, h3, h4⟩

theorem bndR_map {ρ : Operand → AV} {a : Act} (h : ∀ x, VR σ (ρ x) (a.eval x)) (x : Option Operand) : BndR σ (x.map ρ) (x.map a.eval) := by
  cases x with
  | none => exact .none
  | some x => exact .some (h x)

theorem nilCheck_ok {x v : AV} {y : Value} (hx : VR σ x y) (h : nilCheckOp x = some v) :
    v = x ∧ y ≠ .pointer none ∧ y ≠ .nilIface ∧ y ≠ .nilFunc ∧ ∀ n f c, y ≠ .func (.method n) f c := by
  unfold nilCheckOp at h
  split at h <;> try (cases h; done)
  · injection h with h; subst h
    simp only [VR] at hx; obtain ⟨fs, cs, rfl, _⟩ := hx
    exact ⟨rfl, by simp, by simp, by simp, by simp⟩
  · rename_i h1 h2 h3 h4 h5 h6
    injection h with h; subst h
    refine ⟨rfl, ?_⟩
    cases x with
    | lit u =>
      simp only [VR] at hx; subst hx
      refine ⟨fun e => h1 (by rw [e]), fun e => h2 (by rw [e]), fun e => h3 (by rw [e]), fun n f c e => h4 _ _ _ (by rw [e])⟩
    | ptr => simp only [VR] at hx; obtain ⟨l, _, rfl⟩ := hx; simp
    | slice => simp only [VR] at hx; obtain ⟨l, _, _, rfl, _⟩ := hx; simp
    | eslice => simp only [VR] at hx; obtain ⟨l, _, rfl⟩ := hx; simp
    | map => simp only [VR] at hx; obtain ⟨l, _, rfl⟩ := hx; simp
    | func => exact absurd rfl (h6 _ _ _)
    | iface => simp only [VR] at hx; obtain ⟨l, rfl, _⟩ := hx; simp
    | agg => simp only [VR] at hx; obtain ⟨l, rfl, _⟩ := hx; simp
    | tuple => simp only [VR] at hx; obtain ⟨l, rfl, _⟩ := hx; simp

theorem builtinA_out {C : Cx} (hC : C.OK) (g : Good σ H nx w) {b : Builtin} {ts : Array TypeId} {ty : TypeId} {cs : Array Bool} {xs : List AV} {ys : List Value} {v : AV} (hx : VRs σ xs ys)
    (h : builtinA C H nx b ts.toList xs = some (v, H', nx')) : OutN C.P σ H nx w v H' nx' (builtin b ts ty cs ys.toArray) := by
  unfold builtinA at h
  split at h
  · rename_i t x hts
    have hts' : ts = #[t] := by rw [← Array.toArray_toList (xs := ts), hts]
    simp only [Option.map_eq_some_iff, Prod.mk.injEq] at h
    obtain ⟨n, hn, rfl, rfl, rfl⟩ := h
    simp only [VRs] at hx
    obtain ⟨y, ys', rfl, hy, rfl⟩ := hx
    rw [hts']
    exact OutN.of (lenOp_out hC.types g hy hn)
  · rename_i t1 t2 s x hts
    have hts' : ts = #[t1, t2] := by rw [← Array.toArray_toList (xs := ts), hts]
    simp only [VRs] at hx
    obtain ⟨y, ys', rfl, hy, z, zs, rfl, hz, rfl⟩ := hx
    rw [hts']
    exact OutN.of (appendOp_out hC.types g hy hz h)
  · simp only [Option.map_eq_some_iff, Prod.mk.injEq] at h
    obtain ⟨n, hn, rfl, rfl, rfl⟩ := h
    exact OutN.of (foldOp_max g hx hn)
  · simp only [Option.map_eq_some_iff, Prod.mk.injEq] at h
    obtain ⟨n, hn, rfl, rfl, rfl⟩ := h
    exact OutN.of (foldOp_min g hx hn)
  · rename_i x
    simp only [Option.map_eq_some_iff, Prod.mk.injEq] at h
    obtain ⟨n, hn, rfl, rfl, rfl⟩ := h
    simp only [VRs] at hx
    obtain ⟨y, ys', rfl, hy, rfl⟩ := hx
    exact OutN.of (sliceDataOp_out g hy hn)
  · rename_i t t2 x n hts
    have hts' : ts = #[t, t2] := by rw [← Array.toArray_toList (xs := ts), hts]
    simp only [VRs] at hx
    obtain ⟨y, ys', rfl, hy, z, zs, rfl, hz, rfl⟩ := hx
    rw [hts']
    exact OutN.of (unsafeStringOp_out hC.types g hy hz h)
  · rename_i t t2 d x hts
    have hts' : ts = #[t, t2] := by rw [← Array.toArray_toList (xs := ts), hts]
    simp only [Option.map_eq_some_iff, Prod.mk.injEq] at h
    obtain ⟨⟨n, H1⟩, hn, rfl, rfl, rfl⟩ := h
    simp only [VRs] at hx
    obtain ⟨y, ys', rfl, hy, z, zs, rfl, hz, rfl⟩ := hx
    rw [hts']
    exact OutN.of (copyOp_out hC.types g hy hz hn)
  · rename_i t x hts
    have hts' : ts = #[t] := by rw [← Array.toArray_toList (xs := ts), hts]
    simp only [Option.map_eq_some_iff, Prod.mk.injEq] at h
    obtain ⟨n, hn, rfl, rfl, rfl⟩ := h
    simp only [VRs] at hx
    obtain ⟨y, ys', rfl, hy, rfl⟩ := hx
    rw [hts']
    exact OutN.of (capOp_out hC.types g hy hn)
  · rename_i t t2 m k hts
    have hts' : ts = #[t, t2] := by rw [← Array.toArray_toList (xs := ts), hts]
    simp only [Option.map_eq_some_iff, Prod.mk.injEq] at h
    obtain ⟨n, hn, rfl, rfl, rfl⟩ := h
    simp only [VRs] at hx
    obtain ⟨y, ys', rfl, hy, z, zs, rfl, hz, rfl⟩ := hx
    rw [hts']
    exact OutN.of (deleteOp_out hC.types g hy hz hn)
  · cases h

theorem opA_out {C : Cx} (hC : C.OK) (g : Good σ H nx w) {ρ : Operand → AV} {a : Act} (hE : ∀ x, VR σ (ρ x) (a.eval x)) {o : Oper} {v : AV} (h : opA C ρ o.op H nx = some (v, H', nx')) :
    OutN C.P σ H nx w v H' nx' (execOp a.eval o) := by
  unfold execOp
  unfold opA at h
  split at h <;> rename_i ho <;> simp only [ho]
  · simp only [Option.some.injEq, Prod.mk.injEq] at h; obtain ⟨rfl, rfl, rfl⟩ := h
    exact ⟨_, w, σ, .inl rfl, hE _, Step.refl, g⟩
  · simp only [Option.some.injEq, Prod.mk.injEq] at h; obtain ⟨rfl, rfl, rfl⟩ := h
    exact ⟨_, w, σ, .inl rfl, hE _, Step.refl, g⟩
  · rename_i c x y
    split at h
    · rename_i t ht
      simp only [Option.some.injEq, Prod.mk.injEq] at h; obtain ⟨rfl, rfl, rfl⟩ := h
      have hc := hE c
      rw [ht] at hc
      simp only [VR] at hc
      rw [hc]
      refine ⟨_, w, σ, .inl rfl, ?_, Step.refl, g⟩
      cases t <;> exact hE _
    · cases h
  · exact OutN.of (allocOp_out hC.types g h)
  · exact OutN.of (boxOp_out g (hE _) h)
  · simp only [Option.map_eq_some_iff, Prod.mk.injEq] at h; obtain ⟨u, hu, rfl, rfl, rfl⟩ := h
    exact OutN.of (buildOp_out hC.types g (by simpa using partsA_PRs hE _) hu)
  · exact OutN.of (buildSliceOp_out hC.types g (by simpa using partsA_PRs hE _) h)
  · simp only [Option.map_eq_some_iff, Prod.mk.injEq] at h; obtain ⟨u, hu, rfl, rfl, rfl⟩ := h
    exact OutN.of (loadOp_out hC.types g (hE _) hu)
  · simp only [Option.map_eq_some_iff, Prod.mk.injEq] at h; obtain ⟨u, hu, rfl, rfl, rfl⟩ := h
    obtain ⟨w', h1, h2, h3⟩ := storeOp_out (P := C.P) hC.types g (hE _) (hE _) hu
    exact ⟨undef, w', σ, .inr ⟨by rw [run_bind_ok h1]; rfl, rfl⟩, by simp [VR], h2, h3⟩
  · simp only [Option.map_eq_some_iff, Prod.mk.injEq] at h; obtain ⟨u, hu, rfl, rfl, rfl⟩ := h
    obtain ⟨rfl, n1, n2, n3, n4⟩ := nilCheck_ok (hE _) hu
    split
    · exact absurd ‹_› n1
    · exact absurd ‹_› n2
    · exact absurd ‹_› n3
    · exact absurd ‹_› (n4 _ _ _)
    · exact ⟨_, w, σ, .inl rfl, hE _, Step.refl, g⟩
  · simp only [Option.map_eq_some_iff, Prod.mk.injEq] at h; obtain ⟨u, hu, rfl, rfl, rfl⟩ := h
    exact OutN.of (binOpA_out hC.types g (hE _) (hE _) hu)
  · simp only [Option.map_eq_some_iff, Prod.mk.injEq] at h; obtain ⟨u, hu, rfl, rfl, rfl⟩ := h
    exact OutN.of (plain1_out g (hE _) hu)
  · exact OutN.of (convA_out hC.types g (hE _) h)
  · simp only [Option.map_eq_some_iff, Prod.mk.injEq] at h; obtain ⟨u, hu, rfl, rfl, rfl⟩ := h
    exact OutN.of (mkIfaceOp_out hC.types g (hE _) hu)
  · simp only [Option.some.injEq, Prod.mk.injEq] at h; obtain ⟨rfl, rfl, rfl⟩ := h
    exact OutN.of (makeFunc_out g (by simpa using evs_VRs hE _) (by simpa using evs_VRs hE _))
  · exact OutN.of (makeMapOp_out hC.types g (bndR_map hE _) h)
  · exact OutN.of (makeSliceOp_out hC.types g (hE _) (hE _) h)
  · simp only [Option.map_eq_some_iff, Prod.mk.injEq] at h; obtain ⟨u, hu, rfl, rfl, rfl⟩ := h
    exact OutN.of (sliceOp_out hC.types g (hE _) (bndR_map hE _) (bndR_map hE _) (bndR_map hE _) hu)
  · simp only [Option.map_eq_some_iff, Prod.mk.injEq] at h; obtain ⟨u, hu, rfl, rfl, rfl⟩ := h
    exact OutN.of (fieldAddrOp_out hC.types g (hE _) hu)
  · simp only [Option.map_eq_some_iff, Prod.mk.injEq] at h; obtain ⟨u, hu, rfl, rfl, rfl⟩ := h
    exact OutN.of (fieldOp_out hC.types g (hE _) hu)
  · simp only [Option.map_eq_some_iff, Prod.mk.injEq] at h; obtain ⟨u, hu, rfl, rfl, rfl⟩ := h
    exact OutN.of (indexAddrOp_out hC.types g (hE _) (hE _) hu)
  · simp only [Option.map_eq_some_iff, Prod.mk.injEq] at h; obtain ⟨u, hu, rfl, rfl, rfl⟩ := h
    exact OutN.of (indexOp_out hC.types g (hE _) (hE _) hu)
  · simp only [Option.map_eq_some_iff, Prod.mk.injEq] at h; obtain ⟨u, hu, rfl, rfl, rfl⟩ := h
    exact OutN.of (extractOp_out g (hE _) hu)
  · simp only [Option.map_eq_some_iff, Prod.mk.injEq] at h; obtain ⟨u, hu, rfl, rfl, rfl⟩ := h
    exact OutN.of (lookupOp_out hC.types g (hE _) (hE _) hu)
  · simp only [Option.map_eq_some_iff, Prod.mk.injEq] at h; obtain ⟨u, hu, rfl, rfl, rfl⟩ := h
    obtain ⟨w', h1, h2, h3⟩ := mapUpdateOp_out (P := C.P) hC.types g (hE _) (hE _) (hE _) hu
    exact ⟨undef, w', σ, .inr ⟨by rw [run_bind_ok h1]; rfl, rfl⟩, by simp [VR], h2, h3⟩
  · simp only [Option.map_eq_some_iff, Prod.mk.injEq] at h; obtain ⟨u, hu, rfl, rfl, rfl⟩ := h
    obtain ⟨w', h1, h2, h3⟩ := mapUpdateOp_out (P := C.P) hC.types g (hE _) (hE _) (hE _) hu
    exact ⟨undef, w', σ, .inr ⟨by rw [run_bind_ok h1]; rfl, rfl⟩, by simp [VR], h2, h3⟩
  · rename_i b xs ts
    have := builtinA_out (ty := o.type) (cs := xs.map fun | .const _ => true | _ => false) (w := w) hC g (evs_VRs hE xs.toList) h
    rw [show (List.map a.eval xs.toList).toArray = xs.map a.eval from by rw [← Array.toList_map, Array.toArray_toList]] at this
    exact this
  · cases h
end CI
