/- CI, part d: the single operations, abstractly, and that the model's come to the same. -/
import Derived.Test.YtdkicjlbfhmfkaaGreatDoorCic
import Derived.Tactics
set_option linter.unusedVariables false
set_option linter.unusedSimpArgs false
noncomputable section
namespace CI
open Go

variable {P : Program} {σ σ' : Sig} {H H' : Heap} {nx nx' : Nat} {w w' : World}

/-! ### types -/
def isAggD : TypeDesc → Bool
  | .struct _ => true
  | .array _ _ => true
  | _ => false

structure TInfo where
  desc : TypeDesc
  size : Nat
  bytes : Nat
  agg : Bool
  zero : Option Value
  parts : List (Nat × Nat × Bool)
  deriving Inhabited

structure TFact (P : Program) (t : TypeId) (i : TInfo) : Prop where
  lens : ∀ fs, i.desc = .struct fs → i.parts.length = fs.size
  zsize : ∀ z, i.zero = some z → z.cells.size = i.size
  under : P.underlying t = some i.desc
  info : ∃ info, P.info? t = some info ∧ info.size = i.size ∧ info.bytes = i.bytes ∧ info.zero = i.zero
  agg : i.agg = isAggD i.desc
  parts : ∀ fs, i.desc = .struct fs → ∀ (j : Nat) (p : Nat × Nat × Bool), i.parts[j]? = some p →
    ∃ f fi d, fs[j]? = some f ∧ P.info? f.type = some fi ∧ P.underlying f.type = some d ∧ p = (f.offset, fi.size, isAggD d)

def TOK (P : Program) (T : Tr TInfo) : Prop := ∀ t i, T.get t = some i → TFact P t i

theorem run_under {t : TypeId} {d : TypeDesc} (h : P.underlying t = some d) (w : World) : (underlying t).run P w = .ok d w := by
  simp [underlying, program, bind, Sem.bind, Sem.run, h, pure]
theorem run_tinfo {t : TypeId} {i : TypeInfo} (h : P.info? t = some i) (w : World) : (typeInfo t).run P w = .ok i w := by
  have h' : P.toTables.info? t = some i := h
  simp [typeInfo, program, bind, Sem.bind, Sem.run, h', pure]
theorem run_sizeOf {t : TypeId} {i : TypeInfo} (h : P.info? t = some i) (w : World) : (Go.sizeOf t).run P w = .ok i.size w := by
  unfold Go.sizeOf
  rw [run_bind_ok (run_tinfo h w)]; rfl
theorem run_isAgg {t : TypeId} {d : TypeDesc} (h : P.underlying t = some d) (w : World) : (isAgg t).run P w = .ok (isAggD d) w := by
  unfold isAgg
  rw [run_bind_ok (run_under h w)]
  cases d <;> rfl
theorem run_zero {t : TypeId} {i : TypeInfo} {z : Value} (h : P.info? t = some i) (hz : i.zero = some z) (w : World) : (zeroValue t).run P w = .ok z w := by
  unfold zeroValue
  rw [run_bind_ok (run_tinfo h w)]
  simp [hz]

/-! ### operands -/
def ev (env : Tr AV) : Operand → AV
  | .tmp t => (env.get t).getD (.lit undef)
  | .const v => abs v
  | .global g => .lit (.pointer (some ⟨g, 0, none⟩))
  | .func f => .func (.func f) [] []

def EnvR (σ : Sig) (env : Tr AV) (a : Act) : Prop := ∀ t, VR σ ((env.get t).getD (.lit undef)) (a.tmps.getD t undef)

theorem ev_VR {env : Tr AV} {a : Act} (h : EnvR σ env a) : ∀ x : Operand, VR σ (ev env x) (a.eval x)
  | .tmp t => h t
  | .const v => abs_VR σ v
  | .global g => by simp [ev, Act.eval, VR]
  | .func f => by simp only [ev, Act.eval, VR]; exact ⟨[], [], rfl, by simp [VRs], by simp [VRs]⟩
theorem evs_VRs {ρ : Operand → AV} {a : Act} (h : ∀ x, VR σ (ρ x) (a.eval x)) : ∀ xs : List Operand, VRs σ (xs.map ρ) (xs.map a.eval)
  | [] => by simp [VRs]
  | x :: xs => by simp only [List.map_cons, VRs]; exact ⟨_, _, rfl, h x, evs_VRs h xs⟩
theorem EnvR.ext {env : Tr AV} {a : Act} (h : EnvR σ env a) (he : Ext σ σ') : EnvR σ' env a := fun t => (h t).ext he
theorem EnvR.put {env : Tr AV} {a : Act} (h : EnvR σ env a) {d : Nat} (hd : d < a.tmps.size) {v : AV} {x : Value} (hv : VR σ v x) :
    EnvR σ (env.put d (some v)) (a.put (some d) x) := fun t => by
  by_cases e : t = d
  · subst e
    rw [Tr.get_put_same]
    simpa [Act.put, hd] using hv
  · rw [Tr.get_put_ne _ _ _ _ e]
    have := h t
    simpa [Act.put, Array.getD_eq_getD_getElem?, Array.getElem?_setIfInBounds_ne (Ne.symm e)] using this

/-! ### single operations -/
abbrev Res := Option (AV × Heap × Nat)

def allocA (H : Heap) (nx : Nat) (t : TypeId) (cs : List AV) : Res := some (.ptr nx 0, H.put nx (some (.cells cs t false)), nx + 1)

theorem newVar_out (g : Good σ H nx w) (t : TypeId) {v : AV} {x : Value} (hv : VR σ v x) :
    Out P σ H nx w (.ptr nx 0) (H.put nx (some (.cells (cellsOf v) t false))) (nx + 1) (do pure (.pointer (some (← newVar t x)))) := by
  obtain ⟨w', σ', h1, h2, h3, h4⟩ := newRow_out (P := P) g t _ _ (cellsOf_VRs hv) false
  refine ⟨.pointer (some ⟨w.heap.size, 0, none⟩), w', σ', ?_, ?_, h3, h4⟩
  · rw [run_bind_ok (a := (⟨w.heap.size, 0, none⟩ : Addr)) (w' := w') (by unfold newVar; simpa using h1)]
    rfl
  · simp only [VR]; exact ⟨_, h2, rfl⟩

def allocOp (T : Tr TInfo) (H : Heap) (nx : Nat) (t : TypeId) : Res :=
  match T.get t with
  | some { zero := some z, .. } => allocA H nx t (cellsOf (abs z))
  | _ => none
theorem allocOp_out {T : Tr TInfo} (hT : TOK P T) (g : Good σ H nx w) {t : TypeId} {v : AV} (h : allocOp T H nx t = some (v, H', nx')) :
    Out P σ H nx w v H' nx' (Instr.alloc t true (.tuple #[])) := by
  unfold allocOp at h
  split at h
  · rename_i d s b ag z ps hi
    obtain ⟨info, e1, e2, e3, e4⟩ := (hT _ _ hi).info
    simp only [allocA, Option.some.injEq, Prod.mk.injEq] at h
    obtain ⟨rfl, rfl, rfl⟩ := h
    unfold Instr.alloc
    refine Out.bind (run_zero e1 e4 w) ?_
    exact newVar_out g t (abs_VR σ z)
  · cases h

def boxOp (H : Heap) (nx : Nat) (t : TypeId) (v : AV) : Res := allocA H nx t (cellsOf v)
theorem boxOp_out (g : Good σ H nx w) {t : TypeId} {u v : AV} {x : Value} (hu : VR σ u x) (h : boxOp H nx t u = some (v, H', nx')) :
    Out P σ H nx w v H' nx' (Instr.box t x) := by
  simp only [boxOp, allocA, Option.some.injEq, Prod.mk.injEq] at h
  obtain ⟨rfl, rfl, rfl⟩ := h
  exact newVar_out g t hu

def loadOp (T : Tr TInfo) (H : Heap) (t : TypeId) (a : AV) : Option AV :=
  match T.get t with
  | none => none
  | some i =>
    match a with
    | .ptr b o =>
      match H.get b with
      | some (.cells cs _ _) => if i.agg then (cut cs o i.size).map .agg else (cut cs o 1).bind (·[0]?)
      | _ => none
    | .lit (.pointer (some ⟨g, o, none⟩)) =>
      match GC g with
      | some cs => if i.agg then none else (cs[o]?).map .lit
      | none => none
    | _ => none
/-- A computation that only reads. -/
def RunV (P : Program) (σ : Sig) (w : World) (v : AV) (m : Sem Value) : Prop := ∃ y, m.run P w = .ok y w ∧ VR σ v y
theorem RunV.bind {α : Type} {m : Sem α} {f : α → Sem Value} {a : α} {v : AV} (hr : m.run P w = .ok a w) (h : RunV P σ w v (f a)) : RunV P σ w v (m >>= f) := by
  obtain ⟨y, h1, h2⟩ := h
  exact ⟨y, by rw [run_bind_ok hr]; exact h1, h2⟩
theorem RunV.out (g : Good σ H nx w) {m : Sem Value} {v : AV} (h : RunV P σ w v m) : Out P σ H nx w v H nx m := by
  obtain ⟨y, h1, h2⟩ := h
  exact Out.same g h1 h2
theorem loadOp_run {T : Tr TInfo} (hT : TOK P T) (g : Good σ H nx w) {t : TypeId} {a v : AV} {x : Value} (ha : VR σ a x) (h : loadOp T H t a = some v) :
    ∃ ad, x = .pointer (some ad) ∧ RunV P σ w v (loadVar t ad) := by
  unfold loadOp at h
  split at h
  · cases h
  · rename_i i hi
    split at h
    · rename_i b o
      split at h
      · rename_i cs tb ro hb
        simp only [VR] at ha
        obtain ⟨l, hl, rfl⟩ := ha
        have F := hT _ _ hi
        obtain ⟨info, e1, e2, e3, e4⟩ := F.info
        have hag := F.agg
        refine ⟨_, rfl, ?_⟩
        unfold loadVar
        refine RunV.bind (run_isAgg F.under w) ?_
        rw [← hag]
        split at h
        · rename_i hag'
          rw [hag']
          simp only [if_true]
          refine RunV.bind (run_sizeOf e1 w) ?_
          rw [e2]
          cases hcut : cut cs o i.size with
          | none => rw [hcut] at h; cases h
          | some vs =>
            rw [hcut] at h
            simp only [Option.map_some, Option.some.injEq] at h
            subst h
            obtain ⟨xs, h1, h2, h3⟩ := g.cells hb hl hcut
            refine RunV.bind (run_loadCells ⟨l.blk, l.base + o, none⟩ rfl i.size xs h2 h3) ?_
            exact ⟨_, rfl, by simp only [VR]; exact ⟨xs, rfl, h1⟩⟩
        · rename_i hag'
          have : i.agg = false := by simpa using hag'
          rw [this]
          cases hcut : cut cs o 1 with
          | none => rw [hcut] at h; cases h
          | some vs =>
            rw [hcut] at h
            simp only [Option.bind_some] at h
            obtain ⟨xs, h1, h2, h3⟩ := g.cells hb hl hcut
            obtain ⟨y, hy, hv⟩ := h1.get? h
            have hc := h3 0 y hy
            refine ⟨y, ?_, hv⟩
            simp only [Nat.add_zero] at hc
            simp [load, Sem.run, hc]
      · cases h
    · rename_i k o
      split at h
      · rename_i cs hk
        split at h
        · cases h
        · rename_i hag'
          simp only [Option.map_eq_some_iff] at h
          obtain ⟨y, hy, rfl⟩ := h
          simp only [VR] at ha
          subst ha
          have F := hT _ _ hi
          have hag := F.agg
          have : i.agg = false := by simpa using hag'
          refine ⟨_, rfl, ?_⟩
          unfold loadVar
          refine RunV.bind (run_isAgg F.under w) ?_
          rw [← hag, this]
          obtain ⟨ca, t, fz, e, hq⟩ := g.glb k _ (GL_of hk)
          have hc : w.cell? ⟨k, o, none⟩ = some y := by
            rw [cell_at e, ← Array.getElem?_toList, show ca.toList = cs from hq]
            exact hy
          exact ⟨y, by simp [load, Sem.run, hc], by simp [VR]⟩
      · cases h
    · cases h

theorem loadOp_out {T : Tr TInfo} (hT : TOK P T) (g : Good σ H nx w) {t : TypeId} {a v : AV} {x : Value} (ha : VR σ a x) (h : loadOp T H t a = some v) :
    Out P σ H nx w v H nx (Instr.loadAt t x) := by
  obtain ⟨ad, rfl, hr⟩ := loadOp_run hT g ha h
  exact RunV.out g (RunV.bind (a := ad) rfl hr)

def storeOp (T : Tr TInfo) (H : Heap) (t : TypeId) (a v : AV) : Option Heap :=
  match T.get t with
  | none => none
  | some i =>
    match a with
    | .ptr b o =>
      match H.get b with
      | some (.cells cs tb false) =>
        let vs := cellsOf v
        if vs.length = i.size ∧ o + vs.length ≤ cs.length ∧ vs.all one = true then some (H.put b (some (.cells (overA cs o vs) tb false))) else none
      | _ => none
    | _ => none
theorem storeOp_out {T : Tr TInfo} (hT : TOK P T) (g : Good σ H nx w) {t : TypeId} {a v : AV} {x y : Value} (ha : VR σ a x) (hv : VR σ v y) (h : storeOp T H t a v = some H') :
    ∃ w', (Instr.storeAt t x y).run P w = .ok () w' ∧ Step σ H nx w σ H' nx w' ∧ Good σ H' nx w' := by
  unfold storeOp at h
  split at h
  · cases h
  · rename_i i hi
    split at h
    · rename_i b o
      split at h
      · rename_i cs tb hb
        simp only at h
        split at h
        · rename_i hc
          obtain ⟨c1, c2, c3⟩ := hc
          injection h with h
          subst h
          simp only [VR] at ha
          obtain ⟨l, hl, rfl⟩ := ha
          obtain ⟨info, e1, e2, e3, e4⟩ := (hT _ _ hi).info
          have hvs := cellsOf_VRs hv
          obtain ⟨w', h1, h2, h3⟩ := store_out (P := P) g hb hl hvs c2 c3
          refine ⟨w', ?_, h2, h3⟩
          unfold Instr.storeAt storeVar
          rw [run_bind_ok (a := (⟨l.blk, l.base + o, none⟩ : Addr)) (w' := w) rfl, run_bind_ok (run_sizeOf e1 w)]
          have : y.cells.size = info.size := by
            rw [e2, ← c1, ← hvs.length]; simp
          rw [if_neg (by rw [this]; simp)]
          exact h1
        · cases h
      · cases h
    · cases h

def fieldAddrOp (T : Tr TInfo) (s : TypeId) (a : AV) (f : Nat) : Option AV :=
  match T.get s with
  | some { desc := .struct _, parts := ps, .. } =>
    match a, ps[f]? with
    | .ptr b o, some (off, sz, _) => if sz = 0 then none else some (.ptr b (o + off))
    | _, _ => none
  | _ => none
theorem fieldAddrOp_out {T : Tr TInfo} (hT : TOK P T) (g : Good σ H nx w) {s : TypeId} {a v : AV} {f : Nat} {x : Value} (ha : VR σ a x) (h : fieldAddrOp T s a f = some v) :
    Out P σ H nx w v H nx (Instr.fieldAt s x f) := by
  unfold fieldAddrOp at h
  split at h
  · rename_i fs sz by_ ag ze ps hi
    split at h
    · rename_i b o off s' ag' hp
      split at h
      · cases h
      · rename_i hne
        injection h with h; subst h
        simp only [VR] at ha
        obtain ⟨l, hl, rfl⟩ := ha
        have F := hT _ _ hi
        obtain ⟨fd, fi, d, hf, hfi, hd, hpe⟩ := F.parts fs rfl f _ hp
        simp only [Prod.mk.injEq] at hpe
        obtain ⟨rfl, rfl, rfl⟩ := hpe
        unfold Instr.fieldAt
        refine Out.bind (run_under F.under w) ?_
        simp only [hf]
        refine Out.bind (a := (⟨l.blk, l.base + o, none⟩ : Addr)) rfl ?_
        unfold fieldPlace
        refine Out.same g (x := .pointer (some ⟨l.blk, l.base + o + fd.offset, none⟩)) ?_ (by simp only [VR]; exact ⟨l, hl, by rw [Nat.add_assoc]⟩)
        rw [run_bind_ok (a := (⟨l.blk, l.base + o + fd.offset, none⟩ : Addr)) (w' := w)]
        · rfl
        · rw [run_bind_ok (run_sizeOf hfi w), if_neg hne, add_addr _ _ rfl]
          rfl
    · cases h
  · cases h

def partA (cs : List AV) (off sz : Nat) (ag : Bool) : Option AV := if ag then (cut cs off sz).map .agg else cs[off]?
theorem part_run {t : TypeId} {d : TypeDesc} {i : TypeInfo} (hd : P.underlying t = some d) (hi : P.info? t = some i) {cs : List AV} {C : List Value} (hc : VRs σ cs C) {off : Nat} {v : AV}
    (h : partA cs off i.size (isAggD d) = some v) (w : World) : ∃ x, (part t C.toArray off).run P w = .ok x w ∧ VR σ v x := by
  unfold partA at h
  unfold part
  rw [run_bind_ok (run_isAgg hd w)]
  split at h
  · rename_i hag
    rw [hag]
    simp only [if_true]
    rw [run_bind_ok (run_sizeOf hi w)]
    simp only [cut] at h
    split at h
    · simp only [Option.map_some, Option.some.injEq] at h
      subst h
      refine ⟨_, rfl, ?_⟩
      simp only [VR]
      refine ⟨(C.drop off).take i.size, by simp [List.extract_eq_take_drop], (hc.drop off).take i.size⟩
    · cases h
  · rename_i hag
    have : isAggD d = false := by simpa using hag
    rw [this]
    obtain ⟨x, hx, hv⟩ := hc.get? h
    exact ⟨x, by simp [hx], hv⟩

def fieldOp (T : Tr TInfo) (s : TypeId) (a : AV) (f : Nat) : Option AV :=
  match T.get s with
  | some { desc := .struct _, parts := ps, .. } =>
    match a, ps[f]? with
    | .agg cs, some (off, sz, ag) => partA cs off sz ag
    | _, _ => none
  | _ => none
theorem fieldOp_out {T : Tr TInfo} (hT : TOK P T) (g : Good σ H nx w) {s : TypeId} {a v : AV} {f : Nat} {x : Value} (ha : VR σ a x) (h : fieldOp T s a f = some v) :
    Out P σ H nx w v H nx (Instr.field s x f) := by
  unfold fieldOp at h
  split at h
  · rename_i fs sz by_ ag ze ps hi
    split at h
    · rename_i cs off s' ag' hp
      simp only [VR] at ha
      obtain ⟨C, rfl, hC⟩ := ha
      have F := hT _ _ hi
      obtain ⟨fd, fi, d, hf, hfi, hd, hpe⟩ := F.parts fs rfl f _ hp
      simp only [Prod.mk.injEq] at hpe
      obtain ⟨rfl, rfl, rfl⟩ := hpe
      obtain ⟨y, hy, hv⟩ := part_run hd hfi hC h w
      unfold Instr.field
      refine Out.bind (run_under F.under w) ?_
      simp only [hf]
      refine Out.bind (a := C.toArray) rfl ?_
      exact Out.same g hy hv
    · cases h
  · cases h

def indexAddrOp (T : Tr TInfo) (t : TypeId) (x ix : AV) : Option AV :=
  match T.get t, ix with
  | some { desc := .slice e, .. }, .lit (.int _ n) =>
    match x, T.get e with
    | .slice b o len _ esz, some ei => if 0 ≤ n ∧ n < len ∧ ei.size = esz then some (.ptr b (o + n.toNat * esz)) else none
    | _, _ => none
  | some { desc := .array len e, .. }, .lit (.int _ n) =>
    match x, T.get e with
    | .ptr b o, some ei => if 0 ≤ n ∧ n < len then some (.ptr b (o + n.toNat * ei.size)) else none
    | .lit (.pointer (some ⟨g, o, none⟩)), some ei => if 0 ≤ n ∧ n < len then some (.lit (.pointer (some ⟨g, o + n.toNat * ei.size, none⟩))) else none
    | _, _ => none
  | _, _ => none
theorem indexAddrOp_out {T : Tr TInfo} (hT : TOK P T) (g : Good σ H nx w) {t : TypeId} {a ix v : AV} {x y : Value} (ha : VR σ a x) (hy : VR σ ix y) (h : indexAddrOp T t a ix = some v) :
    Out P σ H nx w v H nx (Instr.indexAt t x y) := by
  unfold indexAddrOp at h
  split at h
  · rename_i e sz by_ ag ze ps k n hi
    split at h
    · rename_i b o len c esz ei he
      split at h
      · rename_i hc
        obtain ⟨c1, c2, c3⟩ := hc
        injection h with h; subst h
        simp only [VR] at ha hy
        obtain ⟨l, c', hl, rfl, hs⟩ := ha
        subst hy
        have F := hT _ _ hi
        obtain ⟨info, e1, e2, e3, e4⟩ := (hT _ _ he).info
        unfold Instr.indexAt
        refine Out.bind (a := (k, n)) rfl ?_
        simp only
        refine Out.same g (x := .pointer (some ⟨l.blk, l.base + o + n.toNat * esz, none⟩)) ?_ (by simp only [VR]; exact ⟨l, hl, by rw [Nat.add_assoc]⟩)
        rw [run_bind_ok (run_under F.under w)]
        simp only
        rw [run_bind_ok (a := (some (⟨l.blk, l.base + o, none⟩ : Addr), len, e)) (w' := w) rfl, run_bind_ok (run_under F.under w)]
        simp only
        rw [if_pos ⟨c1, c2⟩, run_bind_ok (run_sizeOf e1 w), add_addr _ _ rfl, e2, c3]
        rfl
      · cases h
    · cases h
  · rename_i len e sz by_ ag ze ps k n hi
    split at h
    · rename_i b o ei he
      split at h
      · rename_i hc
        obtain ⟨c1, c2⟩ := hc
        injection h with h; subst h
        simp only [VR] at ha hy
        obtain ⟨l, hl, rfl⟩ := ha
        subst hy
        have F := hT _ _ hi
        obtain ⟨info, e1, e2, e3, e4⟩ := (hT _ _ he).info
        unfold Instr.indexAt
        refine Out.bind (a := (k, n)) rfl ?_
        simp only
        refine Out.same g (x := .pointer (some ⟨l.blk, l.base + o + n.toNat * ei.size, none⟩)) ?_ (by simp only [VR]; exact ⟨l, hl, by rw [Nat.add_assoc]⟩)
        rw [run_bind_ok (run_under F.under w)]
        simp only
        rw [run_bind_ok (a := (⟨l.blk, l.base + o, none⟩ : Addr)) (w' := w) rfl, run_bind_ok (a := (some (⟨l.blk, l.base + o, none⟩ : Addr), len, e)) (w' := w) rfl, run_bind_ok (run_under F.under w)]
        simp only
        rw [if_pos ⟨c1, c2⟩, run_bind_ok (run_sizeOf e1 w), add_addr _ _ rfl, e2]
        rfl
      · cases h
    · rename_i gb o ei he
      split at h
      · rename_i hc
        obtain ⟨c1, c2⟩ := hc
        injection h with h; subst h
        simp only [VR] at ha hy
        subst ha
        subst hy
        have F := hT _ _ hi
        obtain ⟨info, e1, e2, e3, e4⟩ := (hT _ _ he).info
        unfold Instr.indexAt
        refine Out.bind (a := (k, n)) rfl ?_
        simp only
        refine Out.same g (x := .pointer (some ⟨gb, o + n.toNat * ei.size, none⟩)) ?_ (by simp only [VR])
        rw [run_bind_ok (run_under F.under w)]
        simp only
        rw [run_bind_ok (a := (⟨gb, o, none⟩ : Addr)) (w' := w) rfl, run_bind_ok (a := (some (⟨gb, o, none⟩ : Addr), len, e)) (w' := w) rfl, run_bind_ok (run_under F.under w)]
        simp only
        rw [if_pos ⟨c1, c2⟩, run_bind_ok (run_sizeOf e1 w), add_addr _ _ rfl, e2]
        rfl
      · cases h
    · cases h
  · cases h

def indexOp (P : Program) (T : Tr TInfo) (t : TypeId) (x ix : AV) : Option AV :=
  match x, ix with
  | .agg cs, .lit (.int _ n) =>
    match T.get t with
    | some { desc := .array len e, .. } =>
      match T.get e with
      | some ei => if 0 ≤ n ∧ n < len then partA cs (n.toNat * ei.size) ei.size ei.agg else none
      | none => none
    | _ => none
  | .lit (.string s), .lit (.int k n) =>
    match T.get t with
    | some { desc := .string, .. } => if 0 ≤ n then (s.data.toList[n.toNat]?).map fun c => .lit (.int .u8 c.toNat) else none
    | _ => none
  | _, _ => none
theorem indexOp_out {T : Tr TInfo} (hT : TOK P T) (g : Good σ H nx w) {t : TypeId} {a ix v : AV} {x y : Value} (ha : VR σ a x) (hy : VR σ ix y) (h : indexOp P T t a ix = some v) :
    Out P σ H nx w v H nx (Instr.index t x y) := by
  unfold indexOp at h
  split at h
  · rename_i cs k n
    split at h
    · rename_i len e sz by_ ag ze ps hi
      split at h
      · rename_i ei he
        split at h
        · rename_i hc
          simp only [VR] at ha hy
          obtain ⟨C, rfl, hC⟩ := ha
          subst hy
          have F := hT _ _ hi
          have Fe := hT _ _ he
          obtain ⟨info, e1, e2, e3, e4⟩ := Fe.info
          rw [Fe.agg, ← e2] at h
          obtain ⟨y, hy, hv⟩ := part_run Fe.under e1 hC h w
          unfold Instr.index
          refine Out.bind (a := (k, n)) rfl ?_
          refine Out.bind (run_under F.under w) ?_
          simp only
          rw [if_pos hc]
          refine Out.bind (run_sizeOf e1 w) ?_
          exact Out.same g hy hv
        · cases h
      · cases h
    · cases h
  · rename_i s k n
    split at h
    · rename_i sz by_ ag ze ps hi
      split at h
      · rename_i hc
        simp only [Option.map_eq_some_iff] at h
        obtain ⟨c, hcs, rfl⟩ := h
        simp only [VR] at ha hy
        subst ha; subst hy
        have F := hT _ _ hi
        unfold Instr.index
        refine Out.bind (a := (k, n)) rfl ?_
        refine Out.bind (run_under F.under w) ?_
        simp only
        have : s[n.toNat]? = some c := by
          rw [← hcs]
          simp only [getElem?_def, ByteArray.getElem_eq_getElem_data]
          rfl
        rw [if_pos hc, this]
        exact Out.pure g (by simp [VR])
      · cases h
    · cases h
  · cases h

def extractOp (x : AV) (i : Nat) : Option AV :=
  match x with
  | .tuple vs => vs[i]?
  | .lit (.tuple vs) => (vs[i]?).map .lit
  | _ => none
theorem extractOp_out (g : Good σ H nx w) {a v : AV} {i : Nat} {x : Value} (ha : VR σ a x) (h : extractOp a i = some v) :
    Out P σ H nx w v H nx (Instr.extract x i) := by
  unfold extractOp at h
  split at h
  · simp only [VR] at ha
    obtain ⟨C, rfl, hC⟩ := ha
    obtain ⟨y, hy, hv⟩ := hC.get? h
    exact Out.same g (x := y) (by simp [Instr.extract, hy]) hv
  · rename_i vs
    simp only [VR] at ha
    subst ha
    simp only [Option.map_eq_some_iff] at h
    obtain ⟨y, hy, rfl⟩ := h
    exact Out.same g (x := y) (by simp [Instr.extract, hy]) (by simp [VR])
  · cases h

/-- An operation on values without addresses, run by the model itself. -/
def plain1 (P : Program) (f : Value → Sem Value) (x : AV) : Option AV := (plain x).bind fun a => (pureRun P (f a)).map abs
theorem plain1_out (g : Good σ H nx w) {f : Value → Sem Value} {a v : AV} {x : Value} (ha : VR σ a x) (h : plain1 P f a = some v) : Out P σ H nx w v H nx (f x) := by
  unfold plain1 at h
  simp only [Option.bind_eq_some_iff, Option.map_eq_some_iff] at h
  obtain ⟨y, h1, z, h2, rfl⟩ := h
  have := plain_eq h1 ha
  subst this
  exact Out.same g (pureRun_ok w h2) (abs_VR σ z)
def plain2 (P : Program) (f : Value → Value → Sem Value) (x y : AV) : Option AV := (plain x).bind fun a => (plain y).bind fun b => (pureRun P (f a b)).map abs
theorem plain2_out (g : Good σ H nx w) {f : Value → Value → Sem Value} {a b v : AV} {x y : Value} (ha : VR σ a x) (hb : VR σ b y) (h : plain2 P f a b = some v) :
    Out P σ H nx w v H nx (f x y) := by
  unfold plain2 at h
  simp only [Option.bind_eq_some_iff, Option.map_eq_some_iff] at h
  obtain ⟨p, h1, q, h2, z, h3, rfl⟩ := h
  have := plain_eq h1 ha
  subst this
  have := plain_eq h2 hb
  subst this
  exact Out.same g (pureRun_ok w h3) (abs_VR σ z)
end CI
