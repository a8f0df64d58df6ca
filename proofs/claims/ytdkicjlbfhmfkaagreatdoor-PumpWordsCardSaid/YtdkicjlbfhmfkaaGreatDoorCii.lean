/- CI, part i: lengths, conversions, function values, interfaces. -/
import Derived.Test.YtdkicjlbfhmfkaaGreatDoorCih
import Derived.Lib.ConvBytes
import Derived.Laws.BytesString
set_option linter.unusedVariables false
set_option linter.unusedSimpArgs false
noncomputable section
namespace CI
open Go

variable {P : Program} {σ σ' : Sig} {H H' : Heap} {nx nx' : Nat} {w w' : World}

def lenOp (T : Tr TInfo) (H : Heap) (t : TypeId) (x : AV) : Option Nat :=
  match T.get t with
  | none => none
  | some i =>
    match i.desc, x with
    | .string, .lit (.string s) => some s.size
    | .array n _, _ => some n
    | .pointer e, _ =>
      match T.get e with
      | some { desc := .array n _, .. } => some n
      | _ => none
    | .slice _, .slice _ _ n _ _ => some n
    | .slice _, .eslice => some 0
    | .slice _, .lit (.slice _ n _) => some n
    | .map _ _, .lit (.map none) => some 0
    | .map _ _, .map b =>
      match H.get b with
      | some (.map es _) => some es.length
      | _ => none
    | _, _ => none

theorem MapR.length : ∀ {es : List (AV × AV)} {E : List MapEntry}, MapR σ es E → E.length = es.length
  | [], _, h => by simp only [MapR] at h; simp [h]
  | (k, v) :: es, _, h => by
    simp only [MapR] at h
    obtain ⟨e, E', rfl, _, _, h3⟩ := h
    simp [MapR.length h3]

theorem run_getObj {r : Nat} {E : Array MapEntry} {c : Nat} (h : w.heap[r]? = some (.map E c)) : (getObj r).run P w = .ok (.map E c) w := by
  simp [getObj, Sem.run, h]

theorem lenOp_out {T : Tr TInfo} (hT : TOK P T) (g : Good σ H nx w) {t ty : TypeId} {x : AV} {xv : Value} {n : Nat} (hx : VR σ x xv) (h : lenOp T H t x = some n) :
    Out P σ H nx w (.lit (.int .i64 n)) H nx (Builtin.len_ #[t] ty #[xv]) := by
  unfold lenOp at h
  split at h
  · cases h
  rename_i i hi
  have F := (hT _ _ hi).under
  unfold Builtin.len_
  simp only [List.getElem?_toArray, List.getElem?_cons_zero]
  refine Out.bind (run_under F w) ?_
  have fin : VR σ (.lit (.int .i64 n)) (goInt n) := by simp [VR, goInt]
  split at h <;> (try rename_i hd) <;> (try rw [hd])
  · injection h with h; subst h
    simp only [VR] at hx; subst hx
    exact Out.pure g fin
  · injection h with h; subst h
    exact Out.pure g fin
  · split at h
    · rename_i e m e' sz by_ ag ze ps he
      injection h with h; subst h
      have F2 := (hT _ _ he).under
      simp only
      refine Out.bind (run_under F2 w) ?_
      exact Out.pure g fin
    · cases h
  · injection h with h; subst h
    simp only [VR] at hx; obtain ⟨l, c', _, rfl, _⟩ := hx
    exact Out.pure g fin
  · injection h with h; subst h
    simp only [VR] at hx; obtain ⟨a, c, rfl⟩ := hx
    exact Out.pure g fin
  · injection h with h; subst h
    simp only [VR] at hx; subst hx
    exact Out.pure g fin
  · injection h with h; subst h
    simp only [VR] at hx; subst hx
    exact Out.pure g fin
  · split at h
    · rename_i es ro hb
      injection h with h; subst h
      simp only [VR] at hx; obtain ⟨l, hl, rfl⟩ := hx
      obtain ⟨E, c, es', hE, hp, hM, _⟩ := g.obj _ _ l hb hl
      simp only
      refine Out.bind (run_getObj hE) ?_
      refine Out.pure g ?_
      have := hM.length
      rw [hp.length_eq] at this
      simp only [Array.length_toList] at this
      simp [VR, goInt, this]
    · cases h
  · cases h

/-- The bytes of a row of bytes. -/
def bytesOf : List AV → Option (List Int)
  | [] => some []
  | .lit (.int .u8 n) :: vs => (bytesOf vs).map fun l => n :: l
  | _ => none
theorem bytesOf_ok : ∀ {vs : List AV} {xs : List Value} {ns : List Int}, VRs σ vs xs → bytesOf vs = some ns → xs = ns.map (Value.int .u8)
  | [], xs, ns, h, hb => by simp only [VRs] at h; simp only [bytesOf, Option.some.injEq] at hb; subst h; subst hb; rfl
  | v :: vs, xs, ns, h, hb => by
    simp only [VRs] at h
    obtain ⟨y, ys, rfl, h1, h2⟩ := h
    unfold bytesOf at hb
    split at hb
    · rename_i he; cases he
    · rename_i n vs' he
      injection he with he1 he2; subst he1; subst he2
      simp only [Option.map_eq_some_iff] at hb
      obtain ⟨l, hl, rfl⟩ := hb
      simp only [VR] at h1; subst h1
      rw [bytesOf_ok h2 hl]; rfl
    · cases hb

def convOp (P : Program) (T : Tr TInfo) (H : Heap) (nx : Nat) (s d : TypeId) (x : AV) : Res :=
  match plain1 P (convert s d) x with
  | some v => some (v, H, nx)
  | none =>
    match T.get s, T.get d, x with
    | some { desc := .slice e, .. }, some { desc := .string, .. }, .slice b o n _ 1 =>
      match T.get e, H.get b with
      | some { desc := .int .u8, .. }, some (.cells cs _ _) => ((cut cs o n).bind bytesOf).map fun ns => (.lit (.string (ns.foldl (fun r n => r.push (UInt8.ofNat n.toNat)) ByteArray.empty)), H, nx)
      | _, _ => none
    | some { desc := .string, .. }, some { desc := .slice e, .. }, .lit (.string st) =>
      match T.get e with
      | some { desc := .int .u8, .. } => some (.slice nx 0 st.size none 1, H.put nx (some (.cells (st.data.toList.map fun b => .lit (.int .u8 b.toNat)) e false)), nx + 1)
      | _ => none
    | _, _, _ => none

theorem heap_eq_push {w w' : World} {O : Obj} (hs : w'.heap.size = w.heap.size + 1) (hold : ∀ j, j < w.heap.size → w'.heap[j]? = w.heap[j]?) (hnew : w'.heap[w.heap.size]? = some O) :
    w'.heap = w.heap.push O := by
  apply Array.ext_getElem?
  intro i
  rcases Nat.lt_trichotomy i w.heap.size with h | h | h
  · rw [hold i h, Array.getElem?_push, if_neg (by omega)]
  · subst h; rw [hnew, Array.getElem?_push_size]
  · rw [Array.getElem?_eq_none (by omega), Array.getElem?_eq_none (by simp <;> omega)]

theorem convOp_out {T : Tr TInfo} (hT : TOK P T) (g : Good σ H nx w) {s d : TypeId} {x v : AV} {xv : Value} (hx : VR σ x xv) (h : convOp P T H nx s d x = some (v, H', nx')) :
    Out P σ H nx w v H' nx' (convert s d xv) := by
  unfold convOp at h
  split at h
  · rename_i u hu
    simp only [Option.some.injEq, Prod.mk.injEq] at h
    obtain ⟨rfl, rfl, rfl⟩ := h
    exact plain1_out g hx hu
  · split at h
    · rename_i e _ _ _ _ _ _ _ _ b o n c hs hd hn
      have F1 := (hT _ _ hs).under
      have F2 := (hT _ _ hd).under
      split at h
      · rename_i _ _ _ _ _ cs t ro he hb
        have F3 := (hT _ _ he).under
        simp only [Option.map_eq_some_iff, Option.bind_eq_some_iff, Prod.mk.injEq] at h
        obtain ⟨ns, ⟨vs, hcut, hns⟩, rfl, rfl, rfl⟩ := h
        simp only [VR] at hx
        obtain ⟨l, c', hl, rfl, _⟩ := hx
        obtain ⟨xs, h1, h2, h3⟩ := g.cells hb hl hcut
        have := bytesOf_ok h1 hns
        subst this
        refine Out.same g (x := .string (ns.foldl (fun r n => r.push (UInt8.ofNat n.toNat)) ByteArray.empty)) ?_ (by simp [VR])
        rw [run_convert_bytes_string w s d _ _ _ _ F1 F3 F2]
        exact run_bytesToString w _ n c' ns (run_loadCells ⟨l.blk, l.base + o, none⟩ rfl n _ h2 h3)
      · cases h
    · rename_i e _ _ _ _ _ st hs hd hn
      have F1 := (hT _ _ hs).under
      have F2 := (hT _ _ hd).under
      split at h
      · rename_i _ _ _ _ _ he
        have F3 := (hT _ _ he).under
        simp only [Option.some.injEq, Prod.mk.injEq] at h
        obtain ⟨rfl, rfl, rfl⟩ := h
        simp only [VR] at hx
        subst hx
        have hc := Lib.run_convert_string_bytes (P := P) w s d e st F1 F2 F3
        have hcap : st.size ≤ grownCap w st.size 0 e := by unfold grownCap; simp only [Question.cut]; omega
        have hsz : (Lib.bytesCells w e st).size = grownCap w st.size 0 e := by
          simp [Lib.bytesCells]
          have : st.data.size = st.size := rfl
          omega
        have hh := heap_eq_push (Lib.bytesWorld_size w e st) (fun j hj => Lib.bytesWorld_at_old w e st j hj) (Lib.bytesWorld_at_new w e st)
        have := alloc_step (w' := Lib.bytesWorld w e st) g (o := .cells (st.data.toList.map fun b => .lit (.int .u8 b.toNat)) e false) (room := grownCap w st.size 0 e) hh rfl rfl rfl
          ⟨Lib.bytesCells w e st, _, rfl, hsz, by
            simp only [Nat.zero_add, List.length_map, Array.length_toList, Loc.base_eq]; exact hcap, fun i v hi => by
            rw [List.getElem?_map, Option.map_eq_some_iff] at hi
            obtain ⟨b, hb, rfl⟩ := hi
            refine ⟨.int .u8 b.toNat, ?_, by simp [VR]⟩
            have hlt : i < st.data.size := by
              rcases Nat.lt_or_ge i st.data.size with h | h
              · exact h
              · rw [List.getElem?_eq_none (by simpa using h)] at hb; cases hb
            simp only [Nat.zero_add, Lib.bytesCells, Loc.base_eq]
            rw [Array.getElem?_append_left (by simpa using hlt), Array.getElem?_map, ← Array.getElem?_toList, hb]
            rfl, fun _ i hi => by simp only [hsz]; simp only at hi; omega⟩
        refine ⟨_, _, _, hc, ?_, this.1, this.2⟩
        simp only [VR]
        exact ⟨_, _, Sig.upd_same _ _ _, by simp [Loc.base_eq], hcap, by simp [Loc.base_eq], by simp [Loc.base_eq]⟩
      · cases h
    · cases h

/-! ### interfaces, function values, maps made -/
def mkIfaceOp (T : Tr TInfo) (t : TypeId) (x : AV) : Option AV :=
  match T.get t with
  | some { desc := .interface _, .. } => none
  | some _ => some (.iface t x)
  | none => none
theorem mkIfaceOp_out {T : Tr TInfo} (hT : TOK P T) (g : Good σ H nx w) {t : TypeId} {x v : AV} {xv : Value} (hx : VR σ x xv) (h : mkIfaceOp T t x = some v) :
    Out P σ H nx w v H nx (Instr.makeInterface t xv) := by
  unfold mkIfaceOp at h
  split at h
  · cases h
  · rename_i i hne hi
    injection h with h; subst h
    have F := (hT _ _ hi).under
    unfold Instr.makeInterface
    refine Out.bind (run_under F w) ?_
    have fin : Out P σ H nx w (.iface t x) H nx (pure (.iface t xv)) := Out.pure g (by simp only [VR]; exact ⟨xv, rfl, hx⟩)
    obtain ⟨d, a2, a3, a4, a5, a6⟩ := i
    cases d <;> first | exact fin | exact absurd rfl (hne _ _ _ _ _ _)
  · cases h

theorem makeFunc_out (g : Good σ H nx w) {fn : Fn} {fs cs : List AV} {fs' cs' : Array Value} (h1 : VRs σ fs fs'.toList) (h2 : VRs σ cs cs'.toList) :
    Out P σ H nx w (.func fn fs cs) H nx (Instr.makeFunc fn fs' cs') := by
  refine Out.pure g ?_
  simp only [VR]
  exact ⟨fs'.toList, cs'.toList, by simp, h1, h2⟩

def makeMapOp (T : Tr TInfo) (H : Heap) (nx : Nat) (t : TypeId) (r : Option AV) : Res :=
  match r with
  | none => some (.map nx, H.put nx (some (.map [] false)), nx + 1)
  | some (.lit (.int _ _)) =>
    match T.get t with
    | some { desc := .map _ _, .. } => some (.map nx, H.put nx (some (.map [] false)), nx + 1)
    | _ => none
  | _ => none
theorem makeMapOp_out {T : Tr TInfo} (hT : TOK P T) (g : Good σ H nx w) {t : TypeId} {r : Option AV} {r' : Option Value} {v : AV} (hr : BndR σ r r') (h : makeMapOp T H nx t r = some (v, H', nx')) :
    Out P σ H nx w v H' nx' (Instr.makeMap t r') := by
  have fin : some (AV.map nx, H.put nx (some (.map [] false)), nx + 1) = some (v, H', nx') → Out P σ H nx w v H' nx' (do pure (.map (some (← newObj (.map #[] 0))))) := by
    intro h
    simp only [Option.some.injEq, Prod.mk.injEq] at h
    obtain ⟨rfl, rfl, rfl⟩ := h
    have := alloc_step (w' := { w with heap := w.heap.push (.map #[] 0) }) g (o := .map [] false) (O := .map #[] 0) (room := 0) rfl rfl rfl rfl ⟨#[], 0, [], rfl, .nil, by simp [MapR], Borns.nil⟩
    refine ⟨.map (some w.heap.size), _, _, rfl, ?_, this.1, this.2⟩
    simp only [VR]
    exact ⟨_, Sig.upd_same _ _ _, rfl⟩
  unfold makeMapOp at h
  cases hr with
  | none => exact fin h
  | some hv =>
    rename_i a x
    split at h
    · cases ‹some a = none›
    · rename_i k n he
      injection he with he; subst he
      simp only [VR] at hv; subst hv
      split at h
      · rename_i hi
        have F := (hT _ _ hi).under
        unfold Instr.makeMap
        simp only
        refine Out.bind (run_under F w) ?_
        refine Out.bind (a := n) rfl ?_
        exact fin h
      · cases h
    · cases h

/-- min and max, of numbers and texts. -/
def foldOp (P : Program) (two : Value → Value → Sem Value) (xs : List AV) : Option AV :=
  (plains xs).bind fun l =>
    match l with
    | [] => none
    | x :: rest => (pureRun P (rest.foldlM two x)).map abs
theorem foldOp_max (g : Good σ H nx w) {xs : List AV} {ys : List Value} {v : AV} {ts : Array TypeId} {ty : TypeId} (hx : VRs σ xs ys) (h : foldOp P Builtin.max2 xs = some v) :
    Out P σ H nx w v H nx (Builtin.max_ ts ty ys.toArray) := by
  unfold foldOp at h
  simp only [Option.bind_eq_some_iff] at h
  obtain ⟨l, hl, h⟩ := h
  have := plains_eq hl hx
  subst this
  split at h
  · cases h
  · simp only [Option.map_eq_some_iff] at h
    obtain ⟨z, hz, rfl⟩ := h
    exact Out.same g (x := z) (by simpa [Builtin.max_] using pureRun_ok w hz) (abs_VR σ z)
theorem foldOp_min (g : Good σ H nx w) {xs : List AV} {ys : List Value} {v : AV} {ts : Array TypeId} {ty : TypeId} (hx : VRs σ xs ys) (h : foldOp P Builtin.min2 xs = some v) :
    Out P σ H nx w v H nx (Builtin.min_ ts ty ys.toArray) := by
  unfold foldOp at h
  simp only [Option.bind_eq_some_iff] at h
  obtain ⟨l, hl, h⟩ := h
  have := plains_eq hl hx
  subst this
  split at h
  · cases h
  · simp only [Option.map_eq_some_iff] at h
    obtain ⟨z, hz, rfl⟩ := h
    exact Out.same g (x := z) (by simpa [Builtin.min_] using pureRun_ok w hz) (abs_VR σ z)
end CI
