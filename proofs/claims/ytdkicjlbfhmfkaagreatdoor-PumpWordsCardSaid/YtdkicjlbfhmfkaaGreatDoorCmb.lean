/- CI: copy and cap. -/
import Derived.Test.YtdkicjlbfhmfkaaGreatDoorCmc
set_option linter.unusedVariables false
set_option linter.unusedSimpArgs false
noncomputable section
namespace CI
open Go

variable {P : Program} {σ σ' : Sig} {H H' : Heap} {nx nx' : Nat} {w w' : World}

def lenS : AV → Option Nat
  | .lit (.slice none n _) => if n = 0 then some 0 else none
  | .lit (.string s) => some s.size
  | .eslice => some 0
  | .slice _ _ n _ _ => some n
  | _ => none
theorem lenS_run {a : AV} {x : Value} {m : Nat} (ha : VR σ a x) (h : lenS a = some m) (w : World) : (Builtin.lenOf x).run P w = .ok m w := by
  unfold lenS at h
  split at h
  · split at h
    · rename_i hn; injection h with h; subst h; subst hn; simp only [VR] at ha; subst ha; rfl
    · cases h
  · injection h with h; subst h; simp only [VR] at ha; subst ha; rfl
  · injection h with h; subst h; simp only [VR] at ha; obtain ⟨p, c, rfl⟩ := ha; rfl
  · injection h with h; subst h; simp only [VR] at ha; obtain ⟨l, c, _, rfl, _⟩ := ha; rfl
  · cases h

def firstA (H : Heap) (sz k : Nat) : AV → Option (List AV)
  | .lit (.slice none n _) => if k = 0 then some [] else none
  | .lit (.string s) => if sz = 1 ∧ k ≤ s.size then some ((s.extract 0 k).data.toList.map fun b => .lit (.int .u8 b.toNat)) else none
  | .eslice => if k = 0 then some [] else none
  | .slice b o n _ esz =>
    match H.get b with
    | some (.cells cs _ _) => if esz = sz then cut cs o (k * sz) else none
    | _ => none
  | _ => none
theorem firstA_run (s : Sim σ H w) {sz k : Nat} {a : AV} {x : Value} {vs : List AV} (ha : VR σ a x) (h : firstA H sz k a = some vs) :
    ∃ xs, (Builtin.firstCells sz k x).run P w = .ok xs.toArray w ∧ VRs σ vs xs := by
  unfold firstA at h
  split at h
  · split at h
    · injection h with h; subst h; simp only [VR] at ha; subst ha; exact ⟨[], rfl, by simp [VRs]⟩
    · cases h
  · rename_i st
    split at h
    · injection h with h; subst h; simp only [VR] at ha; subst ha
      refine ⟨(st.extract 0 k).data.toList.map fun b => .int .u8 b.toNat, ?_, ?_⟩
      · simp only [Builtin.firstCells]
        rw [← Array.toList_map, Array.toArray_toList]
        rfl
      · have := VRs.lits (σ := σ) ((st.extract 0 k).data.toList.map fun b => Value.int .u8 b.toNat)
        rw [List.map_map] at this
        exact this
    · cases h
  · split at h
    · injection h with h; subst h; subst_vars; simp only [VR] at ha; obtain ⟨p, c, rfl⟩ := ha
      refine ⟨[], ?_, by simp [VRs]⟩
      simp [Builtin.firstCells, loadCells, loadCellsFrom]
    · cases h
  · rename_i b o n c esz
    split at h
    · rename_i cs t ro hb
      split at h
      · subst_vars
        simp only [VR] at ha
        obtain ⟨l, c', hl, rfl, hs⟩ := ha
        obtain ⟨xs, h1, h2, h3⟩ := s.cells hb hl h
        refine ⟨xs, ?_, h1⟩
        simp only [Builtin.firstCells]
        exact run_loadCells ⟨l.blk, l.base + o, none⟩ rfl _ xs h2 h3
      · cases h
    · cases h
  · cases h

def copyOp (T : Tr TInfo) (H : Heap) (t1 : TypeId) (d x : AV) : Option (Nat × Heap) :=
  match T.get t1 with
  | some { desc := .slice e, .. } =>
    (T.get e).bind fun ei => (lenS x).bind fun m =>
      match d with
      | .lit (.slice none n _) => if n = 0 then (firstA H ei.size 0 x).bind fun _ => some (0, H) else none
      | .eslice => (firstA H ei.size 0 x).bind fun l => if l.isEmpty then some (0, H) else none
      | .slice b o n _ esz =>
        (firstA H ei.size (min m n) x).bind fun new =>
          match H.get b with
          | some (.cells cs tb false) => if o + new.length ≤ cs.length ∧ new.all one = true then some (min m n, H.put b (some (.cells (overA cs o new) tb false))) else none
          | _ => none
      | _ => none
  | _ => none

theorem copyOp_out {T : Tr TInfo} (hT : TOK P T) (g : Good σ H nx w) {t1 t2 ty : TypeId} {d x : AV} {dv xv : Value} {n : Nat} (hd : VR σ d dv) (hx : VR σ x xv)
    (h : copyOp T H t1 d x = some (n, H')) : Out P σ H nx w (.lit (.int .i64 n)) H' nx (Builtin.copy_ #[t1, t2] ty #[dv, xv]) := by
  unfold copyOp at h
  split at h
  · rename_i e _ _ _ _ _ hi
    simp only [Option.bind_eq_some_iff] at h
    obtain ⟨ei, he, m, hm, h⟩ := h
    have F := (hT _ _ hi).under
    obtain ⟨info, i1, i2, i3, i4⟩ := (hT _ _ he).info
    have hsz := run_sizeOf i1 w
    rw [i2] at hsz
    unfold Builtin.copy_
    simp only [List.getElem?_toArray, List.getElem?_cons_zero, List.getElem?_cons_succ]
    refine Out.bind (run_under F w) ?_
    simp only
    split at h
    · rename_i n' c
      split at h
      · rename_i hn
        subst hn
        simp only [Option.bind_eq_some_iff, Option.some.injEq, Prod.mk.injEq] at h
        obtain ⟨vs, hvs, rfl, rfl⟩ := h
        simp only [VR] at hd; subst hd
        simp only
        refine Out.bind (lenS_run hx hm w) ?_
        refine Out.bind hsz ?_
        obtain ⟨xs, f1, f2⟩ := firstA_run (P := P) g.toSim hx hvs
        simp only [show m.min 0 = 0 from Nat.min_zero m]
        refine Out.bind f1 ?_
        exact Out.pure g (by simp [VR, goInt])
      · cases h
    · simp only [Option.bind_eq_some_iff] at h
      obtain ⟨vs, hvs, h⟩ := h
      split at h
      · rename_i hemp
        simp only [Option.some.injEq, Prod.mk.injEq] at h
        obtain ⟨rfl, rfl⟩ := h
        simp only [VR] at hd; obtain ⟨p, c, rfl⟩ := hd
        simp only
        refine Out.bind (lenS_run hx hm w) ?_
        refine Out.bind hsz ?_
        obtain ⟨xs, f1, f2⟩ := firstA_run (P := P) g.toSim hx hvs
        simp only [show m.min 0 = 0 from Nat.min_zero m]
        refine Out.bind f1 ?_
        have : vs = [] := by simpa using hemp
        subst this
        simp only [VRs] at f2
        subst f2
        refine Out.bind (a := ()) (w := w) ?_ (Out.pure g (by simp [VR, goInt]))
        rfl
      · cases h
    · rename_i b o n' c esz
      simp only [Option.bind_eq_some_iff] at h
      obtain ⟨vs, hvs, h⟩ := h
      split at h
      · rename_i cs tb hb
        split at h
        · rename_i hc
          simp only [Option.some.injEq, Prod.mk.injEq] at h
          obtain ⟨rfl, rfl⟩ := h
          simp only [VR] at hd; obtain ⟨l, c', hl, rfl, hs⟩ := hd
          simp only
          refine Out.bind (lenS_run hx hm w) ?_
          refine Out.bind hsz ?_
          obtain ⟨xs, f1, f2⟩ := firstA_run (P := P) g.toSim hx hvs
          simp only [show m.min n' = min m n' from rfl]
          refine Out.bind f1 ?_
          obtain ⟨w1, s1, s2, s3⟩ := store_out (P := P) g hb hl f2 hc.1 hc.2
          refine ⟨goInt (min m n' : Nat), w1, σ, ?_, by simp only [VR, goInt], s2, s3⟩
          rw [run_bind_ok (a := ()) (w' := w1) (by simpa using s1)]
          rfl
        · cases h
      · cases h
    · cases h
  · cases h

def capOp (T : Tr TInfo) (t : TypeId) (x : AV) : Option Nat :=
  match T.get t, x with
  | some { desc := .slice _, .. }, .lit (.slice none _ c) => some c
  | some { desc := .slice _, .. }, .slice _ _ _ (some c) _ => some c
  | _, _ => none
theorem capOp_out {T : Tr TInfo} (hT : TOK P T) (g : Good σ H nx w) {t ty : TypeId} {x : AV} {xv : Value} {n : Nat} (hx : VR σ x xv) (h : capOp T t x = some n) :
    Out P σ H nx w (.lit (.int .i64 n)) H nx (Builtin.cap_ #[t] ty #[xv]) := by
  unfold capOp at h
  split at h
  · rename_i hi
    injection h with h; subst h
    simp only [VR] at hx; subst hx
    unfold Builtin.cap_
    simp only [List.getElem?_toArray, List.getElem?_cons_zero]
    refine Out.bind (run_under (hT _ _ hi).under w) ?_
    exact Out.pure g (by simp [VR, goInt])
  · rename_i hi
    injection h with h; subst h
    simp only [VR] at hx; obtain ⟨l, c', _, rfl, hs⟩ := hx
    have : c' = _ := hs.2.2
    subst this
    unfold Builtin.cap_
    simp only [List.getElem?_toArray, List.getElem?_cons_zero]
    refine Out.bind (run_under (hT _ _ hi).under w) ?_
    exact Out.pure g (by simp [VR, goInt])
  · cases h
end CI
