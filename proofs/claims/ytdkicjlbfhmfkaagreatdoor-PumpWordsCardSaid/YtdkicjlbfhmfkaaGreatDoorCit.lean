/- CI, part t: the table of types, out of the program. -/
import Derived.Test.YtdkicjlbfhmfkaaGreatDoorCis
set_option linter.unusedVariables false
set_option linter.unusedSimpArgs false
noncomputable section
namespace CI
open Go

def partsOf (P : Program) : List Field → Option (List (Nat × Nat × Bool))
  | [] => some []
  | f :: fs =>
    match P.info? f.type, P.underlying f.type with
    | some fi, some d => (partsOf P fs).map fun l => (f.offset, fi.size, isAggD d) :: l
    | _, _ => none

def zOK (info : TypeInfo) : Bool :=
  match info.zero with
  | some z => z.cells.size == info.size
  | none => true

def mkTI (P : Program) (t : TypeId) : Option TInfo :=
  match P.info? t, P.underlying t with
  | some info, some d =>
    match (match d with
      | .struct fs => partsOf P fs.toList
      | _ => some []) with
    | some ps =>
      if zOK info then some ⟨d, info.size, info.bytes, isAggD d, info.zero, ps⟩ else none
    | none => none
  | _, _ => none

theorem partsOf_at {P : Program} : ∀ {fs : List Field} {l : List (Nat × Nat × Bool)}, partsOf P fs = some l → l.length = fs.length ∧
    ∀ (j : Nat) (p : Nat × Nat × Bool), l[j]? = some p → ∃ f fi d, fs[j]? = some f ∧ P.info? f.type = some fi ∧ P.underlying f.type = some d ∧ p = (f.offset, fi.size, isAggD d)
  | [], l, h => by simp only [partsOf, Option.some.injEq] at h; subst h; simp
  | f :: fs, l, h => by
    simp only [partsOf] at h
    split at h
    · rename_i fi d h1 h2
      simp only [Option.map_eq_some_iff] at h
      obtain ⟨l', hl', rfl⟩ := h
      obtain ⟨e1, e2⟩ := partsOf_at hl'
      refine ⟨by simp [e1], fun j p hj => ?_⟩
      cases j with
      | zero => simp at hj; subst hj; exact ⟨f, fi, d, rfl, h1, h2, rfl⟩
      | succ j => simpa using e2 j p (by simpa using hj)
    · cases h

theorem mkTI_fact {P : Program} {t : TypeId} {i : TInfo} (h : mkTI P t = some i) : TFact P t i := by
  unfold mkTI at h
  split at h
  · rename_i info d h1 h2
    split at h
    · rename_i ps hps
      split at h
      · rename_i hz
        injection h with h; subst h
        refine ⟨?_, ?_, h2, ⟨info, h1, rfl, rfl, rfl⟩, rfl, ?_⟩
        · intro fs hfs
          simp only at hfs; subst hfs
          simpa using (partsOf_at hps).1
        · intro z hz'
          simp only at hz'
          simp only [zOK] at hz
          rw [hz'] at hz
          simpa using hz
        · intro fs hfs j p hj
          simp only at hfs; subst hfs
          obtain ⟨f, fi, d', e1, e2⟩ := (partsOf_at hps).2 j p hj
          exact ⟨f, fi, d', by simpa using e1, e2⟩
      · cases h
    · cases h
  · cases h

/-! ### tables out of lists -/
def Tr.ofL {α : Type} : List (Nat × α) → Tr α
  | [] => .nil
  | p :: l => (Tr.ofL l).put p.1 (some p.2)
theorem Tr.ofL_mem {α : Type} : ∀ {l : List (Nat × α)} {k : Nat} {a : α}, (Tr.ofL l).get k = some a → (k, a) ∈ l
  | [], k, a, h => by simp [Tr.ofL, Tr.get_nil] at h
  | p :: l, k, a, h => by
    simp only [Tr.ofL] at h
    by_cases e : k = p.1
    · subst e; rw [Tr.get_put_same] at h; injection h with h; subst h; simp
    · rw [Tr.get_put_ne _ _ _ _ e] at h
      exact List.mem_cons_of_mem _ (Tr.ofL_mem h)
end CI

namespace CI
open Go
/-! ### what holds of all of a tree -/
def Tr.All {α : Type} (p : Nat → α → Prop) : Tr α → Prop
  | .nil => True
  | .node l v r => (∀ a, v = some a → p 0 a) ∧ Tr.All (fun k => p (2 * k + 1)) l ∧ Tr.All (fun k => p (2 * k + 2)) r
theorem Tr.all_get {α : Type} {p : Nat → α → Prop} {t : Tr α} (h : Tr.All p t) : ∀ k a, t.get k = some a → p k a := by
  induction t generalizing p with
  | nil => intro k a h; simp [Tr.get_nil] at h
  | node l v r ihl ihr =>
    obtain ⟨h0, hl, hr⟩ := h
    intro k a hk
    simp only [Tr.get_node] at hk
    split at hk
    · rename_i e; subst e; exact h0 a hk
    · rename_i e
      split at hk
      · rename_i e2
        have := ihl hl _ _ hk
        have e3 : 2 * (k / 2) + 1 = k := by omega
        rwa [e3] at this
      · rename_i e2
        have := ihr hr _ _ hk
        have e3 : 2 * (k / 2 - 1) + 2 = k := by omega
        rwa [e3] at this
theorem all_none {α : Type} {q : α → Prop} : ∀ a, (none : Option α) = some a → q a := fun _ h => nomatch h
theorem all_some {α : Type} {q : α → Prop} {b : α} (h : q b) : ∀ a, some b = some a → q a := fun _ e => by cases e; exact h
def Tr.allB {α : Type} (p : α → Bool) : Tr α → Bool
  | .nil => true
  | .node l v r => (match v with | some a => p a | none => true) && Tr.allB p l && Tr.allB p r
theorem Tr.allB_get {α : Type} {p : α → Bool} {t : Tr α} (h : Tr.allB p t = true) : ∀ k a, t.get k = some a → p a = true := by
  induction t with
  | nil => intro k a h; simp [Tr.get_nil] at h
  | node l v r ihl ihr =>
    simp only [Tr.allB, Bool.and_eq_true] at h
    intro k a hk
    simp only [Tr.get_node] at hk
    split at hk
    · subst hk; exact h.1.1
    · split at hk
      · exact ihl h.1.2 _ _ hk
      · exact ihr h.2 _ _ hk
def fnOK (fn : Func) : Bool := !(fn.name == "runtime.NumGoroutine") && (match fn.body with
  | some c => codeOK c
  | none => true)
theorem fnOK_name {fn : Func} (h : fnOK fn = true) : (fn.name == "runtime.NumGoroutine") = false := by
  simp only [fnOK, Bool.and_eq_true, Bool.not_eq_true'] at h; exact h.1
theorem fnOK_code {fn : Func} {c : Code} (h : fnOK fn = true) (hb : fn.body = some c) : codeOK c = true := by
  simp only [fnOK, hb, Bool.and_eq_true] at h; exact h.2
end CI
