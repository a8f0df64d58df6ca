/- CI, part a: trees, abstract values and the relation to the model's values. -/
import Derived.Calls
import Derived.Below
set_option linter.unusedVariables false
noncomputable section
namespace CI
open Go

/-! ### trees keyed by numbers -/
inductive Tr (α : Type) where
  | nil
  | node (l : Tr α) (v : Option α) (r : Tr α)
  deriving Inhabited

namespace Tr
variable {α : Type}
/-- Told by recursors, so that the kernel runs it with little work. -/
noncomputable def get (t : Tr α) : Nat → Option α :=
  @Tr.rec α (fun _ => Nat → Option α) (fun _ => none) (fun _ v _ gl gr k =>
    @Bool.rec (fun _ => Option α) (@Bool.rec (fun _ => Option α) (gr (Nat.sub (Nat.div k 2) 1)) (gl (Nat.div k 2)) (Nat.beq (Nat.mod k 2) 1)) v (Nat.beq k 0)) t
theorem get_node (l : Tr α) (v : Option α) (r : Tr α) (k : Nat) : (Tr.node l v r).get k = if k = 0 then v else if k % 2 = 1 then l.get (k / 2) else r.get (k / 2 - 1) := by
  show @Bool.rec (fun _ => Option α) (@Bool.rec (fun _ => Option α) (r.get (k / 2 - 1)) (l.get (k / 2)) (Nat.beq (k % 2) 1)) v (Nat.beq k 0) = _
  cases h : Nat.beq k 0 with
  | true => rw [if_pos (Nat.eq_of_beq_eq_true h)]
  | false =>
    rw [if_neg (Nat.ne_of_beq_eq_false h)]
    cases h2 : Nat.beq (k % 2) 1 with
    | true => rw [if_pos (Nat.eq_of_beq_eq_true h2)]
    | false => rw [if_neg (Nat.ne_of_beq_eq_false h2)]
noncomputable def setF (n : Nat) : Tr α → Nat → Option α → Tr α :=
  @Nat.rec (fun _ => Tr α → Nat → Option α → Tr α) (fun t _ _ => t) (fun _ ih t k a =>
    @Tr.rec α (fun _ => Tr α)
      (@Bool.rec (fun _ => Tr α) (@Bool.rec (fun _ => Tr α) (.node .nil none (ih .nil (Nat.sub (Nat.div k 2) 1) a)) (.node (ih .nil (Nat.div k 2) a) none .nil) (Nat.beq (Nat.mod k 2) 1)) (.node .nil a .nil) (Nat.beq k 0))
      (fun l v r _ _ => @Bool.rec (fun _ => Tr α) (@Bool.rec (fun _ => Tr α) (.node l v (ih r (Nat.sub (Nat.div k 2) 1) a)) (.node (ih l (Nat.div k 2) a) v r) (Nat.beq (Nat.mod k 2) 1)) (.node l a r) (Nat.beq k 0)) t) n
theorem setF_zero (t : Tr α) (k : Nat) (a : Option α) : setF 0 t k a = t := rfl
theorem rec_if {β : Type} (k : Nat) (x y z : β) : @Bool.rec (fun _ => β) (@Bool.rec (fun _ => β) z y (Nat.beq (k % 2) 1)) x (Nat.beq k 0) = if k = 0 then x else if k % 2 = 1 then y else z := by
  cases h : Nat.beq k 0 with
  | true => rw [if_pos (Nat.eq_of_beq_eq_true h)]
  | false =>
    rw [if_neg (Nat.ne_of_beq_eq_false h)]
    cases h2 : Nat.beq (k % 2) 1 with
    | true => rw [if_pos (Nat.eq_of_beq_eq_true h2)]
    | false => rw [if_neg (Nat.ne_of_beq_eq_false h2)]
theorem setF_nil (n : Nat) (k : Nat) (a : Option α) : setF (n + 1) (.nil : Tr α) k a = if k = 0 then .node .nil a .nil else if k % 2 = 1 then .node (setF n .nil (k / 2) a) none .nil else .node .nil none (setF n .nil (k / 2 - 1) a) :=
  rec_if k _ _ _
theorem setF_node (n : Nat) (l : Tr α) (v : Option α) (r : Tr α) (k : Nat) (a : Option α) : setF (n + 1) (.node l v r) k a = if k = 0 then .node l a r else if k % 2 = 1 then .node (setF n l (k / 2) a) v r else .node l v (setF n r (k / 2 - 1) a) :=
  rec_if k _ _ _
noncomputable def put (t : Tr α) (k : Nat) (a : Option α) : Tr α := setF (k + 1) t k a

theorem get_nil (k : Nat) : (Tr.nil : Tr α).get k = none := rfl
theorem get_setF (n : Nat) : ∀ (t : Tr α) (k j : Nat) (a : Option α), k < n → (setF n t k a).get j = if j = k then a else t.get j := by
  induction n with
  | zero => intro t k j a h; omega
  | succ n ih =>
    intro t k j a h
    cases t with
    | nil =>
      simp only [setF_nil]
      by_cases hk : k = 0
      · subst hk; rw [if_pos rfl]; simp only [get_node, get_nil]
        by_cases hj : j = 0
        · simp [hj]
        · simp [hj]
      · rw [if_neg hk]
        by_cases h2 : k % 2 = 1
        · rw [if_pos h2]; simp only [get_node, get_nil]
          by_cases hj : j = 0
          · subst hj; rw [if_pos rfl, if_neg (by omega)]
          · rw [if_neg hj]
            by_cases j2 : j % 2 = 1
            · rw [if_pos j2, ih .nil (k / 2) (j / 2) a (by omega), get_nil]
              by_cases e : j = k
              · rw [if_pos e, if_pos (by omega)]
              · rw [if_neg e, if_neg (by omega)]
            · rw [if_neg j2, if_neg (by intro e; subst e; exact j2 h2)]
        · rw [if_neg h2]; simp only [get_node, get_nil]
          by_cases hj : j = 0
          · subst hj; rw [if_pos rfl, if_neg (by omega)]
          · rw [if_neg hj]
            by_cases j2 : j % 2 = 1
            · rw [if_pos j2, if_neg (by intro e; subst e; exact h2 j2)]
            · rw [if_neg j2, ih .nil (k / 2 - 1) (j / 2 - 1) a (by omega), get_nil]
              by_cases e : j = k
              · rw [if_pos e, if_pos (by omega)]
              · rw [if_neg e, if_neg (by omega)]
    | node l v r =>
      simp only [setF_node]
      by_cases hk : k = 0
      · subst hk; rw [if_pos rfl]; simp only [get_node, get_nil]
        by_cases hj : j = 0
        · simp [hj]
        · simp [hj]
      · rw [if_neg hk]
        by_cases h2 : k % 2 = 1
        · rw [if_pos h2]; simp only [get_node, get_nil]
          by_cases hj : j = 0
          · subst hj; rw [if_pos rfl, if_neg (by omega), if_pos rfl]
          · rw [if_neg hj, if_neg hj]
            by_cases j2 : j % 2 = 1
            · rw [if_pos j2, if_pos j2, ih l (k / 2) (j / 2) a (by omega)]
              by_cases e : j = k
              · rw [if_pos e, if_pos (by omega)]
              · rw [if_neg e, if_neg (by omega)]
            · rw [if_neg j2, if_neg j2, if_neg (by intro e; subst e; exact j2 h2)]
        · rw [if_neg h2]; simp only [get_node, get_nil]
          by_cases hj : j = 0
          · subst hj; rw [if_pos rfl, if_neg (by omega), if_pos rfl]
          · rw [if_neg hj, if_neg hj]
            by_cases j2 : j % 2 = 1
            · rw [if_pos j2, if_pos j2, if_neg (by intro e; subst e; exact h2 j2)]
            · rw [if_neg j2, if_neg j2, ih r (k / 2 - 1) (j / 2 - 1) a (by omega)]
              by_cases e : j = k
              · rw [if_pos e, if_pos (by omega)]
              · rw [if_neg e, if_neg (by omega)]
theorem get_put (t : Tr α) (k j : Nat) (a : Option α) : (t.put k a).get j = if j = k then a else t.get j :=
  get_setF (k + 1) t k j a (by omega)
theorem get_put_same (t : Tr α) (k : Nat) (a : Option α) : (t.put k a).get k = a := by rw [get_put, if_pos rfl]
theorem get_put_ne (t : Tr α) (k j : Nat) (a : Option α) (h : j ≠ k) : (t.put k a).get j = t.get j := by rw [get_put, if_neg h]
end Tr

/-! ### abstract values -/
inductive AV where
  | lit (v : Value)
  | ptr (b off : Nat)
  | slice (b off len : Nat) (cap : Option Nat) (esz : Nat)
  | eslice
  | map (b : Nat)
  | func (fn : Fn) (first captured : List AV)
  | iface (t : TypeId) (v : AV)
  | agg (cs : List AV)
  | tuple (vs : List AV)
  deriving Inhabited

structure Loc where
  blk : Nat
  room : Nat
/-- A block begins at its first cell. -/
def Loc.base (_ : Loc) : Nat := 0
theorem Loc.base_eq (l : Loc) : l.base = 0 := rfl

abbrev Sig := Nat → Option Loc

def SlOK (l : Loc) (o n : Nat) (c : Option Nat) (e c' : Nat) : Prop :=
  n ≤ c' ∧ l.base + o + c' * e ≤ l.room ∧ match c with
    | some k => c' = k
    | none => l.base + o + c' * e = l.room

mutual
def VR (σ : Sig) : AV → Value → Prop
  | .lit v, x => x = v
  | .ptr b o, x => ∃ l, σ b = some l ∧ x = .pointer (some ⟨l.blk, l.base + o, none⟩)
  | .slice b o n c e, x => ∃ l c', σ b = some l ∧ x = .slice (some ⟨l.blk, l.base + o, none⟩) n c' ∧ SlOK l o n c e c'
  | .eslice, x => ∃ a c, x = .slice (some a) 0 c
  | .map b, x => ∃ l, σ b = some l ∧ x = .map (some l.blk)
  | .func fn fs cs, x => ∃ fs' cs' : List Value, x = .func fn fs'.toArray cs'.toArray ∧ VRs σ fs fs' ∧ VRs σ cs cs'
  | .iface t v, x => ∃ y, x = .iface t y ∧ VR σ v y
  | .agg cs, x => ∃ cs' : List Value, x = .agg cs'.toArray ∧ VRs σ cs cs'
  | .tuple vs, x => ∃ vs' : List Value, x = .tuple vs'.toArray ∧ VRs σ vs vs'
def VRs (σ : Sig) : List AV → List Value → Prop
  | [], xs => xs = []
  | v :: vs, xs => ∃ y ys, xs = y :: ys ∧ VR σ v y ∧ VRs σ vs ys
end

def Ext (σ σ' : Sig) : Prop := ∀ b l, σ b = some l → σ' b = some l
theorem Ext.refl (σ : Sig) : Ext σ σ := fun _ _ h => h
theorem Ext.trans {σ σ' σ'' : Sig} (h : Ext σ σ') (k : Ext σ' σ'') : Ext σ σ'' := fun b l e => k b l (h b l e)

mutual
theorem VR.ext {σ σ' : Sig} (h : Ext σ σ') : ∀ {v : AV} {x : Value}, VR σ v x → VR σ' v x
  | .lit _, _, hv => by simpa [VR] using hv
  | .ptr _ _, _, hv => by
    simp only [VR] at hv ⊢
    obtain ⟨l, hl, e⟩ := hv
    exact ⟨l, h _ _ hl, e⟩
  | .slice .., _, hv => by
    simp only [VR] at hv ⊢
    obtain ⟨l, c', hl, e⟩ := hv
    exact ⟨l, c', h _ _ hl, e⟩
  | .eslice, _, hv => by
    simp only [VR] at hv ⊢
    exact hv
  | .map _, _, hv => by
    simp only [VR] at hv ⊢
    obtain ⟨l, hl, e⟩ := hv
    exact ⟨l, h _ _ hl, e⟩
  | .func .., _, hv => by
    simp only [VR] at hv ⊢
    obtain ⟨fs, cs, e, h1, h2⟩ := hv
    exact ⟨fs, cs, e, VRs.ext h h1, VRs.ext h h2⟩
  | .iface .., _, hv => by
    simp only [VR] at hv ⊢
    obtain ⟨y, e, h1⟩ := hv
    exact ⟨y, e, VR.ext h h1⟩
  | .agg _, _, hv => by
    simp only [VR] at hv ⊢
    obtain ⟨cs, e, h1⟩ := hv
    exact ⟨cs, e, VRs.ext h h1⟩
  | .tuple _, _, hv => by
    simp only [VR] at hv ⊢
    obtain ⟨cs, e, h1⟩ := hv
    exact ⟨cs, e, VRs.ext h h1⟩
theorem VRs.ext {σ σ' : Sig} (h : Ext σ σ') : ∀ {v : List AV} {x : List Value}, VRs σ v x → VRs σ' v x
  | [], _, hv => by simpa [VRs] using hv
  | v :: vs, _, hv => by
    simp only [VRs] at hv ⊢
    obtain ⟨y, ys, e, h1, h2⟩ := hv
    exact ⟨y, ys, e, VR.ext h h1, VRs.ext h h2⟩
end

namespace VRs
variable {σ : Sig}
theorem length {vs : List AV} : ∀ {xs : List Value}, VRs σ vs xs → xs.length = vs.length := by
  induction vs with
  | nil => intro xs h; simp only [VRs] at h; simp [h]
  | cons v vs ih =>
    intro xs h; simp only [VRs] at h
    obtain ⟨y, ys, rfl, _, h2⟩ := h
    simp [ih h2]
theorem get? {vs : List AV} : ∀ {xs : List Value} {i : Nat} {v : AV}, VRs σ vs xs → vs[i]? = some v → ∃ x, xs[i]? = some x ∧ VR σ v x := by
  induction vs with
  | nil => intro xs i v _ hi; simp at hi
  | cons u us ih =>
    intro xs i v h hi; simp only [VRs] at h
    obtain ⟨y, ys, rfl, h1, h2⟩ := h
    cases i with
    | zero => simp at hi; subst hi; exact ⟨y, rfl, h1⟩
    | succ i => simp at hi; obtain ⟨x, hx, hv⟩ := ih h2 hi; exact ⟨x, by simpa using hx, hv⟩
theorem of_get {vs : List AV} : ∀ {xs : List Value}, xs.length = vs.length → (∀ (i : Nat) (v : AV), vs[i]? = some v → ∃ x, xs[i]? = some x ∧ VR σ v x) → VRs σ vs xs := by
  induction vs with
  | nil => intro xs h _; simp only [VRs]; exact List.eq_nil_of_length_eq_zero (by simpa using h)
  | cons u us ih =>
    intro xs hl h
    cases xs with
    | nil => simp at hl
    | cons y ys =>
      simp only [VRs]
      obtain ⟨x, hx, hv⟩ := h 0 u rfl
      simp at hx; subst hx
      refine ⟨y, ys, rfl, hv, ih (by simpa using hl) fun i v hi => ?_⟩
      simpa using h (i + 1) v (by simpa using hi)
theorem append {vs us : List AV} {xs ys : List Value} (h : VRs σ vs xs) (k : VRs σ us ys) : VRs σ (vs ++ us) (xs ++ ys) := by
  induction vs generalizing xs with
  | nil => simp only [VRs] at h; subst h; simpa using k
  | cons v vs ih =>
    simp only [VRs] at h
    obtain ⟨y, zs, rfl, h1, h2⟩ := h
    simp only [List.cons_append, VRs]
    exact ⟨y, zs ++ ys, rfl, h1, ih h2⟩
theorem drop {vs : List AV} {xs : List Value} (n : Nat) (h : VRs σ vs xs) : VRs σ (vs.drop n) (xs.drop n) := by
  refine of_get (by simp [h.length]) fun i v hi => ?_
  rw [List.getElem?_drop] at hi ⊢
  exact h.get? hi
theorem take {vs : List AV} {xs : List Value} (n : Nat) (h : VRs σ vs xs) : VRs σ (vs.take n) (xs.take n) := by
  refine of_get (by simp [h.length]) fun i v hi => ?_
  rw [List.getElem?_take] at hi ⊢
  split at hi
  · rw [if_pos ‹_›]; exact h.get? hi
  · simp at hi
theorem set {vs : List AV} {xs : List Value} (n : Nat) {v : AV} {x : Value} (h : VRs σ vs xs) (hv : VR σ v x) : VRs σ (vs.set n v) (xs.set n x) := by
  refine of_get (by simp [h.length]) fun i u hi => ?_
  rw [List.getElem?_set] at hi ⊢
  split at hi
  · rename_i e; subst e
    rw [if_pos rfl]
    split at hi
    · rw [if_pos (by have := h.length; omega)]; simp at hi; subst hi; exact ⟨x, rfl, hv⟩
    · simp at hi
  · rw [if_neg ‹_›]; exact h.get? hi
theorem lits (xs : List Value) : VRs σ (xs.map .lit) xs := by
  induction xs with
  | nil => simp [VRs]
  | cons x xs ih => simp only [List.map_cons, VRs]; exact ⟨x, xs, rfl, by simp [VR], ih⟩
theorem replicate {v : AV} {x : Value} (n : Nat) (h : VR σ v x) : VRs σ (List.replicate n v) (List.replicate n x) := by
  induction n with
  | zero => simp [VRs]
  | succ n ih => simp only [List.replicate_succ, VRs]; exact ⟨x, _, rfl, h, ih⟩
end VRs

/-! ### constants; the values without addresses -/
def abs : Value → AV
  | .agg cs => .agg (cs.toList.map .lit)
  | v => .lit v
theorem abs_VR (σ : Sig) (v : Value) : VR σ (abs v) v := by
  cases v <;> simp only [abs, VR]
  rename_i cs
  exact ⟨cs.toList, by simp, VRs.lits _⟩

mutual
/-- The value, if it bears no address. -/
def plain : AV → Option Value
  | .lit v => some v
  | .agg cs => (plains cs).map fun l => .agg l.toArray
  | .tuple cs => (plains cs).map fun l => .tuple l.toArray
  | .iface t v => (plain v).map fun x => .iface t x
  | _ => none
def plains : List AV → Option (List Value)
  | [] => some []
  | v :: vs => (plain v).bind fun x => (plains vs).map fun l => x :: l
end
mutual
theorem plain_eq {σ : Sig} : ∀ {v : AV} {x y : Value}, plain v = some y → VR σ v x → x = y
  | .lit _, _, _, h, hv => by simp only [plain, Option.some.injEq] at h; simp only [VR] at hv; rw [hv, h]
  | .agg _, _, _, h, hv => by
    simp only [plain, Option.map_eq_some_iff] at h
    simp only [VR] at hv
    obtain ⟨l, h1, rfl⟩ := h; obtain ⟨cs, rfl, h2⟩ := hv
    rw [plains_eq h1 h2]
  | .tuple _, _, _, h, hv => by
    simp only [plain, Option.map_eq_some_iff] at h
    simp only [VR] at hv
    obtain ⟨l, h1, rfl⟩ := h; obtain ⟨cs, rfl, h2⟩ := hv
    rw [plains_eq h1 h2]
  | .iface _ _, _, _, h, hv => by
    simp only [plain, Option.map_eq_some_iff] at h
    simp only [VR] at hv
    obtain ⟨l, h1, rfl⟩ := h; obtain ⟨cs, rfl, h2⟩ := hv
    rw [plain_eq h1 h2]
  | .ptr .., _, _, h, _ => by simp [plain] at h
  | .slice .., _, _, h, _ => by simp [plain] at h
  | .eslice, _, _, h, _ => by simp [plain] at h
  | .map .., _, _, h, _ => by simp [plain] at h
  | .func .., _, _, h, _ => by simp [plain] at h
theorem plains_eq {σ : Sig} : ∀ {v : List AV} {x y : List Value}, plains v = some y → VRs σ v x → x = y
  | [], _, _, h, hv => by simp only [plains, Option.some.injEq] at h; simp only [VRs] at hv; rw [hv, h]
  | v :: vs, _, _, h, hv => by
    simp only [plains, Option.bind_eq_some_iff, Option.map_eq_some_iff] at h
    simp only [VRs] at hv
    obtain ⟨y, h1, l, h2, rfl⟩ := h; obtain ⟨z, zs, rfl, h3, h4⟩ := hv
    rw [plain_eq h1 h3, plains_eq h2 h4]
end

/-- A computation that neither reads nor writes memory, run. -/
def pureRun {α : Type} (P : Program) : Sem α → Option α
  | .pure a => some a
  | .program k => pureRun P (k P)
  | .mark _ k => pureRun P k
  | _ => none
theorem pureRun_ok {α : Type} {P : Program} {m : Sem α} {a : α} (w : World) : pureRun P m = some a → m.run P w = .ok a w := by
  induction m with
  | pure b => intro h; simp only [pureRun, Option.some.injEq] at h; subst h; rfl
  | program k ih => intro h; simp only [pureRun] at h; exact ih P h
  | mark m k ih => intro h; simp only [pureRun] at h; exact ih h
  | _ => intro h; simp [pureRun] at h
end CI
