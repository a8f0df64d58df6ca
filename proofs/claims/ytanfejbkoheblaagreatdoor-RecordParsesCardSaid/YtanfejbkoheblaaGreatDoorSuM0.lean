/- Parts of the proof: Cia Cgl Cib Cic Cid Cie Cif Cig. -/
import Derived.Calls
import Derived.Below
import Derived.Laws.World
import Derived.Tactics
set_option linter.unusedVariables false
noncomputable section
namespace CI
open Go
inductive Tr (α : Type) where
  | nil
  | node (l : Tr α) (v : Option α) (r : Tr α)
  deriving Inhabited
namespace Tr
variable {α : Type}
noncomputable def get (t : Tr α) : Nat → Option α :=
  @Tr.rec α (fun _ => Nat → Option α) (fun _ => none) (fun _ v _ gl gr k =>
    @Bool.rec (fun _ => Option α) (@Bool.rec (fun _ => Option α) (gr (Nat.sub (Nat.div k 2) 1)) (gl (Nat.div k 2)) (Nat.beq (Nat.mod k 2) 1)) v (Nat.beq k 0)) t
theorem get_node (l : Tr α) (v : Option α) (r : Tr α) (k : Nat) : (Tr.node l v r).get k = if k = 0 then v else if k % 2 = 1 then l.get (k / 2) else r.get (k / 2 - 1) := by
  show @Bool.rec (fun _ => Option α) (@Bool.rec (fun _ => Option α) (r.get (k / 2 - 1)) (l.get (k / 2)) (Nat.beq (k % 2) 1)) v (Nat.beq k 0) = _
  cases h : Nat.beq k 0 with
  | true => rw [if_pos (Nat.eq_of_beq_eq_true h)]
  | false =>
    rw [if_neg (Nat.ne_of_beq_eq_false h)]
    cases h2 : Nat.beq (k % 2) 1 with
    | true => rw [if_pos (Nat.eq_of_beq_eq_true h2)]
    | false => rw [if_neg (Nat.ne_of_beq_eq_false h2)]
noncomputable def setF (n : Nat) : Tr α → Nat → Option α → Tr α :=
  @Nat.rec (fun _ => Tr α → Nat → Option α → Tr α) (fun t _ _ => t) (fun _ ih t k a =>
    @Tr.rec α (fun _ => Tr α)
      (@Bool.rec (fun _ => Tr α) (@Bool.rec (fun _ => Tr α) (.node .nil none (ih .nil (Nat.sub (Nat.div k 2) 1) a)) (.node (ih .nil (Nat.div k 2) a) none .nil) (Nat.beq (Nat.mod k 2) 1)) (.node .nil a .nil) (Nat.beq k 0))
      (fun l v r _ _ => @Bool.rec (fun _ => Tr α) (@Bool.rec (fun _ => Tr α) (.node l v (ih r (Nat.sub (Nat.div k 2) 1) a)) (.node (ih l (Nat.div k 2) a) v r) (Nat.beq (Nat.mod k 2) 1)) (.node l a r) (Nat.beq k 0)) t) n
theorem rec_if {β : Type} (k : Nat) (x y z : β) : @Bool.rec (fun _ => β) (@Bool.rec (fun _ => β) z y (Nat.beq (k % 2) 1)) x (Nat.beq k 0) = if k = 0 then x else if k % 2 = 1 then y else z := by
  cases h : Nat.beq k 0 with
  | true => rw [if_pos (Nat.eq_of_beq_eq_true h)]
  | false =>
    rw [if_neg (Nat.ne_of_beq_eq_false h)]
    cases h2 : Nat.beq (k % 2) 1 with
    | true => rw [if_pos (Nat.eq_of_beq_eq_true h2)]
    | false => rw [if_neg (Nat.ne_of_beq_eq_false h2)]
theorem setF_nil (n : Nat) (k : Nat) (a : Option α) : setF (n + 1) (.nil : Tr α) k a = if k = 0 then .node .nil a .nil else if k % 2 = 1 then .node (setF n .nil (k / 2) a) none .nil else .node .nil none (setF n .nil (k / 2 - 1) a) :=
  rec_if k _ _ _
theorem setF_node (n : Nat) (l : Tr α) (v : Option α) (r : Tr α) (k : Nat) (a : Option α) : setF (n + 1) (.node l v r) k a = if k = 0 then .node l a r else if k % 2 = 1 then .node (setF n l (k / 2) a) v r else .node l v (setF n r (k / 2 - 1) a) :=
  rec_if k _ _ _
noncomputable def put (t : Tr α) (k : Nat) (a : Option α) : Tr α := setF (k + 1) t k a
theorem get_nil (k : Nat) : (Tr.nil : Tr α).get k = none := rfl
theorem get_setF (n : Nat) : ∀ (t : Tr α) (k j : Nat) (a : Option α), k < n → (setF n t k a).get j = if j = k then a else t.get j := by
  induction n with
  | zero => intro t k j a h; omega
  | succ n ih =>
    intro t k j a h
    cases t with
    | nil =>
      simp only [setF_nil]
      by_cases hk : k = 0
      · subst hk; rw [if_pos rfl]; simp only [get_node, get_nil]
        by_cases hj : j = 0
        · simp [hj]
        · simp [hj]
      · rw [if_neg hk]
        by_cases h2 : k % 2 = 1
        · rw [if_pos h2]; simp only [get_node, get_nil]
          by_cases hj : j = 0
          · subst hj; rw [if_pos rfl, if_neg (by omega)]
          · rw [if_neg hj]
            by_cases j2 : j % 2 = 1
            · rw [if_pos j2, ih .nil (k / 2) (j / 2) a (by omega), get_nil]
              by_cases e : j = k
              · rw [if_pos e, if_pos (by omega)]
              · rw [if_neg e, if_neg (by omega)]
            · rw [if_neg j2, if_neg (by intro e; subst e; exact j2 h2)]
        · rw [if_neg h2]; simp only [get_node, get_nil]
          by_cases hj : j = 0
          · subst hj; rw [if_pos rfl, if_neg (by omega)]
          · rw [if_neg hj]
            by_cases j2 : j % 2 = 1
            · rw [if_pos j2, if_neg (by intro e; subst e; exact h2 j2)]
            · rw [if_neg j2, ih .nil (k / 2 - 1) (j / 2 - 1) a (by omega), get_nil]
              by_cases e : j = k
              · rw [if_pos e, if_pos (by omega)]
              · rw [if_neg e, if_neg (by omega)]
    | node l v r =>
      simp only [setF_node]
      by_cases hk : k = 0
      · subst hk; rw [if_pos rfl]; simp only [get_node, get_nil]
        by_cases hj : j = 0
        · simp [hj]
        · simp [hj]
      · rw [if_neg hk]
        by_cases h2 : k % 2 = 1
        · rw [if_pos h2]; simp only [get_node, get_nil]
          by_cases hj : j = 0
          · subst hj; rw [if_pos rfl, if_neg (by omega), if_pos rfl]
          · rw [if_neg hj, if_neg hj]
            by_cases j2 : j % 2 = 1
            · rw [if_pos j2, if_pos j2, ih l (k / 2) (j / 2) a (by omega)]
              by_cases e : j = k
              · rw [if_pos e, if_pos (by omega)]
              · rw [if_neg e, if_neg (by omega)]
            · rw [if_neg j2, if_neg j2, if_neg (by intro e; subst e; exact j2 h2)]
        · rw [if_neg h2]; simp only [get_node, get_nil]
          by_cases hj : j = 0
          · subst hj; rw [if_pos rfl, if_neg (by omega), if_pos rfl]
          · rw [if_neg hj, if_neg hj]
            by_cases j2 : j % 2 = 1
            · rw [if_pos j2, if_pos j2, if_neg (by intro e; subst e; exact h2 j2)]
            · rw [if_neg j2, if_neg j2, ih r (k / 2 - 1) (j / 2 - 1) a (by omega)]
              by_cases e : j = k
              · rw [if_pos e, if_pos (by omega)]
              · rw [if_neg e, if_neg (by omega)]
theorem get_put (t : Tr α) (k j : Nat) (a : Option α) : (t.put k a).get j = if j = k then a else t.get j :=
  get_setF (k + 1) t k j a (by omega)
theorem get_put_same (t : Tr α) (k : Nat) (a : Option α) : (t.put k a).get k = a := by rw [get_put, if_pos rfl]
theorem get_put_ne (t : Tr α) (k j : Nat) (a : Option α) (h : j ≠ k) : (t.put k a).get j = t.get j := by rw [get_put, if_neg h]
end Tr
inductive AV where
  | lit (v : Value)
  | ptr (b off : Nat)
  | slice (b off len : Nat) (cap : Option Nat) (esz : Nat)
  | eslice
  | map (b : Nat)
  | func (fn : Fn) (first captured : List AV)
  | iface (t : TypeId) (v : AV)
  | agg (cs : List AV)
  | tuple (vs : List AV)
  deriving Inhabited
structure Loc where
  blk : Nat
  room : Nat
def Loc.base (_ : Loc) : Nat := 0
theorem Loc.base_eq (l : Loc) : l.base = 0 := rfl
abbrev Sig := Nat → Option Loc
def SlOK (l : Loc) (o n : Nat) (c : Option Nat) (e c' : Nat) : Prop :=
  n ≤ c' ∧ l.base + o + c' * e ≤ l.room ∧ match c with
    | some k => c' = k
    | none => l.base + o + c' * e = l.room
mutual
def VR (σ : Sig) : AV → Value → Prop
  | .lit v, x => x = v
  | .ptr b o, x => ∃ l, σ b = some l ∧ x = .pointer (some ⟨l.blk, l.base + o, none⟩)
  | .slice b o n c e, x => ∃ l c', σ b = some l ∧ x = .slice (some ⟨l.blk, l.base + o, none⟩) n c' ∧ SlOK l o n c e c'
  | .eslice, x => ∃ a c, x = .slice (some a) 0 c
  | .map b, x => ∃ l, σ b = some l ∧ x = .map (some l.blk)
  | .func fn fs cs, x => ∃ fs' cs' : List Value, x = .func fn fs'.toArray cs'.toArray ∧ VRs σ fs fs' ∧ VRs σ cs cs'
  | .iface t v, x => ∃ y, x = .iface t y ∧ VR σ v y
  | .agg cs, x => ∃ cs' : List Value, x = .agg cs'.toArray ∧ VRs σ cs cs'
  | .tuple vs, x => ∃ vs' : List Value, x = .tuple vs'.toArray ∧ VRs σ vs vs'
def VRs (σ : Sig) : List AV → List Value → Prop
  | [], xs => xs = []
  | v :: vs, xs => ∃ y ys, xs = y :: ys ∧ VR σ v y ∧ VRs σ vs ys
end
def Ext (σ σ' : Sig) : Prop := ∀ b l, σ b = some l → σ' b = some l
theorem Ext.refl (σ : Sig) : Ext σ σ := fun _ _ h => h
theorem Ext.trans {σ σ' σ'' : Sig} (h : Ext σ σ') (k : Ext σ' σ'') : Ext σ σ'' := fun b l e => k b l (h b l e)
mutual
theorem VR.ext {σ σ' : Sig} (h : Ext σ σ') : ∀ {v : AV} {x : Value}, VR σ v x → VR σ' v x
  | .lit _, _, hv => by simpa [VR] using hv
  | .ptr _ _, _, hv => by
    simp only [VR] at hv ⊢
    obtain ⟨l, hl, e⟩ := hv
    exact ⟨l, h _ _ hl, e⟩
  | .slice .., _, hv => by
    simp only [VR] at hv ⊢
    obtain ⟨l, c', hl, e⟩ := hv
    exact ⟨l, c', h _ _ hl, e⟩
  | .eslice, _, hv => by
    simp only [VR] at hv ⊢
    exact hv
  | .map _, _, hv => by
    simp only [VR] at hv ⊢
    obtain ⟨l, hl, e⟩ := hv
    exact ⟨l, h _ _ hl, e⟩
  | .func .., _, hv => by
    simp only [VR] at hv ⊢
    obtain ⟨fs, cs, e, h1, h2⟩ := hv
    exact ⟨fs, cs, e, VRs.ext h h1, VRs.ext h h2⟩
  | .iface .., _, hv => by
    simp only [VR] at hv ⊢
    obtain ⟨y, e, h1⟩ := hv
    exact ⟨y, e, VR.ext h h1⟩
  | .agg _, _, hv => by
    simp only [VR] at hv ⊢
    obtain ⟨cs, e, h1⟩ := hv
    exact ⟨cs, e, VRs.ext h h1⟩
  | .tuple _, _, hv => by
    simp only [VR] at hv ⊢
    obtain ⟨cs, e, h1⟩ := hv
    exact ⟨cs, e, VRs.ext h h1⟩
theorem VRs.ext {σ σ' : Sig} (h : Ext σ σ') : ∀ {v : List AV} {x : List Value}, VRs σ v x → VRs σ' v x
  | [], _, hv => by simpa [VRs] using hv
  | v :: vs, _, hv => by
    simp only [VRs] at hv ⊢
    obtain ⟨y, ys, e, h1, h2⟩ := hv
    exact ⟨y, ys, e, VR.ext h h1, VRs.ext h h2⟩
end
namespace VRs
variable {σ : Sig}
theorem length {vs : List AV} : ∀ {xs : List Value}, VRs σ vs xs → xs.length = vs.length := by
  induction vs with
  | nil => intro xs h; simp only [VRs] at h; simp [h]
  | cons v vs ih =>
    intro xs h; simp only [VRs] at h
    obtain ⟨y, ys, rfl, _, h2⟩ := h
    simp [ih h2]
theorem get? {vs : List AV} : ∀ {xs : List Value} {i : Nat} {v : AV}, VRs σ vs xs → vs[i]? = some v → ∃ x, xs[i]? = some x ∧ VR σ v x := by
  induction vs with
  | nil => intro xs i v _ hi; simp at hi
  | cons u us ih =>
    intro xs i v h hi; simp only [VRs] at h
    obtain ⟨y, ys, rfl, h1, h2⟩ := h
    cases i with
    | zero => simp at hi; subst hi; exact ⟨y, rfl, h1⟩
    | succ i => simp at hi; obtain ⟨x, hx, hv⟩ := ih h2 hi; exact ⟨x, by simpa using hx, hv⟩
theorem of_get {vs : List AV} : ∀ {xs : List Value}, xs.length = vs.length → (∀ (i : Nat) (v : AV), vs[i]? = some v → ∃ x, xs[i]? = some x ∧ VR σ v x) → VRs σ vs xs := by
  induction vs with
  | nil => intro xs h _; simp only [VRs]; exact List.eq_nil_of_length_eq_zero (by simpa using h)
  | cons u us ih =>
    intro xs hl h
    cases xs with
    | nil => simp at hl
    | cons y ys =>
      simp only [VRs]
      obtain ⟨x, hx, hv⟩ := h 0 u rfl
      simp at hx; subst hx
      refine ⟨y, ys, rfl, hv, ih (by simpa using hl) fun i v hi => ?_⟩
      simpa using h (i + 1) v (by simpa using hi)
theorem append {vs us : List AV} {xs ys : List Value} (h : VRs σ vs xs) (k : VRs σ us ys) : VRs σ (vs ++ us) (xs ++ ys) := by
  induction vs generalizing xs with
  | nil => simp only [VRs] at h; subst h; simpa using k
  | cons v vs ih =>
    simp only [VRs] at h
    obtain ⟨y, zs, rfl, h1, h2⟩ := h
    simp only [List.cons_append, VRs]
    exact ⟨y, zs ++ ys, rfl, h1, ih h2⟩
theorem drop {vs : List AV} {xs : List Value} (n : Nat) (h : VRs σ vs xs) : VRs σ (vs.drop n) (xs.drop n) := by
  refine of_get (by simp [h.length]) fun i v hi => ?_
  rw [List.getElem?_drop] at hi ⊢
  exact h.get? hi
theorem take {vs : List AV} {xs : List Value} (n : Nat) (h : VRs σ vs xs) : VRs σ (vs.take n) (xs.take n) := by
  refine of_get (by simp [h.length]) fun i v hi => ?_
  rw [List.getElem?_take] at hi ⊢
  split at hi
  · rw [if_pos ‹_›]; exact h.get? hi
  · simp at hi
theorem set {vs : List AV} {xs : List Value} (n : Nat) {v : AV} {x : Value} (h : VRs σ vs xs) (hv : VR σ v x) : VRs σ (vs.set n v) (xs.set n x) := by
  refine of_get (by simp [h.length]) fun i u hi => ?_
  rw [List.getElem?_set] at hi ⊢
  split at hi
  · rename_i e; subst e
    rw [if_pos rfl]
    split at hi
    · rw [if_pos (by have := h.length; omega)]; simp at hi; subst hi; exact ⟨x, rfl, hv⟩
    · simp at hi
  · rw [if_neg ‹_›]; exact h.get? hi
theorem lits (xs : List Value) : VRs σ (xs.map .lit) xs := by
  induction xs with
  | nil => simp [VRs]
  | cons x xs ih => simp only [List.map_cons, VRs]; exact ⟨x, xs, rfl, by simp [VR], ih⟩
theorem replicate {v : AV} {x : Value} (n : Nat) (h : VR σ v x) : VRs σ (List.replicate n v) (List.replicate n x) := by
  induction n with
  | zero => simp [VRs]
  | succ n ih => simp only [List.replicate_succ, VRs]; exact ⟨x, _, rfl, h, ih⟩
end VRs
def abs : Value → AV
  | .agg cs => .agg (cs.toList.map .lit)
  | v => .lit v
theorem abs_VR (σ : Sig) (v : Value) : VR σ (abs v) v := by
  cases v <;> simp only [abs, VR]
  rename_i cs
  exact ⟨cs.toList, by simp, VRs.lits _⟩
mutual
def plain : AV → Option Value
  | .lit v => some v
  | .agg cs => (plains cs).map fun l => .agg l.toArray
  | .tuple cs => (plains cs).map fun l => .tuple l.toArray
  | .iface t v => (plain v).map fun x => .iface t x
  | _ => none
def plains : List AV → Option (List Value)
  | [] => some []
  | v :: vs => (plain v).bind fun x => (plains vs).map fun l => x :: l
end
mutual
theorem plain_eq {σ : Sig} : ∀ {v : AV} {x y : Value}, plain v = some y → VR σ v x → x = y
  | .lit _, _, _, h, hv => by simp only [plain, Option.some.injEq] at h; simp only [VR] at hv; rw [hv, h]
  | .agg _, _, _, h, hv => by
    simp only [plain, Option.map_eq_some_iff] at h
    simp only [VR] at hv
    obtain ⟨l, h1, rfl⟩ := h; obtain ⟨cs, rfl, h2⟩ := hv
    rw [plains_eq h1 h2]
  | .tuple _, _, _, h, hv => by
    simp only [plain, Option.map_eq_some_iff] at h
    simp only [VR] at hv
    obtain ⟨l, h1, rfl⟩ := h; obtain ⟨cs, rfl, h2⟩ := hv
    rw [plains_eq h1 h2]
  | .iface _ _, _, _, h, hv => by
    simp only [plain, Option.map_eq_some_iff] at h
    simp only [VR] at hv
    obtain ⟨l, h1, rfl⟩ := h; obtain ⟨cs, rfl, h2⟩ := hv
    rw [plain_eq h1 h2]
  | .ptr .., _, _, h, _ => by simp [plain] at h
  | .slice .., _, _, h, _ => by simp [plain] at h
  | .eslice, _, _, h, _ => by simp [plain] at h
  | .map .., _, _, h, _ => by simp [plain] at h
  | .func .., _, _, h, _ => by simp [plain] at h
theorem plains_eq {σ : Sig} : ∀ {v : List AV} {x y : List Value}, plains v = some y → VRs σ v x → x = y
  | [], _, _, h, hv => by simp only [plains, Option.some.injEq] at h; simp only [VRs] at hv; rw [hv, h]
  | v :: vs, _, _, h, hv => by
    simp only [plains, Option.bind_eq_some_iff, Option.map_eq_some_iff] at h
    simp only [VRs] at hv
    obtain ⟨y, h1, l, h2, rfl⟩ := h; obtain ⟨z, zs, rfl, h3, h4⟩ := hv
    rw [plain_eq h1 h3, plains_eq h2 h4]
end
def pureRun {α : Type} (P : Program) : Sem α → Option α
  | .pure a => some a
  | .program k => pureRun P (k P)
  | .mark _ k => pureRun P k
  | _ => none
theorem pureRun_ok {α : Type} {P : Program} {m : Sem α} {a : α} (w : World) : pureRun P m = some a → m.run P w = .ok a w := by
  induction m with
  | pure b => intro h; simp only [pureRun, Option.some.injEq] at h; subst h; rfl
  | program k ih => intro h; simp only [pureRun] at h; exact ih P h
  | mark m k ih => intro h; simp only [pureRun] at h; exact ih h
  | _ => intro h; simp [pureRun] at h
end CI
noncomputable section
namespace CI
open Go
def gl1 : List Value := [.int .u8 0, .int .u8 1, .int .u8 56, .int .u8 2, .int .u8 57, .int .u8 49, .int .u8 28, .int .u8 3, .int .u8 61, .int .u8 58, .int .u8 42, .int .u8 50, .int .u8 38, .int .u8 29, .int .u8 17, .int .u8 4, .int .u8 62, .int .u8 47, .int .u8 59, .int .u8 36, .int .u8 45, .int .u8 43, .int .u8 51, .int .u8 22, .int .u8 53, .int .u8 39, .int .u8 33, .int .u8 30, .int .u8 24, .int .u8 18, .int .u8 12, .int .u8 5, .int .u8 63, .int .u8 55, .int .u8 48, .int .u8 27, .int .u8 60, .int .u8 41, .int .u8 37, .int .u8 16, .int .u8 46, .int .u8 35, .int .u8 44, .int .u8 21, .int .u8 52, .int .u8 32, .int .u8 23, .int .u8 11, .int .u8 54, .int .u8 26, .int .u8 40, .int .u8 15, .int .u8 34, .int .u8 20, .int .u8 31, .int .u8 10, .int .u8 25, .int .u8 14, .int .u8 19, .int .u8 9, .int .u8 13, .int .u8 8, .int .u8 7, .int .u8 6]
def gl2 : List Value := [.int .u64 1, .int .u64 10, .int .u64 100, .int .u64 1000, .int .u64 10000, .int .u64 100000, .int .u64 1000000, .int .u64 10000000, .int .u64 100000000, .int .u64 1000000000, .int .u64 10000000000, .int .u64 100000000000, .int .u64 1000000000000, .int .u64 10000000000000, .int .u64 100000000000000, .int .u64 1000000000000000, .int .u64 10000000000000000, .int .u64 100000000000000000, .int .u64 1000000000000000000, .int .u64 10000000000000000000]
def GC (g : Nat) : Option (List Value) := if g = 1 then some gl1 else if g = 2 then some gl2 else none
def GI (g : Nat) : Bool := g == 3 || g == 4
def GL (g : Nat) : Option (List Value → Prop) := match GC g with
  | some cs => some fun x => x = cs
  | none => match GI g with
    | true => some fun x => ∃ t p, x = [.iface t p]
    | false => none
theorem GL_of {g : Nat} {cs : List Value} (h : GC g = some cs) : GL g = some fun x => x = cs := by
  unfold GL
  rw [h]
theorem GL_if {g : Nat} (h : GC g = none) (hi : GI g = true) : GL g = some fun x => ∃ t p, x = [.iface t p] := by
  unfold GL
  rw [h, hi]
end CI
noncomputable section
namespace CI
open Go
inductive AObj where
  | cells (cs : List AV) (t : TypeId) (ro : Bool)
  | map (es : List (AV × AV)) (ro : Bool)
  | iter (ro : Bool)
  | nit (ro : Bool)
  deriving Inhabited
abbrev Heap := Tr AObj
def AObj.isRo : AObj → Bool
  | .cells _ _ ro => ro
  | .map _ ro => ro
  | .iter ro => ro
  | .nit ro => ro
def MapR (σ : Sig) : List (AV × AV) → List MapEntry → Prop
  | [], E => E = []
  | (k, v) :: es, E => ∃ e E', E = e :: E' ∧ VR σ k e.key ∧ VR σ v e.val ∧ MapR σ es E'
def Borns (L : List MapEntry) (clock : Nat) : Prop := (L.map (·.born)).Nodup ∧ ∀ e ∈ L, e.born < clock
theorem Borns.nil : Borns [] 0 := ⟨by simp, by simp⟩
def OR (σ : Sig) (l : Loc) : AObj → Option Obj → Prop
  | .cells cs t ro, ob => ∃ (C : Array Value) (fz : Nat × Nat), ob = some (.cells C t fz) ∧ C.size = l.room ∧ l.base + cs.length ≤ l.room ∧
      (∀ (i : Nat) (v : AV), cs[i]? = some v → ∃ x, C[l.base + i]? = some x ∧ VR σ v x) ∧ (ro = false → ∀ i, i < l.room → ¬ (fz.1 ≤ i ∧ i < fz.2))
  | .map es _, ob => ∃ (E : Array MapEntry) (clock : Nat) (es' : List (AV × AV)), ob = some (.map E clock) ∧ es'.Perm es ∧ MapR σ es' E.toList ∧ Borns E.toList clock
  | .iter _, ob => ∃ m s sn c, ob = some (.mapIter m s sn c)
  | .nit _, ob => ∃ s sn c, ob = some (.mapIter none s sn c)
theorem MapR.ext {σ σ' : Sig} (h : Ext σ σ') : ∀ {es : List (AV × AV)} {E : List MapEntry}, MapR σ es E → MapR σ' es E
  | [], _, hm => by simpa [MapR] using hm
  | (k, v) :: es, _, hm => by
    simp only [MapR] at hm ⊢
    obtain ⟨e, E', he, h1, h2, h3⟩ := hm
    exact ⟨e, E', he, h1.ext h, h2.ext h, MapR.ext h h3⟩
theorem OR.ext {σ σ' : Sig} (h : Ext σ σ') {l : Loc} {o : AObj} {ob : Option Obj} (ho : OR σ l o ob) : OR σ' l o ob := by
  cases o with
  | cells cs t ro =>
    obtain ⟨C, fz, e, h1, h2, h3, h4⟩ := ho
    exact ⟨C, fz, e, h1, h2, fun i v hi => let ⟨x, hx, hv⟩ := h3 i v hi; ⟨x, hx, hv.ext h⟩, h4⟩
  | map es ro =>
    obtain ⟨E, c, es', e, hp, h1, h2⟩ := ho
    exact ⟨E, c, es', e, hp, h1.ext h, h2⟩
  | iter ro => exact ho
  | nit ro => exact ho
theorem OR.isSome {σ : Sig} {l : Loc} {o : AObj} {ob : Option Obj} (ho : OR σ l o ob) : ob ≠ none := by
  cases o with
  | cells cs t ro => obtain ⟨C, fz, e, _⟩ := ho; rw [e]; simp
  | map es ro => obtain ⟨E, c, _, e, _⟩ := ho; rw [e]; simp
  | iter ro => obtain ⟨m, s, sn, c, e⟩ := ho; rw [e]; simp
  | nit ro => obtain ⟨s, sn, c, e⟩ := ho; rw [e]; simp
structure Sim (σ : Sig) (H : Heap) (w : World) : Prop where
  obj : ∀ b o l, H.get b = some o → σ b = some l → OR σ l o w.heap[l.blk]?
  inj : ∀ b b' o o' l l', H.get b = some o → H.get b' = some o' → σ b = some l → σ b' = some l' → l.blk = l'.blk → b = b'
def Glb (w : World) : Prop := ∀ g q, GL g = some q → ∃ cs t fz, w.heap[g]? = some (.cells cs t fz) ∧ q cs.toList
structure Good0 (σ : Sig) (H : Heap) (nx : Nat) (w : World) : Prop extends Sim σ H w where
  fresh : ∀ b, nx ≤ b → σ b = none ∧ H.get b = none
structure Good (σ : Sig) (H : Heap) (nx : Nat) (w : World) : Prop extends Good0 σ H nx w where
  glb : Glb w
  apart : ∀ b l o, H.get b = some o → σ b = some l → o.isRo = false → GL l.blk = none
theorem Glb.lt {w : World} (h : Glb w) {g : Nat} {q : List Value → Prop} (hg : GL g = some q) : g < w.heap.size := by
  obtain ⟨cs, t, fz, e, _⟩ := h g q hg
  exact (Array.getElem?_eq_some_iff.1 e).1
theorem glb_of {σ0 : Sig} {H0 : Heap} {nx0 : Nat} {w0 w : World} (g : Good σ0 H0 nx0 w0)
    (hf : ∀ k, k < w0.heap.size → (∀ b l o, H0.get b = some o → σ0 b = some l → l.blk = k → o.isRo = true) → w.heap[k]? = w0.heap[k]?) : Glb w := by
  intro k q hk
  obtain ⟨cs, t, fz, e, hq⟩ := g.glb k q hk
  refine ⟨cs, t, fz, ?_, hq⟩
  rw [hf k (g.glb.lt hk) fun b l o hb hl he => ?_]
  · exact e
  · cases hr : o.isRo with
    | true => rfl
    | false =>
      have := g.apart b l o hb hl hr
      rw [he, hk] at this; cases this
theorem apart_of {σ0 σ : Sig} {H0 : Heap} {nx0 : Nat} {w0 : World} {K : Nat → Option AObj} (g : Good σ0 H0 nx0 w0) (hro : ∀ b o, H0.get b = some o → o.isRo = true → K b = some o)
    (hown : ∀ b l' o, K b = some o → σ b = some l' → l'.blk < w0.heap.size → ∃ b0 l0 o0, H0.get b0 = some o0 ∧ σ0 b0 = some l0 ∧ l0.blk = l'.blk ∧ (o0.isRo = false ∨ b0 = b)) :
    ∀ b l o, K b = some o → σ b = some l → o.isRo = false → GL l.blk = none := by
  intro b l o hb hl hr
  cases hg : GL l.blk with
  | none => rfl
  | some cs =>
    have hlt := g.glb.lt hg
    obtain ⟨b0, l0, o0, h1, h2, h3, h4⟩ := hown b l o hb hl hlt
    cases hr0 : o0.isRo with
    | false =>
      have := g.apart b0 l0 o0 h1 h2 hr0
      rw [h3, hg] at this; cases this
    | true =>
      rcases h4 with h4 | h4
      · rw [hr0] at h4; cases h4
      · subst h4
        have := hro b0 o0 h1 hr0
        rw [hb] at this; injection this with this; subst this
        rw [hr] at hr0; cases hr0
theorem Sim.lt {σ : Sig} {H : Heap} {w : World} (s : Sim σ H w) {b : Nat} {o : AObj} {l : Loc} (hb : H.get b = some o) (hl : σ b = some l) : l.blk < w.heap.size := by
  have := (s.obj b o l hb hl).isSome
  rcases Nat.lt_or_ge l.blk w.heap.size with h | h
  · exact h
  · exact absurd (Array.getElem?_eq_none h) this
structure Step (σ : Sig) (H : Heap) (nx : Nat) (w : World) (σ' : Sig) (H' : Heap) (nx' : Nat) (w' : World) : Prop where
  os : w'.os = w.os
  tape : w'.tape = w.tape
  output : w'.output = w.output
  size : w.heap.size ≤ w'.heap.size
  grow : nx ≤ nx'
  old : ∀ b, b < nx → σ' b = σ b
  ro : ∀ b o, H.get b = some o → o.isRo = true → H'.get b = some o
  dead : ∀ b, b < nx → H.get b = none → H'.get b = none
  unreal : ∀ b, b < nx → σ b = none → H'.get b = H.get b
  frame : ∀ k, k < w.heap.size → (∀ b l o, H.get b = some o → σ b = some l → l.blk = k → o.isRo = true) → w'.heap[k]? = w.heap[k]?
  own : ∀ b l o, H'.get b = some o → σ' b = some l → l.blk < w.heap.size →
    ∃ b0 l0 o0, H.get b0 = some o0 ∧ σ b0 = some l0 ∧ l0.blk = l.blk ∧ (o0.isRo = false ∨ b0 = b)
variable {σ σ' σ'' : Sig} {H H' H'' : Heap} {nx nx' nx'' : Nat} {w w' w'' : World}
theorem Step.ext (g : Good σ H nx w) (s : Step σ H nx w σ' H' nx' w') : Ext σ σ' := fun b l h => by
  rcases Nat.lt_or_ge b nx with hb | hb
  · rw [s.old b hb, h]
  · rw [(g.fresh b hb).1] at h; cases h
theorem Step.refl_draw (hh : w'.heap = w.heap) (h1 : w'.os = w.os) (h2 : w'.tape = w.tape) (h3 : w'.output = w.output) : Step σ H nx w σ H nx w' where
  os := h1
  tape := h2
  output := h3
  size := by rw [hh]; exact Nat.le_refl _
  grow := Nat.le_refl _
  old := fun _ _ => rfl
  ro := fun _ _ h _ => h
  dead := fun _ _ h => h
  unreal := fun _ _ _ => rfl
  frame := fun k _ _ => by rw [hh]
  own := fun b l o hb hl _ => ⟨b, l, o, hb, hl, rfl, .inr rfl⟩
theorem Step.refl : Step σ H nx w σ H nx w := Step.refl_draw rfl rfl rfl rfl
theorem Good.draw (g : Good σ H nx w) (hh : w'.heap = w.heap) : Good σ H nx w' where
  obj := by rw [hh]; exact g.obj
  inj := g.inj
  fresh := g.fresh
  glb := by unfold Glb; rw [hh]; exact g.glb
  apart := g.apart
theorem Good.up (g : Good σ H nx w) (s : Step σ H nx w σ' H' nx' w') (h : Good0 σ' H' nx' w') : Good σ' H' nx' w' where
  toGood0 := h
  glb := glb_of g s.frame
  apart := apart_of g s.ro s.own
theorem Step.trans (g : Good σ H nx w) (a : Step σ H nx w σ' H' nx' w') (b : Step σ' H' nx' w' σ'' H'' nx'' w'') : Step σ H nx w σ'' H'' nx'' w'' where
  os := b.os.trans a.os
  tape := b.tape.trans a.tape
  output := b.output.trans a.output
  size := Nat.le_trans a.size b.size
  grow := Nat.le_trans a.grow b.grow
  old := fun i hi => (b.old i (by have := a.grow; omega)).trans (a.old i hi)
  ro := fun i o h hr => b.ro i o (a.ro i o h hr) hr
  dead := fun i hi h => b.dead i (by have := a.grow; omega) (a.dead i hi h)
  unreal := fun i hi h => (b.unreal i (by have := a.grow; omega) ((a.old i hi).trans h)).trans (a.unreal i hi h)
  frame := fun k hk h => by
    rw [b.frame k (Nat.lt_of_lt_of_le hk a.size) ?_]
    · exact a.frame k hk h
    · intro i l o hi hl he
      obtain ⟨b0, l0, o0, h0, hl0, he0, hd⟩ := a.own i l o hi hl (by omega)
      have hro := h b0 l0 o0 h0 hl0 (by omega)
      rcases hd with hd | hd
      · rw [hro] at hd; cases hd
      · subst hd
        have := a.ro b0 o0 h0 hro
        rw [hi] at this; injection this with this; subst this; exact hro
  own := fun i l o hi hl hlt => by
    obtain ⟨b1, l1, o1, h1, hl1, he1, hd1⟩ := b.own i l o hi hl (Nat.lt_of_lt_of_le hlt a.size)
    obtain ⟨b0, l0, o0, h0, hl0, he0, hd0⟩ := a.own b1 l1 o1 h1 hl1 (by omega)
    refine ⟨b0, l0, o0, h0, hl0, by omega, ?_⟩
    rcases hd1 with hd1 | hd1
    · rcases hd0 with hd0 | hd0
      · exact .inl hd0
      · subst hd0
        cases hr : o0.isRo with
        | false => exact .inl rfl
        | true =>
          have := a.ro b0 o0 h0 hr
          rw [h1] at this; injection this with this; subst this
          rw [hr] at hd1; cases hd1
    · subst hd1
      exact hd0
def Sig.upd (σ : Sig) (b : Nat) (l : Loc) : Sig := fun i => if i = b then some l else σ i
theorem Sig.upd_same (σ : Sig) (b : Nat) (l : Loc) : σ.upd b l b = some l := by simp [Sig.upd]
theorem Sig.upd_ne (σ : Sig) (b : Nat) (l : Loc) {i : Nat} (h : i ≠ b) : σ.upd b l i = σ i := by simp [Sig.upd, h]
theorem Sig.upd_ext (σ : Sig) (b : Nat) (l : Loc) (h : σ b = none) : Ext σ (σ.upd b l) := fun i k e => by
  rw [Sig.upd_ne]; exact e
  rintro rfl; rw [h] at e; cases e
theorem alloc_step0 (g : Good σ H nx w) {o : AObj} {O : Obj} {room : Nat} (hw : w'.heap = w.heap.push O) (h1 : w'.os = w.os) (h2 : w'.tape = w.tape)
    (h3 : w'.output = w.output) (hO : OR σ ⟨w.heap.size, room⟩ o (some O)) :
    Step σ H nx w (σ.upd nx ⟨w.heap.size, room⟩) (H.put nx (some o)) (nx + 1) w' ∧ Good0 (σ.upd nx ⟨w.heap.size, room⟩) (H.put nx (some o)) (nx + 1) w' := by
  have hfr := g.fresh nx (Nat.le_refl _)
  have hext := Sig.upd_ext σ nx ⟨w.heap.size, room⟩ hfr.1
  have hgetlt : ∀ k, k < w.heap.size → w'.heap[k]? = w.heap[k]? := fun k hk => by rw [hw, Array.getElem?_push, if_neg (by omega)]
  refine ⟨?_, ?_⟩
  · refine ⟨h1, h2, h3, by rw [hw]; simp, by omega, fun b hb => Sig.upd_ne _ _ _ (by omega), ?_, ?_, ?_, fun k hk _ => hgetlt k hk, ?_⟩
    · intro b o' hb hr
      rw [Tr.get_put_ne _ _ _ _ (by rintro rfl; rw [hfr.2] at hb; cases hb)]; exact hb
    · intro b hb h; rw [Tr.get_put_ne _ _ _ _ (by omega)]; exact h
    · intro b hb _; rw [Tr.get_put_ne _ _ _ _ (by omega)]
    · intro b l o' hb hl hlt
      by_cases e : b = nx
      · subst e; rw [Sig.upd_same] at hl; injection hl with hl; subst hl; simp at hlt
      · rw [Tr.get_put_ne _ _ _ _ e] at hb; rw [Sig.upd_ne _ _ _ e] at hl
        exact ⟨b, l, o', hb, hl, rfl, .inr rfl⟩
  · refine ⟨⟨?_, ?_⟩, ?_⟩
    · intro b o' l hb hl
      by_cases e : b = nx
      · subst e
        rw [Tr.get_put_same] at hb; injection hb with hb; subst hb
        rw [Sig.upd_same] at hl; injection hl with hl; subst hl
        simp only [hw, Array.getElem?_push_size]
        exact hO.ext hext
      · rw [Tr.get_put_ne _ _ _ _ e] at hb; rw [Sig.upd_ne _ _ _ e] at hl
        rw [hgetlt _ (g.lt hb hl)]
        exact (g.obj b o' l hb hl).ext hext
    · intro b b' o1 o2 l1 l2 hb hb' hl hl' he
      by_cases e : b = nx
      · subst e
        by_cases e' : b' = b
        · exact e'.symm
        · rw [Tr.get_put_ne _ _ _ _ e'] at hb'; rw [Sig.upd_ne _ _ _ e'] at hl'
          rw [Sig.upd_same] at hl; injection hl with hl; subst hl
          have := g.lt hb' hl'
          simp at he; omega
      · rw [Tr.get_put_ne _ _ _ _ e] at hb; rw [Sig.upd_ne _ _ _ e] at hl
        by_cases e' : b' = nx
        · subst e'
          rw [Sig.upd_same] at hl'; injection hl' with hl'; subst hl'
          have := g.lt hb hl
          simp at he; omega
        · rw [Tr.get_put_ne _ _ _ _ e'] at hb'; rw [Sig.upd_ne _ _ _ e'] at hl'
          exact g.inj b b' o1 o2 l1 l2 hb hb' hl hl' he
    · intro b hb
      rw [Tr.get_put_ne _ _ _ _ (by omega), Sig.upd_ne _ _ _ (by omega)]
      exact g.fresh b (by omega)
theorem alloc_step (g : Good σ H nx w) {o : AObj} {O : Obj} {room : Nat} (hw : w'.heap = w.heap.push O) (h1 : w'.os = w.os) (h2 : w'.tape = w.tape)
    (h3 : w'.output = w.output) (hO : OR σ ⟨w.heap.size, room⟩ o (some O)) :
    Step σ H nx w (σ.upd nx ⟨w.heap.size, room⟩) (H.put nx (some o)) (nx + 1) w' ∧ Good (σ.upd nx ⟨w.heap.size, room⟩) (H.put nx (some o)) (nx + 1) w' :=
  have h := alloc_step0 g hw h1 h2 h3 hO
  ⟨h.1, g.up h.1 h.2⟩
theorem mod_step0 (g : Good σ H nx w) {b : Nat} {o o' : AObj} {l : Loc} (hb : H.get b = some o) (hro : o.isRo = false) (hl : σ b = some l)
    (hsz : w'.heap.size = w.heap.size) (hoth : ∀ k, k ≠ l.blk → w'.heap[k]? = w.heap[k]?) (h1 : w'.os = w.os) (h2 : w'.tape = w.tape)
    (h3 : w'.output = w.output) (hO : OR σ l o' w'.heap[l.blk]?) :
    Step σ H nx w σ (H.put b (some o')) nx w' ∧ Good0 σ (H.put b (some o')) nx w' := by
  refine ⟨⟨h1, h2, h3, by omega, Nat.le_refl _, fun _ _ => rfl, ?_, ?_, ?_, ?_, ?_⟩, ⟨⟨?_, ?_⟩, ?_⟩⟩
  · intro i oi hi hr
    rw [Tr.get_put_ne _ _ _ _ (by rintro rfl; rw [hb] at hi; injection hi with hi; subst hi; rw [hro] at hr; cases hr)]; exact hi
  · intro i _ hi
    rw [Tr.get_put_ne _ _ _ _ (by rintro rfl; rw [hb] at hi; cases hi)]; exact hi
  · intro i _ hi
    rw [Tr.get_put_ne _ _ _ _ (by rintro rfl; rw [hl] at hi; cases hi)]
  · intro k _ h
    refine hoth k ?_
    rintro rfl
    have := h b l o hb hl rfl
    rw [hro] at this; cases this
  · intro i li oi hi hli _
    by_cases e : i = b
    · subst e
      rw [hl] at hli; injection hli with hli; subst hli
      exact ⟨i, l, o, hb, hl, rfl, .inr rfl⟩
    · rw [Tr.get_put_ne _ _ _ _ e] at hi
      exact ⟨i, li, oi, hi, hli, rfl, .inr rfl⟩
  · intro i oi li hi hli
    by_cases e : i = b
    · subst e
      rw [hl] at hli; injection hli with hli; subst hli
      rw [Tr.get_put_same] at hi; injection hi with hi; subst hi
      exact hO
    · rw [Tr.get_put_ne _ _ _ _ e] at hi
      rw [hoth _ (fun he => e (g.inj i b oi o li l hi hb hli hl he))]
      exact g.obj i oi li hi hli
  · intro i j oi oj li lj hi hj hli hlj he
    have fi : ∃ o, H.get i = some o := by
      by_cases e : i = b
      · subst e; exact ⟨o, hb⟩
      · rw [Tr.get_put_ne _ _ _ _ e] at hi; exact ⟨_, hi⟩
    have fj : ∃ o, H.get j = some o := by
      by_cases e : j = b
      · subst e; exact ⟨o, hb⟩
      · rw [Tr.get_put_ne _ _ _ _ e] at hj; exact ⟨_, hj⟩
    obtain ⟨_, fi⟩ := fi; obtain ⟨_, fj⟩ := fj
    exact g.inj i j _ _ li lj fi fj hli hlj he
  · intro i hi
    have := g.fresh i hi
    rw [Tr.get_put_ne _ _ _ _ (by rintro rfl; rw [hb] at this; cases this.2)]
    exact this
theorem mod_step (g : Good σ H nx w) {b : Nat} {o o' : AObj} {l : Loc} (hb : H.get b = some o) (hro : o.isRo = false) (hl : σ b = some l)
    (hsz : w'.heap.size = w.heap.size) (hoth : ∀ k, k ≠ l.blk → w'.heap[k]? = w.heap[k]?) (h1 : w'.os = w.os) (h2 : w'.tape = w.tape)
    (h3 : w'.output = w.output) (hO : OR σ l o' w'.heap[l.blk]?) :
    Step σ H nx w σ (H.put b (some o')) nx w' ∧ Good σ (H.put b (some o')) nx w' :=
  have h := mod_step0 g hb hro hl hsz hoth h1 h2 h3 hO
  ⟨h.1, g.up h.1 h.2⟩
theorem kill_step0 (g : Good σ H nx w) {b : Nat} {o : AObj} {l : Loc} (hb : H.get b = some o) (hro : o.isRo = false) (hl : σ b = some l) :
    Step σ H nx w σ (H.put b none) nx w ∧ Good0 σ (H.put b none) nx w := by
  have sub : ∀ i oi, (H.put b none).get i = some oi → H.get i = some oi ∧ i ≠ b := fun i oi h => by
    by_cases e : i = b
    · subst e; rw [Tr.get_put_same] at h; cases h
    · rw [Tr.get_put_ne _ _ _ _ e] at h; exact ⟨h, e⟩
  refine ⟨⟨rfl, rfl, rfl, Nat.le_refl _, Nat.le_refl _, fun _ _ => rfl, ?_, ?_, ?_, fun _ _ _ => rfl, ?_⟩, ⟨⟨?_, ?_⟩, ?_⟩⟩
  · intro i oi hi hr
    rw [Tr.get_put_ne _ _ _ _ (by rintro rfl; rw [hb] at hi; injection hi with hi; subst hi; rw [hro] at hr; cases hr)]; exact hi
  · intro i _ hi
    by_cases e : i = b
    · subst e; rw [Tr.get_put_same]
    · rw [Tr.get_put_ne _ _ _ _ e]; exact hi
  · intro i _ hi
    rw [Tr.get_put_ne _ _ _ _ (by rintro rfl; rw [hl] at hi; cases hi)]
  · intro i li oi hi hli _
    exact ⟨i, li, oi, (sub i oi hi).1, hli, rfl, .inr rfl⟩
  · intro i oi li hi hli
    exact g.obj i oi li (sub i oi hi).1 hli
  · intro i j oi oj li lj hi hj hli hlj he
    exact g.inj i j oi oj li lj (sub i oi hi).1 (sub j oj hj).1 hli hlj he
  · intro i hi
    refine ⟨(g.fresh i hi).1, ?_⟩
    by_cases e : i = b
    · subst e; rw [Tr.get_put_same]
    · rw [Tr.get_put_ne _ _ _ _ e]; exact (g.fresh i hi).2
theorem kill_step (g : Good σ H nx w) {b : Nat} {o : AObj} {l : Loc} (hb : H.get b = some o) (hro : o.isRo = false) (hl : σ b = some l) :
    Step σ H nx w σ (H.put b none) nx w ∧ Good σ (H.put b none) nx w :=
  have h := kill_step0 g hb hro hl
  ⟨h.1, g.up h.1 h.2⟩
theorem take_step0 (g : Good σ H nx w) {b : Nat} {o o' : AObj} {l l' : Loc} (hb : H.get b = some o) (hro : o.isRo = false) (hl : σ b = some l)
    (hbk : l'.blk = l.blk) (hsz : w'.heap.size = w.heap.size) (hoth : ∀ k, k ≠ l.blk → w'.heap[k]? = w.heap[k]?) (h1 : w'.os = w.os) (h2 : w'.tape = w.tape)
    (h3 : w'.output = w.output) (hO : OR σ l' o' w'.heap[l.blk]?) :
    Step σ H nx w (σ.upd nx l') ((H.put b none).put nx (some o')) (nx + 1) w' ∧ Good0 (σ.upd nx l') ((H.put b none).put nx (some o')) (nx + 1) w' := by
  have hfr := g.fresh nx (Nat.le_refl _)
  have hext := Sig.upd_ext σ nx l' hfr.1
  have hbn : b < nx := by
    rcases Nat.lt_or_ge b nx with h | h
    · exact h
    · rw [(g.fresh b h).2] at hb; cases hb
  have sub : ∀ i oi, ((H.put b none).put nx (some o')).get i = some oi → i ≠ nx → H.get i = some oi ∧ i ≠ b := fun i oi h hi => by
    rw [Tr.get_put_ne _ _ _ _ hi] at h
    by_cases e : i = b
    · subst e; rw [Tr.get_put_same] at h; cases h
    · rw [Tr.get_put_ne _ _ _ _ e] at h; exact ⟨h, e⟩
  refine ⟨⟨h1, h2, h3, by omega, by omega, fun i hi => Sig.upd_ne _ _ _ (by omega), ?_, ?_, ?_, ?_, ?_⟩, ⟨⟨?_, ?_⟩, ?_⟩⟩
  · intro i oi hi hr
    rw [Tr.get_put_ne _ _ _ _ (by rintro rfl; rw [hfr.2] at hi; cases hi), Tr.get_put_ne _ _ _ _ (by rintro rfl; rw [hb] at hi; injection hi with hi; subst hi; rw [hro] at hr; cases hr)]
    exact hi
  · intro i hlt hi
    rw [Tr.get_put_ne _ _ _ _ (by omega)]
    by_cases e : i = b
    · subst e; rw [Tr.get_put_same]
    · rw [Tr.get_put_ne _ _ _ _ e]; exact hi
  · intro i hlt hi
    rw [Tr.get_put_ne _ _ _ _ (by omega), Tr.get_put_ne _ _ _ _ (by rintro rfl; rw [hl] at hi; cases hi)]
  · intro k _ h
    refine hoth k ?_
    rintro rfl
    have := h b l o hb hl rfl
    rw [hro] at this; cases this
  · intro i li oi hi hli hlt
    by_cases e : i = nx
    · subst e
      rw [Sig.upd_same] at hli; injection hli with hli; subst hli
      exact ⟨b, l, o, hb, hl, hbk.symm, .inl hro⟩
    · rw [Sig.upd_ne _ _ _ e] at hli
      exact ⟨i, li, oi, (sub i oi hi e).1, hli, rfl, .inr rfl⟩
  · intro i oi li hi hli
    by_cases e : i = nx
    · subst e
      rw [Sig.upd_same] at hli; injection hli with hli; subst hli
      rw [Tr.get_put_same] at hi; injection hi with hi; subst hi
      rw [hbk]; exact hO.ext hext
    · rw [Sig.upd_ne _ _ _ e] at hli
      obtain ⟨hi', hib⟩ := sub i oi hi e
      rw [hoth _ (fun he => hib (g.inj i b oi o li l hi' hb hli hl he))]
      exact (g.obj i oi li hi' hli).ext hext
  · intro i j oi oj li lj hi hj hli hlj he
    by_cases ei : i = nx
    · subst ei
      by_cases ej : j = i
      · exact ej.symm
      · rw [Sig.upd_same] at hli; injection hli with hli; subst hli
        rw [Sig.upd_ne _ _ _ ej] at hlj
        obtain ⟨hj', hjb⟩ := sub j oj hj ej
        exact absurd (g.inj j b oj o lj l hj' hb hlj hl (by omega)) hjb
    · rw [Sig.upd_ne _ _ _ ei] at hli
      obtain ⟨hi', hib⟩ := sub i oi hi ei
      by_cases ej : j = nx
      · subst ej
        rw [Sig.upd_same] at hlj; injection hlj with hlj; subst hlj
        exact absurd (g.inj i b oi o li l hi' hb hli hl (by omega)) hib
      · rw [Sig.upd_ne _ _ _ ej] at hlj
        exact g.inj i j oi oj li lj hi' (sub j oj hj ej).1 hli hlj he
  · intro i hi
    refine ⟨by rw [Sig.upd_ne _ _ _ (by omega)]; exact (g.fresh i (by omega)).1, ?_⟩
    rw [Tr.get_put_ne _ _ _ _ (by omega), Tr.get_put_ne _ _ _ _ (by omega)]
    exact (g.fresh i (by omega)).2
theorem take_step (g : Good σ H nx w) {b : Nat} {o o' : AObj} {l l' : Loc} (hb : H.get b = some o) (hro : o.isRo = false) (hl : σ b = some l)
    (hbk : l'.blk = l.blk) (hsz : w'.heap.size = w.heap.size) (hoth : ∀ k, k ≠ l.blk → w'.heap[k]? = w.heap[k]?) (h1 : w'.os = w.os) (h2 : w'.tape = w.tape)
    (h3 : w'.output = w.output) (hO : OR σ l' o' w'.heap[l.blk]?) :
    Step σ H nx w (σ.upd nx l') ((H.put b none).put nx (some o')) (nx + 1) w' ∧ Good (σ.upd nx l') ((H.put b none).put nx (some o')) (nx + 1) w' :=
  have h := take_step0 g hb hro hl hbk hsz hoth h1 h2 h3 hO
  ⟨h.1, g.up h.1 h.2⟩
end CI
noncomputable section
namespace CI
open Go
variable {P : Program} {σ σ' : Sig} {H H' : Heap} {nx nx' : Nat} {w w' : World}
theorem run_bind_ok {α β : Type} {m : Sem α} {f : α → Sem β} {a : α} : ∀ {w w' : World}, m.run P w = .ok a w' → (m >>= f).run P w = (f a).run P w' := by
  intro w w' h
  show (Sem.bind m f).run P w = _
  induction m generalizing w with
  | pure b => simp only [Sem.run, Result.ok.injEq] at h; obtain ⟨rfl, rfl⟩ := h; rfl
  | load md ad k ih =>
    simp only [Sem.bind, Sem.run] at h ⊢
    split at h
    · exact ih _ h
    · split at h
      · exact ih _ h
      · cases h
  | store md ad v k ih =>
    cases v with
    | agg _ => simp [Sem.run] at h
    | tuple _ => simp [Sem.run] at h
    | _ =>
      simp only [Sem.bind, Sem.run] at h ⊢
      split at h
      · split at h
        · cases h
        · rename_i hfz; rw [if_neg hfz]; exact ih h
      · split at h
        · exact ih h
        · cases h
  | new o k ih => simp only [Sem.bind, Sem.run] at h ⊢; exact ih _ h
  | shape r k ih => simp only [Sem.bind, Sem.run] at h ⊢; exact ih _ h
  | freeze ad n k ih => simp only [Sem.bind, Sem.run] at h ⊢; exact ih h
  | frozen ad k ih => simp only [Sem.bind, Sem.run] at h ⊢; exact ih _ h
  | getObj r k ih =>
    simp only [Sem.bind, Sem.run] at h ⊢
    split at h
    · cases h
    · exact ih _ h
    · cases h
  | setObj r o k ih =>
    simp only [Sem.bind, Sem.run] at h ⊢
    split at h
    · cases h
    · exact ih h
    · cases h
  | choose q k ih =>
    simp only [Sem.bind, Sem.run] at h ⊢
    split at h
    · rw [if_pos ‹_›]; exact ih _ h
    · rw [if_neg ‹_›]; exact ih _ h
  | sys c k ih => simp only [Sem.bind, Sem.run] at h ⊢; exact ih _ h
  | program k ih => simp only [Sem.bind, Sem.run] at h ⊢; exact ih _ h
  | mark m k ih => simp only [Sem.bind, Sem.run] at h ⊢; exact ih h
  | halt hh => simp [Sem.run] at h
@[simp] theorem run_pure' {α : Type} (a : α) (w : World) : (pure a : Sem α).run P w = .ok a w := rfl
theorem add_addr (a : Addr) (n : Nat) (h : a.spot = none) : a.add n = ⟨a.block, a.off + n, none⟩ := by
  unfold Addr.add
  split
  · subst_vars; cases a; simp at h; simp [h]
  · rfl
theorem cell_at {k i : Nat} {C : Array Value} {t : TypeId} {fz : Nat × Nat} (h : w.heap[k]? = some (.cells C t fz)) : w.cell? ⟨k, i, none⟩ = C[i]? := by
  simp [World.cell?, h]
theorem frozen_at {k i : Nat} {C : Array Value} {t : TypeId} {fz : Nat × Nat} (h : w.heap[k]? = some (.cells C t fz)) (hf : ¬ (fz.1 ≤ i ∧ i < fz.2)) : w.frozen? ⟨k, i, none⟩ = false := by
  simp only [World.frozen?, h]
  simpa using hf
theorem run_loadCellsFrom (a : Addr) (ha : a.spot = none) : ∀ (n i : Nat) (acc : Array Value) (xs : List Value), xs.length = n →
    (∀ (j : Nat) (x : Value), xs[j]? = some x → w.cell? ⟨a.block, a.off + i + j, none⟩ = some x) →
    (loadCellsFrom a i n acc).run P w = .ok (acc ++ xs.toArray) w
  | 0, i, acc, xs, hl, _ => by
    have : xs = [] := List.eq_nil_of_length_eq_zero hl
    subst this
    simp [loadCellsFrom]
  | n + 1, i, acc, [], hl, _ => by simp at hl
  | n + 1, i, acc, x :: xs, hl, h => by
    have h0 := h 0 x rfl
    simp only [loadCellsFrom]
    have hload : (load (a.add i)).run P w = .ok x w := by
      rw [add_addr a i ha]
      simp only [load, Sem.run]
      simp only [Nat.add_zero] at h0
      rw [h0]
    rw [run_bind_ok hload]
    rw [run_loadCellsFrom a ha n (i + 1) (acc.push x) xs (by simpa using hl) (fun j y hj => by
      have := h (j + 1) y (by simpa using hj)
      rwa [show a.off + i + (j + 1) = a.off + (i + 1) + j from by omega] at this)]
    simp
theorem run_loadCells (a : Addr) (ha : a.spot = none) (n : Nat) (xs : List Value) (hl : xs.length = n)
    (h : ∀ (j : Nat) (x : Value), xs[j]? = some x → w.cell? ⟨a.block, a.off + j, none⟩ = some x) :
    (loadCells a n).run P w = .ok xs.toArray w := by
  unfold loadCells
  rw [run_loadCellsFrom a ha n 0 #[] xs hl (by simpa using h)]
  simp
def oneV : Value → Bool
  | .agg _ => false
  | .tuple _ => false
  | _ => true
theorem run_store (a : Addr) (x : Value) (hx : oneV x = true) {y : Value} (hc : w.cell? a = some y) (hf : w.frozen? a = false) :
    (store a x).run P w = .ok () (w.setCell a x) := by
  cases x <;> first
    | (simp [oneV] at hx; done)
    | (simp only [store, Sem.run, hc, hf]; rfl)
theorem heap_setCell {k i : Nat} {C : Array Value} {t : TypeId} {fz : Nat × Nat} {x : Value} (h : w.heap[k]? = some (.cells C t fz)) :
    (w.setCell ⟨k, i, none⟩ x).heap[k]? = some (.cells (C.setIfInBounds i x) t fz) := by
  simp [World.setCell, Array.getElem?_modify, h]
theorem heap_setCell_ne {k i j : Nat} {x : Value} (h : j ≠ k) : (w.setCell ⟨k, i, none⟩ x).heap[j]? = w.heap[j]? := by
  simp only [World.setCell, Array.getElem?_modify]
  rw [if_neg (fun e => h e.symm)]
def over (C : List Value) : Nat → List Value → List Value
  | _, [] => C
  | i, x :: xs => over (C.set i x) (i + 1) xs
theorem over_length : ∀ (xs : List Value) (C : List Value) (i : Nat), (over C i xs).length = C.length
  | [], _, _ => rfl
  | x :: xs, C, i => by simp [over, over_length xs]
theorem over_get : ∀ (xs : List Value) (C : List Value) (i j : Nat), i + xs.length ≤ C.length →
    (over C i xs)[j]? = if i ≤ j ∧ j < i + xs.length then xs[j - i]? else C[j]?
  | [], C, i, j, _ => by simp [over]; intro h1 h2; omega
  | x :: xs, C, i, j, h => by
    have h' : i + (xs.length + 1) ≤ C.length := by simpa using h
    simp only [over]
    rw [over_get xs (C.set i x) (i + 1) j (by rw [List.length_set]; omega)]
    by_cases h1 : i + 1 ≤ j ∧ j < i + 1 + xs.length
    · rw [if_pos h1, if_pos (by simp <;> omega)]
      rw [show j - i = (j - (i + 1)) + 1 from by omega]; simp
    · rw [if_neg h1, List.getElem?_set]
      by_cases e : i = j
      · subst e
        rw [if_pos rfl, if_pos (by omega), if_pos (by simp)]; simp
      · rw [if_neg e, if_neg (by simp <;> omega)]
theorem run_storeCells (a : Addr) (ha : a.spot = none) : ∀ (xs : List Value) (i : Nat) (w : World) (C : Array Value) (t : TypeId) (fz : Nat × Nat),
    w.heap[a.block]? = some (.cells C t fz) → a.off + i + xs.length ≤ C.size → (∀ x ∈ xs, oneV x = true) → (∀ j, j < C.size → ¬ (fz.1 ≤ j ∧ j < fz.2)) →
    ∃ w', (storeCells a xs i).run P w = .ok () w' ∧ w'.heap[a.block]? = some (.cells (over C.toList (a.off + i) xs).toArray t fz) ∧
      (∀ k, k ≠ a.block → w'.heap[k]? = w.heap[k]?) ∧ w'.heap.size = w.heap.size ∧ w'.os = w.os ∧ w'.tape = w.tape ∧ w'.output = w.output
  | [], i, w, C, t, fz, hw, _, _, _ => ⟨w, by simp [storeCells], by simp [over, hw], fun _ _ => rfl, rfl, rfl, rfl, rfl⟩
  | x :: xs, i, w, C, t, fz, hw, hl, h1, hf => by
    simp only [List.length_cons] at hl
    have hc : w.cell? ⟨a.block, a.off + i, none⟩ = C[a.off + i]? := cell_at hw
    have hlt : a.off + i < C.size := by omega
    rw [Array.getElem?_eq_getElem hlt] at hc
    have hs := run_store (P := P) ⟨a.block, a.off + i, none⟩ x (h1 x (by simp)) hc (frozen_at hw (hf _ hlt))
    obtain ⟨w', hr, hh, ho, hz, e1, e2, e3⟩ := run_storeCells a ha xs (i + 1) (w.setCell ⟨a.block, a.off + i, none⟩ x) (C.setIfInBounds (a.off + i) x) t fz
      (heap_setCell hw) (by simp <;> omega) (fun y hy => h1 y (by simp [hy])) (fun j hj => hf j (by simpa using hj))
    refine ⟨w', ?_, ?_, ?_, ?_, by rw [e1]; rfl, by rw [e2]; rfl, by rw [e3]; rfl⟩
    · simp only [storeCells]
      rw [add_addr a i ha, run_bind_ok hs]
      exact hr
    · rw [hh]
      simp only [over, Array.toList_setIfInBounds, Nat.add_assoc]
    · intro k hk
      rw [ho k hk, heap_setCell_ne hk]
    · rw [hz]; simp [World.setCell]
def Out (P : Program) (σ : Sig) (H : Heap) (nx : Nat) (w : World) (v : AV) (H' : Heap) (nx' : Nat) (m : Sem Value) : Prop :=
  ∃ x w' σ', m.run P w = .ok x w' ∧ VR σ' v x ∧ Step σ H nx w σ' H' nx' w' ∧ Good σ' H' nx' w'
theorem Out.same (g : Good σ H nx w) {m : Sem Value} {x : Value} {v : AV} (hr : m.run P w = .ok x w) (hv : VR σ v x) : Out P σ H nx w v H nx m :=
  ⟨x, w, σ, hr, hv, Step.refl, g⟩
theorem Out.pure (g : Good σ H nx w) {x : Value} {v : AV} (hv : VR σ v x) : Out P σ H nx w v H nx (pure x) := Out.same g rfl hv
theorem Out.bind {α : Type} {m : Sem α} {f : α → Sem Value} {a : α} {v : AV} (hr : m.run P w = .ok a w) (h : Out P σ H nx w v H' nx' (f a)) :
    Out P σ H nx w v H' nx' (m >>= f) := by
  obtain ⟨x, w', σ', h1, h2⟩ := h
  exact ⟨x, w', σ', by rw [run_bind_ok hr]; exact h1, h2⟩
theorem newRow_out (g : Good σ H nx w) (t : TypeId) (cs : List AV) (C : List Value) (h : VRs σ cs C) (ro : Bool) :
    ∃ w' σ', (newRow t C.toArray).run P w = .ok ⟨w.heap.size, 0, none⟩ w' ∧ σ' nx = some ⟨w.heap.size, C.length⟩ ∧
      Step σ H nx w σ' (H.put nx (some (.cells cs t ro))) (nx + 1) w' ∧ Good σ' (H.put nx (some (.cells cs t ro))) (nx + 1) w' := by
  have := alloc_step (w' := { w with heap := w.heap.push (.cells C.toArray t) }) g (o := .cells cs t ro) (O := .cells C.toArray t) (room := C.length) rfl rfl rfl rfl
    ⟨C.toArray, (0, 0), rfl, by simp, by simp [h.length, Loc.base_eq], fun i v hi => by
      obtain ⟨x, hx, hv⟩ := h.get? hi
      exact ⟨x, by simpa [Loc.base_eq] using hx, hv⟩, fun _ i _ => by simp⟩
  exact ⟨_, _, rfl, Sig.upd_same _ _ _, this.1, this.2⟩
def cellsOf : AV → List AV
  | .agg cs => cs
  | .lit v => v.cells.toList.map .lit
  | v => [v]
theorem cellsOf_VRs {v : AV} {x : Value} (h : VR σ v x) : VRs σ (cellsOf v) x.cells.toList := by
  cases v with
  | agg cs => simp only [VR] at h; obtain ⟨cs', rfl, h⟩ := h; simpa [cellsOf, Value.cells] using h
  | lit v => simp only [VR] at h; subst h; exact VRs.lits _
  | ptr b o => 
    have h' := h
    simp only [VR] at h; obtain ⟨l, _, rfl⟩ := h
    simp only [cellsOf, Value.cells, VRs]; exact ⟨_, [], rfl, h', rfl⟩
  | slice b o n c e => 
    have h' := h
    simp only [VR] at h; obtain ⟨l, _, _, rfl, _⟩ := h
    simp only [cellsOf, Value.cells, VRs]; exact ⟨_, [], rfl, h', rfl⟩
  | eslice => 
    have h' := h
    simp only [VR] at h; obtain ⟨_, _, rfl⟩ := h
    simp only [cellsOf, Value.cells, VRs]; exact ⟨_, [], rfl, h', rfl⟩
  | map b => 
    have h' := h
    simp only [VR] at h; obtain ⟨l, _, rfl⟩ := h
    simp only [cellsOf, Value.cells, VRs]; exact ⟨_, [], rfl, h', rfl⟩
  | func fn fs cs => 
    have h' := h
    simp only [VR] at h; obtain ⟨_, _, rfl, _⟩ := h
    simp only [cellsOf, Value.cells, VRs]; exact ⟨_, [], rfl, h', rfl⟩
  | iface t v => 
    have h' := h
    simp only [VR] at h; obtain ⟨_, rfl, _⟩ := h
    simp only [cellsOf, Value.cells, VRs]; exact ⟨_, [], rfl, h', rfl⟩
  | tuple vs => 
    have h' := h
    simp only [VR] at h; obtain ⟨_, rfl, _⟩ := h
    simp only [cellsOf, Value.cells, VRs]; exact ⟨_, [], rfl, h', rfl⟩
def one : AV → Bool
  | .agg _ => false
  | .tuple _ => false
  | .lit v => oneV v
  | _ => true
theorem one_VR {v : AV} {x : Value} (h : VR σ v x) (ho : one v = true) : oneV x = true := by
  cases v with
  | agg cs => simp [one] at ho
  | tuple cs => simp [one] at ho
  | lit v => simp only [VR] at h; subst h; exact ho
  | ptr b o => simp only [VR] at h; obtain ⟨l, _, rfl⟩ := h; rfl
  | slice b o n c e => simp only [VR] at h; obtain ⟨l, _, _, rfl, _⟩ := h; rfl
  | eslice => simp only [VR] at h; obtain ⟨_, _, rfl⟩ := h; rfl
  | map b => simp only [VR] at h; obtain ⟨l, _, rfl⟩ := h; rfl
  | func fn fs cs => simp only [VR] at h; obtain ⟨_, _, rfl, _⟩ := h; rfl
  | iface t v => simp only [VR] at h; obtain ⟨_, rfl, _⟩ := h; rfl
theorem one_VRs {vs : List AV} {xs : List Value} (h : VRs σ vs xs) (ho : vs.all one = true) : ∀ x ∈ xs, oneV x = true := by
  induction vs generalizing xs with
  | nil => simp only [VRs] at h; subst h; simp
  | cons v vs ih =>
    simp only [VRs] at h
    obtain ⟨y, ys, rfl, h1, h2⟩ := h
    simp only [List.all_cons, Bool.and_eq_true] at ho
    intro x hx
    rcases List.mem_cons.1 hx with rfl | hx
    · exact one_VR h1 ho.1
    · exact ih h2 ho.2 x hx
def cut (cs : List AV) (o n : Nat) : Option (List AV) := if o + n ≤ cs.length then some ((cs.drop o).take n) else none
theorem Sim.cells (s : Sim σ H w) {b : Nat} {cs : List AV} {t : TypeId} {ro : Bool} {l : Loc} (hb : H.get b = some (.cells cs t ro)) (hl : σ b = some l) {o n : Nat} {vs : List AV}
    (hc : cut cs o n = some vs) : ∃ xs, VRs σ vs xs ∧ xs.length = n ∧ ∀ (j : Nat) (x : Value), xs[j]? = some x → w.cell? ⟨l.blk, l.base + o + j, none⟩ = some x := by
  obtain ⟨C, fz, e, h1, h2, h3, h4⟩ := s.obj b _ l hb hl
  unfold cut at hc
  split at hc
  · rename_i hle
    injection hc with hc
    refine ⟨((C.toList.drop (l.base + o)).take n), ?_, ?_, ?_⟩
    · subst hc
      refine VRs.of_get (by simp <;> omega) fun i v hi => ?_
      rw [List.getElem?_take] at hi ⊢
      split at hi
      · rename_i hin
        rw [if_pos hin]
        rw [List.getElem?_drop] at hi ⊢
        obtain ⟨x, hx, hv⟩ := h3 _ _ hi
        exact ⟨x, by rw [← hx, ← Array.getElem?_toList, Nat.add_assoc], hv⟩
      · cases hi
    · simp <;> omega
    · intro j x hj
      rw [List.getElem?_take] at hj
      split at hj
      · rw [List.getElem?_drop, Array.getElem?_toList] at hj
        rw [cell_at e]; exact hj
      · cases hj
  · cases hc
def overA (cs : List AV) (o : Nat) (vs : List AV) : List AV := cs.take o ++ vs ++ cs.drop (o + vs.length)
theorem overA_length (cs : List AV) (o : Nat) (vs : List AV) (h : o + vs.length ≤ cs.length) : (overA cs o vs).length = cs.length := by
  simp [overA]; omega
theorem overA_get (cs : List AV) (o : Nat) (vs : List AV) (h : o + vs.length ≤ cs.length) (j : Nat) :
    (overA cs o vs)[j]? = if o ≤ j ∧ j < o + vs.length then vs[j - o]? else cs[j]? := by
  unfold overA
  by_cases h1 : j < o
  · rw [if_neg (by omega), List.append_assoc, List.getElem?_append_left (by simp <;> omega), List.getElem?_take, if_pos h1]
  · by_cases h2 : j < o + vs.length
    · rw [if_pos (by omega), List.append_assoc, List.getElem?_append_right (by simp <;> omega), List.getElem?_append_left (by simp <;> omega)]
      congr 1; simp <;> omega
    · rw [if_neg (by omega), List.getElem?_append_right (by simp <;> omega), List.getElem?_drop]
      congr 1; simp <;> omega
theorem store_out (g : Good σ H nx w) {b : Nat} {cs : List AV} {t : TypeId} {l : Loc} (hb : H.get b = some (.cells cs t false)) (hl : σ b = some l) {o : Nat} {vs : List AV} {xs : List Value}
    (hv : VRs σ vs xs) (hle : o + vs.length ≤ cs.length) (ho : vs.all one = true) :
    ∃ w', (storeCells ⟨l.blk, l.base + o, none⟩ xs).run P w = .ok () w' ∧
      Step σ H nx w σ (H.put b (some (.cells (overA cs o vs) t false))) nx w' ∧ Good σ (H.put b (some (.cells (overA cs o vs) t false))) nx w' := by
  obtain ⟨C, fz, e, h1, h2, h3, h4⟩ := g.obj b _ l hb hl
  have hlen := hv.length
  obtain ⟨w', hr, hh, hoth, hz, e1, e2, e3⟩ := run_storeCells (P := P) ⟨l.blk, l.base + o, none⟩ rfl xs 0 w C t fz e (by simp <;> omega) (one_VRs hv ho) (fun j hj => h4 rfl j (by omega))
  have := mod_step (w' := w') g hb (o' := .cells (overA cs o vs) t false) rfl hl hz (fun k hk => hoth k hk) e1 e2 e3 (by
    refine ⟨_, fz, hh, by simp [over_length, h1], by rw [overA_length _ _ _ hle]; exact h2, fun i v hi => ?_, fun _ => h4 rfl⟩
    rw [overA_get _ _ _ hle] at hi
    rw [List.getElem?_toArray, over_get _ _ _ _ (by simp <;> omega)]
    split at hi
    · rename_i hin
      obtain ⟨x, hx, hvx⟩ := hv.get? hi
      exact ⟨x, by rw [if_pos (by simp <;> omega)]; rw [← hx]; congr 1; simp <;> omega, hvx⟩
    · obtain ⟨x, hx, hvx⟩ := h3 _ _ hi
      exact ⟨x, by rw [if_neg (by simp <;> omega), Array.getElem?_toList]; exact hx, hvx⟩)
  exact ⟨w', hr, this.1, this.2⟩
end CI
set_option linter.unusedSimpArgs false
noncomputable section
namespace CI
open Go
variable {P : Program} {σ σ' : Sig} {H H' : Heap} {nx nx' : Nat} {w w' : World}
def isAggD : TypeDesc → Bool
  | .struct _ => true
  | .array _ _ => true
  | _ => false
structure TInfo where
  desc : TypeDesc
  size : Nat
  bytes : Nat
  agg : Bool
  zero : Option Value
  parts : List (Nat × Nat × Bool)
  deriving Inhabited
structure TFact (P : Program) (t : TypeId) (i : TInfo) : Prop where
  lens : ∀ fs, i.desc = .struct fs → i.parts.length = fs.size
  zsize : ∀ z, i.zero = some z → z.cells.size = i.size
  under : P.underlying t = some i.desc
  info : ∃ info, P.info? t = some info ∧ info.size = i.size ∧ info.bytes = i.bytes ∧ info.zero = i.zero
  agg : i.agg = isAggD i.desc
  parts : ∀ fs, i.desc = .struct fs → ∀ (j : Nat) (p : Nat × Nat × Bool), i.parts[j]? = some p →
    ∃ f fi d, fs[j]? = some f ∧ P.info? f.type = some fi ∧ P.underlying f.type = some d ∧ p = (f.offset, fi.size, isAggD d)
def TOK (P : Program) (T : Tr TInfo) : Prop := ∀ t i, T.get t = some i → TFact P t i
theorem run_under {t : TypeId} {d : TypeDesc} (h : P.underlying t = some d) (w : World) : (underlying t).run P w = .ok d w := by
  simp [underlying, program, bind, Sem.bind, Sem.run, h, pure]
theorem run_tinfo {t : TypeId} {i : TypeInfo} (h : P.info? t = some i) (w : World) : (typeInfo t).run P w = .ok i w := by
  have h' : P.toTables.info? t = some i := h
  simp [typeInfo, program, bind, Sem.bind, Sem.run, h', pure]
theorem run_sizeOf {t : TypeId} {i : TypeInfo} (h : P.info? t = some i) (w : World) : (Go.sizeOf t).run P w = .ok i.size w := by
  unfold Go.sizeOf
  rw [run_bind_ok (run_tinfo h w)]; rfl
theorem run_isAgg {t : TypeId} {d : TypeDesc} (h : P.underlying t = some d) (w : World) : (isAgg t).run P w = .ok (isAggD d) w := by
  unfold isAgg
  rw [run_bind_ok (run_under h w)]
  cases d <;> rfl
theorem run_zero {t : TypeId} {i : TypeInfo} {z : Value} (h : P.info? t = some i) (hz : i.zero = some z) (w : World) : (zeroValue t).run P w = .ok z w := by
  unfold zeroValue
  rw [run_bind_ok (run_tinfo h w)]
  simp [hz]
def ev (env : Tr AV) : Operand → AV
  | .tmp t => (env.get t).getD (.lit undef)
  | .const v => abs v
  | .global g => .lit (.pointer (some ⟨g, 0, none⟩))
  | .func f => .func (.func f) [] []
def EnvR (σ : Sig) (env : Tr AV) (a : Act) : Prop := ∀ t, VR σ ((env.get t).getD (.lit undef)) (a.tmps.getD t undef)
theorem ev_VR {env : Tr AV} {a : Act} (h : EnvR σ env a) : ∀ x : Operand, VR σ (ev env x) (a.eval x)
  | .tmp t => h t
  | .const v => abs_VR σ v
  | .global g => by simp [ev, Act.eval, VR]
  | .func f => by simp only [ev, Act.eval, VR]; exact ⟨[], [], rfl, by simp [VRs], by simp [VRs]⟩
theorem evs_VRs {ρ : Operand → AV} {a : Act} (h : ∀ x, VR σ (ρ x) (a.eval x)) : ∀ xs : List Operand, VRs σ (xs.map ρ) (xs.map a.eval)
  | [] => by simp [VRs]
  | x :: xs => by simp only [List.map_cons, VRs]; exact ⟨_, _, rfl, h x, evs_VRs h xs⟩
theorem EnvR.ext {env : Tr AV} {a : Act} (h : EnvR σ env a) (he : Ext σ σ') : EnvR σ' env a := fun t => (h t).ext he
theorem EnvR.put {env : Tr AV} {a : Act} (h : EnvR σ env a) {d : Nat} (hd : d < a.tmps.size) {v : AV} {x : Value} (hv : VR σ v x) :
    EnvR σ (env.put d (some v)) (a.put (some d) x) := fun t => by
  by_cases e : t = d
  · subst e
    rw [Tr.get_put_same]
    simpa [Act.put, hd] using hv
  · rw [Tr.get_put_ne _ _ _ _ e]
    have := h t
    simpa [Act.put, Array.getD_eq_getD_getElem?, Array.getElem?_setIfInBounds_ne (Ne.symm e)] using this
abbrev Res := Option (AV × Heap × Nat)
def allocA (H : Heap) (nx : Nat) (t : TypeId) (cs : List AV) : Res := some (.ptr nx 0, H.put nx (some (.cells cs t false)), nx + 1)
theorem newVar_out (g : Good σ H nx w) (t : TypeId) {v : AV} {x : Value} (hv : VR σ v x) :
    Out P σ H nx w (.ptr nx 0) (H.put nx (some (.cells (cellsOf v) t false))) (nx + 1) (do pure (.pointer (some (← newVar t x)))) := by
  obtain ⟨w', σ', h1, h2, h3, h4⟩ := newRow_out (P := P) g t _ _ (cellsOf_VRs hv) false
  refine ⟨.pointer (some ⟨w.heap.size, 0, none⟩), w', σ', ?_, ?_, h3, h4⟩
  · rw [run_bind_ok (a := (⟨w.heap.size, 0, none⟩ : Addr)) (w' := w') (by unfold newVar; simpa using h1)]
    rfl
  · simp only [VR]; exact ⟨_, h2, rfl⟩
def allocOp (T : Tr TInfo) (H : Heap) (nx : Nat) (t : TypeId) : Res :=
  match T.get t with
  | some { zero := some z, .. } => allocA H nx t (cellsOf (abs z))
  | _ => none
theorem allocOp_out {T : Tr TInfo} (hT : TOK P T) (g : Good σ H nx w) {t : TypeId} {v : AV} (h : allocOp T H nx t = some (v, H', nx')) :
    Out P σ H nx w v H' nx' (Instr.alloc t true (.tuple #[])) := by
  unfold allocOp at h
  split at h
  · rename_i d s b ag z ps hi
    obtain ⟨info, e1, e2, e3, e4⟩ := (hT _ _ hi).info
    simp only [allocA, Option.some.injEq, Prod.mk.injEq] at h
    obtain ⟨rfl, rfl, rfl⟩ := h
    unfold Instr.alloc
    refine Out.bind (run_zero e1 e4 w) ?_
    exact newVar_out g t (abs_VR σ z)
  · cases h
def boxOp (H : Heap) (nx : Nat) (t : TypeId) (v : AV) : Res := allocA H nx t (cellsOf v)
theorem boxOp_out (g : Good σ H nx w) {t : TypeId} {u v : AV} {x : Value} (hu : VR σ u x) (h : boxOp H nx t u = some (v, H', nx')) :
    Out P σ H nx w v H' nx' (Instr.box t x) := by
  simp only [boxOp, allocA, Option.some.injEq, Prod.mk.injEq] at h
  obtain ⟨rfl, rfl, rfl⟩ := h
  exact newVar_out g t hu
def loadOp (T : Tr TInfo) (H : Heap) (t : TypeId) (a : AV) : Option AV :=
  match T.get t with
  | none => none
  | some i =>
    match a with
    | .ptr b o =>
      match H.get b with
      | some (.cells cs _ _) => if i.agg then (cut cs o i.size).map .agg else (cut cs o 1).bind (·[0]?)
      | _ => none
    | .lit (.pointer (some ⟨g, o, none⟩)) =>
      match GC g with
      | some cs => if i.agg then none else (cs[o]?).map .lit
      | none => none
    | _ => none
def RunV (P : Program) (σ : Sig) (w : World) (v : AV) (m : Sem Value) : Prop := ∃ y, m.run P w = .ok y w ∧ VR σ v y
theorem RunV.bind {α : Type} {m : Sem α} {f : α → Sem Value} {a : α} {v : AV} (hr : m.run P w = .ok a w) (h : RunV P σ w v (f a)) : RunV P σ w v (m >>= f) := by
  obtain ⟨y, h1, h2⟩ := h
  exact ⟨y, by rw [run_bind_ok hr]; exact h1, h2⟩
theorem RunV.out (g : Good σ H nx w) {m : Sem Value} {v : AV} (h : RunV P σ w v m) : Out P σ H nx w v H nx m := by
  obtain ⟨y, h1, h2⟩ := h
  exact Out.same g h1 h2
theorem loadOp_run {T : Tr TInfo} (hT : TOK P T) (g : Good σ H nx w) {t : TypeId} {a v : AV} {x : Value} (ha : VR σ a x) (h : loadOp T H t a = some v) :
    ∃ ad, x = .pointer (some ad) ∧ RunV P σ w v (loadVar t ad) := by
  unfold loadOp at h
  split at h
  · cases h
  · rename_i i hi
    split at h
    · rename_i b o
      split at h
      · rename_i cs tb ro hb
        simp only [VR] at ha
        obtain ⟨l, hl, rfl⟩ := ha
        have F := hT _ _ hi
        obtain ⟨info, e1, e2, e3, e4⟩ := F.info
        have hag := F.agg
        refine ⟨_, rfl, ?_⟩
        unfold loadVar
        refine RunV.bind (run_isAgg F.under w) ?_
        rw [← hag]
        split at h
        · rename_i hag'
          rw [hag']
          simp only [if_true]
          refine RunV.bind (run_sizeOf e1 w) ?_
          rw [e2]
          cases hcut : cut cs o i.size with
          | none => rw [hcut] at h; cases h
          | some vs =>
            rw [hcut] at h
            simp only [Option.map_some, Option.some.injEq] at h
            subst h
            obtain ⟨xs, h1, h2, h3⟩ := g.cells hb hl hcut
            refine RunV.bind (run_loadCells ⟨l.blk, l.base + o, none⟩ rfl i.size xs h2 h3) ?_
            exact ⟨_, rfl, by simp only [VR]; exact ⟨xs, rfl, h1⟩⟩
        · rename_i hag'
          have : i.agg = false := by simpa using hag'
          rw [this]
          cases hcut : cut cs o 1 with
          | none => rw [hcut] at h; cases h
          | some vs =>
            rw [hcut] at h
            simp only [Option.bind_some] at h
            obtain ⟨xs, h1, h2, h3⟩ := g.cells hb hl hcut
            obtain ⟨y, hy, hv⟩ := h1.get? h
            have hc := h3 0 y hy
            refine ⟨y, ?_, hv⟩
            simp only [Nat.add_zero] at hc
            simp [load, Sem.run, hc]
      · cases h
    · rename_i k o
      split at h
      · rename_i cs hk
        split at h
        · cases h
        · rename_i hag'
          simp only [Option.map_eq_some_iff] at h
          obtain ⟨y, hy, rfl⟩ := h
          simp only [VR] at ha
          subst ha
          have F := hT _ _ hi
          have hag := F.agg
          have : i.agg = false := by simpa using hag'
          refine ⟨_, rfl, ?_⟩
          unfold loadVar
          refine RunV.bind (run_isAgg F.under w) ?_
          rw [← hag, this]
          obtain ⟨ca, t, fz, e, hq⟩ := g.glb k _ (GL_of hk)
          have hc : w.cell? ⟨k, o, none⟩ = some y := by
            rw [cell_at e, ← Array.getElem?_toList, show ca.toList = cs from hq]
            exact hy
          exact ⟨y, by simp [load, Sem.run, hc], by simp [VR]⟩
      · cases h
    · cases h
theorem loadOp_out {T : Tr TInfo} (hT : TOK P T) (g : Good σ H nx w) {t : TypeId} {a v : AV} {x : Value} (ha : VR σ a x) (h : loadOp T H t a = some v) :
    Out P σ H nx w v H nx (Instr.loadAt t x) := by
  obtain ⟨ad, rfl, hr⟩ := loadOp_run hT g ha h
  exact RunV.out g (RunV.bind (a := ad) rfl hr)
def storeOp (T : Tr TInfo) (H : Heap) (t : TypeId) (a v : AV) : Option Heap :=
  match T.get t with
  | none => none
  | some i =>
    match a with
    | .ptr b o =>
      match H.get b with
      | some (.cells cs tb false) =>
        let vs := cellsOf v
        if vs.length = i.size ∧ o + vs.length ≤ cs.length ∧ vs.all one = true then some (H.put b (some (.cells (overA cs o vs) tb false))) else none
      | _ => none
    | _ => none
theorem storeOp_out {T : Tr TInfo} (hT : TOK P T) (g : Good σ H nx w) {t : TypeId} {a v : AV} {x y : Value} (ha : VR σ a x) (hv : VR σ v y) (h : storeOp T H t a v = some H') :
    ∃ w', (Instr.storeAt t x y).run P w = .ok () w' ∧ Step σ H nx w σ H' nx w' ∧ Good σ H' nx w' := by
  unfold storeOp at h
  split at h
  · cases h
  · rename_i i hi
    split at h
    · rename_i b o
      split at h
      · rename_i cs tb hb
        simp only at h
        split at h
        · rename_i hc
          obtain ⟨c1, c2, c3⟩ := hc
          injection h with h
          subst h
          simp only [VR] at ha
          obtain ⟨l, hl, rfl⟩ := ha
          obtain ⟨info, e1, e2, e3, e4⟩ := (hT _ _ hi).info
          have hvs := cellsOf_VRs hv
          obtain ⟨w', h1, h2, h3⟩ := store_out (P := P) g hb hl hvs c2 c3
          refine ⟨w', ?_, h2, h3⟩
          unfold Instr.storeAt storeVar
          rw [run_bind_ok (a := (⟨l.blk, l.base + o, none⟩ : Addr)) (w' := w) rfl, run_bind_ok (run_sizeOf e1 w)]
          have : y.cells.size = info.size := by
            rw [e2, ← c1, ← hvs.length]; simp
          rw [if_neg (by rw [this]; simp)]
          exact h1
        · cases h
      · cases h
    · cases h
def fieldAddrOp (T : Tr TInfo) (s : TypeId) (a : AV) (f : Nat) : Option AV :=
  match T.get s with
  | some { desc := .struct _, parts := ps, .. } =>
    match a, ps[f]? with
    | .ptr b o, some (off, sz, _) => if sz = 0 then none else some (.ptr b (o + off))
    | _, _ => none
  | _ => none
theorem fieldAddrOp_out {T : Tr TInfo} (hT : TOK P T) (g : Good σ H nx w) {s : TypeId} {a v : AV} {f : Nat} {x : Value} (ha : VR σ a x) (h : fieldAddrOp T s a f = some v) :
    Out P σ H nx w v H nx (Instr.fieldAt s x f) := by
  unfold fieldAddrOp at h
  split at h
  · rename_i fs sz by_ ag ze ps hi
    split at h
    · rename_i b o off s' ag' hp
      split at h
      · cases h
      · rename_i hne
        injection h with h; subst h
        simp only [VR] at ha
        obtain ⟨l, hl, rfl⟩ := ha
        have F := hT _ _ hi
        obtain ⟨fd, fi, d, hf, hfi, hd, hpe⟩ := F.parts fs rfl f _ hp
        simp only [Prod.mk.injEq] at hpe
        obtain ⟨rfl, rfl, rfl⟩ := hpe
        unfold Instr.fieldAt
        refine Out.bind (run_under F.under w) ?_
        simp only [hf]
        refine Out.bind (a := (⟨l.blk, l.base + o, none⟩ : Addr)) rfl ?_
        unfold fieldPlace
        refine Out.same g (x := .pointer (some ⟨l.blk, l.base + o + fd.offset, none⟩)) ?_ (by simp only [VR]; exact ⟨l, hl, by rw [Nat.add_assoc]⟩)
        rw [run_bind_ok (a := (⟨l.blk, l.base + o + fd.offset, none⟩ : Addr)) (w' := w)]
        · rfl
        · rw [run_bind_ok (run_sizeOf hfi w), if_neg hne, add_addr _ _ rfl]
          rfl
    · cases h
  · cases h
def partA (cs : List AV) (off sz : Nat) (ag : Bool) : Option AV := if ag then (cut cs off sz).map .agg else cs[off]?
theorem part_run {t : TypeId} {d : TypeDesc} {i : TypeInfo} (hd : P.underlying t = some d) (hi : P.info? t = some i) {cs : List AV} {C : List Value} (hc : VRs σ cs C) {off : Nat} {v : AV}
    (h : partA cs off i.size (isAggD d) = some v) (w : World) : ∃ x, (part t C.toArray off).run P w = .ok x w ∧ VR σ v x := by
  unfold partA at h
  unfold part
  rw [run_bind_ok (run_isAgg hd w)]
  split at h
  · rename_i hag
    rw [hag]
    simp only [if_true]
    rw [run_bind_ok (run_sizeOf hi w)]
    simp only [cut] at h
    split at h
    · simp only [Option.map_some, Option.some.injEq] at h
      subst h
      refine ⟨_, rfl, ?_⟩
      simp only [VR]
      refine ⟨(C.drop off).take i.size, by simp [List.extract_eq_take_drop], (hc.drop off).take i.size⟩
    · cases h
  · rename_i hag
    have : isAggD d = false := by simpa using hag
    rw [this]
    obtain ⟨x, hx, hv⟩ := hc.get? h
    exact ⟨x, by simp [hx], hv⟩
def fieldOp (T : Tr TInfo) (s : TypeId) (a : AV) (f : Nat) : Option AV :=
  match T.get s with
  | some { desc := .struct _, parts := ps, .. } =>
    match a, ps[f]? with
    | .agg cs, some (off, sz, ag) => partA cs off sz ag
    | _, _ => none
  | _ => none
theorem fieldOp_out {T : Tr TInfo} (hT : TOK P T) (g : Good σ H nx w) {s : TypeId} {a v : AV} {f : Nat} {x : Value} (ha : VR σ a x) (h : fieldOp T s a f = some v) :
    Out P σ H nx w v H nx (Instr.field s x f) := by
  unfold fieldOp at h
  split at h
  · rename_i fs sz by_ ag ze ps hi
    split at h
    · rename_i cs off s' ag' hp
      simp only [VR] at ha
      obtain ⟨C, rfl, hC⟩ := ha
      have F := hT _ _ hi
      obtain ⟨fd, fi, d, hf, hfi, hd, hpe⟩ := F.parts fs rfl f _ hp
      simp only [Prod.mk.injEq] at hpe
      obtain ⟨rfl, rfl, rfl⟩ := hpe
      obtain ⟨y, hy, hv⟩ := part_run hd hfi hC h w
      unfold Instr.field
      refine Out.bind (run_under F.under w) ?_
      simp only [hf]
      refine Out.bind (a := C.toArray) rfl ?_
      exact Out.same g hy hv
    · cases h
  · cases h
def indexAddrOp (T : Tr TInfo) (t : TypeId) (x ix : AV) : Option AV :=
  match T.get t, ix with
  | some { desc := .slice e, .. }, .lit (.int _ n) =>
    match x, T.get e with
    | .slice b o len _ esz, some ei => if 0 ≤ n ∧ n < len ∧ ei.size = esz then some (.ptr b (o + n.toNat * esz)) else none
    | _, _ => none
  | some { desc := .array len e, .. }, .lit (.int _ n) =>
    match x, T.get e with
    | .ptr b o, some ei => if 0 ≤ n ∧ n < len then some (.ptr b (o + n.toNat * ei.size)) else none
    | .lit (.pointer (some ⟨g, o, none⟩)), some ei => if 0 ≤ n ∧ n < len then some (.lit (.pointer (some ⟨g, o + n.toNat * ei.size, none⟩))) else none
    | _, _ => none
  | _, _ => none
theorem indexAddrOp_out {T : Tr TInfo} (hT : TOK P T) (g : Good σ H nx w) {t : TypeId} {a ix v : AV} {x y : Value} (ha : VR σ a x) (hy : VR σ ix y) (h : indexAddrOp T t a ix = some v) :
    Out P σ H nx w v H nx (Instr.indexAt t x y) := by
  unfold indexAddrOp at h
  split at h
  · rename_i e sz by_ ag ze ps k n hi
    split at h
    · rename_i b o len c esz ei he
      split at h
      · rename_i hc
        obtain ⟨c1, c2, c3⟩ := hc
        injection h with h; subst h
        simp only [VR] at ha hy
        obtain ⟨l, c', hl, rfl, hs⟩ := ha
        subst hy
        have F := hT _ _ hi
        obtain ⟨info, e1, e2, e3, e4⟩ := (hT _ _ he).info
        unfold Instr.indexAt
        refine Out.bind (a := (k, n)) rfl ?_
        simp only
        refine Out.same g (x := .pointer (some ⟨l.blk, l.base + o + n.toNat * esz, none⟩)) ?_ (by simp only [VR]; exact ⟨l, hl, by rw [Nat.add_assoc]⟩)
        rw [run_bind_ok (run_under F.under w)]
        simp only
        rw [run_bind_ok (a := (some (⟨l.blk, l.base + o, none⟩ : Addr), len, e)) (w' := w) rfl, run_bind_ok (run_under F.under w)]
        simp only
        rw [if_pos ⟨c1, c2⟩, run_bind_ok (run_sizeOf e1 w), add_addr _ _ rfl, e2, c3]
        rfl
      · cases h
    · cases h
  · rename_i len e sz by_ ag ze ps k n hi
    split at h
    · rename_i b o ei he
      split at h
      · rename_i hc
        obtain ⟨c1, c2⟩ := hc
        injection h with h; subst h
        simp only [VR] at ha hy
        obtain ⟨l, hl, rfl⟩ := ha
        subst hy
        have F := hT _ _ hi
        obtain ⟨info, e1, e2, e3, e4⟩ := (hT _ _ he).info
        unfold Instr.indexAt
        refine Out.bind (a := (k, n)) rfl ?_
        simp only
        refine Out.same g (x := .pointer (some ⟨l.blk, l.base + o + n.toNat * ei.size, none⟩)) ?_ (by simp only [VR]; exact ⟨l, hl, by rw [Nat.add_assoc]⟩)
        rw [run_bind_ok (run_under F.under w)]
        simp only
        rw [run_bind_ok (a := (⟨l.blk, l.base + o, none⟩ : Addr)) (w' := w) rfl, run_bind_ok (a := (some (⟨l.blk, l.base + o, none⟩ : Addr), len, e)) (w' := w) rfl, run_bind_ok (run_under F.under w)]
        simp only
        rw [if_pos ⟨c1, c2⟩, run_bind_ok (run_sizeOf e1 w), add_addr _ _ rfl, e2]
        rfl
      · cases h
    · rename_i gb o ei he
      split at h
      · rename_i hc
        obtain ⟨c1, c2⟩ := hc
        injection h with h; subst h
        simp only [VR] at ha hy
        subst ha
        subst hy
        have F := hT _ _ hi
        obtain ⟨info, e1, e2, e3, e4⟩ := (hT _ _ he).info
        unfold Instr.indexAt
        refine Out.bind (a := (k, n)) rfl ?_
        simp only
        refine Out.same g (x := .pointer (some ⟨gb, o + n.toNat * ei.size, none⟩)) ?_ (by simp only [VR])
        rw [run_bind_ok (run_under F.under w)]
        simp only
        rw [run_bind_ok (a := (⟨gb, o, none⟩ : Addr)) (w' := w) rfl, run_bind_ok (a := (some (⟨gb, o, none⟩ : Addr), len, e)) (w' := w) rfl, run_bind_ok (run_under F.under w)]
        simp only
        rw [if_pos ⟨c1, c2⟩, run_bind_ok (run_sizeOf e1 w), add_addr _ _ rfl, e2]
        rfl
      · cases h
    · cases h
  · cases h
def indexOp (P : Program) (T : Tr TInfo) (t : TypeId) (x ix : AV) : Option AV :=
  match x, ix with
  | .agg cs, .lit (.int _ n) =>
    match T.get t with
    | some { desc := .array len e, .. } =>
      match T.get e with
      | some ei => if 0 ≤ n ∧ n < len then partA cs (n.toNat * ei.size) ei.size ei.agg else none
      | none => none
    | _ => none
  | .lit (.string s), .lit (.int k n) =>
    match T.get t with
    | some { desc := .string, .. } => if 0 ≤ n then (s.data.toList[n.toNat]?).map fun c => .lit (.int .u8 c.toNat) else none
    | _ => none
  | _, _ => none
theorem indexOp_out {T : Tr TInfo} (hT : TOK P T) (g : Good σ H nx w) {t : TypeId} {a ix v : AV} {x y : Value} (ha : VR σ a x) (hy : VR σ ix y) (h : indexOp P T t a ix = some v) :
    Out P σ H nx w v H nx (Instr.index t x y) := by
  unfold indexOp at h
  split at h
  · rename_i cs k n
    split at h
    · rename_i len e sz by_ ag ze ps hi
      split at h
      · rename_i ei he
        split at h
        · rename_i hc
          simp only [VR] at ha hy
          obtain ⟨C, rfl, hC⟩ := ha
          subst hy
          have F := hT _ _ hi
          have Fe := hT _ _ he
          obtain ⟨info, e1, e2, e3, e4⟩ := Fe.info
          rw [Fe.agg, ← e2] at h
          obtain ⟨y, hy, hv⟩ := part_run Fe.under e1 hC h w
          unfold Instr.index
          refine Out.bind (a := (k, n)) rfl ?_
          refine Out.bind (run_under F.under w) ?_
          simp only
          rw [if_pos hc]
          refine Out.bind (run_sizeOf e1 w) ?_
          exact Out.same g hy hv
        · cases h
      · cases h
    · cases h
  · rename_i s k n
    split at h
    · rename_i sz by_ ag ze ps hi
      split at h
      · rename_i hc
        simp only [Option.map_eq_some_iff] at h
        obtain ⟨c, hcs, rfl⟩ := h
        simp only [VR] at ha hy
        subst ha; subst hy
        have F := hT _ _ hi
        unfold Instr.index
        refine Out.bind (a := (k, n)) rfl ?_
        refine Out.bind (run_under F.under w) ?_
        simp only
        have : s[n.toNat]? = some c := by
          rw [← hcs]
          simp only [getElem?_def, ByteArray.getElem_eq_getElem_data]
          rfl
        rw [if_pos hc, this]
        exact Out.pure g (by simp [VR])
      · cases h
    · cases h
  · cases h
def extractOp (x : AV) (i : Nat) : Option AV :=
  match x with
  | .tuple vs => vs[i]?
  | .lit (.tuple vs) => (vs[i]?).map .lit
  | _ => none
theorem extractOp_out (g : Good σ H nx w) {a v : AV} {i : Nat} {x : Value} (ha : VR σ a x) (h : extractOp a i = some v) :
    Out P σ H nx w v H nx (Instr.extract x i) := by
  unfold extractOp at h
  split at h
  · simp only [VR] at ha
    obtain ⟨C, rfl, hC⟩ := ha
    obtain ⟨y, hy, hv⟩ := hC.get? h
    exact Out.same g (x := y) (by simp [Instr.extract, hy]) hv
  · rename_i vs
    simp only [VR] at ha
    subst ha
    simp only [Option.map_eq_some_iff] at h
    obtain ⟨y, hy, rfl⟩ := h
    exact Out.same g (x := y) (by simp [Instr.extract, hy]) (by simp [VR])
  · cases h
def plain1 (P : Program) (f : Value → Sem Value) (x : AV) : Option AV := (plain x).bind fun a => (pureRun P (f a)).map abs
theorem plain1_out (g : Good σ H nx w) {f : Value → Sem Value} {a v : AV} {x : Value} (ha : VR σ a x) (h : plain1 P f a = some v) : Out P σ H nx w v H nx (f x) := by
  unfold plain1 at h
  simp only [Option.bind_eq_some_iff, Option.map_eq_some_iff] at h
  obtain ⟨y, h1, z, h2, rfl⟩ := h
  have := plain_eq h1 ha
  subst this
  exact Out.same g (pureRun_ok w h2) (abs_VR σ z)
def plain2 (P : Program) (f : Value → Value → Sem Value) (x y : AV) : Option AV := (plain x).bind fun a => (plain y).bind fun b => (pureRun P (f a b)).map abs
theorem plain2_out (g : Good σ H nx w) {f : Value → Value → Sem Value} {a b v : AV} {x y : Value} (ha : VR σ a x) (hb : VR σ b y) (h : plain2 P f a b = some v) :
    Out P σ H nx w v H nx (f x y) := by
  unfold plain2 at h
  simp only [Option.bind_eq_some_iff, Option.map_eq_some_iff] at h
  obtain ⟨p, h1, q, h2, z, h3, rfl⟩ := h
  have := plain_eq h1 ha
  subst this
  have := plain_eq h2 hb
  subst this
  exact Out.same g (pureRun_ok w h3) (abs_VR σ z)
end CI
noncomputable section
namespace CI
open Go
variable {P : Program} {σ σ' : Sig} {H H' : Heap} {nx nx' : Nat} {w w' : World}
theorem over_VRs {cs : List AV} {C : List Value} (h : VRs σ cs C) {vs : List AV} {xs : List Value} (hv : VRs σ vs xs) {o : Nat} (hle : o + vs.length ≤ cs.length) :
    VRs σ (overA cs o vs) (over C o xs) := by
  have h1 := h.length
  have h2 := hv.length
  refine VRs.of_get (by rw [over_length, overA_length _ _ _ hle, h1]) fun i v hi => ?_
  rw [overA_get _ _ _ hle] at hi
  rw [over_get _ _ _ _ (by omega)]
  split at hi
  · rw [if_pos (by omega)]; exact hv.get? hi
  · rw [if_neg (by omega)]; exact h.get? hi
theorem zip_over (off : Nat) : ∀ (xs : List Value) (k : Nat) (C : Array Value),
    ((xs.zipIdx k).foldl (fun (cs : Array Value) (p : Value × Nat) => cs.setIfInBounds (off + p.2) p.1) C).toList = over C.toList (off + k) xs
  | [], k, C => by simp [over]
  | x :: xs, k, C => by
    simp only [List.zipIdx_cons, List.foldl_cons, over]
    rw [zip_over off xs (k + 1) (C.setIfInBounds (off + k) x)]
    simp [Nat.add_assoc]
def fillA (place : Nat → Option (Nat × Nat)) (cells : List AV) : List (Nat × AV) → Option (List AV)
  | [] => some cells
  | (i, v) :: rest =>
    match place i with
    | none => none
    | some (off, size) =>
      let vs := cellsOf v
      if vs.length = size ∧ off + vs.length ≤ cells.length then fillA place (overA cells off vs) rest else none
def PRs (σ : Sig) : List (Nat × AV) → List (Nat × Value) → Prop
  | [], xs => xs = []
  | (i, v) :: vs, xs => ∃ y ys, xs = (i, y) :: ys ∧ VR σ v y ∧ PRs σ vs ys
theorem fill_ok {place : Nat → Option (Nat × Nat)} : ∀ {parts : List (Nat × AV)} {xs : List (Nat × Value)} {cells : List AV} {C : Array Value} {out : List AV},
    PRs σ parts xs → VRs σ cells C.toList → fillA place cells parts = some out → ∃ D : Array Value, Instr.fill place C xs = some D ∧ VRs σ out D.toList
  | [], xs, cells, C, out, hp, hc, h => by
    simp only [PRs] at hp; subst hp
    simp only [fillA, Option.some.injEq] at h; subst h
    exact ⟨C, rfl, hc⟩
  | (i, v) :: parts, xs, cells, C, out, hp, hc, h => by
    simp only [PRs] at hp
    obtain ⟨y, ys, rfl, hv, hp⟩ := hp
    simp only [fillA] at h
    cases hpl : place i with
    | none => rw [hpl] at h; cases h
    | some p =>
      obtain ⟨off, size⟩ := p
      rw [hpl] at h
      simp only at h
      split at h
      · rename_i hcond
        have hvs := cellsOf_VRs hv
        have hl := hvs.length
        have hcl := hc.length
        simp only [Array.length_toList] at hl hcl
        have key := over_VRs hc hvs hcond.2
        rw [← Nat.add_zero off, ← zip_over off y.cells.toList 0 C] at key
        obtain ⟨D, h1, h2⟩ := fill_ok hp (C := (y.cells.toList.zipIdx 0).foldl (fun (cs : Array Value) (p : Value × Nat) => cs.setIfInBounds (off + p.2) p.1) C) (by simpa using key) h
        refine ⟨D, ?_, h2⟩
        simp only [Instr.fill, hpl]
        rw [if_neg (by simp only [ne_eq, Bool.or_eq_true, decide_eq_true_eq, not_or, Decidable.not_not]; omega)]
        rw [← h1]
        congr 1
        rw [← Array.foldl_toList]
        simp
      · cases h
theorem run_places {w : World} : ∀ (fs : List Field) (ps : List (Nat × Nat)), ps.length = fs.length →
    (∀ (j : Nat) (p : Nat × Nat), ps[j]? = some p → ∃ f fi, fs[j]? = some f ∧ P.info? f.type = some fi ∧ p = (f.offset, fi.size)) →
    (fs.mapM (m := Sem) fun f => do pure (f.offset, ← Go.sizeOf f.type)).run P w = .ok ps w
  | [], ps, hl, _ => by
    have : ps = [] := List.eq_nil_of_length_eq_zero (by simpa using hl)
    subst this; simp
  | f :: fs, [], hl, _ => by simp at hl
  | f :: fs, p :: ps, hl, h => by
    obtain ⟨f', fi, e1, e2, e3⟩ := h 0 p rfl
    simp at e1; subst e1
    rw [List.mapM_cons, run_bind_ok (a := p) (w' := w) (by rw [run_bind_ok (run_sizeOf e2 w)]; rw [e3]; rfl)]
    rw [run_bind_ok (run_places fs ps (by simpa using hl) fun j q hq => by simpa using h (j + 1) q (by simpa using hq))]
    rfl
def partsA (ρ : Operand → AV) (ps : List (Nat × Operand)) : List (Nat × AV) := ps.map fun p => (p.1, ρ p.2)
theorem partsA_PRs {ρ : Operand → AV} {a : Act} (h : ∀ x, VR σ (ρ x) (a.eval x)) : ∀ ps : List (Nat × Operand), PRs σ (partsA ρ ps) (ps.map fun p => (p.1, a.eval p.2))
  | [] => by simp [partsA, PRs]
  | (i, x) :: ps => by simp only [partsA, List.map_cons, PRs]; exact ⟨_, _, rfl, h x, partsA_PRs h ps⟩
def buildOp (T : Tr TInfo) (t : TypeId) (parts : List (Nat × AV)) : Option AV :=
  match T.get t with
  | some { desc := .struct _, zero := some z, parts := ps, .. } =>
    (fillA (fun i => (ps[i]?).map fun p => (p.1, p.2.1)) (cellsOf (abs z)) parts).map .agg
  | some { desc := .array _ e, zero := some z, .. } =>
    match T.get e with
    | some ei => (fillA (fun i => some (i * ei.size, ei.size)) (cellsOf (abs z)) parts).map .agg
    | none => none
  | _ => none
theorem buildOp_out {T : Tr TInfo} (hT : TOK P T) (g : Good σ H nx w) {t : TypeId} {parts : List (Nat × AV)} {xs : Array (Nat × Value)} {v : AV} (hp : PRs σ parts xs.toList)
    (h : buildOp T t parts = some v) : Out P σ H nx w v H nx (Instr.build t xs) := by
  unfold buildOp at h
  split at h
  · rename_i fs sz by_ ag z ps hi
    simp only [Option.map_eq_some_iff] at h
    obtain ⟨out, hf, rfl⟩ := h
    have F := hT _ _ hi
    obtain ⟨info, e1, e2, e3, e4⟩ := F.info
    obtain ⟨D, h1, h2⟩ := fill_ok hp (C := z.cells) (cellsOf_VRs (abs_VR σ z)) hf
    unfold Instr.build
    refine Out.bind (run_zero e1 e4 w) ?_
    refine Out.bind (run_under F.under w) ?_
    simp only
    have hpl : (fs.mapM (m := Sem) fun f => do pure (f.offset, ← Go.sizeOf f.type)).run P w = .ok (ps.map fun (p : Nat × Nat × Bool) => (p.1, p.2.1)).toArray w := by
      rw [Array.mapM_eq_mapM_toList]
      rw [show ((fun a : List (Nat × Nat) => a.toArray) <$> (fs.toList.mapM (m := Sem) fun f => do pure (f.offset, ← Go.sizeOf f.type))) = ((fs.toList.mapM (m := Sem) fun f => do pure (f.offset, ← Go.sizeOf f.type)) >>= fun a => pure a.toArray) from rfl]
      rw [run_bind_ok (run_places fs.toList (ps.map fun (p : Nat × Nat × Bool) => (p.1, p.2.1)) (by have := F.lens fs rfl; simpa using this) ?_)]
      · rfl
      · intro j p hj
        rw [List.getElem?_map, Option.map_eq_some_iff] at hj
        obtain ⟨q, hq, rfl⟩ := hj
        obtain ⟨f, fi, d, g1, g2, g3, g4⟩ := F.parts fs rfl j q hq
        exact ⟨f, fi, by simpa using g1, g2, by rw [g4]⟩
    refine Out.bind hpl ?_
    have : (fun (i : Nat) => (ps.map fun (p : Nat × Nat × Bool) => (p.1, p.2.1)).toArray[i]?) = fun (i : Nat) => (ps[i]?).map fun (p : Nat × Nat × Bool) => (p.1, p.2.1) := by
      funext i; simp
    rw [this, h1]
    exact Out.pure g (by simp only [VR]; exact ⟨D.toList, by simp, h2⟩)
  · rename_i n e sz by_ ag z ps hi
    split at h
    · rename_i ei he
      simp only [Option.map_eq_some_iff] at h
      obtain ⟨out, hf, rfl⟩ := h
      have F := hT _ _ hi
      obtain ⟨info, e1, e2, e3, e4⟩ := F.info
      obtain ⟨einfo, f1, f2, f3, f4⟩ := (hT _ _ he).info
      obtain ⟨D, h1, h2⟩ := fill_ok hp (C := z.cells) (cellsOf_VRs (abs_VR σ z)) hf
      unfold Instr.build
      refine Out.bind (run_zero e1 e4 w) ?_
      refine Out.bind (run_under F.under w) ?_
      simp only
      refine Out.bind (run_sizeOf f1 w) ?_
      rw [f2, h1]
      exact Out.pure g (by simp only [VR]; exact ⟨D.toList, by simp, h2⟩)
    · cases h
  · cases h
def zrow (n : Nat) (zs : List AV) : List AV := (List.range n).map fun i => zs.getD (i % zs.length) (.lit undef)
theorem zrow_VRs {zs : List AV} {Z : Array Value} (h : VRs σ zs Z.toList) (n : Nat) (h0 : n = 0 ∨ zs ≠ []) :
    VRs σ (zrow n zs) ((Array.range n).map (Z[· % Z.size]!)).toList := by
  have hl := h.length
  simp only [Array.length_toList] at hl
  refine VRs.of_get (by simp [zrow]) fun i v hi => ?_
  simp only [zrow, List.getElem?_map, Option.map_eq_some_iff] at hi
  obtain ⟨j, hj, rfl⟩ := hi
  obtain ⟨hlt, rfl⟩ := List.getElem?_eq_some_iff.1 hj
  simp only [List.length_range] at hlt
  simp only [List.getElem_range]
  have hz : 0 < zs.length := by
    rcases h0 with h0 | h0
    · omega
    · exact List.length_pos_iff.2 h0
  have hm : i % zs.length < zs.length := Nat.mod_lt _ hz
  obtain ⟨x, hx, hv⟩ := h.get? (List.getElem?_eq_getElem hm)
  refine ⟨x, ?_, ?_⟩
  · rw [Array.getElem?_toList, Array.getElem?_map]
    have : (Array.range n)[i]? = some i := by simp [hlt]
    rw [this]
    simp only [Option.map_some, Option.some.injEq]
    rw [hl, getElem!_def, ← Array.getElem?_toList, hx]
  · rw [List.getD_eq_getElem?_getD, List.getElem?_eq_getElem hm]; exact hv
def buildSliceOp (T : Tr TInfo) (H : Heap) (nx : Nat) (t : TypeId) (len : Nat) (parts : List (Nat × AV)) : Res :=
  match T.get t with
  | some { desc := .slice e, .. } =>
    match T.get e with
    | some { size := sz, zero := some z, .. } =>
      if len = 0 ∧ parts = [] then some (.slice nx 0 0 (some 0) sz, H.put nx (some (.cells [] e false)), nx + 1) else
      if len * sz ≤ 16777216 ∧ 0 < len * sz ∧ cellsOf (abs z) ≠ [] then
        match fillA (fun i => some (i * sz, sz)) (zrow (len * sz) (cellsOf (abs z))) parts with
        | some cs => if cs.length = len * sz then some (.slice nx 0 len (some len) sz, H.put nx (some (.cells cs e false)), nx + 1) else none
        | none => none
      else none
    | _ => none
  | _ => none
theorem buildSliceOp_out {T : Tr TInfo} (hT : TOK P T) (g : Good σ H nx w) {t : TypeId} {len : Nat} {parts : List (Nat × AV)} {xs : Array (Nat × Value)} {v : AV} (hp : PRs σ parts xs.toList)
    (h : buildSliceOp T H nx t len parts = some (v, H', nx')) : Out P σ H nx w v H' nx' (Instr.buildSlice t len xs) := by
  unfold buildSliceOp at h
  split at h
  · rename_i e sz0 by0 ag0 ze0 ps0 hi
    split at h
    · rename_i d sz by_ ag z ps he
      split at h
      · rename_i hc
        obtain ⟨rfl, rfl⟩ := hc
        simp only [Option.some.injEq, Prod.mk.injEq] at h
        obtain ⟨rfl, rfl, rfl⟩ := h
        have F := hT _ _ hi
        obtain ⟨info, e1, e2, e3, e4⟩ := (hT _ _ he).info
        obtain ⟨w', σ', r1, r2, r3, r4⟩ := newRow_out (P := P) g e [] [] rfl false
        have hxs : xs.toList = [] := by
          cases hx : xs.toList with
          | nil => rfl
          | cons y ys => rw [hx] at hp; simp [PRs] at hp
        refine ⟨.slice (some ⟨w.heap.size, 0, none⟩) 0 0, w', σ', ?_, ?_, r3, r4⟩
        · unfold Instr.buildSlice
          rw [run_bind_ok (run_under F.under w)]
          simp only
          rw [run_bind_ok (run_sizeOf e1 w)]
          simp only [Nat.zero_mul]
          rw [if_neg (by omega), if_pos trivial]
          rw [run_bind_ok (a := (#[] : Array Value)) (w' := w) rfl, hxs]
          have hfill : Instr.fill (fun i => some (i * info.size, info.size)) ((Array.range 0).map fun x => (#[] : Array Value)[x % (#[] : Array Value).size]!) [] = some #[] := by simp [Instr.fill]
          rw [hfill]
          simp only
          rw [run_bind_ok (a := (⟨w.heap.size, 0, none⟩ : Addr)) (w' := w') (by simpa using r1)]
          rfl
        · simp only [VR]
          exact ⟨_, 0, r2, by simp [Loc.base_eq], by omega, by simp [Loc.base_eq], rfl⟩
      split at h
      · rename_i hc
        obtain ⟨c1, c2, c3⟩ := hc
        split at h
        · rename_i cs hf
          split at h
          · rename_i hlen
            simp only [Option.some.injEq, Prod.mk.injEq] at h
            obtain ⟨rfl, rfl, rfl⟩ := h
            have F := hT _ _ hi
            obtain ⟨info, e1, e2, e3, e4⟩ := (hT _ _ he).info
            simp only at e2 e3 e4
            have hz := zrow_VRs (cellsOf_VRs (abs_VR σ z)) (len * sz) (.inr c3)
            obtain ⟨D, h1, h2⟩ := fill_ok hp (C := (Array.range (len * sz)).map (z.cells[· % z.cells.size]!)) hz hf
            obtain ⟨w', σ', r1, r2, r3, r4⟩ := newRow_out (P := P) g e cs D.toList h2 false
            have hD := h2.length
            refine ⟨.slice (some ⟨w.heap.size, 0, none⟩) len len, w', σ', ?_, ?_, r3, r4⟩
            · unfold Instr.buildSlice
              rw [run_bind_ok (run_under F.under w)]
              simp only
              rw [run_bind_ok (run_sizeOf e1 w), e2]
              rw [if_neg (by omega), if_neg (by omega), run_bind_ok (run_zero e1 e4 w), run_bind_ok (a := z.cells) (w' := w) rfl]
              simp only [h1]
              rw [run_bind_ok (a := (⟨w.heap.size, 0, none⟩ : Addr)) (w' := w') (by simpa using r1)]
              rfl
            · simp only [VR]
              refine ⟨_, len, r2, rfl, Nat.le_refl _, ?_, rfl⟩
              simp only [Nat.zero_add]
              rw [hD, hlen]; simp [Loc.base_eq]
          · cases h
        · cases h
      · cases h
    · cases h
  · cases h
def makeSliceOp (T : Tr TInfo) (H : Heap) (nx : Nat) (t : TypeId) (l c : AV) : Res :=
  match T.get t, l, c with
  | some { desc := .slice e, .. }, .lit (.int .i64 l), .lit (.int .i64 c) =>
    match T.get e with
    | some { size := sz, zero := some z, bytes := bs, .. } =>
      if 0 ≤ l ∧ l ≤ c ∧ c ≤ 4611686018427387904 ∧ bs * c ≤ 140737488355328 ∧ cellsOf (abs z) ≠ [] ∧ sz ≠ 0 then
        some (.slice nx 0 l.toNat (some c.toNat) sz, H.put nx (some (.cells (zrow (c.toNat * sz) (cellsOf (abs z))) e false)), nx + 1)
      else none
    | _ => none
  | _, _, _ => none
theorem wrap64_id {n : Int} (h1 : 0 ≤ n) (h2 : n ≤ 4611686018427387904) : IntKind.i64.wrap n = n := by
  simp only [IntKind.wrap, IntKind.bits, IntKind.signed]
  simp only [Bool.true_and, ge_iff_le, decide_eq_true_eq]
  split <;> omega
theorem makeSliceOp_out {T : Tr TInfo} (hT : TOK P T) (g : Good σ H nx w) {t : TypeId} {l c v : AV} {x y : Value} (hl : VR σ l x) (hc : VR σ c y)
    (h : makeSliceOp T H nx t l c = some (v, H', nx')) : Out P σ H nx w v H' nx' (Instr.makeSlice t x y) := by
  unfold makeSliceOp at h
  split at h
  · rename_i e sz0 by0 ag0 ze0 ps0 l c hi
    split at h
    · rename_i d sz bs ag z ps he
      split at h
      · rename_i hcond
        obtain ⟨c1, c2, c3, c4, c5, c6⟩ := hcond
        simp only [Option.some.injEq, Prod.mk.injEq] at h
        obtain ⟨rfl, rfl, rfl⟩ := h
        simp only [VR] at hl hc
        subst hl; subst hc
        have F := hT _ _ hi
        obtain ⟨info, e1, e2, e3, e4⟩ := (hT _ _ he).info
        simp only at e2 e3 e4
        have hz := zrow_VRs (cellsOf_VRs (abs_VR σ z)) (c.toNat * sz) (.inr c5)
        obtain ⟨w', σ', r1, r2, r3, r4⟩ := newRow_out (P := P) g e _ _ hz false
        have hw1 := wrap64_id c1 (by omega)
        have hw2 := wrap64_id (n := c) (by omega) c3
        refine ⟨.slice (some ⟨w.heap.size, 0, none⟩) l.toNat c.toNat, w', σ', ?_, ?_, r3, r4⟩
        · unfold Instr.makeSlice
          rw [run_bind_ok (run_under F.under w)]
          simp only
          rw [run_bind_ok (a := l) (w' := w) rfl, run_bind_ok (a := c) (w' := w) rfl, run_bind_ok (run_tinfo e1 w)]
          simp only [hw1, hw2]
          rw [if_neg (by
            have h1 : ¬ c < 0 := by omega
            have h2 : ¬ l < 0 := by omega
            have h3 : ¬ l > c := by omega
            have h4 : ¬ ((info.bytes : Int) * c > 2 ^ 48) := by rw [e3]; omega
            simp [h1, h2, h3]; omega)]
          rw [run_bind_ok (a := ()) (w' := w) (by
            unfold askRoom
            rw [if_neg]; rfl
            simp only [roomBytes, e3]
            have : ((c.toNat : Int) * (bs : Int)) ≤ 140737488355328 := by rw [Int.toNat_of_nonneg (by omega), Int.mul_comm]; exact c4
            have h2 : ((c.toNat * bs : Nat) : Int) ≤ 140737488355328 := by rw [Int.natCast_mul]; exact this
            omega)]
          rw [run_bind_ok (run_sizeOf e1 w), e2]
          by_cases hn : c.toNat * sz = 0
          · rw [if_pos hn]
            rw [run_bind_ok (a := #[]) (w' := w) rfl]
            rw [Array.toArray_toList] at r1
            rw [run_bind_ok (a := (⟨w.heap.size, 0, none⟩ : Addr)) (w' := w') (by
              rw [← r1, hn]; congr 2; simp)]
            rfl
          · rw [if_neg hn]
            rw [run_bind_ok (run_zero e1 e4 w), run_bind_ok (a := z.cells) (w' := w) rfl]
            rw [Array.toArray_toList] at r1
            rw [run_bind_ok (a := (⟨w.heap.size, 0, none⟩ : Addr)) (w' := w') r1]
            rfl
        · simp only [VR]
          refine ⟨_, c.toNat, r2, rfl, by omega, ?_, rfl⟩
          simp [Loc.base_eq]
      · cases h
    · cases h
  · cases h
end CI
noncomputable section
namespace CI
open Go
variable {P : Program} {σ σ' : Sig} {H H' : Heap} {nx nx' : Nat} {w w' : World}
def nilCheckOp : AV → Option AV
  | .lit (.pointer none) => none
  | .lit .nilIface => none
  | .lit .nilFunc => none
  | .lit (.func ..) => none
  | .func (.func f) a b => some (.func (.func f) a b)
  | .func .. => none
  | v => some v
def eqOp (T : Tr TInfo) (t : TypeId) (a b : AV) : Option Bool :=
  match T.get t with
  | none => none
  | some i =>
    match i.desc, a, b with
    | .pointer _, .ptr _ _, .lit (.pointer none) => some false
    | .pointer _, .lit (.pointer none), .ptr _ _ => some false
    | .pointer e, .ptr b o, .ptr b' o' =>
      match T.get e with
      | some ei => if b = b' ∧ ei.size ≠ 0 then some (decide (o = o')) else none
      | none => none
    | .slice _, .slice .., .lit (.slice none _ _) => some false
    | .slice _, .eslice, .lit (.slice none _ _) => some false
    | .slice _, .lit (.slice none _ _), .slice .. => some false
    | .map _ _, .map _, .lit (.map none) => some false
    | .map _ _, .lit (.map none), .map _ => some false
    | .func _ _ _, .func .., .lit .nilFunc => some false
    | .func _ _ _, .lit .nilFunc, .func .. => some false
    | .interface _, .iface .., .lit .nilIface => some false
    | .interface _, .lit .nilIface, .iface .. => some false
    | _, _, _ => none
theorem eqOp_run {T : Tr TInfo} (hT : TOK P T) {t : TypeId} {a b : AV} {x y : Value} {r : Bool} (ha : VR σ a x) (hb : VR σ b y) (h : eqOp T t a b = some r) (w : World) (depth : Nat) :
    (Op.equalIn (depth + 1) t x y).run P w = .ok r w := by
  unfold eqOp at h
  split at h
  · cases h
  · rename_i i hi
    have F := hT _ _ hi
    have hu := F.under
    split at h
    case h_13 => cases h
    all_goals
      rename_i hd
      rw [hd] at hu
      simp only [VR] at ha hb
    · obtain ⟨l, _, rfl⟩ := ha; subst hb; injection h with h; subst h
      rw [Op.equalIn, run_bind_ok (run_under hu w)]; rfl
    · obtain ⟨l, _, rfl⟩ := hb; subst ha; injection h with h; subst h
      rw [Op.equalIn, run_bind_ok (run_under hu w)]; rfl
    · obtain ⟨l, hl, rfl⟩ := ha; obtain ⟨l', hl', rfl⟩ := hb
      split at h
      · rename_i ei he
        split at h
        · rename_i hc
          obtain ⟨rfl, hne⟩ := hc
          injection h with h; subst h
          rw [hl] at hl'; injection hl' with hl'; subst hl'
          obtain ⟨info, e1, e2, e3, e4⟩ := (hT _ _ he).info
          rw [Op.equalIn, run_bind_ok (run_under hu w)]
          simp only
          rw [run_bind_ok (run_sizeOf e1 w), e2, if_pos hne]
          simp only [sameAddr, beq_self_eq_true, if_true]
          simp only [run_pure', Result.ok.injEq, and_true]
          rw [Bool.eq_iff_iff, beq_iff_eq, decide_eq_true_iff, Addr.mk.injEq]
          constructor
          · rintro ⟨_, h, _⟩; omega
          · rintro rfl; exact ⟨rfl, rfl, rfl⟩
        · cases h
      · cases h
    · obtain ⟨l, c, _, rfl, _⟩ := ha; subst hb; injection h with h; subst h
      rw [Op.equalIn, run_bind_ok (run_under hu w)]; rfl
    · obtain ⟨a', c, rfl⟩ := ha; subst hb; injection h with h; subst h
      rw [Op.equalIn, run_bind_ok (run_under hu w)]; rfl
    · obtain ⟨l, c, _, rfl, _⟩ := hb; subst ha; injection h with h; subst h
      rw [Op.equalIn, run_bind_ok (run_under hu w)]; rfl
    · obtain ⟨l, _, rfl⟩ := ha; subst hb; injection h with h; subst h
      rw [Op.equalIn, run_bind_ok (run_under hu w)]; rfl
    · obtain ⟨l, _, rfl⟩ := hb; subst ha; injection h with h; subst h
      rw [Op.equalIn, run_bind_ok (run_under hu w)]; rfl
    · obtain ⟨_, _, rfl, _⟩ := ha; subst hb; injection h with h; subst h
      rw [Op.equalIn, run_bind_ok (run_under hu w)]; rfl
    · obtain ⟨_, _, rfl, _⟩ := hb; subst ha; injection h with h; subst h
      rw [Op.equalIn, run_bind_ok (run_under hu w)]; rfl
    · obtain ⟨_, rfl, _⟩ := ha; subst hb; injection h with h; subst h
      rw [Op.equalIn, run_bind_ok (run_under hu w)]; rfl
    · obtain ⟨_, rfl, _⟩ := hb; subst ha; injection h with h; subst h
      rw [Op.equalIn, run_bind_ok (run_under hu w)]; rfl
def addrish : AV → Bool
  | .ptr .. | .slice .. | .eslice | .map .. | .func .. | .iface .. => true
  | _ => false
def nilish : AV → Bool
  | .lit (.pointer none) | .lit (.slice none _ _) | .lit (.map none) | .lit .nilFunc | .lit .nilIface => true
  | _ => false
def binOpA (P : Program) (T : Tr TInfo) (op : BinOp) (t : TypeId) (x y : Operand) (a b : AV) : Option AV :=
  match plain2 P (fun p q => do eqGuard op t x y p q; binOp op t p q) a b with
  | some v => some v
  | none =>
    if (addrish a && (addrish b || nilish b)) || (nilish a && addrish b) then
      match op with
      | .eql => (eqOp T t a b).map fun r => .lit (.bool r)
      | .neq => (eqOp T t a b).map fun r => .lit (.bool !r)
      | _ => none
    else none
def refV : Value → Bool
  | .pointer _ | .slice .. | .map _ | .func .. | .iface .. | .nilFunc | .nilIface => true
  | _ => false
theorem addrish_ref {a : AV} {x : Value} (ha : VR σ a x) (h : addrish a = true) : refV x = true ∧ x ≠ .nilIface := by
  cases a <;> simp only [addrish, Bool.false_eq_true] at h <;> simp only [VR] at ha
  · obtain ⟨l, _, rfl⟩ := ha; exact ⟨rfl, by simp⟩
  · obtain ⟨l, _, _, rfl, _⟩ := ha; exact ⟨rfl, by simp⟩
  · obtain ⟨_, _, rfl⟩ := ha; exact ⟨rfl, by simp⟩
  · obtain ⟨l, _, rfl⟩ := ha; exact ⟨rfl, by simp⟩
  · obtain ⟨_, _, rfl, _⟩ := ha; exact ⟨rfl, by simp⟩
  · obtain ⟨_, rfl, _⟩ := ha; exact ⟨rfl, by simp⟩
theorem nilish_ref {a : AV} {x : Value} (ha : VR σ a x) (h : nilish a = true) : refV x = true := by
  unfold nilish at h
  split at h
  all_goals first
    | (simp only [VR] at ha; subst ha; rfl)
    | cases h
theorem guard_run {op : BinOp} {t : TypeId} {p q : Operand} {x y : Value} (hx : refV x = true) (hy : refV y = true) (hxy : ¬ (x = .nilIface ∧ y = .nilIface)) (w : World) :
    (eqGuard op t p q x y).run P w = .ok () w := by
  unfold eqGuard
  cases op <;> first
    | rfl
    | (cases x <;> simp only [refV, Bool.false_eq_true] at hx <;> cases y <;> simp only [refV, Bool.false_eq_true] at hy <;> first | rfl | exact absurd ⟨rfl, rfl⟩ hxy)
theorem binOp_eql {t : TypeId} {x y : Value} (hx : refV x = true) (hy : refV y = true) : binOp .eql t x y = (do pure (.bool (← Op.equal t x y)) : Sem Value) := by
  cases x <;> simp only [refV, Bool.false_eq_true] at hx <;> cases y <;> simp only [refV, Bool.false_eq_true] at hy <;> rfl
theorem binOp_neq {t : TypeId} {x y : Value} (hx : refV x = true) (hy : refV y = true) : binOp .neq t x y = (do pure (.bool (!(← Op.equal t x y))) : Sem Value) := by
  cases x <;> simp only [refV, Bool.false_eq_true] at hx <;> cases y <;> simp only [refV, Bool.false_eq_true] at hy <;> rfl
theorem binOpA_out {T : Tr TInfo} (hT : TOK P T) (g : Good σ H nx w) {op : BinOp} {t : TypeId} {p q : Operand} {a b v : AV} {x y : Value} (ha : VR σ a x) (hb : VR σ b y)
    (h : binOpA P T op t p q a b = some v) : Out P σ H nx w v H nx (do eqGuard op t p q x y; binOp op t x y) := by
  unfold binOpA at h
  split at h
  · rename_i u hu
    injection h with h; subst h
    exact plain2_out g ha hb hu
  · split at h
    · rename_i hs
      simp only [Bool.or_eq_true, Bool.and_eq_true] at hs
      have hx : refV x = true := by
        rcases hs with ⟨h1, _⟩ | ⟨h1, _⟩
        · exact (addrish_ref ha h1).1
        · exact nilish_ref ha h1
      have hy : refV y = true := by
        rcases hs with ⟨_, h1 | h1⟩ | ⟨_, h1⟩
        · exact (addrish_ref hb h1).1
        · exact nilish_ref hb h1
        · exact (addrish_ref hb h1).1
      have hxy : ¬ (x = .nilIface ∧ y = .nilIface) := by
        rintro ⟨rfl, rfl⟩
        rcases hs with ⟨h1, _⟩ | ⟨_, h1⟩
        · exact (addrish_ref ha h1).2 rfl
        · exact (addrish_ref hb h1).2 rfl
      refine Out.bind (guard_run hx hy hxy w) ?_
      split at h
      · simp only [Option.map_eq_some_iff] at h
        obtain ⟨r, hr, rfl⟩ := h
        rw [binOp_eql hx hy]
        exact Out.bind (eqOp_run hT ha hb hr w 9999) (Out.pure g (by simp [VR]))
      · simp only [Option.map_eq_some_iff] at h
        obtain ⟨r, hr, rfl⟩ := h
        rw [binOp_neq hx hy]
        exact Out.bind (eqOp_run hT ha hb hr w 9999) (Out.pure g (by simp [VR]))
      · cases h
    · cases h
end CI
noncomputable section
namespace CI
open Go
variable {P : Program} {σ σ' : Sig} {H H' : Heap} {nx nx' : Nat} {w w' : World}
theorem next_le {need cap : Nat} (h : cap < need) : Builtin.nextslicecap need cap ≤ 2 * need + 1000 := by
  unfold Builtin.nextslicecap
  split
  · omega
  · split
    · omega
    · simp only [Builtin.growBy]
      repeat' split
      all_goals omega
def srcCells (H : Heap) (sz : Nat) : AV → Option (Nat × List AV)
  | .lit (.slice none n _) => if n = 0 then some (0, []) else none
  | .lit (.string s) => if sz = 1 then some (s.size, s.data.toList.map fun b => .lit (.int .u8 b.toNat)) else none
  | .eslice => some (0, [])
  | .slice b o n _ esz =>
    match H.get b with
    | some (.cells cs _ _) => if esz = sz then (cut cs o (n * sz)).map fun l => (n, l) else none
    | _ => none
  | _ => none
theorem srcCells_run (s : Sim σ H w) {sz : Nat} {a : AV} {x : Value} {m : Nat} {vs : List AV} (ha : VR σ a x) (h : srcCells H sz a = some (m, vs)) :
    (Builtin.lenOf x).run P w = .ok m w ∧ ∃ xs, (Builtin.firstCells sz m x).run P w = .ok xs.toArray w ∧ VRs σ vs xs ∧ xs.length = m * sz := by
  unfold srcCells at h
  split at h
  · rename_i n c
    split at h
    · rename_i hn
      simp only [VR] at ha; subst ha; subst hn
      injection h with h; injection h with h1 h2; subst h1; subst h2
      exact ⟨rfl, [], rfl, by simp [VRs], by simp⟩
    · cases h
  · rename_i st
    split at h
    · rename_i hn
      simp only [VR] at ha; subst ha; subst hn
      injection h with h; injection h with h1 h2; subst h1; subst h2
      refine ⟨rfl, st.data.toList.map fun b => .int .u8 b.toNat, ?_, ?_, ?_⟩
      · simp [Builtin.firstCells]
        rw [← Array.toList_map, Array.toArray_toList]
      · have := VRs.lits (σ := σ) (st.data.toList.map fun b => Value.int .u8 b.toNat)
        rw [List.map_map] at this
        exact this
      · simp
    · cases h
  · injection h with h; injection h with h1 h2; subst h1; subst h2
    simp only [VR] at ha
    obtain ⟨p, c, rfl⟩ := ha
    refine ⟨rfl, [], ?_, by simp [VRs], by simp⟩
    simp [Builtin.firstCells, loadCells, loadCellsFrom]
  · rename_i b o n c esz
    split at h
    · rename_i cs t ro hb
      split at h
      · subst_vars
        simp only [Option.map_eq_some_iff, Prod.mk.injEq] at h
        obtain ⟨l', hcut, rfl, rfl⟩ := h
        simp only [VR] at ha
        obtain ⟨l, c', hl, rfl, hs⟩ := ha
        obtain ⟨xs, h1, h2, h3⟩ := s.cells hb hl hcut
        refine ⟨rfl, xs, ?_, h1, h2⟩
        simp only [Builtin.firstCells]
        exact run_loadCells ⟨l.blk, l.base + o, none⟩ rfl _ xs h2 h3
      · cases h
    · cases h
  · cases h
def isIntD : TypeDesc → Bool
  | .int _ => true
  | _ => false
theorem run_append_fits {t1 t2 ty : TypeId} {e : TypeId} {d2 : TypeDesc} {einfo : TypeInfo} (h1 : P.underlying t1 = some (.slice e)) (h2 : P.underlying t2 = some d2) (h2i : isIntD d2 = false)
    (he : P.info? e = some einfo) {base : Option Addr} {n c m : Nat} {x : Value} {xs : List Value} (hl : (Builtin.lenOf x).run P w = .ok m w)
    (hx : (Builtin.firstCells einfo.size m x).run P w = .ok xs.toArray w) (hfit : n + m ≤ c) {w' : World}
    (hst : ∀ a, base = some a → (storeCells (a.add (n * einfo.size)) xs).run P w = .ok () w') (hno : base = none → w' = w) :
    (Builtin.append_ #[t1, t2] ty #[.slice base n c, x]).run P w = .ok (.slice base (n + m) c) w' := by
  unfold Builtin.append_
  simp only [List.getElem?_toArray, List.getElem?_cons_zero, List.getElem?_cons_succ]
  rw [run_bind_ok (run_under h1 w)]
  simp only
  rw [run_bind_ok (run_sizeOf he w)]
  rw [run_bind_ok (run_under h2 w), run_bind_ok (a := false) (w' := w) (by cases d2 <;> first | rfl | (simp [isIntD] at h2i))]
  rw [if_neg (by simp), run_bind_ok hl, if_pos hfit, run_bind_ok (a := xs.toArray) (w' := w) (by rw [if_pos (by simp)]; exact hx)]
  cases base with
  | none =>
    simp only
    have := hno rfl
    subst this
    rfl
  | some a =>
    simp only
    rw [run_bind_ok (hst a rfl)]
    rfl
theorem run_askRoom (n : Nat) (w : World) : (askRoom n).run P w = .ok () w := by
  unfold askRoom
  split
  · simp [mark, Sem.run]
  · rfl
theorem zeroCells_size (zero : Array Value) (n : Nat) : (Builtin.zeroCells zero n).size = n * zero.size := by simp [Builtin.zeroCells]
theorem run_append_moves {t1 t2 ty : TypeId} {e : TypeId} {d2 : TypeDesc} {einfo : TypeInfo} {z : Value} (h1 : P.underlying t1 = some (.slice e)) (h2 : P.underlying t2 = some d2) (h2i : isIntD d2 = false)
    (he : P.info? e = some einfo) (hz : einfo.zero = some z) {base : Option Addr} {n c m : Nat} {x : Value} {xs ys : List Value} (hl : (Builtin.lenOf x).run P w = .ok m w)
    (hx : (Builtin.firstCells einfo.size m x).run P { w with drawn := w.drawn + 1 } = .ok xs.toArray { w with drawn := w.drawn + 1 }) (hnofit : c < n + m) (hlim : (2 * (n + m) + 1000) * einfo.bytes ≤ 140737488355328) (h0 : 0 < einfo.bytes)
    (hy : (Builtin.firstCells einfo.size n (.slice base n c)).run P { w with drawn := w.drawn + 1 } = .ok ys.toArray { w with drawn := w.drawn + 1 }) :
    ∃ k w', n + m ≤ k ∧ (Builtin.append_ #[t1, t2] ty #[.slice base n c, x]).run P w = .ok (.slice (some ⟨w.heap.size, 0, none⟩) (n + m) k) w' ∧
      w'.heap = w.heap.push (.cells (ys ++ xs ++ (Builtin.zeroCells z.cells (k - (n + m))).toList).toArray e) ∧ w'.os = w.os ∧ w'.tape = w.tape ∧ w'.output = w.output := by
  have hk := next_le hnofit
  have hbig : Builtin.nextslicecap (n + m) c * einfo.bytes ≤ 140737488355328 := Nat.le_trans (Nat.mul_le_mul_right _ hk) hlim
  have hsmall : n + m ≤ 140737488355328 := by
    have : (n + m) * 1 ≤ (2 * (n + m) + 1000) * einfo.bytes := Nat.mul_le_mul (by omega) h0
    omega
  refine ⟨(n + m) + (w.tape w.drawn (.appendCap (n + m) c e)) % (2 ^ 63 - (n + m)), { w with drawn := w.drawn + 1, heap := w.heap.push (.cells (ys ++ xs ++ (Builtin.zeroCells z.cells ((n + m) + (w.tape w.drawn (.appendCap (n + m) c e)) % (2 ^ 63 - (n + m)) - (n + m))).toList).toArray e) }, by omega, ?_, rfl, rfl, rfl, rfl⟩
  unfold Builtin.append_
  simp only [List.getElem?_toArray, List.getElem?_cons_zero, List.getElem?_cons_succ]
  rw [run_bind_ok (run_under h1 w)]
  simp only
  rw [run_bind_ok (run_sizeOf he w)]
  rw [run_bind_ok (run_under h2 w), run_bind_ok (a := false) (w' := w) (by cases d2 <;> first | rfl | (simp [isIntD] at h2i))]
  rw [if_neg (by simp), run_bind_ok hl, if_neg (by omega), run_bind_ok (run_tinfo he w), if_neg (by
    rintro ⟨_, hb | hb⟩
    · cases hb
    · omega), run_bind_ok (run_tinfo he w), if_neg (by omega)]
  rw [run_bind_ok (a := (n + m) + (w.tape w.drawn (.appendCap (n + m) c e)) % (2 ^ 63 - (n + m))) (w' := { w with drawn := w.drawn + 1 }) (by
    simp [choose, Sem.run, Question.forced, Question.cut])]
  rw [run_bind_ok (run_tinfo he _), run_bind_ok (run_askRoom _ _), run_bind_ok hy]
  rw [run_bind_ok (a := xs.toArray) (w' := { w with drawn := w.drawn + 1 }) (by rw [if_pos (by simp)]; exact hx)]
  rw [run_bind_ok (run_zero he hz _)]
  rw [run_bind_ok (a := (⟨w.heap.size, 0, none⟩ : Addr)) (w' := { w with drawn := w.drawn + 1, heap := w.heap.push (.cells (ys ++ xs ++ (Builtin.zeroCells z.cells ((n + m) + (w.tape w.drawn (.appendCap (n + m) c e)) % (2 ^ 63 - (n + m)) - (n + m))).toList).toArray e) }) (by
    simp only [newRow]
    rw [run_bind_ok (a := w.heap.size) (w' := { w with drawn := w.drawn + 1, heap := w.heap.push (.cells (ys ++ xs ++ (Builtin.zeroCells z.cells ((n + m) + (w.tape w.drawn (.appendCap (n + m) c e)) % (2 ^ 63 - (n + m)) - (n + m))).toList).toArray e) })]
    · rfl
    · rw [show ∀ Z : Array Value, ys.toArray ++ xs.toArray ++ Z = (ys ++ xs ++ Z.toList).toArray from fun Z => by simp]
      rfl)]
  rfl
def appLim (n m bs : Nat) : Bool := decide ((2 * (n + m) + 1000) * bs ≤ 140737488355328 ∧ 0 < bs)
def appendOp (T : Tr TInfo) (H : Heap) (nx : Nat) (t1 : TypeId) (s : AV) (t2 : TypeId) (x : AV) : Res :=
  match T.get t1 with
  | some { desc := .slice e, .. } =>
    match T.get e, T.get t2 with
    | some { size := sz, bytes := bs, zero := some _, .. }, some xi =>
      if isIntD xi.desc then none else
      match srcCells H sz x with
      | none => none
      | some (m, new) =>
        match s with
        | .lit (.slice none 0 0) =>
          if m = 0 then some (s, H, nx) else if appLim 0 m bs then some (.slice nx 0 m none sz, H.put nx (some (.cells new e false)), nx + 1) else none
        | .slice b o n c esz =>
          if m = 0 then some (s, H, nx) else
          if esz ≠ sz ∨ sz = 0 then none else
          match H.get b with
          | some (.cells cs tb ro) =>
            let inplace : Res :=
              if o + (n + m) * sz ≤ cs.length ∧ ro = false ∧ new.all one = true then some (.slice b o (n + m) c sz, H.put b (some (.cells (overA cs (o + n * sz) new) tb ro)), nx) else none
            match c with
            | some k =>
              if n + m ≤ k then inplace else
              match cut cs o (n * sz) with
              | some old => if appLim n m bs then some (.slice nx 0 (n + m) none sz, H.put nx (some (.cells (old ++ new) e false)), nx + 1) else none
              | none => none
            | none =>
              if o + (n + m) * sz ≤ cs.length then inplace else
              match cut cs o (n * sz) with
              | some old => if appLim n m bs ∧ ro = false ∧ tb = e ∧ new.all one = true ∧ o = 0 then some (.slice nx 0 (n + m) none sz, (H.put b none).put nx (some (.cells (old ++ new) e false)), nx + 1) else none
              | none => none
          | _ => none
        | _ => none
    | _, _ => none
  | _ => none
theorem Out.draw_alloc (g : Good σ H nx w) {cs : List AV} {C : List Value} {rest : List Value} {e : TypeId} {n k sz : Nat} (hC : VRs σ cs C) (hsz : C.length = n * sz) (hk : n ≤ k) (hr : rest.length = (k - n) * sz)
    (hw : w'.heap = w.heap.push (.cells (C ++ rest).toArray e)) (h1 : w'.os = w.os) (h2 : w'.tape = w.tape) (h3 : w'.output = w.output) :
    ∃ σ', VR σ' (.slice nx 0 n none sz) (.slice (some ⟨w.heap.size, 0, none⟩) n k) ∧ Step σ H nx w σ' (H.put nx (some (.cells cs e false))) (nx + 1) w' ∧ Good σ' (H.put nx (some (.cells cs e false))) (nx + 1) w' := by
  have hl := hC.length
  have ht : (C ++ rest).length = k * sz := by
    rw [List.length_append, hsz, hr, ← Nat.add_mul]; congr 1; omega
  have := alloc_step (w' := w') g (o := .cells cs e false) (O := .cells (C ++ rest).toArray e) (room := k * sz) hw h1 h2 h3
    ⟨(C ++ rest).toArray, (0, 0), rfl, by simpa using ht, by
      simp only [Nat.zero_add, Loc.base_eq]; rw [← hl, ← ht]; simp, fun i v hi => by
      obtain ⟨x, hx, hv⟩ := hC.get? hi
      exact ⟨x, by
        have hlt : i < C.length := by
          rcases Nat.lt_or_ge i C.length with h | h
          · exact h
          · rw [List.getElem?_eq_none h] at hx; cases hx
        simpa [List.getElem?_append_left hlt, Loc.base_eq] using hx, hv⟩, fun _ i _ => by simp⟩
  refine ⟨_, ?_, this.1, this.2⟩
  simp only [VR]
  exact ⟨_, k, Sig.upd_same _ _ _, rfl, hk, by simp [Loc.base_eq], by simp [Loc.base_eq]⟩
theorem appendOp_out {T : Tr TInfo} (hT : TOK P T) (g : Good σ H nx w) {t1 t2 ty : TypeId} {s x v : AV} {sv xv : Value} (hs : VR σ s sv) (hx : VR σ x xv)
    (h : appendOp T H nx t1 s t2 x = some (v, H', nx')) : Out P σ H nx w v H' nx' (Builtin.append_ #[t1, t2] ty #[sv, xv]) := by
  unfold appendOp at h
  split at h
  rotate_left
  · cases h
  rename_i e sz1 by1 ag1 ze1 ps1 h1
  split at h
  rotate_left
  · cases h
  rename_i d sz bs ag z ps xi he h2
  split at h
  · cases h
  rename_i hint
  have hint' : isIntD xi.desc = false := by simpa using hint
  have F1 := (hT _ _ h1).under
  have F2 := (hT _ _ h2).under
  obtain ⟨info, e1, e2, e3, e4⟩ := (hT _ _ he).info
  have hzs := (hT _ _ he).zsize
  simp only at e2 e3 e4 hzs F1
  have hzsz : z.cells.size = sz := hzs z rfl
  split at h
  · cases h
  rename_i m new hsrc
  have gd : Good σ H nx { w with drawn := w.drawn + 1 } := g.draw rfl
  obtain ⟨hl, xs, hxs, hnew, hlen⟩ := srcCells_run (P := P) g.toSim hx hsrc
  obtain ⟨_, xs1, hxs1, hnew1, hlen1⟩ := srcCells_run (P := P) gd.toSim hx hsrc
  have lim : ∀ n, appLim n m bs = true → (2 * (n + m) + 1000) * info.bytes ≤ 140737488355328 ∧ 0 < info.bytes := fun n hh => by
    rw [e3]; simpa [appLim] using hh
  split at h
  · -- nil
    simp only [VR] at hs
    subst hs
    split at h
    · rename_i hm
      subst hm
      simp only [Option.some.injEq, Prod.mk.injEq] at h
      obtain ⟨rfl, rfl, rfl⟩ := h
      exact Out.same g (run_append_fits F1 F2 hint' e1 hl (by rw [e2]; exact hxs) (Nat.le_refl _) (fun a ha => by cases ha) (fun _ => rfl)) (by simp [VR])
    · rename_i hm
      split at h
      · rename_i hlim
        simp only [Option.some.injEq, Prod.mk.injEq] at h
        obtain ⟨rfl, rfl, rfl⟩ := h
        obtain ⟨k, w', hk, hr, hw, q1, q2, q3⟩ := run_append_moves (ty := ty) (ys := []) F1 F2 hint' e1 e4 hl (by rw [e2]; exact hxs1) (c := 0) (n := 0) (base := none) (by omega) (lim 0 hlim).1 (lim 0 hlim).2 rfl
        simp only [Nat.zero_add, List.nil_append] at hk hr hw
        obtain ⟨σ', r1, r2, r3⟩ := Out.draw_alloc g hnew1 hlen1 hk (by rw [Array.length_toList, zeroCells_size, hzsz]) hw q1 q2 q3
        exact ⟨_, w', σ', hr, r1, r2, r3⟩
      · cases h
  · rename_i b o n c esz
    have hs0 := hs
    simp only [VR] at hs
    obtain ⟨l, c', hlb, rfl, hok1, hok2, hok3⟩ := hs
    split at h
    · rename_i hm
      subst hm
      simp only [Option.some.injEq, Prod.mk.injEq] at h
      obtain ⟨rfl, rfl, rfl⟩ := h
      have hx0 : xs = [] := List.eq_nil_of_length_eq_zero (by simpa using hlen)
      subst hx0
      exact Out.same g (run_append_fits F1 F2 hint' e1 hl (by rw [e2]; exact hxs) hok1 (fun a ha => by simp [storeCells]) (fun _ => rfl)) (by simpa using hs0)
    rename_i hm
    split at h
    · cases h
    rename_i hesz
    obtain ⟨rfl, hsz0⟩ : esz = sz ∧ sz ≠ 0 := by
      constructor
      · rcases Decidable.em (esz = sz) with hh | hh
        · exact hh
        · exact absurd (.inl hh) hesz
      · exact fun hh => hesz (.inr hh)
    split at h
    rotate_left
    · cases h
    rename_i cs tb ro hb
    simp only at h
    have inplace : ∀ {v H' nx'}, (if o + (n + m) * esz ≤ cs.length ∧ ro = false ∧ new.all one = true then some (AV.slice b o (n + m) c esz, H.put b (some (.cells (overA cs (o + n * esz) new) tb ro)), nx) else none) = some (v, H', nx') →
        n + m ≤ c' → Out P σ H nx w v H' nx' (Builtin.append_ #[t1, t2] ty #[.slice (some ⟨l.blk, l.base + o, none⟩) n c', xv]) := by
      intro v H' nx' hh hfit
      split at hh
      · rename_i hc
        obtain ⟨c1, rfl, c3⟩ := hc
        simp only [Option.some.injEq, Prod.mk.injEq] at hh
        obtain ⟨rfl, rfl, rfl⟩ := hh
        have hnl := hnew.length
        obtain ⟨w', hst, s1, s2⟩ := store_out (P := P) g hb hlb (o := o + n * esz) hnew (by rw [← hnl, hlen, Nat.add_assoc, ← Nat.add_mul]; exact c1) c3
        refine ⟨_, w', σ, run_append_fits F1 F2 hint' e1 hl (by rw [e2]; exact hxs) hfit (fun a ha => ?_) (fun hh => by cases hh), ?_, s1, s2⟩
        · injection ha with ha; subst ha
          rw [add_addr _ _ rfl, e2, Nat.add_assoc]
          exact hst
        · simp only [VR]
          exact ⟨l, c', hlb, rfl, hfit, hok2, hok3⟩
      · cases hh
    obtain ⟨C, fz, hCe, hC1, hC2, hC3, hC4⟩ := g.obj b _ l hb hlb
    have moves : ∀ {old : List AV}, cut cs o (n * esz) = some old → appLim n m bs = true → c' < n + m →
        ∃ k w' σ', (Builtin.append_ #[t1, t2] ty #[.slice (some ⟨l.blk, l.base + o, none⟩) n c', xv]).run P w = .ok (.slice (some ⟨w.heap.size, 0, none⟩) (n + m) k) w' ∧
          VR σ' (.slice nx 0 (n + m) none esz) (.slice (some ⟨w.heap.size, 0, none⟩) (n + m) k) ∧ Step σ H nx w σ' (H.put nx (some (.cells (old ++ new) e false))) (nx + 1) w' ∧
          Good σ' (H.put nx (some (.cells (old ++ new) e false))) (nx + 1) w' := by
      intro old hcut hlim hno
      obtain ⟨ys, hy1, hy2, hy3⟩ := gd.toSim.cells hb hlb hcut
      obtain ⟨k, w', hk, hr, hw, q1, q2, q3⟩ := run_append_moves (ty := ty) (ys := ys) (n := n) (c := c') (base := some ⟨l.blk, l.base + o, none⟩) F1 F2 hint' e1 e4 hl (by rw [e2]; exact hxs1) hno (lim n hlim).1 (lim n hlim).2
        (by simp only [Builtin.firstCells]; rw [e2]; exact run_loadCells ⟨l.blk, l.base + o, none⟩ rfl _ ys hy2 hy3)
      obtain ⟨σ', r1, r2, r3⟩ := Out.draw_alloc g (hy1.append hnew1) (n := n + m) (by rw [List.length_append, hy2, hlen1, ← Nat.add_mul]) hk (by rw [Array.length_toList, zeroCells_size, hzsz]) hw q1 q2 q3
      exact ⟨k, w', σ', hr, r1, r2, r3⟩
    split at h
    · rename_i k
      simp only at hok3
      subst hok3
      split at h
      · rename_i hfit
        exact inplace h hfit
      · rename_i hfit
        split at h
        · rename_i old hcut
          split at h
          · rename_i hlim
            simp only [Option.some.injEq, Prod.mk.injEq] at h
            obtain ⟨rfl, rfl, rfl⟩ := h
            obtain ⟨k, w', σ', hr, r1, r2, r3⟩ := moves hcut hlim (by omega)
            exact ⟨_, w', σ', hr, r1, r2, r3⟩
          · cases h
        · cases h
    · simp only at hok3
      split at h
      · rename_i hfit
        refine inplace h ?_
        have : (n + m) * esz ≤ c' * esz := by omega
        exact Nat.le_of_mul_le_mul_right this (by omega)
      · rename_i hfit
        split at h
        · rename_i old hcut
          split at h
          · rename_i hc
            obtain ⟨hlim, rfl, rfl, hone, rfl⟩ := hc
            simp only [Option.some.injEq, Prod.mk.injEq] at h
            obtain ⟨rfl, rfl, rfl⟩ := h
            obtain ⟨k1, k2⟩ := kill_step g hb rfl hlb
            by_cases hfit' : n + m ≤ c'
            · -- it had room: the new name takes the memory over
              have hnl := hnew.length
              have hroom : (n + m) * esz ≤ c' * esz := Nat.mul_le_mul_right _ hfit'
              rw [Nat.add_mul] at hroom
              obtain ⟨w', hr, hh, hoth, hz, q1, q2, q3⟩ := run_storeCells (P := P) ⟨l.blk, l.base + 0 + n * esz, none⟩ rfl xs 0 w C tb fz hCe (by simp <;> omega) (one_VRs hnew hone) (fun j hj => hC4 rfl j (by omega))
              simp only [Nat.add_zero] at hh
              have hcutl : 0 + n * esz ≤ cs.length ∧ old = (cs.drop 0).take (n * esz) := by
                unfold cut at hcut
                split at hcut
                · injection hcut with hcut; exact ⟨‹_›, hcut.symm⟩
                · cases hcut
              obtain ⟨hco, rfl⟩ := hcutl
              have hol : ((cs.drop 0).take (n * esz)).length = n * esz := by simp <;> omega
              have tk := take_step (w' := w') (l' := ⟨l.blk, l.room⟩) (o' := .cells ((cs.drop 0).take (n * esz) ++ new) tb false) g hb rfl hlb rfl hz (fun k hk => hoth k hk) q1 q2 q3 (by
                refine ⟨_, fz, hh, by simp [over_length, hC1], by rw [List.length_append, hol]; simp only [Loc.base_eq]; simp only [Loc.base_eq] at hC2 hok2 hroom; omega, fun i v hi => ?_, fun _ => hC4 rfl⟩
                simp only [Loc.base_eq, Nat.zero_add]
                rw [List.getElem?_toArray, over_get _ _ _ _ (by simp <;> omega)]
                by_cases hin : i < n * esz
                · rw [List.getElem?_append_left (by rw [hol]; exact hin), List.getElem?_take, if_pos hin, List.getElem?_drop] at hi
                  rw [if_neg (by (try simp only [Loc.base_eq]); omega), Array.getElem?_toList]
                  obtain ⟨x, hx, hv⟩ := hC3 _ _ hi
                  exact ⟨x, by rw [← hx]; first | (congr 1; done) | (congr 1; omega) | (congr 1; simp only [Loc.base_eq]; omega), hv⟩
                · rw [List.getElem?_append_right (by rw [hol]; omega), hol] at hi
                  obtain ⟨x, hx, hv⟩ := hnew.get? hi
                  have hlt : i - n * esz < xs.length := by
                    rcases Nat.lt_or_ge (i - n * esz) xs.length with h | h
                    · exact h
                    · rw [List.getElem?_eq_none h] at hx; cases hx
                  exact ⟨x, by rw [if_pos (by (try simp only [Loc.base_eq]); omega), ← hx] <;> first | (congr 1; done) | (congr 1; omega) | (congr 1; simp only [Loc.base_eq]; omega), hv⟩)
              refine ⟨_, w', _, run_append_fits F1 F2 hint' e1 hl (by rw [e2]; exact hxs) hfit' (fun a ha => ?_) (fun hh => by cases hh), ?_, tk.1, tk.2⟩
              · injection ha with ha; subst ha
                rw [add_addr _ _ rfl, e2]
                exact hr
              · simp only [VR]
                exact ⟨_, c', Sig.upd_same _ _ _, rfl, hfit', by simpa using hok2, by simpa using hok3⟩
            · -- it had none
              obtain ⟨ys, hy1, hy2, hy3⟩ := gd.toSim.cells hb hlb hcut
              obtain ⟨k, w', hk, hr, hw, q1, q2, q3⟩ := run_append_moves (ty := ty) (ys := ys) (n := n) (c := c') (base := some ⟨l.blk, l.base + 0, none⟩) F1 F2 hint' e1 e4 hl (by rw [e2]; exact hxs1) (by omega) (lim n hlim).1 (lim n hlim).2
                (by simp only [Builtin.firstCells]; rw [e2]; exact run_loadCells ⟨l.blk, l.base + 0, none⟩ rfl _ ys hy2 hy3)
              obtain ⟨σ', r1, r2, r3⟩ := Out.draw_alloc k2 (hy1.append hnew1) (n := n + m) (by rw [List.length_append, hy2, hlen1, ← Nat.add_mul]) hk (by rw [Array.length_toList, zeroCells_size, hzsz]) hw q1 q2 q3
              exact ⟨_, w', σ', hr, r1, Step.trans g k1 r2, r3⟩
          · cases h
        · cases h
  · cases h
end CI
