/- CI, part f: slices cut and appended to, comparisons, conversions. -/
import Derived.Test.YtdkicjlbfhmfkaaGreatDoorCie
set_option linter.unusedVariables false
set_option linter.unusedSimpArgs false
noncomputable section
namespace CI
open Go

variable {P : Program} {σ σ' : Sig} {H H' : Heap} {nx nx' : Nat} {w w' : World}

def nilCheckOp : AV → Option AV
  | .lit (.pointer none) => none
  | .lit .nilIface => none
  | .lit .nilFunc => none
  | .lit (.func ..) => none
  | .func (.func f) a b => some (.func (.func f) a b)
  | .func .. => none
  | v => some v

/-! ### comparisons with nil, of pointers -/
def eqOp (T : Tr TInfo) (t : TypeId) (a b : AV) : Option Bool :=
  match T.get t with
  | none => none
  | some i =>
    match i.desc, a, b with
    | .pointer _, .ptr _ _, .lit (.pointer none) => some false
    | .pointer _, .lit (.pointer none), .ptr _ _ => some false
    | .pointer e, .ptr b o, .ptr b' o' =>
      match T.get e with
      | some ei => if b = b' ∧ ei.size ≠ 0 then some (decide (o = o')) else none
      | none => none
    | .slice _, .slice .., .lit (.slice none _ _) => some false
    | .slice _, .eslice, .lit (.slice none _ _) => some false
    | .slice _, .lit (.slice none _ _), .slice .. => some false
    | .map _ _, .map _, .lit (.map none) => some false
    | .map _ _, .lit (.map none), .map _ => some false
    | .func _ _ _, .func .., .lit .nilFunc => some false
    | .func _ _ _, .lit .nilFunc, .func .. => some false
    | .interface _, .iface .., .lit .nilIface => some false
    | .interface _, .lit .nilIface, .iface .. => some false
    | _, _, _ => none

theorem eqOp_run {T : Tr TInfo} (hT : TOK P T) {t : TypeId} {a b : AV} {x y : Value} {r : Bool} (ha : VR σ a x) (hb : VR σ b y) (h : eqOp T t a b = some r) (w : World) (depth : Nat) :
    (Op.equalIn (depth + 1) t x y).run P w = .ok r w := by
  unfold eqOp at h
  split at h
  · cases h
  · rename_i i hi
    have F := hT _ _ hi
    have hu := F.under
    split at h
    case h_13 => cases h
    all_goals
      rename_i hd
      rw [hd] at hu
      simp only [VR] at ha hb
    · obtain ⟨l, _, rfl⟩ := ha; subst hb; injection h with h; subst h
      rw [Op.equalIn, run_bind_ok (run_under hu w)]; rfl
    · obtain ⟨l, _, rfl⟩ := hb; subst ha; injection h with h; subst h
      rw [Op.equalIn, run_bind_ok (run_under hu w)]; rfl
    · obtain ⟨l, hl, rfl⟩ := ha; obtain ⟨l', hl', rfl⟩ := hb
      split at h
      · rename_i ei he
        split at h
        · rename_i hc
          obtain ⟨rfl, hne⟩ := hc
          injection h with h; subst h
          rw [hl] at hl'; injection hl' with hl'; subst hl'
          obtain ⟨info, e1, e2, e3, e4⟩ := (hT _ _ he).info
          rw [Op.equalIn, run_bind_ok (run_under hu w)]
          simp only
          rw [run_bind_ok (run_sizeOf e1 w), e2, if_pos hne]
          simp only [sameAddr, beq_self_eq_true, if_true]
          simp only [run_pure', Result.ok.injEq, and_true]
          rw [Bool.eq_iff_iff, beq_iff_eq, decide_eq_true_iff, Addr.mk.injEq]
          constructor
          · rintro ⟨_, h, _⟩; omega
          · rintro rfl; exact ⟨rfl, rfl, rfl⟩
        · cases h
      · cases h
    · obtain ⟨l, c, _, rfl, _⟩ := ha; subst hb; injection h with h; subst h
      rw [Op.equalIn, run_bind_ok (run_under hu w)]; rfl
    · obtain ⟨a', c, rfl⟩ := ha; subst hb; injection h with h; subst h
      rw [Op.equalIn, run_bind_ok (run_under hu w)]; rfl
    · obtain ⟨l, c, _, rfl, _⟩ := hb; subst ha; injection h with h; subst h
      rw [Op.equalIn, run_bind_ok (run_under hu w)]; rfl
    · obtain ⟨l, _, rfl⟩ := ha; subst hb; injection h with h; subst h
      rw [Op.equalIn, run_bind_ok (run_under hu w)]; rfl
    · obtain ⟨l, _, rfl⟩ := hb; subst ha; injection h with h; subst h
      rw [Op.equalIn, run_bind_ok (run_under hu w)]; rfl
    · obtain ⟨_, _, rfl, _⟩ := ha; subst hb; injection h with h; subst h
      rw [Op.equalIn, run_bind_ok (run_under hu w)]; rfl
    · obtain ⟨_, _, rfl, _⟩ := hb; subst ha; injection h with h; subst h
      rw [Op.equalIn, run_bind_ok (run_under hu w)]; rfl
    · obtain ⟨_, rfl, _⟩ := ha; subst hb; injection h with h; subst h
      rw [Op.equalIn, run_bind_ok (run_under hu w)]; rfl
    · obtain ⟨_, rfl, _⟩ := hb; subst ha; injection h with h; subst h
      rw [Op.equalIn, run_bind_ok (run_under hu w)]; rfl

/-- Is neither side a number or the like: then the comparison is made by Op.equal at once, without a guard. -/
def addrish : AV → Bool
  | .ptr .. | .slice .. | .eslice | .map .. | .func .. | .iface .. => true
  | _ => false
def nilish : AV → Bool
  | .lit (.pointer none) | .lit (.slice none _ _) | .lit (.map none) | .lit .nilFunc | .lit .nilIface => true
  | _ => false

def binOpA (P : Program) (T : Tr TInfo) (op : BinOp) (t : TypeId) (x y : Operand) (a b : AV) : Option AV :=
  match plain2 P (fun p q => do eqGuard op t x y p q; binOp op t p q) a b with
  | some v => some v
  | none =>
    if (addrish a && (addrish b || nilish b)) || (nilish a && addrish b) then
      match op with
      | .eql => (eqOp T t a b).map fun r => .lit (.bool r)
      | .neq => (eqOp T t a b).map fun r => .lit (.bool !r)
      | _ => none
    else none

/-- A value that is compared by Op.equal at once. -/
def refV : Value → Bool
  | .pointer _ | .slice .. | .map _ | .func .. | .iface .. | .nilFunc | .nilIface => true
  | _ => false
theorem addrish_ref {a : AV} {x : Value} (ha : VR σ a x) (h : addrish a = true) : refV x = true ∧ x ≠ .nilIface := by
  cases a <;> simp only [addrish, Bool.false_eq_true] at h <;> simp only [VR] at ha
  · obtain ⟨l, _, rfl⟩ := ha; exact ⟨rfl, by simp⟩
  · obtain ⟨l, _, _, rfl, _⟩ := ha; exact ⟨rfl, by simp⟩
  · obtain ⟨_, _, rfl⟩ := ha; exact ⟨rfl, by simp⟩
  · obtain ⟨l, _, rfl⟩ := ha; exact ⟨rfl, by simp⟩
  · obtain ⟨_, _, rfl, _⟩ := ha; exact ⟨rfl, by simp⟩
  · obtain ⟨_, rfl, _⟩ := ha; exact ⟨rfl, by simp⟩
theorem nilish_ref {a : AV} {x : Value} (ha : VR σ a x) (h : nilish a = true) : refV x = true := by
  unfold nilish at h
  split at h
  all_goals first
    | (simp only [VR] at ha; subst ha; rfl)
    | cases h
theorem guard_run {op : BinOp} {t : TypeId} {p q : Operand} {x y : Value} (hx : refV x = true) (hy : refV y = true) (hxy : ¬ (x = .nilIface ∧ y = .nilIface)) (w : World) :
    (eqGuard op t p q x y).run P w = .ok () w := by
  unfold eqGuard
  cases op <;> first
    | rfl
    | (cases x <;> simp only [refV, Bool.false_eq_true] at hx <;> cases y <;> simp only [refV, Bool.false_eq_true] at hy <;> first | rfl | exact absurd ⟨rfl, rfl⟩ hxy)
theorem binOp_eql {t : TypeId} {x y : Value} (hx : refV x = true) (hy : refV y = true) : binOp .eql t x y = (do pure (.bool (← Op.equal t x y)) : Sem Value) := by
  cases x <;> simp only [refV, Bool.false_eq_true] at hx <;> cases y <;> simp only [refV, Bool.false_eq_true] at hy <;> rfl
theorem binOp_neq {t : TypeId} {x y : Value} (hx : refV x = true) (hy : refV y = true) : binOp .neq t x y = (do pure (.bool (!(← Op.equal t x y))) : Sem Value) := by
  cases x <;> simp only [refV, Bool.false_eq_true] at hx <;> cases y <;> simp only [refV, Bool.false_eq_true] at hy <;> rfl

theorem binOpA_out {T : Tr TInfo} (hT : TOK P T) (g : Good σ H nx w) {op : BinOp} {t : TypeId} {p q : Operand} {a b v : AV} {x y : Value} (ha : VR σ a x) (hb : VR σ b y)
    (h : binOpA P T op t p q a b = some v) : Out P σ H nx w v H nx (do eqGuard op t p q x y; binOp op t x y) := by
  unfold binOpA at h
  split at h
  · rename_i u hu
    injection h with h; subst h
    exact plain2_out g ha hb hu
  · split at h
    · rename_i hs
      simp only [Bool.or_eq_true, Bool.and_eq_true] at hs
      have hx : refV x = true := by
        rcases hs with ⟨h1, _⟩ | ⟨h1, _⟩
        · exact (addrish_ref ha h1).1
        · exact nilish_ref ha h1
      have hy : refV y = true := by
        rcases hs with ⟨_, h1 | h1⟩ | ⟨_, h1⟩
        · exact (addrish_ref hb h1).1
        · exact nilish_ref hb h1
        · exact (addrish_ref hb h1).1
      have hxy : ¬ (x = .nilIface ∧ y = .nilIface) := by
        rintro ⟨rfl, rfl⟩
        rcases hs with ⟨h1, _⟩ | ⟨_, h1⟩
        · exact (addrish_ref ha h1).2 rfl
        · exact (addrish_ref hb h1).2 rfl
      refine Out.bind (guard_run hx hy hxy w) ?_
      split at h
      · simp only [Option.map_eq_some_iff] at h
        obtain ⟨r, hr, rfl⟩ := h
        rw [binOp_eql hx hy]
        exact Out.bind (eqOp_run hT ha hb hr w 9999) (Out.pure g (by simp [VR]))
      · simp only [Option.map_eq_some_iff] at h
        obtain ⟨r, hr, rfl⟩ := h
        rw [binOp_neq hx hy]
        exact Out.bind (eqOp_run hT ha hb hr w 9999) (Out.pure g (by simp [VR]))
      · cases h
    · cases h
end CI
