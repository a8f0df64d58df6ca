/- CI, part h: slice expressions, lengths, conversions. -/
import Derived.Test.YtdkicjlbfhmfkaaGreatDoorCig
set_option linter.unusedVariables false
set_option linter.unusedSimpArgs false
noncomputable section
namespace CI
open Go

variable {P : Program} {σ σ' : Sig} {H H' : Heap} {nx nx' : Nat} {w w' : World}


theorem run_bound {k : IntKind} {i : Int} {y : Nat} {code : BoundsCode} (h : 0 ≤ i ∧ i ≤ y) (w : World) : (Instr.sliceBound (.int k i) y code).run P w = .ok i.toNat w := by
  unfold Instr.sliceBound
  rw [run_bind_ok (a := (k, i)) (w' := w) rfl]
  simp only
  rw [if_pos h]; rfl

/-- A bound of a slice expression: given, or its default. -/
def bnd (x : Option AV) (d : Nat) : Option Nat :=
  match x with
  | none => some d
  | some (.lit (.int _ n)) => if 0 ≤ n then some n.toNat else none
  | _ => none

theorem bnd_some (a : AV) (d d' : Nat) : bnd (some a) d = bnd (some a) d' := by
  cases a <;> first | rfl | (rename_i v; cases v <;> rfl)

inductive BndR (σ : Sig) : Option AV → Option Value → Prop where
  | none : BndR σ none none
  | some {a : AV} {x : Value} : VR σ a x → BndR σ (some a) (some x)

theorem run_bounds {isS : Bool} {len cap : Nat} {lo hi mx : Option AV} {lo' hi' mx' : Option Value} (h1 : BndR σ lo lo') (h2 : BndR σ hi hi') (h3 : BndR σ mx mx')
    {L h m : Nat} (hm : bnd mx cap = some m) (hh : bnd hi len = some h) (hl : bnd lo 0 = some L) (c1 : m ≤ cap) (c2 : h ≤ m) (c3 : L ≤ h) (c4 : hi = none → mx = none) (w : World) :
    (Instr.sliceBounds isS len cap lo' hi' mx').run P w = .ok (L, h, m) w := by
  have key : ∀ {x : Option AV} {x' : Option Value} {d r : Nat}, BndR σ x x' → bnd x d = some r → (x' = none ∧ r = d) ∨ ∃ k n, x' = some (.int k n) ∧ 0 ≤ n ∧ n.toNat = r := by
    intro x x' d r hx hb
    cases hx with
    | none => simp [bnd] at hb; exact .inl ⟨rfl, hb.symm⟩
    | some hv =>
      unfold bnd at hb
      split at hb
      · cases ‹_ = none›
      · rename_i k n he
        injection he with he; subst he
        split at hb
        · injection hb with hb
          simp only [VR] at hv; subst hv
          exact .inr ⟨_, _, rfl, ‹_›, hb⟩
        · cases hb
      · cases hb
  have hnone : hi' = none → mx' = none := by
    intro hh'
    subst hh'
    cases h2
    have := c4 rfl
    subst this
    cases h3
    rfl
  rcases key h3 hm with ⟨rfl, rfl⟩ | ⟨k3, n3, rfl, hn3, rfl⟩ <;>
  rcases key h2 hh with ⟨rfl, rfl⟩ | ⟨k2, n2, rfl, hn2, rfl⟩ <;>
  rcases key h1 hl with ⟨rfl, rfl⟩ | ⟨k1, n1, rfl, hn1, rfl⟩ <;>
  first
    | (cases hnone rfl; done)
    | (unfold Instr.sliceBounds
       simp only
       repeat (first
         | rw [run_bind_ok (run_bound ⟨by omega, by omega⟩ w)]
         | rw [run_bind_ok (run_pure' _ w)])
       rfl)

def plainO (x : Option AV) : Option (Option Value) :=
  match x with
  | none => some none
  | some a => (plain a).map some
theorem plainO_eq {x : Option AV} {x' y : Option Value} (h : BndR σ x x') (hp : plainO x = some y) : x' = y := by
  cases h with
  | none => simp [plainO] at hp; exact hp
  | some hv =>
    simp only [plainO, Option.map_eq_some_iff] at hp
    obtain ⟨z, hz, rfl⟩ := hp
    rw [plain_eq hz hv]

/-- What stands behind the bounds, in a block. -/
def cutTo (b o L h m : Nat) (esz : Nat) : AV := if m = L then .slice b o (h - L) (some 0) esz else .slice b (o + L * esz) (h - L) (some (m - L)) esz

def sliceOp (P : Program) (T : Tr TInfo) (H : Heap) (t : TypeId) (x : AV) (lo hi mx : Option AV) : Option AV :=
  match T.get t with
  | some { desc := .slice e, .. } =>
    match x, T.get e with
    | .slice b o n c esz, some ei =>
      if ei.size ≠ esz then none else
      match c, mx with
      | some k, _ =>
        match bnd mx k, bnd hi n, bnd lo 0 with
        | some m, some h, some L => if m ≤ k ∧ h ≤ m ∧ L ≤ h ∧ (hi.isNone → mx.isNone) then some (cutTo b o L h m esz) else none
        | _, _, _ => none
      | none, some _ =>
        match bnd mx n, bnd hi n, bnd lo 0 with
        | some m, some h, some L => if m ≤ n ∧ h ≤ m ∧ L ≤ h ∧ (hi.isNone → mx.isNone) then some (cutTo b o L h m esz) else none
        | _, _, _ => none
      | none, none =>
        match bnd hi n, bnd lo 0 with
        | some h, some L => if h ≤ n ∧ L ≤ h then (if L < n then some (.slice b (o + L * esz) (h - L) none esz) else some .eslice) else none
        | _, _ => none
    | .eslice, some _ =>
      match bnd hi 0, bnd lo 0, mx with
      | some 0, some 0, none => some .eslice
      | some 0, some 0, some u => if bnd (some u) 0 = some 0 ∧ hi.isSome = true then some .eslice else none
      | _, _, _ => none
    | .lit _, _ => (plain x).bind fun a => (plainO lo).bind fun l => (plainO hi).bind fun h => (plainO mx).bind fun m => (pureRun P (Instr.slice t a l h m)).map abs
    | _, _ => none
  | some { desc := .array N e, .. } =>
    match x, T.get e with
    | .ptr b o, some ei =>
      match H.get b with
      | some (.cells cs _ _) =>
      if o + N * ei.size ≤ cs.length then
      match bnd mx N, bnd hi N, bnd lo 0 with
      | some m, some h, some L => if m ≤ N ∧ h ≤ m ∧ L ≤ h ∧ (hi.isNone → mx.isNone) then some (cutTo b o L h m ei.size) else none
      | _, _, _ => none
      else none
      | _ => none
    | _, _ => none
  | some { desc := .string, .. } =>
    (plain x).bind fun a => (plainO lo).bind fun l => (plainO hi).bind fun h => (plainO mx).bind fun m => (pureRun P (Instr.slice t a l h m)).map abs
  | _ => none

theorem cutTo_VR {b o L h m cap esz : Nat} {l : Loc} (hl : σ b = some l) (hroom : l.base + o + cap * esz ≤ l.room) (c1 : m ≤ cap) (c2 : h ≤ m) (c3 : L ≤ h) :
    VR σ (cutTo b o L h m esz) (.slice (if m = L then some (⟨l.blk, l.base + o, none⟩ : Addr) else (some (⟨l.blk, l.base + o, none⟩ : Addr)).map (·.add (L * esz))) (h - L) (m - L)) := by
  unfold cutTo
  by_cases e : m = L
  · rw [if_pos e, if_pos e]
    simp only [VR]
    subst e
    exact ⟨l, 0, hl, by congr 1; omega, by omega, by omega, rfl⟩
  · rw [if_neg e, if_neg e]
    simp only [VR, Option.map_some]
    refine ⟨l, m - L, hl, by rw [add_addr _ _ rfl, Nat.add_assoc], by omega, ?_, rfl⟩
    have h1 : m * esz ≤ cap * esz := Nat.mul_le_mul_right _ c1
    have h2 : (m - L) * esz = m * esz - L * esz := Nat.sub_mul _ _ _
    have h3 : L * esz ≤ m * esz := Nat.mul_le_mul_right _ (by omega)
    omega

theorem sliceOp_out {T : Tr TInfo} (hT : TOK P T) (g : Good σ H nx w) {t : TypeId} {x v : AV} {xv : Value} {lo hi mx : Option AV} {lo' hi' mx' : Option Value}
    (hx : VR σ x xv) (h1 : BndR σ lo lo') (h2 : BndR σ hi hi') (h3 : BndR σ mx mx') (h : sliceOp P T H t x lo hi mx = some v) :
    Out P σ H nx w v H nx (Instr.sliceAt t xv lo' hi' mx') := by
  have plainCase : (plain x).bind (fun a => (plainO lo).bind fun l => (plainO hi).bind fun h => (plainO mx).bind fun m => (pureRun P (Instr.slice t a l h m)).map abs) = some v →
      Out P σ H nx w v H nx (Instr.slice t xv lo' hi' mx') := by
    intro h
    simp only [Option.bind_eq_some_iff, Option.map_eq_some_iff] at h
    obtain ⟨a, e1, l, e2, hh, e3, m, e4, z, e5, rfl⟩ := h
    rw [plain_eq e1 hx, plainO_eq h1 e2, plainO_eq h2 e3, plainO_eq h3 e4]
    exact Out.same g (pureRun_ok w e5) (abs_VR σ z)
  have isn : ∀ {p q : Option AV}, (p.isNone → q.isNone) → p = none → q = none := by
    intro p q hh hp; subst hp; simpa using hh rfl
  unfold sliceOp at h
  split at h
  · rename_i e sz by_ ag ze ps ht0
    have F := (hT _ _ ht0).under
    simp only at F
    unfold Instr.sliceAt
    refine Out.bind (run_under F w) ?_
    simp only
    split at h
    · rename_i b o n c esz ei he
      obtain ⟨info, e1, e2, e3, e4⟩ := (hT _ _ he).info
      split at h
      · cases h
      rename_i hne
      have hesz : ei.size = esz := by simpa using hne
      simp only [VR] at hx
      obtain ⟨l, c', hl, rfl, ok1, ok2, ok3⟩ := hx
      have fin : ∀ {L h m : Nat} {u : AV}, bnd mx c' = some m → bnd hi n = some h → bnd lo 0 = some L → m ≤ c' → h ≤ m → L ≤ h → (hi = none → mx = none) →
          VR σ u (.slice (if m = L then some (⟨l.blk, l.base + o, none⟩ : Addr) else (some (⟨l.blk, l.base + o, none⟩ : Addr)).map (·.add (L * esz))) (h - L) (m - L)) →
          Out P σ H nx w u H nx (Instr.slice t (.slice (some ⟨l.blk, l.base + o, none⟩) n c') lo' hi' mx') := by
        intro L h m u g1 g2 g3 g4 g5 g6 g7 g8
        unfold Instr.slice
        refine Out.bind (run_under F w) ?_
        simp only
        refine Out.bind (run_bounds h1 h2 h3 g1 g2 g3 g4 g5 g6 g7 w) ?_
        simp only
        refine Out.bind (run_sizeOf e1 w) ?_
        rw [e2, hesz]
        exact Out.pure g g8
      split at h
      · rename_i k _
        simp only at ok3
        subst ok3
        split at h
        · rename_i m hh L b1 b2 b3
          split at h
          · rename_i hc
            injection h with h; subst h
            exact fin b1 b2 b3 hc.1 hc.2.1 hc.2.2.1 (isn hc.2.2.2) (cutTo_VR hl ok2 hc.1 hc.2.1 hc.2.2.1)
          · cases h
        · cases h
      · rename_i mxv
        split at h
        · rename_i m hh L b1 b2 b3
          split at h
          · rename_i hc
            injection h with h; subst h
            have b1' : bnd (some mxv) c' = some m := by rw [bnd_some mxv c' n]; exact b1
            exact fin b1' b2 b3 (Nat.le_trans hc.1 ok1) hc.2.1 hc.2.2.1 (isn hc.2.2.2) (cutTo_VR hl ok2 (Nat.le_trans hc.1 ok1) hc.2.1 hc.2.2.1)
          · cases h
        · cases h
      · split at h
        · rename_i hh L b2 b3
          split at h
          · rename_i hc
            simp only at ok3
            split at h
            · rename_i hlt
              injection h with h; subst h
              refine fin (m := c') rfl b2 b3 (Nat.le_refl _) (by omega) hc.2 (fun _ => rfl) ?_
              rw [if_neg (by omega)]
              simp only [VR, Option.map_some]
              have h2 : (c' - L) * esz = c' * esz - L * esz := Nat.sub_mul _ _ _
              have h3 : L * esz ≤ c' * esz := Nat.mul_le_mul_right _ (by omega)
              exact ⟨l, c' - L, hl, by rw [add_addr _ _ rfl, Nat.add_assoc], by omega, by omega, by simp only; omega⟩
            · rename_i hlt
              injection h with h; subst h
              refine fin (m := c') rfl b2 b3 (Nat.le_refl _) (by omega) hc.2 (fun _ => rfl) ?_
              simp only [VR]
              have : hh - L = 0 := by omega
              rw [this]
              split
              · exact ⟨_, _, rfl⟩
              · exact ⟨_, _, rfl⟩
          · cases h
        · cases h
    · rename_i ei he
      obtain ⟨info, e1, e2, e3, e4⟩ := (hT _ _ he).info
      simp only [VR] at hx
      obtain ⟨p, c, rfl⟩ := hx
      split at h
      · rename_i b2 b3
        injection h with h; subst h
        cases h3
        unfold Instr.slice
        refine Out.bind (run_under F w) ?_
        simp only
        refine Out.bind (run_bounds (m := c) h1 h2 .none rfl b2 b3 (Nat.le_refl _) (by omega) (by omega) (fun _ => rfl) w) ?_
        simp only
        refine Out.bind (run_sizeOf e1 w) ?_
        refine Out.pure g ?_
        simp only [VR]
        split
        · exact ⟨_, _, rfl⟩
        · exact ⟨_, _, rfl⟩
      · rename_i u b2 b3
        split at h
        · rename_i hc
          injection h with h; subst h
          unfold Instr.slice
          refine Out.bind (run_under F w) ?_
          simp only
          have hb : bnd (some u) c = some 0 := by rw [bnd_some u c 0]; exact hc.1
          refine Out.bind (run_bounds (m := 0) h1 h2 h3 hb b2 b3 (Nat.zero_le _) (by omega) (by omega) (fun e => by rw [e] at hc; simp at hc) w) ?_
          simp only
          refine Out.bind (run_sizeOf e1 w) ?_
          refine Out.pure g ?_
          simp only [VR]
          exact ⟨_, _, rfl⟩
        · cases h
      · cases h
    · exact plainCase h
    · cases h
  · rename_i N e sz by_ ag ze ps ht0
    have F := (hT _ _ ht0).under
    simp only at F
    unfold Instr.sliceAt
    refine Out.bind (run_under F w) ?_
    simp only
    split at h
    · rename_i b o ei he
      obtain ⟨info, e1, e2, e3, e4⟩ := (hT _ _ he).info
      simp only [VR] at hx
      obtain ⟨l, hl, rfl⟩ := hx
      split at h
      rotate_left
      · cases h
      rename_i cs tb ro hb
      split at h
      rotate_left
      · cases h
      rename_i hlen
      obtain ⟨C, fz, hC, hC1, hC2, _⟩ := g.obj b _ l hb hl
      split at h
      · rename_i m hh L b1 b2 b3
        split at h
        · rename_i hc
          injection h with h; subst h
          refine Out.bind (a := (⟨l.blk, l.base + o, none⟩ : Addr)) rfl ?_
          refine Out.bind (run_bounds h1 h2 h3 b1 b2 b3 hc.1 hc.2.1 hc.2.2.1 (isn hc.2.2.2) w) ?_
          simp only
          refine Out.bind (run_sizeOf e1 w) ?_
          rw [e2]
          refine Out.pure g ?_
          have := cutTo_VR (σ := σ) (b := b) (o := o) (L := L) (h := hh) (m := m) (cap := N) (esz := ei.size) hl (by omega) hc.1 hc.2.1 hc.2.2.1
          by_cases e : m = L
          · rw [if_pos e] at this; rw [if_pos e]; exact this
          · rw [if_neg e] at this; rw [if_neg e]; exact this
        · cases h
      · cases h
    · cases h
  · rename_i sz by_ ag ze ps ht0
    have F := (hT _ _ ht0).under
    simp only at F
    unfold Instr.sliceAt
    refine Out.bind (run_under F w) ?_
    simp only
    exact plainCase h
  · cases h
end CI
