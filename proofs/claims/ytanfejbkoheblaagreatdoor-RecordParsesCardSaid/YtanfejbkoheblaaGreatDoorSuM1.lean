/- Parts of the proof: Cih Cii Cl Co Cma Cmc Cmb Cij Cik Cil Cim. -/
import Derived.Test.YtanfejbkoheblaaGreatDoorSuM0
import Derived.Lib.ConvBytes
import Derived.Laws.BytesString
import Derived.Lib.Builder
import Derived.Orders
set_option linter.unusedVariables false
set_option linter.unusedSimpArgs false
noncomputable section
namespace CI
open Go
variable {P : Program} {σ σ' : Sig} {H H' : Heap} {nx nx' : Nat} {w w' : World}
theorem run_bound {k : IntKind} {i : Int} {y : Nat} {code : BoundsCode} (h : 0 ≤ i ∧ i ≤ y) (w : World) : (Instr.sliceBound (.int k i) y code).run P w = .ok i.toNat w := by
  unfold Instr.sliceBound
  rw [run_bind_ok (a := (k, i)) (w' := w) rfl]
  simp only
  rw [if_pos h]; rfl
def bnd (x : Option AV) (d : Nat) : Option Nat :=
  match x with
  | none => some d
  | some (.lit (.int _ n)) => if 0 ≤ n then some n.toNat else none
  | _ => none
theorem bnd_some (a : AV) (d d' : Nat) : bnd (some a) d = bnd (some a) d' := by
  cases a <;> first | rfl | (rename_i v; cases v <;> rfl)
inductive BndR (σ : Sig) : Option AV → Option Value → Prop where
  | none : BndR σ none none
  | some {a : AV} {x : Value} : VR σ a x → BndR σ (some a) (some x)
theorem run_bounds {isS : Bool} {len cap : Nat} {lo hi mx : Option AV} {lo' hi' mx' : Option Value} (h1 : BndR σ lo lo') (h2 : BndR σ hi hi') (h3 : BndR σ mx mx')
    {L h m : Nat} (hm : bnd mx cap = some m) (hh : bnd hi len = some h) (hl : bnd lo 0 = some L) (c1 : m ≤ cap) (c2 : h ≤ m) (c3 : L ≤ h) (c4 : hi = none → mx = none) (w : World) :
    (Instr.sliceBounds isS len cap lo' hi' mx').run P w = .ok (L, h, m) w := by
  have key : ∀ {x : Option AV} {x' : Option Value} {d r : Nat}, BndR σ x x' → bnd x d = some r → (x' = none ∧ r = d) ∨ ∃ k n, x' = some (.int k n) ∧ 0 ≤ n ∧ n.toNat = r := by
    intro x x' d r hx hb
    cases hx with
    | none => simp [bnd] at hb; exact .inl ⟨rfl, hb.symm⟩
    | some hv =>
      unfold bnd at hb
      split at hb
      · cases ‹_ = none›
      · rename_i k n he
        injection he with he; subst he
        split at hb
        · injection hb with hb
          simp only [VR] at hv; subst hv
          exact .inr ⟨_, _, rfl, ‹_›, hb⟩
        · cases hb
      · cases hb
  have hnone : hi' = none → mx' = none := by
    intro hh'
    subst hh'
    cases h2
    have := c4 rfl
    subst this
    cases h3
    rfl
  rcases key h3 hm with ⟨rfl, rfl⟩ | ⟨k3, n3, rfl, hn3, rfl⟩ <;>
  rcases key h2 hh with ⟨rfl, rfl⟩ | ⟨k2, n2, rfl, hn2, rfl⟩ <;>
  rcases key h1 hl with ⟨rfl, rfl⟩ | ⟨k1, n1, rfl, hn1, rfl⟩ <;>
  first
    | (cases hnone rfl; done)
    | (unfold Instr.sliceBounds
       simp only
       repeat (first
         | rw [run_bind_ok (run_bound ⟨by omega, by omega⟩ w)]
         | rw [run_bind_ok (run_pure' _ w)])
       rfl)
def plainO (x : Option AV) : Option (Option Value) :=
  match x with
  | none => some none
  | some a => (plain a).map some
theorem plainO_eq {x : Option AV} {x' y : Option Value} (h : BndR σ x x') (hp : plainO x = some y) : x' = y := by
  cases h with
  | none => simp [plainO] at hp; exact hp
  | some hv =>
    simp only [plainO, Option.map_eq_some_iff] at hp
    obtain ⟨z, hz, rfl⟩ := hp
    rw [plain_eq hz hv]
def cutTo (b o L h m : Nat) (esz : Nat) : AV := if m = L then .slice b o (h - L) (some 0) esz else .slice b (o + L * esz) (h - L) (some (m - L)) esz
def sliceOp (P : Program) (T : Tr TInfo) (H : Heap) (t : TypeId) (x : AV) (lo hi mx : Option AV) : Option AV :=
  match T.get t with
  | some { desc := .slice e, .. } =>
    match x, T.get e with
    | .slice b o n c esz, some ei =>
      if ei.size ≠ esz then none else
      match c, mx with
      | some k, _ =>
        match bnd mx k, bnd hi n, bnd lo 0 with
        | some m, some h, some L => if m ≤ k ∧ h ≤ m ∧ L ≤ h ∧ (hi.isNone → mx.isNone) then some (cutTo b o L h m esz) else none
        | _, _, _ => none
      | none, some _ =>
        match bnd mx n, bnd hi n, bnd lo 0 with
        | some m, some h, some L => if m ≤ n ∧ h ≤ m ∧ L ≤ h ∧ (hi.isNone → mx.isNone) then some (cutTo b o L h m esz) else none
        | _, _, _ => none
      | none, none =>
        match bnd hi n, bnd lo 0 with
        | some h, some L => if h ≤ n ∧ L ≤ h then (if L < n then some (.slice b (o + L * esz) (h - L) none esz) else some .eslice) else none
        | _, _ => none
    | .eslice, some _ =>
      match bnd hi 0, bnd lo 0, mx with
      | some 0, some 0, none => some .eslice
      | some 0, some 0, some u => if bnd (some u) 0 = some 0 ∧ hi.isSome = true then some .eslice else none
      | _, _, _ => none
    | .lit _, _ => (plain x).bind fun a => (plainO lo).bind fun l => (plainO hi).bind fun h => (plainO mx).bind fun m => (pureRun P (Instr.slice t a l h m)).map abs
    | _, _ => none
  | some { desc := .array N e, .. } =>
    match x, T.get e with
    | .ptr b o, some ei =>
      match H.get b with
      | some (.cells cs _ _) =>
      if o + N * ei.size ≤ cs.length then
      match bnd mx N, bnd hi N, bnd lo 0 with
      | some m, some h, some L => if m ≤ N ∧ h ≤ m ∧ L ≤ h ∧ (hi.isNone → mx.isNone) then some (cutTo b o L h m ei.size) else none
      | _, _, _ => none
      else none
      | _ => none
    | _, _ => none
  | some { desc := .string, .. } =>
    (plain x).bind fun a => (plainO lo).bind fun l => (plainO hi).bind fun h => (plainO mx).bind fun m => (pureRun P (Instr.slice t a l h m)).map abs
  | _ => none
theorem cutTo_VR {b o L h m cap esz : Nat} {l : Loc} (hl : σ b = some l) (hroom : l.base + o + cap * esz ≤ l.room) (c1 : m ≤ cap) (c2 : h ≤ m) (c3 : L ≤ h) :
    VR σ (cutTo b o L h m esz) (.slice (if m = L then some (⟨l.blk, l.base + o, none⟩ : Addr) else (some (⟨l.blk, l.base + o, none⟩ : Addr)).map (·.add (L * esz))) (h - L) (m - L)) := by
  unfold cutTo
  by_cases e : m = L
  · rw [if_pos e, if_pos e]
    simp only [VR]
    subst e
    exact ⟨l, 0, hl, by congr 1; omega, by omega, by omega, rfl⟩
  · rw [if_neg e, if_neg e]
    simp only [VR, Option.map_some]
    refine ⟨l, m - L, hl, by rw [add_addr _ _ rfl, Nat.add_assoc], by omega, ?_, rfl⟩
    have h1 : m * esz ≤ cap * esz := Nat.mul_le_mul_right _ c1
    have h2 : (m - L) * esz = m * esz - L * esz := Nat.sub_mul _ _ _
    have h3 : L * esz ≤ m * esz := Nat.mul_le_mul_right _ (by omega)
    omega
theorem sliceOp_out {T : Tr TInfo} (hT : TOK P T) (g : Good σ H nx w) {t : TypeId} {x v : AV} {xv : Value} {lo hi mx : Option AV} {lo' hi' mx' : Option Value}
    (hx : VR σ x xv) (h1 : BndR σ lo lo') (h2 : BndR σ hi hi') (h3 : BndR σ mx mx') (h : sliceOp P T H t x lo hi mx = some v) :
    Out P σ H nx w v H nx (Instr.sliceAt t xv lo' hi' mx') := by
  have plainCase : (plain x).bind (fun a => (plainO lo).bind fun l => (plainO hi).bind fun h => (plainO mx).bind fun m => (pureRun P (Instr.slice t a l h m)).map abs) = some v →
      Out P σ H nx w v H nx (Instr.slice t xv lo' hi' mx') := by
    intro h
    simp only [Option.bind_eq_some_iff, Option.map_eq_some_iff] at h
    obtain ⟨a, e1, l, e2, hh, e3, m, e4, z, e5, rfl⟩ := h
    rw [plain_eq e1 hx, plainO_eq h1 e2, plainO_eq h2 e3, plainO_eq h3 e4]
    exact Out.same g (pureRun_ok w e5) (abs_VR σ z)
  have isn : ∀ {p q : Option AV}, (p.isNone → q.isNone) → p = none → q = none := by
    intro p q hh hp; subst hp; simpa using hh rfl
  unfold sliceOp at h
  split at h
  · rename_i e sz by_ ag ze ps ht0
    have F := (hT _ _ ht0).under
    simp only at F
    unfold Instr.sliceAt
    refine Out.bind (run_under F w) ?_
    simp only
    split at h
    · rename_i b o n c esz ei he
      obtain ⟨info, e1, e2, e3, e4⟩ := (hT _ _ he).info
      split at h
      · cases h
      rename_i hne
      have hesz : ei.size = esz := by simpa using hne
      simp only [VR] at hx
      obtain ⟨l, c', hl, rfl, ok1, ok2, ok3⟩ := hx
      have fin : ∀ {L h m : Nat} {u : AV}, bnd mx c' = some m → bnd hi n = some h → bnd lo 0 = some L → m ≤ c' → h ≤ m → L ≤ h → (hi = none → mx = none) →
          VR σ u (.slice (if m = L then some (⟨l.blk, l.base + o, none⟩ : Addr) else (some (⟨l.blk, l.base + o, none⟩ : Addr)).map (·.add (L * esz))) (h - L) (m - L)) →
          Out P σ H nx w u H nx (Instr.slice t (.slice (some ⟨l.blk, l.base + o, none⟩) n c') lo' hi' mx') := by
        intro L h m u g1 g2 g3 g4 g5 g6 g7 g8
        unfold Instr.slice
        refine Out.bind (run_under F w) ?_
        simp only
        refine Out.bind (run_bounds h1 h2 h3 g1 g2 g3 g4 g5 g6 g7 w) ?_
        simp only
        refine Out.bind (run_sizeOf e1 w) ?_
        rw [e2, hesz]
        exact Out.pure g g8
      split at h
      · rename_i k _
        simp only at ok3
        subst ok3
        split at h
        · rename_i m hh L b1 b2 b3
          split at h
          · rename_i hc
            injection h with h; subst h
            exact fin b1 b2 b3 hc.1 hc.2.1 hc.2.2.1 (isn hc.2.2.2) (cutTo_VR hl ok2 hc.1 hc.2.1 hc.2.2.1)
          · cases h
        · cases h
      · rename_i mxv
        split at h
        · rename_i m hh L b1 b2 b3
          split at h
          · rename_i hc
            injection h with h; subst h
            have b1' : bnd (some mxv) c' = some m := by rw [bnd_some mxv c' n]; exact b1
            exact fin b1' b2 b3 (Nat.le_trans hc.1 ok1) hc.2.1 hc.2.2.1 (isn hc.2.2.2) (cutTo_VR hl ok2 (Nat.le_trans hc.1 ok1) hc.2.1 hc.2.2.1)
          · cases h
        · cases h
      · split at h
        · rename_i hh L b2 b3
          split at h
          · rename_i hc
            simp only at ok3
            split at h
            · rename_i hlt
              injection h with h; subst h
              refine fin (m := c') rfl b2 b3 (Nat.le_refl _) (by omega) hc.2 (fun _ => rfl) ?_
              rw [if_neg (by omega)]
              simp only [VR, Option.map_some]
              have h2 : (c' - L) * esz = c' * esz - L * esz := Nat.sub_mul _ _ _
              have h3 : L * esz ≤ c' * esz := Nat.mul_le_mul_right _ (by omega)
              exact ⟨l, c' - L, hl, by rw [add_addr _ _ rfl, Nat.add_assoc], by omega, by omega, by simp only; omega⟩
            · rename_i hlt
              injection h with h; subst h
              refine fin (m := c') rfl b2 b3 (Nat.le_refl _) (by omega) hc.2 (fun _ => rfl) ?_
              simp only [VR]
              have : hh - L = 0 := by omega
              rw [this]
              split
              · exact ⟨_, _, rfl⟩
              · exact ⟨_, _, rfl⟩
          · cases h
        · cases h
    · rename_i ei he
      obtain ⟨info, e1, e2, e3, e4⟩ := (hT _ _ he).info
      simp only [VR] at hx
      obtain ⟨p, c, rfl⟩ := hx
      split at h
      · rename_i b2 b3
        injection h with h; subst h
        cases h3
        unfold Instr.slice
        refine Out.bind (run_under F w) ?_
        simp only
        refine Out.bind (run_bounds (m := c) h1 h2 .none rfl b2 b3 (Nat.le_refl _) (by omega) (by omega) (fun _ => rfl) w) ?_
        simp only
        refine Out.bind (run_sizeOf e1 w) ?_
        refine Out.pure g ?_
        simp only [VR]
        split
        · exact ⟨_, _, rfl⟩
        · exact ⟨_, _, rfl⟩
      · rename_i u b2 b3
        split at h
        · rename_i hc
          injection h with h; subst h
          unfold Instr.slice
          refine Out.bind (run_under F w) ?_
          simp only
          have hb : bnd (some u) c = some 0 := by rw [bnd_some u c 0]; exact hc.1
          refine Out.bind (run_bounds (m := 0) h1 h2 h3 hb b2 b3 (Nat.zero_le _) (by omega) (by omega) (fun e => by rw [e] at hc; simp at hc) w) ?_
          simp only
          refine Out.bind (run_sizeOf e1 w) ?_
          refine Out.pure g ?_
          simp only [VR]
          exact ⟨_, _, rfl⟩
        · cases h
      · cases h
    · exact plainCase h
    · cases h
  · rename_i N e sz by_ ag ze ps ht0
    have F := (hT _ _ ht0).under
    simp only at F
    unfold Instr.sliceAt
    refine Out.bind (run_under F w) ?_
    simp only
    split at h
    · rename_i b o ei he
      obtain ⟨info, e1, e2, e3, e4⟩ := (hT _ _ he).info
      simp only [VR] at hx
      obtain ⟨l, hl, rfl⟩ := hx
      split at h
      rotate_left
      · cases h
      rename_i cs tb ro hb
      split at h
      rotate_left
      · cases h
      rename_i hlen
      obtain ⟨C, fz, hC, hC1, hC2, _⟩ := g.obj b _ l hb hl
      split at h
      · rename_i m hh L b1 b2 b3
        split at h
        · rename_i hc
          injection h with h; subst h
          refine Out.bind (a := (⟨l.blk, l.base + o, none⟩ : Addr)) rfl ?_
          refine Out.bind (run_bounds h1 h2 h3 b1 b2 b3 hc.1 hc.2.1 hc.2.2.1 (isn hc.2.2.2) w) ?_
          simp only
          refine Out.bind (run_sizeOf e1 w) ?_
          rw [e2]
          refine Out.pure g ?_
          have := cutTo_VR (σ := σ) (b := b) (o := o) (L := L) (h := hh) (m := m) (cap := N) (esz := ei.size) hl (by omega) hc.1 hc.2.1 hc.2.2.1
          by_cases e : m = L
          · rw [if_pos e] at this; rw [if_pos e]; exact this
          · rw [if_neg e] at this; rw [if_neg e]; exact this
        · cases h
      · cases h
    · cases h
  · rename_i sz by_ ag ze ps ht0
    have F := (hT _ _ ht0).under
    simp only at F
    unfold Instr.sliceAt
    refine Out.bind (run_under F w) ?_
    simp only
    exact plainCase h
  · cases h
end CI
noncomputable section
namespace CI
open Go
variable {P : Program} {σ σ' : Sig} {H H' : Heap} {nx nx' : Nat} {w w' : World}
def lenOp (T : Tr TInfo) (H : Heap) (t : TypeId) (x : AV) : Option Nat :=
  match T.get t with
  | none => none
  | some i =>
    match i.desc, x with
    | .string, .lit (.string s) => some s.size
    | .array n _, _ => some n
    | .pointer e, _ =>
      match T.get e with
      | some { desc := .array n _, .. } => some n
      | _ => none
    | .slice _, .slice _ _ n _ _ => some n
    | .slice _, .eslice => some 0
    | .slice _, .lit (.slice _ n _) => some n
    | .map _ _, .lit (.map none) => some 0
    | .map _ _, .map b =>
      match H.get b with
      | some (.map es _) => some es.length
      | _ => none
    | _, _ => none
theorem MapR.length : ∀ {es : List (AV × AV)} {E : List MapEntry}, MapR σ es E → E.length = es.length
  | [], _, h => by simp only [MapR] at h; simp [h]
  | (k, v) :: es, _, h => by
    simp only [MapR] at h
    obtain ⟨e, E', rfl, _, _, h3⟩ := h
    simp [MapR.length h3]
theorem run_getObj {r : Nat} {E : Array MapEntry} {c : Nat} (h : w.heap[r]? = some (.map E c)) : (getObj r).run P w = .ok (.map E c) w := by
  simp [getObj, Sem.run, h]
theorem lenOp_out {T : Tr TInfo} (hT : TOK P T) (g : Good σ H nx w) {t ty : TypeId} {x : AV} {xv : Value} {n : Nat} (hx : VR σ x xv) (h : lenOp T H t x = some n) :
    Out P σ H nx w (.lit (.int .i64 n)) H nx (Builtin.len_ #[t] ty #[xv]) := by
  unfold lenOp at h
  split at h
  · cases h
  rename_i i hi
  have F := (hT _ _ hi).under
  unfold Builtin.len_
  simp only [List.getElem?_toArray, List.getElem?_cons_zero]
  refine Out.bind (run_under F w) ?_
  have fin : VR σ (.lit (.int .i64 n)) (goInt n) := by simp [VR, goInt]
  split at h <;> (try rename_i hd) <;> (try rw [hd])
  · injection h with h; subst h
    simp only [VR] at hx; subst hx
    exact Out.pure g fin
  · injection h with h; subst h
    exact Out.pure g fin
  · split at h
    · rename_i e m e' sz by_ ag ze ps he
      injection h with h; subst h
      have F2 := (hT _ _ he).under
      simp only
      refine Out.bind (run_under F2 w) ?_
      exact Out.pure g fin
    · cases h
  · injection h with h; subst h
    simp only [VR] at hx; obtain ⟨l, c', _, rfl, _⟩ := hx
    exact Out.pure g fin
  · injection h with h; subst h
    simp only [VR] at hx; obtain ⟨a, c, rfl⟩ := hx
    exact Out.pure g fin
  · injection h with h; subst h
    simp only [VR] at hx; subst hx
    exact Out.pure g fin
  · injection h with h; subst h
    simp only [VR] at hx; subst hx
    exact Out.pure g fin
  · split at h
    · rename_i es ro hb
      injection h with h; subst h
      simp only [VR] at hx; obtain ⟨l, hl, rfl⟩ := hx
      obtain ⟨E, c, es', hE, hp, hM, _⟩ := g.obj _ _ l hb hl
      simp only
      refine Out.bind (run_getObj hE) ?_
      refine Out.pure g ?_
      have := hM.length
      rw [hp.length_eq] at this
      simp only [Array.length_toList] at this
      simp [VR, goInt, this]
    · cases h
  · cases h
def bytesOf : List AV → Option (List Int)
  | [] => some []
  | .lit (.int .u8 n) :: vs => (bytesOf vs).map fun l => n :: l
  | _ => none
theorem bytesOf_ok : ∀ {vs : List AV} {xs : List Value} {ns : List Int}, VRs σ vs xs → bytesOf vs = some ns → xs = ns.map (Value.int .u8)
  | [], xs, ns, h, hb => by simp only [VRs] at h; simp only [bytesOf, Option.some.injEq] at hb; subst h; subst hb; rfl
  | v :: vs, xs, ns, h, hb => by
    simp only [VRs] at h
    obtain ⟨y, ys, rfl, h1, h2⟩ := h
    unfold bytesOf at hb
    split at hb
    · rename_i he; cases he
    · rename_i n vs' he
      injection he with he1 he2; subst he1; subst he2
      simp only [Option.map_eq_some_iff] at hb
      obtain ⟨l, hl, rfl⟩ := hb
      simp only [VR] at h1; subst h1
      rw [bytesOf_ok h2 hl]; rfl
    · cases hb
def convOp (P : Program) (T : Tr TInfo) (H : Heap) (nx : Nat) (s d : TypeId) (x : AV) : Res :=
  match plain1 P (convert s d) x with
  | some v => some (v, H, nx)
  | none =>
    match T.get s, T.get d, x with
    | some { desc := .slice e, .. }, some { desc := .string, .. }, .slice b o n _ 1 =>
      match T.get e, H.get b with
      | some { desc := .int .u8, .. }, some (.cells cs _ _) => ((cut cs o n).bind bytesOf).map fun ns => (.lit (.string (ns.foldl (fun r n => r.push (UInt8.ofNat n.toNat)) ByteArray.empty)), H, nx)
      | _, _ => none
    | some { desc := .string, .. }, some { desc := .slice e, .. }, .lit (.string st) =>
      match T.get e with
      | some { desc := .int .u8, .. } => some (.slice nx 0 st.size none 1, H.put nx (some (.cells (st.data.toList.map fun b => .lit (.int .u8 b.toNat)) e false)), nx + 1)
      | _ => none
    | _, _, _ => none
theorem heap_eq_push {w w' : World} {O : Obj} (hs : w'.heap.size = w.heap.size + 1) (hold : ∀ j, j < w.heap.size → w'.heap[j]? = w.heap[j]?) (hnew : w'.heap[w.heap.size]? = some O) :
    w'.heap = w.heap.push O := by
  apply Array.ext_getElem?
  intro i
  rcases Nat.lt_trichotomy i w.heap.size with h | h | h
  · rw [hold i h, Array.getElem?_push, if_neg (by omega)]
  · subst h; rw [hnew, Array.getElem?_push_size]
  · rw [Array.getElem?_eq_none (by omega), Array.getElem?_eq_none (by simp <;> omega)]
theorem convOp_out {T : Tr TInfo} (hT : TOK P T) (g : Good σ H nx w) {s d : TypeId} {x v : AV} {xv : Value} (hx : VR σ x xv) (h : convOp P T H nx s d x = some (v, H', nx')) :
    Out P σ H nx w v H' nx' (convert s d xv) := by
  unfold convOp at h
  split at h
  · rename_i u hu
    simp only [Option.some.injEq, Prod.mk.injEq] at h
    obtain ⟨rfl, rfl, rfl⟩ := h
    exact plain1_out g hx hu
  · split at h
    · rename_i e _ _ _ _ _ _ _ _ b o n c hs hd hn
      have F1 := (hT _ _ hs).under
      have F2 := (hT _ _ hd).under
      split at h
      · rename_i _ _ _ _ _ cs t ro he hb
        have F3 := (hT _ _ he).under
        simp only [Option.map_eq_some_iff, Option.bind_eq_some_iff, Prod.mk.injEq] at h
        obtain ⟨ns, ⟨vs, hcut, hns⟩, rfl, rfl, rfl⟩ := h
        simp only [VR] at hx
        obtain ⟨l, c', hl, rfl, _⟩ := hx
        obtain ⟨xs, h1, h2, h3⟩ := g.cells hb hl hcut
        have := bytesOf_ok h1 hns
        subst this
        refine Out.same g (x := .string (ns.foldl (fun r n => r.push (UInt8.ofNat n.toNat)) ByteArray.empty)) ?_ (by simp [VR])
        rw [run_convert_bytes_string w s d _ _ _ _ F1 F3 F2]
        exact run_bytesToString w _ n c' ns (run_loadCells ⟨l.blk, l.base + o, none⟩ rfl n _ h2 h3)
      · cases h
    · rename_i e _ _ _ _ _ st hs hd hn
      have F1 := (hT _ _ hs).under
      have F2 := (hT _ _ hd).under
      split at h
      · rename_i _ _ _ _ _ he
        have F3 := (hT _ _ he).under
        simp only [Option.some.injEq, Prod.mk.injEq] at h
        obtain ⟨rfl, rfl, rfl⟩ := h
        simp only [VR] at hx
        subst hx
        have hc := Lib.run_convert_string_bytes (P := P) w s d e st F1 F2 F3
        have hcap : st.size ≤ grownCap w st.size 0 e := by unfold grownCap; simp only [Question.cut]; omega
        have hsz : (Lib.bytesCells w e st).size = grownCap w st.size 0 e := by
          simp [Lib.bytesCells]
          have : st.data.size = st.size := rfl
          omega
        have hh := heap_eq_push (Lib.bytesWorld_size w e st) (fun j hj => Lib.bytesWorld_at_old w e st j hj) (Lib.bytesWorld_at_new w e st)
        have := alloc_step (w' := Lib.bytesWorld w e st) g (o := .cells (st.data.toList.map fun b => .lit (.int .u8 b.toNat)) e false) (room := grownCap w st.size 0 e) hh rfl rfl rfl
          ⟨Lib.bytesCells w e st, _, rfl, hsz, by
            simp only [Nat.zero_add, List.length_map, Array.length_toList, Loc.base_eq]; exact hcap, fun i v hi => by
            rw [List.getElem?_map, Option.map_eq_some_iff] at hi
            obtain ⟨b, hb, rfl⟩ := hi
            refine ⟨.int .u8 b.toNat, ?_, by simp [VR]⟩
            have hlt : i < st.data.size := by
              rcases Nat.lt_or_ge i st.data.size with h | h
              · exact h
              · rw [List.getElem?_eq_none (by simpa using h)] at hb; cases hb
            simp only [Nat.zero_add, Lib.bytesCells, Loc.base_eq]
            rw [Array.getElem?_append_left (by simpa using hlt), Array.getElem?_map, ← Array.getElem?_toList, hb]
            rfl, fun _ i hi => by simp only [hsz]; simp only at hi; omega⟩
        refine ⟨_, _, _, hc, ?_, this.1, this.2⟩
        simp only [VR]
        exact ⟨_, _, Sig.upd_same _ _ _, by simp [Loc.base_eq], hcap, by simp [Loc.base_eq], by simp [Loc.base_eq]⟩
      · cases h
    · cases h
def mkIfaceOp (T : Tr TInfo) (t : TypeId) (x : AV) : Option AV :=
  match T.get t with
  | some { desc := .interface _, .. } => none
  | some _ => some (.iface t x)
  | none => none
theorem mkIfaceOp_out {T : Tr TInfo} (hT : TOK P T) (g : Good σ H nx w) {t : TypeId} {x v : AV} {xv : Value} (hx : VR σ x xv) (h : mkIfaceOp T t x = some v) :
    Out P σ H nx w v H nx (Instr.makeInterface t xv) := by
  unfold mkIfaceOp at h
  split at h
  · cases h
  · rename_i i hne hi
    injection h with h; subst h
    have F := (hT _ _ hi).under
    unfold Instr.makeInterface
    refine Out.bind (run_under F w) ?_
    have fin : Out P σ H nx w (.iface t x) H nx (pure (.iface t xv)) := Out.pure g (by simp only [VR]; exact ⟨xv, rfl, hx⟩)
    obtain ⟨d, a2, a3, a4, a5, a6⟩ := i
    cases d <;> first | exact fin | exact absurd rfl (hne _ _ _ _ _ _)
  · cases h
theorem makeFunc_out (g : Good σ H nx w) {fn : Fn} {fs cs : List AV} {fs' cs' : Array Value} (h1 : VRs σ fs fs'.toList) (h2 : VRs σ cs cs'.toList) :
    Out P σ H nx w (.func fn fs cs) H nx (Instr.makeFunc fn fs' cs') := by
  refine Out.pure g ?_
  simp only [VR]
  exact ⟨fs'.toList, cs'.toList, by simp, h1, h2⟩
def makeMapOp (T : Tr TInfo) (H : Heap) (nx : Nat) (t : TypeId) (r : Option AV) : Res :=
  match r with
  | none => some (.map nx, H.put nx (some (.map [] false)), nx + 1)
  | some (.lit (.int _ _)) =>
    match T.get t with
    | some { desc := .map _ _, .. } => some (.map nx, H.put nx (some (.map [] false)), nx + 1)
    | _ => none
  | _ => none
theorem makeMapOp_out {T : Tr TInfo} (hT : TOK P T) (g : Good σ H nx w) {t : TypeId} {r : Option AV} {r' : Option Value} {v : AV} (hr : BndR σ r r') (h : makeMapOp T H nx t r = some (v, H', nx')) :
    Out P σ H nx w v H' nx' (Instr.makeMap t r') := by
  have fin : some (AV.map nx, H.put nx (some (.map [] false)), nx + 1) = some (v, H', nx') → Out P σ H nx w v H' nx' (do pure (.map (some (← newObj (.map #[] 0))))) := by
    intro h
    simp only [Option.some.injEq, Prod.mk.injEq] at h
    obtain ⟨rfl, rfl, rfl⟩ := h
    have := alloc_step (w' := { w with heap := w.heap.push (.map #[] 0) }) g (o := .map [] false) (O := .map #[] 0) (room := 0) rfl rfl rfl rfl ⟨#[], 0, [], rfl, .nil, by simp [MapR], Borns.nil⟩
    refine ⟨.map (some w.heap.size), _, _, rfl, ?_, this.1, this.2⟩
    simp only [VR]
    exact ⟨_, Sig.upd_same _ _ _, rfl⟩
  unfold makeMapOp at h
  cases hr with
  | none => exact fin h
  | some hv =>
    rename_i a x
    split at h
    · cases ‹some a = none›
    · rename_i k n he
      injection he with he; subst he
      simp only [VR] at hv; subst hv
      split at h
      · rename_i hi
        have F := (hT _ _ hi).under
        unfold Instr.makeMap
        simp only
        refine Out.bind (run_under F w) ?_
        refine Out.bind (a := n) rfl ?_
        exact fin h
      · cases h
    · cases h
def foldOp (P : Program) (two : Value → Value → Sem Value) (xs : List AV) : Option AV :=
  (plains xs).bind fun l =>
    match l with
    | [] => none
    | x :: rest => (pureRun P (rest.foldlM two x)).map abs
theorem foldOp_max (g : Good σ H nx w) {xs : List AV} {ys : List Value} {v : AV} {ts : Array TypeId} {ty : TypeId} (hx : VRs σ xs ys) (h : foldOp P Builtin.max2 xs = some v) :
    Out P σ H nx w v H nx (Builtin.max_ ts ty ys.toArray) := by
  unfold foldOp at h
  simp only [Option.bind_eq_some_iff] at h
  obtain ⟨l, hl, h⟩ := h
  have := plains_eq hl hx
  subst this
  split at h
  · cases h
  · simp only [Option.map_eq_some_iff] at h
    obtain ⟨z, hz, rfl⟩ := h
    exact Out.same g (x := z) (by simpa [Builtin.max_] using pureRun_ok w hz) (abs_VR σ z)
theorem foldOp_min (g : Good σ H nx w) {xs : List AV} {ys : List Value} {v : AV} {ts : Array TypeId} {ty : TypeId} (hx : VRs σ xs ys) (h : foldOp P Builtin.min2 xs = some v) :
    Out P σ H nx w v H nx (Builtin.min_ ts ty ys.toArray) := by
  unfold foldOp at h
  simp only [Option.bind_eq_some_iff] at h
  obtain ⟨l, hl, h⟩ := h
  have := plains_eq hl hx
  subst this
  split at h
  · cases h
  · simp only [Option.map_eq_some_iff] at h
    obtain ⟨z, hz, rfl⟩ := h
    exact Out.same g (x := z) (by simpa [Builtin.min_] using pureRun_ok w hz) (abs_VR σ z)
end CI
noncomputable section
namespace CI
open Go
variable {P : Program} {σ : Sig} {H : Heap} {nx : Nat} {w : World}
theorem rowAt_mono {fits : TypeId → Bool} {d : Nat} {e : TypeId} {c c' off n : Nat} (h : c ≤ c') (hr : rowAt P fits d e c off n = true) : rowAt P fits d e c' off n = true := by
  cases d with
  | zero => simp [rowAt] at hr
  | succ d =>
    simp only [rowAt] at hr ⊢
    split at hr
    · cases hr
    · rename_i hs
      rw [if_neg hs]
      simp only [Bool.or_eq_true, Bool.and_eq_true, decide_eq_true_eq, beq_iff_eq] at hr ⊢
      rcases hr with ⟨⟨h1, h2⟩, h3⟩ | ⟨h1, h2⟩
      · exact .inl ⟨⟨h1, by omega⟩, h3⟩
      · exact .inr ⟨by omega, h2⟩
theorem liesAt_mono : ∀ {d : Nat} {e u : TypeId} {c c' off n : Nat}, c ≤ c' → liesAt P d e c off u n = true → liesAt P d e c' off u n = true
  | 0, _, _, _, _, _, _, _, h => by simp [liesAt] at h
  | d + 1, e, u, c, c', off, n, h, hr => by
    simp only [liesAt, Bool.or_eq_true] at hr ⊢
    rcases hr with hr | hr
    · exact .inl (rowAt_mono h hr)
    · right
      split at hr
      · exact liesAt_mono h hr
      · cases hr
def convU (P : Program) (T : Tr TInfo) (H : Heap) (s d : TypeId) (x : AV) : Option AV :=
  match T.get s, T.get d, x with
  | some { desc := .pointer e, .. }, some { desc := .unsafePointer, .. }, .ptr b o =>
    match H.get b, T.get e with
    | some (.cells cs _ _), some ei => if ei.size ≠ 0 ∧ o < cs.length then some (.ptr b o) else none
    | _, _ => none
  | some { desc := .unsafePointer, .. }, some { desc := .pointer u, .. }, .ptr b o =>
    match H.get b, T.get u with
    | some (.cells cs t _), some _ => if liesAt P P.depth t (cs.length / P.cellsOf t) o u 1 = true then some (.ptr b o) else none
    | _, _ => none
  | _, _, _ => none
theorem convU_out {T : Tr TInfo} (hT : TOK P T) (g : Good σ H nx w) {s d : TypeId} {x v : AV} {xv : Value} (hx : VR σ x xv) (h : convU P T H s d x = some v) : Out P σ H nx w v H nx (convert s d xv) := by
  unfold convU at h
  split at h
  · rename_i e _ _ _ _ _ _ _ _ _ _ b o hs hd
    split at h
    · rename_i cs tb ro ei hb he
      split at h
      · rename_i hc
        injection h with h; subst h
        simp only [VR] at hx
        obtain ⟨l, hl, rfl⟩ := hx
        obtain ⟨C, fz, hC, hC1, hC2, hC3, _⟩ := g.obj b _ l hb hl
        obtain ⟨info, e1, e2, _⟩ := (hT e ei he).info
        refine ⟨_, w, σ, Lib.run_to_unsafe w _ (hT s _ hs).under (hT d _ hd).under e1 (by rw [e2]; exact hc.1) (e := tb) (cells := C.size) ?_ ?_, ?_, Step.refl, g⟩
        · simp [World.shape?, hC]
        · have := hc.2; simp only [Loc.base_eq] at hC2 ⊢; omega
        · simp only [VR]; exact ⟨l, hl, rfl⟩
      · cases h
    · cases h
  · rename_i u _ _ _ _ _ b o hs hd
    split at h
    · rename_i cs tb ro ei hb he
      split at h
      · rename_i hc
        injection h with h; subst h
        simp only [VR] at hx
        obtain ⟨l, hl, rfl⟩ := hx
        obtain ⟨C, fz, hC, hC1, hC2, hC3, _⟩ := g.obj b _ l hb hl
        obtain ⟨info, e1, e2, _⟩ := (hT _ ei he).info
        refine ⟨_, w, σ, Lib.run_from_unsafe w _ (hT s _ hs).under (hT d _ hd).under e1 (e := tb) (cells := C.size) ?_ ?_, ?_, Step.refl, g⟩
        · simp [World.shape?, hC]
        · simp only [Loc.base_eq, Nat.zero_add] at hC2 ⊢
          exact liesAt_mono (Nat.div_le_div_right (by omega)) hc
        · simp only [VR]; exact ⟨l, hl, rfl⟩
      · cases h
    · cases h
  · cases h
variable {H' : Heap} {nx' : Nat}
def convA (P : Program) (T : Tr TInfo) (H : Heap) (nx : Nat) (s d : TypeId) (x : AV) : Res :=
  match convOp P T H nx s d x with
  | some r => some r
  | none => (convU P T H s d x).map fun v => (v, H, nx)
theorem convA_out {T : Tr TInfo} (hT : TOK P T) (g : Good σ H nx w) {s d : TypeId} {x v : AV} {xv : Value} (hx : VR σ x xv) (h : convA P T H nx s d x = some (v, H', nx')) : Out P σ H nx w v H' nx' (convert s d xv) := by
  unfold convA at h
  split at h
  · rename_i r hr
    injection h with h; subst h
    exact convOp_out hT g hx hr
  · simp only [Option.map_eq_some_iff, Prod.mk.injEq] at h
    obtain ⟨u, hu, rfl, rfl, rfl⟩ := h
    exact convU_out hT g hx hu
end CI
noncomputable section
namespace CI
open Go
variable {P : Program} {σ : Sig} {H : Heap} {nx : Nat} {w : World}
def sliceDataOp (x : AV) : Option AV :=
  match x with
  | .slice b o (_ + 1) _ _ => some (.ptr b o)
  | .lit (.slice none _ _) => some (.lit (.pointer none))
  | _ => none
theorem sliceDataOp_out (g : Good σ H nx w) {ts : Array TypeId} {ty : TypeId} {x v : AV} {xv : Value} (hx : VR σ x xv) (h : sliceDataOp x = some v) : Out P σ H nx w v H nx (Builtin.unsafeSliceData_ ts ty #[xv]) := by
  unfold sliceDataOp at h
  split at h
  · rename_i b o n c e
    injection h with h; subst h
    simp only [VR] at hx
    obtain ⟨l, c', hl, rfl, hok, _⟩ := hx
    refine ⟨.pointer (some ⟨l.blk, l.base + o, none⟩), w, σ, ?_, ?_, Step.refl, g⟩
    · cases c' with
      | zero => omega
      | succ k => rfl
    · simp only [VR]; exact ⟨l, hl, rfl⟩
  · injection h with h; subst h
    simp only [VR] at hx
    subst hx
    exact ⟨_, w, σ, rfl, rfl, Step.refl, g⟩
  · cases h
variable {H' : Heap} {nx' : Nat}
theorem run_loadBytesI : ∀ (ns : List Int) (a : Addr) (acc : ByteArray), (∀ j n, ns[j]? = some n → w.cell? (a.add j) = some (.int .u8 n)) →
    (loadBytes a acc ns.length).run P w = .ok (ns.foldl (fun r n => r.push (UInt8.ofNat n.toNat)) acc) w
  | [], a, acc, h => rfl
  | n :: ns, a, acc, h => by
    have h0 := h 0 n rfl
    have e0 : a.add 0 = a := by simp [Addr.add]
    rw [e0] at h0
    have ih := run_loadBytesI ns (a.add 1) (acc.push (UInt8.ofNat n.toNat)) (fun j m hj => by
      have := h (j + 1) m hj
      rw [← this]
      congr 1
      unfold Addr.add
      split <;> simp_all <;> omega)
    simp only [List.length_cons, loadBytes, List.foldl_cons]
    have hl : (load a).run P w = .ok (.int .u8 n) w := by simp [h0]
    rw [run_bind_ok hl]
    exact ih
def unsafeStringOp (P : Program) (T : Tr TInfo) (H : Heap) (nx : Nat) (t : TypeId) (x n : AV) : Res :=
  match x, n with
  | .ptr b o, .lit (.int _ (.ofNat (k + 1))) =>
    match T.get t, H.get b with
    | some { desc := .pointer e, .. }, some (.cells cs tb false) =>
      if liesAt P P.depth tb (cs.length / P.cellsOf tb) o e (k + 1) = true ∧ ((k + 1 : Nat) : Int) ≤ IntKind.i64.max then
        ((cut cs o (k + 1)).bind bytesOf).map fun ns => (.lit (.string (ns.foldl (fun r n => r.push (UInt8.ofNat n.toNat)) ByteArray.empty)), H.put b (some (.cells cs tb true)), nx)
      else none
    | _, _ => none
  | .lit (.pointer none), .lit (.int _ 0) => some (.lit (.string ByteArray.empty), H, nx)
  | _, _ => none
theorem unsafeStringOp_out {T : Tr TInfo} (hT : TOK P T) (g : Good σ H nx w) {t t2 ty : TypeId} {x n v : AV} {xv nv : Value} (hx : VR σ x xv) (hn : VR σ n nv) (h : unsafeStringOp P T H nx t x n = some (v, H', nx')) :
    Out P σ H nx w v H' nx' (Builtin.unsafeString_ #[t, t2] ty #[xv, nv]) := by
  unfold unsafeStringOp at h
  split at h
  · rename_i b o kk k
    split at h
    · rename_i e _ _ _ _ _ cs tb ht hb
      split at h
      · rename_i hc
        obtain ⟨hlie, hmax⟩ := hc
        simp only [Option.map_eq_some_iff, Option.bind_eq_some_iff, Prod.mk.injEq] at h
        obtain ⟨ns, ⟨vs, hcut, hns⟩, rfl, rfl, rfl⟩ := h
        simp only [VR] at hx hn
        obtain ⟨l, hl, rfl⟩ := hx
        subst hn
        obtain ⟨C, fz, hC, hC1, hC2, hC3, hC4⟩ := g.obj b _ l hb hl
        obtain ⟨xs, h1, h2, h3⟩ := g.toSim.cells hb hl hcut
        have hxs := bytesOf_ok h1 hns
        subst hxs
        have hlen : ns.length = k + 1 := by simpa using h2
        have hload := run_loadBytesI (P := P) (w := w) ns ⟨l.blk, l.base + o, none⟩ ByteArray.empty (fun j m hj => by
          have := h3 j (.int .u8 m) (by simp [hj])
          rw [← this]
          congr 1
          unfold Addr.add
          split
          · rename_i hj0; subst hj0; simp
          · rfl)
        rw [hlen] at hload
        have hlies : liesAt P P.depth tb (C.size / P.cellsOf tb) (l.base + o) e (k + 1) = true := by
          simp only [Loc.base_eq, Nat.zero_add] at hC2 ⊢
          exact liesAt_mono (Nat.div_le_div_right (by omega)) hlie
        have hsh : w.shape? l.blk = some (tb, C.size) := by simp [World.shape?, hC]
        have hund := (hT t _ ht).under
        have hms := mod_step (w' := w.freeze ⟨l.blk, l.base + o, none⟩ (k + 1)) g hb (o' := .cells cs tb true) rfl hl (by simp [World.freeze]) (fun j hj => by
            simp only [World.freeze, Nat.add_eq_zero_iff, Nat.one_ne_zero, and_false, if_false]
            rw [Array.getElem?_modify, if_neg (fun h => hj h.symm)]) (by simp [World.freeze]) (by simp [World.freeze]) (by simp [World.freeze]) (by
            refine ⟨C, (if (fz.1 == fz.2) = true then (l.base + o, l.base + o + (k + 1)) else (min fz.1 (l.base + o), max fz.2 (l.base + o + (k + 1)))), ?_, hC1, hC2, hC3, fun h => by cases h⟩
            · simp only [World.freeze, Nat.add_eq_zero_iff, Nat.one_ne_zero, and_false, if_false]
              rw [Array.getElem?_modify, if_pos rfl, hC]
              rfl)
        refine ⟨.string (ns.foldl (fun r n => r.push (UInt8.ofNat n.toNat)) ByteArray.empty), w.freeze ⟨l.blk, l.base + o, none⟩ (k + 1), σ, ?_, ?_, hms.1, hms.2⟩
        · have hdef : Builtin.unsafeString_ #[t, t2] ty #[.pointer (some ⟨l.blk, l.base + o, none⟩), .int kk (Int.ofNat (k + 1))] =
              (do
                let n ← asInt (.int kk (Int.ofNat (k + 1)))
                if n < 0 then runtimePanic (.error "unsafe.String: len out of range")
                if n > IntKind.i64.max then unsupported (.unsafePointer "String: a length above the largest int")
                if n = 0 then pure (.string .empty)
                else if ← variablesAt ⟨l.blk, l.base + o, none⟩ (← elemOf t) n.toNat then do
                  let s ← loadBytes ⟨l.blk, l.base + o, none⟩ .empty n.toNat
                  freeze ⟨l.blk, l.base + o, none⟩ n.toNat
                  pure (.string s)
                else unsupported (.unsafePointer "String: not so many bytes at ptr")) := rfl
          rw [hdef]
          have hn0 : ¬ (((k + 1 : Nat) : Int) < 0) := by omega
          have hn1 : ¬ (IntKind.i64.max < ((k + 1 : Nat) : Int)) := by omega
          have hn2 : ¬ (((k + 1 : Nat) : Int) = 0) := by omega
          have e1 : (asInt (.int kk (Int.ofNat (k + 1)))).run P w = .ok ((k + 1 : Nat) : Int) w := rfl
          rw [run_bind_ok e1]
          simp only [if_neg hn0, if_neg hn1, if_neg hn2, gt_iff_lt]
          have e2 : (elemOf t).run P w = .ok e w := by simp [elemOf, run_underlying hund]
          have e3 : (variablesAt ⟨l.blk, l.base + o, none⟩ e (k + 1)).run P w = .ok true w := by simp [variablesAt, hsh, hlies]
          simp [e2, e3, hload]
        · simp [VR]
      · cases h
    · cases h
  · simp only [Option.some.injEq, Prod.mk.injEq] at h
    obtain ⟨rfl, rfl, rfl⟩ := h
    simp only [VR] at hx hn
    subst hx; subst hn
    exact ⟨_, w, σ, rfl, rfl, Step.refl, g⟩
  · cases h
end CI
noncomputable section
namespace CI
open Go
variable {P : Program} {σ σ' : Sig} {H H' : Heap} {nx nx' : Nat} {w w' : World}
theorem pureRun_bind {α β : Type} {m : Sem α} {f : α → Sem β} : pureRun P (m >>= f) = (pureRun P m).bind fun a => pureRun P (f a) := by
  show pureRun P (Sem.bind m f) = _
  induction m with
  | pure b => rfl
  | program k ih => simp only [Sem.bind, pureRun]; exact ih P
  | mark s k ih => simp only [Sem.bind, pureRun]; exact ih
  | _ => rfl
theorem pureRun_under {t : TypeId} {d : TypeDesc} (h : P.underlying t = some d) : pureRun P (underlying t) = some d := by
  unfold Go.underlying
  simp only [Bind.bind, program, Sem.bind, pureRun]
  rw [h]
  rfl
def eqK (P : Program) (kt : TypeId) (k x : Value) : Option Bool := pureRun P (Op.equal kt k x)
theorem sameNow_eq {kt : TypeId} {d : TypeDesc} (hd : pureRun P (underlying kt) = some d) {x y : Value} {b : Bool} (h : Instr.sameNow d x y = some b) : eqK P kt x y = some b := by
  unfold eqK Op.equal
  unfold Instr.sameNow at h
  show pureRun P (Op.equalIn (9999 + 1) kt x y) = some b
  unfold Op.equalIn
  rw [pureRun_bind, hd]
  simp only [Option.bind_some]
  split at h
  · split at h
    · rename_i hk; subst hk; simp only [if_true]; injection h with h; subst h; rfl
    · cases h
  · injection h with h; subst h; rfl
  · injection h with h; subst h; rfl
  · cases h
def findU (P : Program) (kt : TypeId) (k : Value) : List Value → Nat → Option (Option Nat)
  | [], _ => some none
  | x :: xs, i =>
    match eqK P kt k x, findU P kt k xs (i + 1) with
    | some false, r => r
    | some true, some none => some (some i)
    | _, _ => none
theorem findU_none {kt : TypeId} {k : Value} : ∀ {xs : List Value} {i : Nat}, findU P kt k xs i = some none → ∀ x ∈ xs, eqK P kt k x = some false
  | [], _, _ => by simp
  | x :: xs, i, h => by
    simp only [findU] at h
    split at h
    · rename_i he
      intro y hy
      rcases List.mem_cons.1 hy with rfl | hy
      · exact he
      · exact findU_none h y hy
    · cases h
    · cases h
theorem findU_some {kt : TypeId} {k : Value} : ∀ {xs : List Value} {i j : Nat}, findU P kt k xs i = some (some j) → ∃ n x, j = i + n ∧ xs[n]? = some x ∧ eqK P kt k x = some true ∧
    ∀ m y, xs[m]? = some y → m ≠ n → eqK P kt k y = some false
  | [], _, _, h => by simp [findU] at h
  | x :: xs, i, j, h => by
    simp only [findU] at h
    split at h
    · rename_i he
      obtain ⟨n, y, rfl, h1, h2, h3⟩ := findU_some h
      refine ⟨n + 1, y, by omega, by simpa using h1, h2, fun m z hm hne => ?_⟩
      cases m with
      | zero => simp at hm; subst hm; exact he
      | succ m => exact h3 m z (by simpa using hm) (by omega)
    · rename_i he hr
      injection h with h; injection h with h; subst h
      refine ⟨0, x, rfl, rfl, he, fun m z hm hne => ?_⟩
      cases m with
      | zero => exact absurd rfl hne
      | succ m => exact findU_none hr z (List.mem_of_getElem? (by simpa using hm))
    · cases h
theorem findAsking_of {kt : TypeId} {k : Value} : ∀ (E : List MapEntry) (i : Nat), (∀ e ∈ E, eqK P kt k e.key = some false) → pureRun P (Instr.findAsking kt k E i) = some none
  | [], i, _ => rfl
  | e :: E, i, h => by
    simp only [Instr.findAsking]
    rw [pureRun_bind]
    have := h e (by simp)
    unfold eqK at this
    rw [this]
    simp only [Option.bind_some, Bool.false_eq_true, if_false]
    exact findAsking_of E (i + 1) fun e he => h e (by simp [he])
theorem findAsking_at {kt : TypeId} {k : Value} : ∀ (E : List MapEntry) (i n : Nat) (e : MapEntry), E[n]? = some e → eqK P kt k e.key = some true → (∀ m e', E[m]? = some e' → m ≠ n → eqK P kt k e'.key = some false) →
    pureRun P (Instr.findAsking kt k E i) = some (some (i + n, e.val))
  | [], i, n, e, h, _, _ => by simp at h
  | e0 :: E, i, n, e, hn, he, h => by
    simp only [Instr.findAsking]
    rw [pureRun_bind]
    cases n with
    | zero =>
      simp at hn; subst hn
      unfold eqK at he
      rw [he]
      rfl
    | succ n =>
      have := h 0 e0 rfl (by omega)
      unfold eqK at this
      rw [this]
      simp only [Option.bind_some, Bool.false_eq_true, if_false]
      rw [findAsking_at E (i + 1) n e (by simpa using hn) he fun m e' hm hne => h (m + 1) e' (by simpa using hm) (by omega)]
      congr 3; omega
theorem findNow_of {kt : TypeId} {d : TypeDesc} (hd : pureRun P (underlying kt) = some d) {k : Value} : ∀ (E : List MapEntry) (i : Nat) (r : Option (Nat × Value)), Instr.findNow d k E i = some r →
    pureRun P (Instr.findAsking kt k E i) = some r
  | [], i, r, h => by simp only [Instr.findNow] at h; injection h with h; subst h; rfl
  | e :: E, i, r, h => by
    simp only [Instr.findNow] at h
    simp only [Instr.findAsking]
    rw [pureRun_bind]
    cases hs : Instr.sameNow d k e.key with
    | none => rw [hs] at h; cases h
    | some b =>
      rw [hs] at h
      have := sameNow_eq (P := P) hd hs
      unfold eqK at this
      rw [this]
      cases b with
      | true => simp only at h; injection h with h; subst h; rfl
      | false =>
        simp only at h
        simp only [Option.bind_some, Bool.false_eq_true, if_false]
        exact findNow_of hd E (i + 1) r h
theorem findKey_of {kt : TypeId} {d : TypeDesc} (hd : pureRun P (underlying kt) = some d) {k : Value} {E : List MapEntry} {r : Option (Nat × Value)} (h : pureRun P (Instr.findAsking kt k E) = some r) :
    pureRun P (Instr.findKey kt k E) = some r := by
  unfold Instr.findKey
  rw [pureRun_bind, hd]
  simp only [Option.bind_some]
  cases hn : Instr.findNow d k E 0 with
  | none => exact h
  | some a =>
    have := findNow_of hd E 0 a hn
    rw [h] at this; injection this with this; subst this
    rfl
theorem MapR.keys : ∀ {es : List (AV × AV)} {E : List MapEntry}, MapR σ es E → VRs σ (es.map (·.1)) (E.map (·.key))
  | [], _, h => by simp only [MapR] at h; subst h; simp [VRs]
  | (k, v) :: es, _, h => by
    simp only [MapR] at h
    obtain ⟨e, E', rfl, h1, h2, h3⟩ := h
    simp only [List.map_cons, VRs]
    exact ⟨_, _, rfl, h1, MapR.keys h3⟩
theorem MapR.at_ : ∀ {es : List (AV × AV)} {E : List MapEntry} {i : Nat} {p : AV × AV}, MapR σ es E → es[i]? = some p → ∃ e, E[i]? = some e ∧ VR σ p.1 e.key ∧ VR σ p.2 e.val
  | [], _, _, _, _, h => by simp at h
  | (k, v) :: es, _, 0, p, h, hp => by
    simp only [MapR] at h
    obtain ⟨e, E', rfl, h1, h2, h3⟩ := h
    simp only [List.getElem?_cons_zero, Option.some.injEq] at hp ⊢
    subst hp
    exact ⟨e, rfl, h1, h2⟩
  | (k, v) :: es, _, i + 1, p, h, hp => by
    simp only [MapR] at h
    obtain ⟨e, E', rfl, h1, h2, h3⟩ := h
    simp only [List.getElem?_cons_succ] at hp ⊢
    exact MapR.at_ h3 hp
theorem MapR.snoc : ∀ {es : List (AV × AV)} {E : List MapEntry} {k v : AV} {e : MapEntry}, MapR σ es E → VR σ k e.key → VR σ v e.val → MapR σ (es ++ [(k, v)]) (E ++ [e])
  | [], _, k, v, e, h, hk, hv => by simp only [MapR] at h; subst h; simp only [List.nil_append, MapR]; exact ⟨e, [], rfl, hk, hv, rfl⟩
  | (k', v') :: es, _, k, v, e, h, hk, hv => by
    simp only [MapR] at h
    obtain ⟨e', E', rfl, h1, h2, h3⟩ := h
    simp only [List.cons_append, MapR]
    exact ⟨e', _, rfl, h1, h2, MapR.snoc h3 hk hv⟩
theorem MapR.put : ∀ {es : List (AV × AV)} {E : List MapEntry} {i : Nat} {k v : AV} {f : MapEntry → MapEntry}, MapR σ es E → i < es.length → (∀ e, VR σ k (f e).key ∧ VR σ v (f e).val) →
    MapR σ (es.set i (k, v)) (E.modify i f)
  | [], _, _, _, _, _, _, hi, _ => by simp at hi
  | (k', v') :: es, _, 0, k, v, f, h, hi, hf => by
    simp only [MapR] at h
    obtain ⟨e', E', rfl, h1, h2, h3⟩ := h
    simp only [List.set_cons_zero, List.modify_zero_cons, MapR]
    exact ⟨_, _, rfl, (hf e').1, (hf e').2, h3⟩
  | (k', v') :: es, _, i + 1, k, v, f, h, hi, hf => by
    simp only [MapR] at h
    obtain ⟨e', E', rfl, h1, h2, h3⟩ := h
    simp only [List.set_cons_succ, List.modify_succ_cons, MapR]
    exact ⟨_, _, rfl, h1, h2, MapR.put h3 (by simpa using hi) hf⟩
theorem MapR.erase : ∀ {es : List (AV × AV)} {E : List MapEntry} {i : Nat}, MapR σ es E → MapR σ (es.eraseIdx i) (E.eraseIdx i)
  | [], _, i, h => by simp only [MapR] at h; subst h; simp [MapR]
  | (k', v') :: es, _, 0, h => by
    simp only [MapR] at h
    obtain ⟨e', E', rfl, h1, h2, h3⟩ := h
    simpa using h3
  | (k', v') :: es, _, i + 1, h => by
    simp only [MapR] at h
    obtain ⟨e', E', rfl, h1, h2, h3⟩ := h
    simp only [List.eraseIdx_cons_succ, MapR]
    exact ⟨_, _, rfl, h1, h2, MapR.erase h3⟩
theorem plains_get : ∀ {vs : List AV} {xs : List Value} {i : Nat} {v : AV}, plains vs = some xs → vs[i]? = some v → ∃ x, xs[i]? = some x ∧ plain v = some x
  | [], _, _, _, _, h => by simp at h
  | u :: vs, xs, i, v, hp, h => by
    simp only [plains, Option.bind_eq_some_iff, Option.map_eq_some_iff] at hp
    obtain ⟨y, h1, l, h2, rfl⟩ := hp
    cases i with
    | zero => simp at h; subst h; exact ⟨y, rfl, h1⟩
    | succ i =>
      obtain ⟨x, a, b⟩ := plains_get h2 (show vs[i]? = some v by simpa using h)
      exact ⟨x, by simpa using a, b⟩
theorem plains_get' : ∀ {vs : List AV} {xs : List Value} {i : Nat} {x : Value}, plains vs = some xs → xs[i]? = some x → ∃ v, vs[i]? = some v ∧ plain v = some x
  | [], xs, _, _, hp, h => by simp only [plains, Option.some.injEq] at hp; subst hp; simp at h
  | u :: vs, xs, i, x, hp, h => by
    simp only [plains, Option.bind_eq_some_iff, Option.map_eq_some_iff] at hp
    obtain ⟨y, h1, l, h2, rfl⟩ := hp
    cases i with
    | zero => simp at h; subst h; exact ⟨u, rfl, h1⟩
    | succ i =>
      obtain ⟨v, a, b⟩ := plains_get' h2 (show l[i]? = some x by simpa using h)
      exact ⟨v, by simpa using a, b⟩
theorem erase_perm {α : Type} : ∀ {l : List α} {i : Nat} {x : α}, l[i]? = some x → l.Perm (x :: l.eraseIdx i)
  | [], _, _, h => by simp at h
  | a :: l, 0, x, h => by simp at h; subst h; exact .refl _
  | a :: l, i + 1, x, h => by
    simp only [List.getElem?_cons_succ] at h
    simp only [List.eraseIdx_cons_succ]
    exact ((erase_perm h).cons a).trans (.swap x a _)
theorem set_perm {α : Type} : ∀ {l : List α} {i : Nat} {y : α}, i < l.length → (l.set i y).Perm (y :: l.eraseIdx i)
  | [], _, _, h => by simp at h
  | a :: l, 0, y, h => .refl _
  | a :: l, i + 1, y, h => by
    simp only [List.set_cons_succ, List.eraseIdx_cons_succ]
    exact ((set_perm (by simpa using h)).cons a).trans (.swap y a _)
theorem two_le_count {α : Type} [BEq α] [LawfulBEq α] {l : List α} {i j : Nat} {a : α} (hi : l[i]? = some a) (hj : l[j]? = some a) (h : i ≠ j) : 2 ≤ l.count a := by
  rw [(erase_perm hi).count_eq, List.count_cons_self]
  have : a ∈ l.eraseIdx i := by
    rw [List.mem_eraseIdx_iff_getElem?]
    exact ⟨j, Ne.symm h, hj⟩
  have := List.count_pos_iff.2 this
  omega
theorem count_one {α : Type} [BEq α] [LawfulBEq α] {l : List α} {i : Nat} {a : α} (hi : l[i]? = some a) (h : ∀ j, l[j]? = some a → j = i) : l.count a = 1 := by
  rw [(erase_perm hi).count_eq, List.count_cons_self]
  have : (l.eraseIdx i).count a = 0 := by
    rw [List.count_eq_zero, List.mem_eraseIdx_iff_getElem?]
    rintro ⟨j, hj, he⟩
    exact hj (h j he)
  omega
theorem find_perm {kt : TypeId} {d : TypeDesc} (hd : pureRun P (underlying kt) = some d) {k : Value} {es es' : List (AV × AV)} {E : List MapEntry} {ks : List Value} {r : Option Nat} (hp : es'.Perm es) (hm : MapR σ es' E)
    (hks : plains (es.map (·.1)) = some ks) (h : findU P kt k ks 0 = some r) :
    match r with
    | none => pureRun P (Instr.findKey kt k E) = some none
    | some i => ∃ i' p e, es[i]? = some p ∧ es'[i']? = some p ∧ E[i']? = some e ∧ VR σ p.1 e.key ∧ VR σ p.2 e.val ∧ plain p.1 = some e.key ∧ pureRun P (Instr.findKey kt k E) = some (some (i', e.val)) := by
  have key : ∀ (i' : Nat) (e : MapEntry), E[i']? = some e → ∃ (p : AV × AV) (i : Nat), es'[i']? = some p ∧ es[i]? = some p ∧ ks[i]? = some e.key ∧ VR σ p.1 e.key ∧ VR σ p.2 e.val ∧ plain p.1 = some e.key := by
    intro i' e he
    have hlen := hm.length
    have hlt : i' < es'.length := by
      have := (List.getElem?_eq_some_iff.1 he).1; omega
    have hp' := List.getElem?_eq_getElem hlt
    obtain ⟨e2, h1, h2, h3⟩ := hm.at_ hp'
    rw [he] at h1; injection h1 with h1; subst h1
    have hmem : es'[i'] ∈ es := hp.mem_iff.1 (List.getElem_mem hlt)
    obtain ⟨i, hi, hie⟩ := List.mem_iff_getElem.1 hmem
    have hi' : es[i]? = some es'[i'] := by rw [List.getElem?_eq_getElem hi, hie]
    obtain ⟨x, hx1, hx2⟩ := plains_get hks (show (es.map (·.1))[i]? = some es'[i'].1 by rw [List.getElem?_map, hi']; rfl)
    have := plain_eq hx2 h2
    subst this
    exact ⟨es'[i'], i, hp', hi', hx1, h2, h3, hx2⟩
  cases r with
  | none =>
    simp only
    refine findKey_of hd (findAsking_of E 0 fun e he => ?_)
    obtain ⟨i', hi', rfl⟩ := List.mem_iff_getElem.1 he
    obtain ⟨p, i, _, _, hk, _⟩ := key i' _ (List.getElem?_eq_getElem hi')
    exact findU_none h _ (List.mem_of_getElem? hk)
  | some i =>
    simp only
    obtain ⟨n, x, hn, h1, h2, h3⟩ := findU_some h
    simp only [Nat.zero_add] at hn; subst hn
    obtain ⟨kv, hkv, hpl⟩ := plains_get' hks h1
    rw [List.getElem?_map, Option.map_eq_some_iff] at hkv
    obtain ⟨p, hpi, rfl⟩ := hkv
    have hmem : p ∈ es' := hp.mem_iff.2 (List.mem_of_getElem? hpi)
    obtain ⟨i', hi', hie⟩ := List.mem_iff_getElem.1 hmem
    have hp' : es'[i']? = some p := by rw [List.getElem?_eq_getElem hi', hie]
    obtain ⟨e, he, hv1, hv2⟩ := hm.at_ hp'
    have hxe := plain_eq hpl hv1
    subst hxe
    have hF : ∀ (m : Nat) (q : AV × AV), es[m]? = some q → (plain q.1).bind (eqK P kt k) = some (decide (m = i)) := by
      intro m q hq
      obtain ⟨y, hy1, hy2⟩ := plains_get hks (show (es.map (·.1))[m]? = some q.1 by rw [List.getElem?_map, hq]; rfl)
      rw [hy2]
      simp only [Option.bind_some]
      by_cases hmi : m = i
      · subst hmi
        rw [h1] at hy1; injection hy1 with hy1; subst hy1
        rw [h2]; simp
      · rw [h3 m y hy1 hmi]; simp [hmi]
    have c1 : (es.map fun q => (plain q.1).bind (eqK P kt k)).count (some true) = 1 := by
      refine count_one (l := es.map fun q => (plain q.1).bind (eqK P kt k)) (i := i) (a := some true) (by rw [List.getElem?_map, hpi, Option.map_some, hF i p hpi]; simp) fun j hj => ?_
      rw [List.getElem?_map, Option.map_eq_some_iff] at hj
      obtain ⟨q, hq, hq2⟩ := hj
      rw [hF j q hq] at hq2
      simpa using hq2
    have c2 : (es'.map fun q => (plain q.1).bind (eqK P kt k)).count (some true) = 1 := by
      rw [(hp.map fun q => (plain q.1).bind (eqK P kt k)).count_eq]; exact c1
    refine ⟨i', p, e, hpi, hp', he, hv1, hv2, hpl, findKey_of hd ?_⟩
    rw [findAsking_at (P := P) (kt := kt) (k := k) E 0 i' e he h2 ?_]
    · congr 3; omega
    · intro m e' hm' hne
      obtain ⟨p2, j, q1, q2, q3, _, _, q6⟩ := key m e' hm'
      have hb := hF j p2 q2
      rw [q6] at hb
      simp only [Option.bind_some] at hb
      by_cases hj : j = i
      · exfalso
        have hb' : (plain p2.1).bind (eqK P kt k) = some true := by rw [q6]; simp only [Option.bind_some, hb, hj]; simp
        have hpb : (plain p.1).bind (eqK P kt k) = some true := by rw [hpl]; exact h2
        have := two_le_count (a := some true) (l := es'.map fun q => (plain q.1).bind (eqK P kt k)) (i := m) (j := i') (by rw [List.getElem?_map, q1, Option.map_some, hb']) (by rw [List.getElem?_map, hp', Option.map_some, hpb]) hne
        omega
      · rw [hb]; simp [hj]
end CI
noncomputable section
namespace CI
open Go
variable {P : Program} {σ σ' : Sig} {H H' : Heap} {nx nx' : Nat} {w w' : World}
theorem perm_erase {α : Type} {l l' : List α} {i i' : Nat} {p : α} (hp : l'.Perm l) (h : l[i]? = some p) (h' : l'[i']? = some p) : (l'.eraseIdx i').Perm (l.eraseIdx i) :=
  ((((erase_perm h').symm.trans hp).trans (erase_perm h))).cons_inv
theorem perm_set {α : Type} {l l' : List α} {i i' : Nat} {p x : α} (hp : l'.Perm l) (h : l[i]? = some p) (h' : l'[i']? = some p) : (l'.set i' x).Perm (l.set i x) := by
  have h1 := (List.getElem?_eq_some_iff.1 h).1
  have h2 := (List.getElem?_eq_some_iff.1 h').1
  exact ((set_perm h2).trans ((perm_erase hp h h').cons x)).trans (set_perm h1).symm
def lexBy (lt : Value → Value → Bool) : List Value → List Value → Bool
  | x :: xs, y :: ys => lt x y || (!lt y x && lexBy lt xs ys)
  | [], _ :: _ => true
  | _, _ => false
def valLt : Nat → Value → Value → Bool
  | _, .int _ a, .int _ b => decide (a < b)
  | _, .string a, .string b => Op.bytesLess a.data.toList b.data.toList
  | n + 1, .agg a, .agg b => lexBy (valLt n) a.toList b.toList
  | _, _, _ => false
def avLt (a b : AV) : Bool := match plain a, plain b with
  | some x, some y => valLt 8 x y
  | _, _ => false
def insS (p : AV × AV) : List (AV × AV) → List (AV × AV)
  | [] => [p]
  | q :: l => if avLt p.1 q.1 then p :: q :: l else q :: insS p l
theorem insS_perm (p : AV × AV) : ∀ l, (insS p l).Perm (p :: l)
  | [] => .refl _
  | q :: l => by
    simp only [insS]
    split
    · exact .refl _
    · exact ((insS_perm p l).cons q).trans (.swap p q l)
theorem Borns.push {L : List MapEntry} {c : Nat} (h : Borns L c) {e : MapEntry} (he : e.born = c) : Borns (L ++ [e]) (c + 1) := by
  refine ⟨?_, ?_⟩
  · rw [List.map_append, List.nodup_append]
    refine ⟨h.1, by simp, fun a ha b hb => ?_⟩
    obtain ⟨e', he', rfl⟩ := List.mem_map.1 ha
    simp at hb
    have := h.2 e' he'
    omega
  · intro e' he'
    rcases List.mem_append.1 he' with h1 | h1
    · have := h.2 e' h1; omega
    · simp at h1; subst h1; omega
theorem Borns.modify {L : List MapEntry} {c i : Nat} (h : Borns L c) {f : MapEntry → MapEntry} (hf : ∀ e, (f e).born = e.born) : Borns (L.modify i f) c := by
  have hm : (L.modify i f).map (·.born) = L.map (·.born) := by
    apply List.ext_getElem?
    intro j
    rw [List.getElem?_map, List.getElem?_map, List.getElem?_modify]
    cases L[j]? with
    | none => rfl
    | some e =>
      split
      · simp [hf]
      · simp
  refine ⟨by rw [hm]; exact h.1, fun e he => ?_⟩
  have : e.born ∈ (L.modify i f).map (·.born) := List.mem_map.2 ⟨e, he, rfl⟩
  rw [hm] at this
  obtain ⟨e', he', hb⟩ := List.mem_map.1 this
  rw [← hb]; exact h.2 e' he'
theorem Borns.erase {L : List MapEntry} {c i : Nat} (h : Borns L c) : Borns (L.eraseIdx i) c :=
  ⟨h.1.sublist ((List.eraseIdx_sublist L i).map _), fun e he => h.2 e (List.mem_of_mem_eraseIdx he)⟩
def entsOf (H : Heap) : AV → Option (List (AV × AV))
  | .lit (.map none) => some []
  | .map b => match H.get b with
    | some (.map es _) => some es
    | _ => none
  | _ => none
def lookupOp (P : Program) (T : Tr TInfo) (H : Heap) (t : TypeId) (m k : AV) (commaOk : Bool) : Option AV :=
  match T.get t with
  | some { desc := .map kt et, .. } =>
    (T.get kt).bind fun ki => (T.get et).bind fun ei => (plain k).bind fun kv => (entsOf H m).bind fun es => (plains (es.map (·.1))).bind fun ks =>
      (pureRun P (Instr.checkKey es.isEmpty 10000 kt kv)).bind fun _ => (findU P kt kv ks 0).bind fun r =>
        ((match r with
          | some i => (es[i]?).map fun e => (e.2, true)
          | none => ei.zero.map fun z => (abs z, false)) : Option (AV × Bool)).map fun q => if commaOk then .tuple [q.1, .lit (.bool q.2)] else q.1
  | _ => none
theorem Good.map_at (g : Good σ H nx w) {b : Nat} {es : List (AV × AV)} {ro : Bool} {l : Loc} (hb : H.get b = some (.map es ro)) (hl : σ b = some l) :
    ∃ E clock es', w.heap[l.blk]? = some (.map E clock) ∧ es'.Perm es ∧ MapR σ es' E.toList ∧ Borns E.toList clock := g.obj b _ l hb hl
theorem run_setObjM {r : Nat} {E : Array MapEntry} {c : Nat} {o : Obj} (h : w.heap[r]? = some (.map E c)) : (setObj r o).run P w = .ok () { w with heap := w.heap.setIfInBounds r o } := by
  simp [setObj, Sem.run, h]
theorem isEmpty_eq {es es' : List (AV × AV)} {E : Array MapEntry} (hp : es'.Perm es) (hm : MapR σ es' E.toList) : es.isEmpty = E.isEmpty := by
  have := hm.length
  rw [hp.length_eq] at this
  rw [Bool.eq_iff_iff]
  simp only [List.isEmpty_iff_length_eq_zero, Array.isEmpty_iff_size_eq_zero, ← Array.length_toList]
  omega
theorem lookupOp_out {T : Tr TInfo} (hT : TOK P T) (g : Good σ H nx w) {t : TypeId} {m k v : AV} {ok : Bool} {x y : Value} (hm : VR σ m x) (hk : VR σ k y)
    (h : lookupOp P T H t m k ok = some v) : Out P σ H nx w v H nx (Instr.lookup t x y ok) := by
  unfold lookupOp at h
  split at h
  · rename_i kt et _ _ _ _ _ hi
    simp only [Option.bind_eq_some_iff, Option.map_eq_some_iff] at h
    obtain ⟨ki, hki, ei, he, kv, hkv, es, hes, ks, hks, u, hu, r, hr, q, hq, rfl⟩ := h
    have hkvy := plain_eq hkv hk
    subst hkvy
    have F := (hT _ _ hi).under
    have hd := pureRun_under (hT _ _ hki).under
    have tail : ∀ (E : Array MapEntry) (es' : List (AV × AV)), es'.Perm es → MapR σ es' E.toList → Out P σ H nx w (if ok then .tuple [q.1, .lit (.bool q.2)] else q.1) H nx (do
        Instr.checkKey E.isEmpty 10000 kt y
        let (v, okk) ← match ← Instr.findKey kt y E.toList with
          | some (_, v) => pure (v, true)
          | none => pure (← zeroValue et, false)
        pure (if ok then .tuple #[v, .bool okk] else v)) := by
      intro E es' hp hE
      rw [isEmpty_eq hp hE] at hu
      refine Out.bind (pureRun_ok w hu) ?_
      have hf := find_perm hd hp hE hks hr
      have fin : ∀ (z : Value), VR σ q.1 z → VR σ (if ok then .tuple [q.1, .lit (.bool q.2)] else q.1) (if ok then .tuple #[z, .bool q.2] else z) := by
        intro z hz
        cases ok
        · exact hz
        · simp only [if_true, VR]
          exact ⟨[z, .bool q.2], rfl, by simp only [VRs]; exact ⟨_, _, rfl, hz, _, _, rfl, by simp [VR], rfl⟩⟩
      cases r with
      | none =>
        simp only [Option.map_eq_some_iff] at hq
        obtain ⟨z, hz, rfl⟩ := hq
        obtain ⟨info, i1, i2, i3, i4⟩ := (hT _ _ he).info
        refine Out.same g (x := if ok then .tuple #[z, .bool false] else z) ?_ (fin z (abs_VR σ z))
        rw [run_bind_ok (pureRun_ok w hf)]
        simp only
        rw [run_bind_ok (run_zero i1 (by rw [i4, hz]) w), run_bind_ok (run_pure' _ w)]
        rfl
      | some i =>
        simp only [Option.map_eq_some_iff] at hq
        obtain ⟨e, hei, rfl⟩ := hq
        obtain ⟨i', p, ce, p1, p2, c1, c2, c3, c4, c5⟩ := hf
        rw [hei] at p1; injection p1 with p1; subst p1
        refine Out.same g (x := if ok then .tuple #[ce.val, .bool true] else ce.val) ?_ (fin ce.val c3)
        rw [run_bind_ok (pureRun_ok w c5)]
        simp only
        rw [run_bind_ok (run_pure' _ w)]
        rfl
    unfold Instr.lookup
    refine Out.bind (run_under F w) ?_
    simp only
    unfold entsOf at hes
    split at hes
    · injection hes with hes; subst hes
      simp only [VR] at hm; subst hm
      exact Out.bind (a := #[]) rfl (tail #[] [] (.refl _) (by simp [MapR]))
    · rename_i b
      split at hes
      · rename_i es0 ro hb
        injection hes with hes; subst hes
        simp only [VR] at hm
        obtain ⟨l, hl, rfl⟩ := hm
        obtain ⟨E, clock, es', e1, e2, e3, _⟩ := g.map_at hb hl
        refine Out.bind (run_getObj e1) ?_
        exact Out.bind (a := E) rfl (tail E es' e2 e3)
      · cases hes
    · cases hes
  · cases h
def mapUpdateOp (P : Program) (T : Tr TInfo) (H : Heap) (t : TypeId) (m k v : AV) : Option Heap :=
  match T.get t, m with
  | some { desc := .map kt _, .. }, .map b =>
    match H.get b with
    | some (.map es false) =>
      (T.get kt).bind fun ki => (plain k).bind fun kv => (plains (es.map (·.1))).bind fun ks => (pureRun P (Instr.checkKey false 10000 kt kv)).bind fun _ => (findU P kt kv ks 0).bind fun r =>
        match r with
        | some i => (ks[i]?).bind fun old => (pureRun P (Instr.keyThatStays old kv)).map fun key => H.put b (some (.map (es.set i (abs key, v)) false))
        | none => some (H.put b (some (.map (insS (k, v) es) false)))
    | _ => none
  | _, _ => none
theorem map_step (g : Good σ H nx w) {b : Nat} {es : List (AV × AV)} {l : Loc} (hb : H.get b = some (.map es false)) (hl : σ b = some l) {E' : Array MapEntry} {c' : Nat} {es1 es2 : List (AV × AV)} (hp : es1.Perm es2) (hE' : MapR σ es1 E'.toList) (hB : Borns E'.toList c') :
    Step σ H nx w σ (H.put b (some (.map es2 false))) nx { w with heap := w.heap.setIfInBounds l.blk (.map E' c') } ∧
    Good σ (H.put b (some (.map es2 false))) nx { w with heap := w.heap.setIfInBounds l.blk (.map E' c') } := by
  have hlt : l.blk < w.heap.size := g.toSim.lt hb hl
  refine mod_step g hb rfl hl (by simp) (fun k hk => by simp [Array.getElem?_setIfInBounds, Ne.symm hk]) rfl rfl rfl ?_
  refine ⟨E', c', es1, ?_, hp, hE', hB⟩
  simp [Array.getElem?_setIfInBounds, hlt]
theorem mapUpdateOp_out {T : Tr TInfo} (hT : TOK P T) (g : Good σ H nx w) {t : TypeId} {m k v : AV} {x y z : Value} (hm : VR σ m x) (hk : VR σ k y) (hv : VR σ v z)
    (h : mapUpdateOp P T H t m k v = some H') : ∃ w', (Instr.mapUpdate t x y z).run P w = .ok () w' ∧ Step σ H nx w σ H' nx w' ∧ Good σ H' nx w' := by
  unfold mapUpdateOp at h
  split at h
  · rename_i kt et _ _ _ _ _ b hi
    split at h
    · rename_i es hb
      simp only [Option.bind_eq_some_iff] at h
      obtain ⟨ki, hki, kv, hkv, ks, hks, u, hu, r, hr, h⟩ := h
      have hkvy := plain_eq hkv hk
      subst hkvy
      have F := (hT _ _ hi).under
      have hd := pureRun_under (hT _ _ hki).under
      simp only [VR] at hm
      obtain ⟨l, hl, rfl⟩ := hm
      obtain ⟨E, clock, es', e1, e2, e3, e4⟩ := g.map_at hb hl
      have hf := find_perm hd e2 e3 hks hr
      unfold Instr.mapUpdate
      rw [run_bind_ok (run_under F w)]
      simp only
      rw [run_bind_ok (run_getObj e1)]
      simp only
      rw [run_bind_ok (pureRun_ok w hu)]
      cases r with
      | none =>
        simp only [Option.some.injEq] at h
        subst h
        rw [run_bind_ok (pureRun_ok w hf)]
        simp only
        refine ⟨_, run_setObjM e1, map_step g hb hl (es1 := es' ++ [(k, v)]) ?_ ?_ ?_⟩
        · exact (List.perm_append_singleton _ _).trans ((e2.cons _).trans (insS_perm _ _).symm)
        · rw [Array.toList_push]
          exact e3.snoc hk hv
        · rw [Array.toList_push]
          exact e4.push rfl
      | some i =>
        simp only [Option.bind_eq_some_iff, Option.map_eq_some_iff] at h
        obtain ⟨old, ho, key, hkey, rfl⟩ := h
        obtain ⟨i', p, ce, p1, p2, c1, c2, c3, c4, c5⟩ := hf
        rw [run_bind_ok (pureRun_ok w c5)]
        simp only
        obtain ⟨x2, hx2, hx3⟩ := plains_get hks (show (es.map (·.1))[i]? = some p.1 by rw [List.getElem?_map, p1]; rfl)
        rw [ho] at hx2; injection hx2 with hx2; subst hx2
        rw [c4] at hx3; injection hx3 with hx3; subst hx3
        have hoE : ((E[i']?).map (·.key)).getD y = ce.key := by
          rw [← Array.getElem?_toList, c1]; rfl
        simp only [hoE]
        rw [run_bind_ok (pureRun_ok w hkey)]
        refine ⟨_, run_setObjM e1, map_step g hb hl (es1 := es'.set i' (abs key, v)) (perm_set e2 p1 p2) ?_ ?_⟩
        · rw [Array.toList_modify]
          exact e3.put (List.getElem?_eq_some_iff.1 p2).1 fun e => ⟨abs_VR σ key, hv⟩
        · rw [Array.toList_modify]
          exact e4.modify fun e => rfl
    · cases h
  · cases h
def deleteOp (P : Program) (T : Tr TInfo) (H : Heap) (t : TypeId) (m k : AV) : Option Heap :=
  match T.get t, m with
  | some { desc := .map kt _, .. }, .map b =>
    match H.get b with
    | some (.map es false) =>
      (T.get kt).bind fun ki => (plain k).bind fun kv => (plains (es.map (·.1))).bind fun ks => (pureRun P (Instr.checkKey es.isEmpty 10000 kt kv)).bind fun _ => (findU P kt kv ks 0).map fun r =>
        match r with
        | some i => H.put b (some (.map (es.eraseIdx i) false))
        | none => H.put b (some (.map es false))
    | _ => none
  | _, _ => none
theorem deleteOp_out {T : Tr TInfo} (hT : TOK P T) (g : Good σ H nx w) {t t2 : TypeId} {ty : TypeId} {m k : AV} {x y : Value} (hm : VR σ m x) (hk : VR σ k y)
    (h : deleteOp P T H t m k = some H') : Out P σ H nx w (.tuple []) H' nx (Builtin.delete_ #[t, t2] ty #[x, y]) := by
  unfold deleteOp at h
  split at h
  · rename_i kt et _ _ _ _ _ b hi
    split at h
    · rename_i es hb
      simp only [Option.bind_eq_some_iff, Option.map_eq_some_iff] at h
      obtain ⟨ki, hki, kv, hkv, ks, hks, u, hu, r, hr, rfl⟩ := h
      have hkvy := plain_eq hkv hk
      subst hkvy
      have F := (hT _ _ hi).under
      have hd := pureRun_under (hT _ _ hki).under
      simp only [VR] at hm
      obtain ⟨l, hl, rfl⟩ := hm
      obtain ⟨E, clock, es', e1, e2, e3, e4⟩ := g.map_at hb hl
      have hf := find_perm hd e2 e3 hks hr
      rw [isEmpty_eq e2 e3] at hu
      cases r with
      | none =>
        obtain ⟨s1, s2⟩ := map_step g hb hl e2 e3 e4
        refine ⟨.tuple #[], _, σ, ?_, by simp only [VR]; exact ⟨[], rfl, rfl⟩, s1, s2⟩
        unfold Builtin.delete_
        simp only [List.getElem?_toArray, List.getElem?_cons_zero, List.getElem?_cons_succ]
        rw [run_bind_ok (run_under F w)]
        simp only
        rw [run_bind_ok (run_getObj e1)]
        simp only
        rw [run_bind_ok (pureRun_ok w hu), run_bind_ok (pureRun_ok w hf)]
        simp only
        rw [run_bind_ok (run_setObjM e1)]
        rfl
      | some i =>
        obtain ⟨i', p, ce, p1, p2, c1, c2, c3, c4, c5⟩ := hf
        obtain ⟨s1, s2⟩ := map_step g hb hl (E' := E.eraseIdxIfInBounds i') (c' := clock) (perm_erase e2 p1 p2) (by rw [Array.toList_eraseIdxIfInBounds]; exact e3.erase) (by rw [Array.toList_eraseIdxIfInBounds]; exact e4.erase)
        refine ⟨.tuple #[], _, σ, ?_, by simp only [VR]; exact ⟨[], rfl, rfl⟩, s1, s2⟩
        unfold Builtin.delete_
        simp only [List.getElem?_toArray, List.getElem?_cons_zero, List.getElem?_cons_succ]
        rw [run_bind_ok (run_under F w)]
        simp only
        rw [run_bind_ok (run_getObj e1)]
        simp only
        rw [run_bind_ok (pureRun_ok w hu), run_bind_ok (pureRun_ok w c5)]
        simp only
        rw [run_bind_ok (run_setObjM e1)]
        rfl
    · cases h
  · cases h
end CI
noncomputable section
namespace CI
open Go
variable {P : Program} {σ σ' : Sig} {H H' : Heap} {nx nx' : Nat} {w w' : World}
def lenS : AV → Option Nat
  | .lit (.slice none n _) => if n = 0 then some 0 else none
  | .lit (.string s) => some s.size
  | .eslice => some 0
  | .slice _ _ n _ _ => some n
  | _ => none
theorem lenS_run {a : AV} {x : Value} {m : Nat} (ha : VR σ a x) (h : lenS a = some m) (w : World) : (Builtin.lenOf x).run P w = .ok m w := by
  unfold lenS at h
  split at h
  · split at h
    · rename_i hn; injection h with h; subst h; subst hn; simp only [VR] at ha; subst ha; rfl
    · cases h
  · injection h with h; subst h; simp only [VR] at ha; subst ha; rfl
  · injection h with h; subst h; simp only [VR] at ha; obtain ⟨p, c, rfl⟩ := ha; rfl
  · injection h with h; subst h; simp only [VR] at ha; obtain ⟨l, c, _, rfl, _⟩ := ha; rfl
  · cases h
def firstA (H : Heap) (sz k : Nat) : AV → Option (List AV)
  | .lit (.slice none n _) => if k = 0 then some [] else none
  | .lit (.string s) => if sz = 1 ∧ k ≤ s.size then some ((s.extract 0 k).data.toList.map fun b => .lit (.int .u8 b.toNat)) else none
  | .eslice => if k = 0 then some [] else none
  | .slice b o n _ esz =>
    match H.get b with
    | some (.cells cs _ _) => if esz = sz then cut cs o (k * sz) else none
    | _ => none
  | _ => none
theorem firstA_run (s : Sim σ H w) {sz k : Nat} {a : AV} {x : Value} {vs : List AV} (ha : VR σ a x) (h : firstA H sz k a = some vs) :
    ∃ xs, (Builtin.firstCells sz k x).run P w = .ok xs.toArray w ∧ VRs σ vs xs := by
  unfold firstA at h
  split at h
  · split at h
    · injection h with h; subst h; simp only [VR] at ha; subst ha; exact ⟨[], rfl, by simp [VRs]⟩
    · cases h
  · rename_i st
    split at h
    · injection h with h; subst h; simp only [VR] at ha; subst ha
      refine ⟨(st.extract 0 k).data.toList.map fun b => .int .u8 b.toNat, ?_, ?_⟩
      · simp only [Builtin.firstCells]
        rw [← Array.toList_map, Array.toArray_toList]
        rfl
      · have := VRs.lits (σ := σ) ((st.extract 0 k).data.toList.map fun b => Value.int .u8 b.toNat)
        rw [List.map_map] at this
        exact this
    · cases h
  · split at h
    · injection h with h; subst h; subst_vars; simp only [VR] at ha; obtain ⟨p, c, rfl⟩ := ha
      refine ⟨[], ?_, by simp [VRs]⟩
      simp [Builtin.firstCells, loadCells, loadCellsFrom]
    · cases h
  · rename_i b o n c esz
    split at h
    · rename_i cs t ro hb
      split at h
      · subst_vars
        simp only [VR] at ha
        obtain ⟨l, c', hl, rfl, hs⟩ := ha
        obtain ⟨xs, h1, h2, h3⟩ := s.cells hb hl h
        refine ⟨xs, ?_, h1⟩
        simp only [Builtin.firstCells]
        exact run_loadCells ⟨l.blk, l.base + o, none⟩ rfl _ xs h2 h3
      · cases h
    · cases h
  · cases h
def copyOp (T : Tr TInfo) (H : Heap) (t1 : TypeId) (d x : AV) : Option (Nat × Heap) :=
  match T.get t1 with
  | some { desc := .slice e, .. } =>
    (T.get e).bind fun ei => (lenS x).bind fun m =>
      match d with
      | .lit (.slice none n _) => if n = 0 then (firstA H ei.size 0 x).bind fun _ => some (0, H) else none
      | .eslice => (firstA H ei.size 0 x).bind fun l => if l.isEmpty then some (0, H) else none
      | .slice b o n _ esz =>
        (firstA H ei.size (min m n) x).bind fun new =>
          match H.get b with
          | some (.cells cs tb false) => if o + new.length ≤ cs.length ∧ new.all one = true then some (min m n, H.put b (some (.cells (overA cs o new) tb false))) else none
          | _ => none
      | _ => none
  | _ => none
theorem copyOp_out {T : Tr TInfo} (hT : TOK P T) (g : Good σ H nx w) {t1 t2 ty : TypeId} {d x : AV} {dv xv : Value} {n : Nat} (hd : VR σ d dv) (hx : VR σ x xv)
    (h : copyOp T H t1 d x = some (n, H')) : Out P σ H nx w (.lit (.int .i64 n)) H' nx (Builtin.copy_ #[t1, t2] ty #[dv, xv]) := by
  unfold copyOp at h
  split at h
  · rename_i e _ _ _ _ _ hi
    simp only [Option.bind_eq_some_iff] at h
    obtain ⟨ei, he, m, hm, h⟩ := h
    have F := (hT _ _ hi).under
    obtain ⟨info, i1, i2, i3, i4⟩ := (hT _ _ he).info
    have hsz := run_sizeOf i1 w
    rw [i2] at hsz
    unfold Builtin.copy_
    simp only [List.getElem?_toArray, List.getElem?_cons_zero, List.getElem?_cons_succ]
    refine Out.bind (run_under F w) ?_
    simp only
    split at h
    · rename_i n' c
      split at h
      · rename_i hn
        subst hn
        simp only [Option.bind_eq_some_iff, Option.some.injEq, Prod.mk.injEq] at h
        obtain ⟨vs, hvs, rfl, rfl⟩ := h
        simp only [VR] at hd; subst hd
        simp only
        refine Out.bind (lenS_run hx hm w) ?_
        refine Out.bind hsz ?_
        obtain ⟨xs, f1, f2⟩ := firstA_run (P := P) g.toSim hx hvs
        simp only [show m.min 0 = 0 from Nat.min_zero m]
        refine Out.bind f1 ?_
        exact Out.pure g (by simp [VR, goInt])
      · cases h
    · simp only [Option.bind_eq_some_iff] at h
      obtain ⟨vs, hvs, h⟩ := h
      split at h
      · rename_i hemp
        simp only [Option.some.injEq, Prod.mk.injEq] at h
        obtain ⟨rfl, rfl⟩ := h
        simp only [VR] at hd; obtain ⟨p, c, rfl⟩ := hd
        simp only
        refine Out.bind (lenS_run hx hm w) ?_
        refine Out.bind hsz ?_
        obtain ⟨xs, f1, f2⟩ := firstA_run (P := P) g.toSim hx hvs
        simp only [show m.min 0 = 0 from Nat.min_zero m]
        refine Out.bind f1 ?_
        have : vs = [] := by simpa using hemp
        subst this
        simp only [VRs] at f2
        subst f2
        refine Out.bind (a := ()) (w := w) ?_ (Out.pure g (by simp [VR, goInt]))
        rfl
      · cases h
    · rename_i b o n' c esz
      simp only [Option.bind_eq_some_iff] at h
      obtain ⟨vs, hvs, h⟩ := h
      split at h
      · rename_i cs tb hb
        split at h
        · rename_i hc
          simp only [Option.some.injEq, Prod.mk.injEq] at h
          obtain ⟨rfl, rfl⟩ := h
          simp only [VR] at hd; obtain ⟨l, c', hl, rfl, hs⟩ := hd
          simp only
          refine Out.bind (lenS_run hx hm w) ?_
          refine Out.bind hsz ?_
          obtain ⟨xs, f1, f2⟩ := firstA_run (P := P) g.toSim hx hvs
          simp only [show m.min n' = min m n' from rfl]
          refine Out.bind f1 ?_
          obtain ⟨w1, s1, s2, s3⟩ := store_out (P := P) g hb hl f2 hc.1 hc.2
          refine ⟨goInt (min m n' : Nat), w1, σ, ?_, by simp only [VR, goInt], s2, s3⟩
          rw [run_bind_ok (a := ()) (w' := w1) (by simpa using s1)]
          rfl
        · cases h
      · cases h
    · cases h
  · cases h
def capOp (T : Tr TInfo) (t : TypeId) (x : AV) : Option Nat :=
  match T.get t, x with
  | some { desc := .slice _, .. }, .lit (.slice none _ c) => some c
  | some { desc := .slice _, .. }, .slice _ _ _ (some c) _ => some c
  | _, _ => none
theorem capOp_out {T : Tr TInfo} (hT : TOK P T) (g : Good σ H nx w) {t ty : TypeId} {x : AV} {xv : Value} {n : Nat} (hx : VR σ x xv) (h : capOp T t x = some n) :
    Out P σ H nx w (.lit (.int .i64 n)) H nx (Builtin.cap_ #[t] ty #[xv]) := by
  unfold capOp at h
  split at h
  · rename_i hi
    injection h with h; subst h
    simp only [VR] at hx; subst hx
    unfold Builtin.cap_
    simp only [List.getElem?_toArray, List.getElem?_cons_zero]
    refine Out.bind (run_under (hT _ _ hi).under w) ?_
    exact Out.pure g (by simp [VR, goInt])
  · rename_i hi
    injection h with h; subst h
    simp only [VR] at hx; obtain ⟨l, c', _, rfl, hs⟩ := hx
    have : c' = _ := hs.2.2
    subst this
    unfold Builtin.cap_
    simp only [List.getElem?_toArray, List.getElem?_cons_zero]
    refine Out.bind (run_under (hT _ _ hi).under w) ?_
    exact Out.pure g (by simp [VR, goInt])
  · cases h
end CI
noncomputable section
namespace CI
open Go
structure Cx where
  P : Program
  T : Tr TInfo
  F : Tr Func
  X : FuncId → List AV → Option AV
  Y : FuncId → List AV → Heap → Nat → Option (AV × Heap × Nat)
  Z : FuncId → List AV → Heap → Nat → Option (AV × Heap × Nat)
structure Cx.OK (C : Cx) : Prop where
  types : TOK C.P C.T
  funs : ∀ k fn, C.F.get k = some fn → C.P.funcs[k]? = some fn ∧ (fn.name == "runtime.NumGoroutine") = false
  zs : ∀ k args H nx v H' nx', C.Z k args H nx = some (v, H', nx') → ∀ (σ : Sig) (w : World) (xs : List Value), VRs σ args xs → Good σ H nx w →
    ∃ x w' σ', (callFunc k xs.toArray).run C.P w = .ok (.value x) w' ∧ VR σ' v x ∧ Step σ H nx w σ' H' nx' w' ∧ Good σ' H' nx' w'
  exts : ∀ f args v, C.X f args = some v → ∀ (σ : Sig) (w : World) (xs : List Value), Glb w → VRs σ args xs → (∃ x, (callFunc f xs.toArray).run C.P w = .ok (.value x) w ∧ VR σ v x) ∨
    ((callFunc f xs.toArray).run C.P w = .ok (.enter f xs.toArray) w ∧ Calls C.P f xs.toArray w fun e w' => ∃ x, e = .returned x ∧ VR σ v x ∧ RowKit.Below w.heap.size w w')
variable {σ σ' : Sig} {H H' : Heap} {nx nx' : Nat} {w w' : World}
theorem Step.below (b : RowKit.Below w.heap.size w w') : Step σ H nx w σ H nx w' where
  os := b.os
  tape := b.tape
  output := b.output
  size := b.size
  grow := Nat.le_refl _
  old := fun _ _ => rfl
  ro := fun _ _ h _ => h
  dead := fun _ _ h => h
  unreal := fun _ _ _ => rfl
  frame := fun k hk _ => b.block k hk
  own := fun b l o hb hl _ => ⟨b, l, o, hb, hl, rfl, .inr rfl⟩
theorem Good.below (g : Good σ H nx w) (b : RowKit.Below w.heap.size w w') : Good σ H nx w' where
  obj := fun i o l hi hl => by rw [b.block _ (g.toSim.lt hi hl)]; exact g.obj i o l hi hl
  inj := g.inj
  fresh := g.fresh
  glb := fun k q h => by
    obtain ⟨cs, t, fz, e, hq⟩ := g.glb k q h
    exact ⟨cs, t, fz, by rw [b.block _ (g.glb.lt h)]; exact e, hq⟩
  apart := g.apart
def builtinA (C : Cx) (H : Heap) (nx : Nat) (b : Builtin) (ts : List TypeId) (xs : List AV) : Res :=
  match b, ts, xs with
  | .len, [t], [x] => (lenOp C.T H t x).map fun (n : Nat) => (.lit (.int .i64 n), H, nx)
  | .append, [t1, t2], [s, x] => appendOp C.T H nx t1 s t2 x
  | .max, _, xs => (foldOp C.P Builtin.max2 xs).map fun v => (v, H, nx)
  | .min, _, xs => (foldOp C.P Builtin.min2 xs).map fun v => (v, H, nx)
  | .unsafeSliceData, _, [x] => (sliceDataOp x).map fun v => (v, H, nx)
  | .unsafeString, [t, _], [x, n] => unsafeStringOp C.P C.T H nx t x n
  | .copy, [t, _], [d, x] => (copyOp C.T H t d x).map fun (p : Nat × Heap) => (.lit (.int .i64 p.1), p.2, nx)
  | .cap, [t], [x] => (capOp C.T t x).map fun (n : Nat) => (.lit (.int .i64 n), H, nx)
  | .delete, [t, _], [m, k] => (deleteOp C.P C.T H t m k).map fun H' => (.tuple [], H', nx)
  | _, _, _ => none
def opA (C : Cx) (ρ : Operand → AV) (o : Op) (H : Heap) (nx : Nat) : Res :=
  match o with
  | .move x => some (ρ x, H, nx)
  | .assign x => some (ρ x, H, nx)
  | .pick c a b =>
    match ρ c with
    | .lit (.bool t) => some (if t then ρ a else ρ b, H, nx)
    | _ => none
  | .alloc t => allocOp C.T H nx t
  | .box t x => boxOp H nx t (ρ x)
  | .build t ps => (buildOp C.T t (partsA ρ ps.toList)).map fun v => (v, H, nx)
  | .buildSlice t len ps => buildSliceOp C.T H nx t len (partsA ρ ps.toList)
  | .load t a => (loadOp C.T H t (ρ a)).map fun v => (v, H, nx)
  | .store t a x => (storeOp C.T H t (ρ a) (ρ x)).map fun H' => (.lit undef, H', nx)
  | .nilCheck x => (nilCheckOp (ρ x)).map fun v => (v, H, nx)
  | .binOp op t x y _ => (binOpA C.P C.T op t x y (ρ x) (ρ y)).map fun v => (v, H, nx)
  | .unOp op _ x => (plain1 C.P (Op.unary op) (ρ x)).map fun v => (v, H, nx)
  | .convert s d x => convA C.P C.T H nx s d (ρ x)
  | .makeInterface t x => (mkIfaceOp C.T t (ρ x)).map fun v => (v, H, nx)
  | .makeFunc fn fs cs => some (.func fn (fs.toList.map ρ) (cs.toList.map ρ), H, nx)
  | .makeMap t r => makeMapOp C.T H nx t (r.map ρ)
  | .makeSlice t l c => makeSliceOp C.T H nx t (ρ l) (ρ c)
  | .slice t x lo hi mx => (sliceOp C.P C.T H t (ρ x) (lo.map ρ) (hi.map ρ) (mx.map ρ)).map fun v => (v, H, nx)
  | .fieldAddr s x f => (fieldAddrOp C.T s (ρ x) f).map fun v => (v, H, nx)
  | .field t x f => (fieldOp C.T t (ρ x) f).map fun v => (v, H, nx)
  | .indexAddr t x i => (indexAddrOp C.T t (ρ x) (ρ i)).map fun v => (v, H, nx)
  | .index t x i => (indexOp C.P C.T t (ρ x) (ρ i)).map fun v => (v, H, nx)
  | .extract x i => (extractOp (ρ x) i).map fun v => (v, H, nx)
  | .lookup t x i ok => (lookupOp C.P C.T H t (ρ x) (ρ i) ok).map fun v => (v, H, nx)
  | .mapUpdate t m k x => (mapUpdateOp C.P C.T H t (ρ m) (ρ k) (ρ x)).map fun H' => (.lit undef, H', nx)
  | .insert t m k x => (mapUpdateOp C.P C.T H t (ρ m) (ρ k) (ρ x)).map fun H' => (.lit undef, H', nx)
  | .call { callee := .builtin b, args := xs, argTypes := ts } => builtinA C H nx b ts.toList (xs.toList.map ρ)
  | _ => none
def OutN (P : Program) (σ : Sig) (H : Heap) (nx : Nat) (w : World) (v : AV) (H' : Heap) (nx' : Nat) (m : Sem Next) : Prop :=
  ∃ x w' σ', (m.run P w = .ok (.value x) w' ∨ (m.run P w = .ok .skip w' ∧ x = undef)) ∧ VR σ' v x ∧ Step σ H nx w σ' H' nx' w' ∧ Good σ' H' nx' w'
theorem OutN.of {P : Program} {m : Sem Value} {v : AV} (h : Out P σ H nx w v H' nx' m) : OutN P σ H nx w v H' nx' (do pure (.value (← m))) := by
  obtain ⟨x, w', σ', h1, h2, h3, h4⟩ := h
  exact ⟨x, w', σ', .inl (by rw [run_bind_ok h1]; rfl), h2, h3, h4⟩
theorem bndR_map {ρ : Operand → AV} {a : Act} (h : ∀ x, VR σ (ρ x) (a.eval x)) (x : Option Operand) : BndR σ (x.map ρ) (x.map a.eval) := by
  cases x with
  | none => exact .none
  | some x => exact .some (h x)
theorem nilCheck_ok {x v : AV} {y : Value} (hx : VR σ x y) (h : nilCheckOp x = some v) :
    v = x ∧ y ≠ .pointer none ∧ y ≠ .nilIface ∧ y ≠ .nilFunc ∧ ∀ n f c, y ≠ .func (.method n) f c := by
  unfold nilCheckOp at h
  split at h <;> try (cases h; done)
  · injection h with h; subst h
    simp only [VR] at hx; obtain ⟨fs, cs, rfl, _⟩ := hx
    exact ⟨rfl, by simp, by simp, by simp, by simp⟩
  · rename_i h1 h2 h3 h4 h5 h6
    injection h with h; subst h
    refine ⟨rfl, ?_⟩
    cases x with
    | lit u =>
      simp only [VR] at hx; subst hx
      refine ⟨fun e => h1 (by rw [e]), fun e => h2 (by rw [e]), fun e => h3 (by rw [e]), fun n f c e => h4 _ _ _ (by rw [e])⟩
    | ptr => simp only [VR] at hx; obtain ⟨l, _, rfl⟩ := hx; simp
    | slice => simp only [VR] at hx; obtain ⟨l, _, _, rfl, _⟩ := hx; simp
    | eslice => simp only [VR] at hx; obtain ⟨l, _, rfl⟩ := hx; simp
    | map => simp only [VR] at hx; obtain ⟨l, _, rfl⟩ := hx; simp
    | func => exact absurd rfl (h6 _ _ _)
    | iface => simp only [VR] at hx; obtain ⟨l, rfl, _⟩ := hx; simp
    | agg => simp only [VR] at hx; obtain ⟨l, rfl, _⟩ := hx; simp
    | tuple => simp only [VR] at hx; obtain ⟨l, rfl, _⟩ := hx; simp
theorem builtinA_out {C : Cx} (hC : C.OK) (g : Good σ H nx w) {b : Builtin} {ts : Array TypeId} {ty : TypeId} {cs : Array Bool} {xs : List AV} {ys : List Value} {v : AV} (hx : VRs σ xs ys)
    (h : builtinA C H nx b ts.toList xs = some (v, H', nx')) : OutN C.P σ H nx w v H' nx' (builtin b ts ty cs ys.toArray) := by
  unfold builtinA at h
  split at h
  · rename_i t x hts
    have hts' : ts = #[t] := by rw [← Array.toArray_toList (xs := ts), hts]
    simp only [Option.map_eq_some_iff, Prod.mk.injEq] at h
    obtain ⟨n, hn, rfl, rfl, rfl⟩ := h
    simp only [VRs] at hx
    obtain ⟨y, ys', rfl, hy, rfl⟩ := hx
    rw [hts']
    exact OutN.of (lenOp_out hC.types g hy hn)
  · rename_i t1 t2 s x hts
    have hts' : ts = #[t1, t2] := by rw [← Array.toArray_toList (xs := ts), hts]
    simp only [VRs] at hx
    obtain ⟨y, ys', rfl, hy, z, zs, rfl, hz, rfl⟩ := hx
    rw [hts']
    exact OutN.of (appendOp_out hC.types g hy hz h)
  · simp only [Option.map_eq_some_iff, Prod.mk.injEq] at h
    obtain ⟨n, hn, rfl, rfl, rfl⟩ := h
    exact OutN.of (foldOp_max g hx hn)
  · simp only [Option.map_eq_some_iff, Prod.mk.injEq] at h
    obtain ⟨n, hn, rfl, rfl, rfl⟩ := h
    exact OutN.of (foldOp_min g hx hn)
  · rename_i x
    simp only [Option.map_eq_some_iff, Prod.mk.injEq] at h
    obtain ⟨n, hn, rfl, rfl, rfl⟩ := h
    simp only [VRs] at hx
    obtain ⟨y, ys', rfl, hy, rfl⟩ := hx
    exact OutN.of (sliceDataOp_out g hy hn)
  · rename_i t t2 x n hts
    have hts' : ts = #[t, t2] := by rw [← Array.toArray_toList (xs := ts), hts]
    simp only [VRs] at hx
    obtain ⟨y, ys', rfl, hy, z, zs, rfl, hz, rfl⟩ := hx
    rw [hts']
    exact OutN.of (unsafeStringOp_out hC.types g hy hz h)
  · rename_i t t2 d x hts
    have hts' : ts = #[t, t2] := by rw [← Array.toArray_toList (xs := ts), hts]
    simp only [Option.map_eq_some_iff, Prod.mk.injEq] at h
    obtain ⟨⟨n, H1⟩, hn, rfl, rfl, rfl⟩ := h
    simp only [VRs] at hx
    obtain ⟨y, ys', rfl, hy, z, zs, rfl, hz, rfl⟩ := hx
    rw [hts']
    exact OutN.of (copyOp_out hC.types g hy hz hn)
  · rename_i t x hts
    have hts' : ts = #[t] := by rw [← Array.toArray_toList (xs := ts), hts]
    simp only [Option.map_eq_some_iff, Prod.mk.injEq] at h
    obtain ⟨n, hn, rfl, rfl, rfl⟩ := h
    simp only [VRs] at hx
    obtain ⟨y, ys', rfl, hy, rfl⟩ := hx
    rw [hts']
    exact OutN.of (capOp_out hC.types g hy hn)
  · rename_i t t2 m k hts
    have hts' : ts = #[t, t2] := by rw [← Array.toArray_toList (xs := ts), hts]
    simp only [Option.map_eq_some_iff, Prod.mk.injEq] at h
    obtain ⟨n, hn, rfl, rfl, rfl⟩ := h
    simp only [VRs] at hx
    obtain ⟨y, ys', rfl, hy, z, zs, rfl, hz, rfl⟩ := hx
    rw [hts']
    exact OutN.of (deleteOp_out hC.types g hy hz hn)
  · cases h
theorem opA_out {C : Cx} (hC : C.OK) (g : Good σ H nx w) {ρ : Operand → AV} {a : Act} (hE : ∀ x, VR σ (ρ x) (a.eval x)) {o : Oper} {v : AV} (h : opA C ρ o.op H nx = some (v, H', nx')) :
    OutN C.P σ H nx w v H' nx' (execOp a.eval o) := by
  unfold execOp
  unfold opA at h
  split at h <;> rename_i ho <;> simp only [ho]
  · simp only [Option.some.injEq, Prod.mk.injEq] at h; obtain ⟨rfl, rfl, rfl⟩ := h
    exact ⟨_, w, σ, .inl rfl, hE _, Step.refl, g⟩
  · simp only [Option.some.injEq, Prod.mk.injEq] at h; obtain ⟨rfl, rfl, rfl⟩ := h
    exact ⟨_, w, σ, .inl rfl, hE _, Step.refl, g⟩
  · rename_i c x y
    split at h
    · rename_i t ht
      simp only [Option.some.injEq, Prod.mk.injEq] at h; obtain ⟨rfl, rfl, rfl⟩ := h
      have hc := hE c
      rw [ht] at hc
      simp only [VR] at hc
      rw [hc]
      refine ⟨_, w, σ, .inl rfl, ?_, Step.refl, g⟩
      cases t <;> exact hE _
    · cases h
  · exact OutN.of (allocOp_out hC.types g h)
  · exact OutN.of (boxOp_out g (hE _) h)
  · simp only [Option.map_eq_some_iff, Prod.mk.injEq] at h; obtain ⟨u, hu, rfl, rfl, rfl⟩ := h
    exact OutN.of (buildOp_out hC.types g (by simpa using partsA_PRs hE _) hu)
  · exact OutN.of (buildSliceOp_out hC.types g (by simpa using partsA_PRs hE _) h)
  · simp only [Option.map_eq_some_iff, Prod.mk.injEq] at h; obtain ⟨u, hu, rfl, rfl, rfl⟩ := h
    exact OutN.of (loadOp_out hC.types g (hE _) hu)
  · simp only [Option.map_eq_some_iff, Prod.mk.injEq] at h; obtain ⟨u, hu, rfl, rfl, rfl⟩ := h
    obtain ⟨w', h1, h2, h3⟩ := storeOp_out (P := C.P) hC.types g (hE _) (hE _) hu
    exact ⟨undef, w', σ, .inr ⟨by rw [run_bind_ok h1]; rfl, rfl⟩, by simp [VR], h2, h3⟩
  · simp only [Option.map_eq_some_iff, Prod.mk.injEq] at h; obtain ⟨u, hu, rfl, rfl, rfl⟩ := h
    obtain ⟨rfl, n1, n2, n3, n4⟩ := nilCheck_ok (hE _) hu
    split
    · exact absurd ‹_› n1
    · exact absurd ‹_› n2
    · exact absurd ‹_› n3
    · exact absurd ‹_› (n4 _ _ _)
    · exact ⟨_, w, σ, .inl rfl, hE _, Step.refl, g⟩
  · simp only [Option.map_eq_some_iff, Prod.mk.injEq] at h; obtain ⟨u, hu, rfl, rfl, rfl⟩ := h
    exact OutN.of (binOpA_out hC.types g (hE _) (hE _) hu)
  · simp only [Option.map_eq_some_iff, Prod.mk.injEq] at h; obtain ⟨u, hu, rfl, rfl, rfl⟩ := h
    exact OutN.of (plain1_out g (hE _) hu)
  · exact OutN.of (convA_out hC.types g (hE _) h)
  · simp only [Option.map_eq_some_iff, Prod.mk.injEq] at h; obtain ⟨u, hu, rfl, rfl, rfl⟩ := h
    exact OutN.of (mkIfaceOp_out hC.types g (hE _) hu)
  · simp only [Option.some.injEq, Prod.mk.injEq] at h; obtain ⟨rfl, rfl, rfl⟩ := h
    exact OutN.of (makeFunc_out g (by simpa using evs_VRs hE _) (by simpa using evs_VRs hE _))
  · exact OutN.of (makeMapOp_out hC.types g (bndR_map hE _) h)
  · exact OutN.of (makeSliceOp_out hC.types g (hE _) (hE _) h)
  · simp only [Option.map_eq_some_iff, Prod.mk.injEq] at h; obtain ⟨u, hu, rfl, rfl, rfl⟩ := h
    exact OutN.of (sliceOp_out hC.types g (hE _) (bndR_map hE _) (bndR_map hE _) (bndR_map hE _) hu)
  · simp only [Option.map_eq_some_iff, Prod.mk.injEq] at h; obtain ⟨u, hu, rfl, rfl, rfl⟩ := h
    exact OutN.of (fieldAddrOp_out hC.types g (hE _) hu)
  · simp only [Option.map_eq_some_iff, Prod.mk.injEq] at h; obtain ⟨u, hu, rfl, rfl, rfl⟩ := h
    exact OutN.of (fieldOp_out hC.types g (hE _) hu)
  · simp only [Option.map_eq_some_iff, Prod.mk.injEq] at h; obtain ⟨u, hu, rfl, rfl, rfl⟩ := h
    exact OutN.of (indexAddrOp_out hC.types g (hE _) (hE _) hu)
  · simp only [Option.map_eq_some_iff, Prod.mk.injEq] at h; obtain ⟨u, hu, rfl, rfl, rfl⟩ := h
    exact OutN.of (indexOp_out hC.types g (hE _) (hE _) hu)
  · simp only [Option.map_eq_some_iff, Prod.mk.injEq] at h; obtain ⟨u, hu, rfl, rfl, rfl⟩ := h
    exact OutN.of (extractOp_out g (hE _) hu)
  · simp only [Option.map_eq_some_iff, Prod.mk.injEq] at h; obtain ⟨u, hu, rfl, rfl, rfl⟩ := h
    exact OutN.of (lookupOp_out hC.types g (hE _) (hE _) hu)
  · simp only [Option.map_eq_some_iff, Prod.mk.injEq] at h; obtain ⟨u, hu, rfl, rfl, rfl⟩ := h
    obtain ⟨w', h1, h2, h3⟩ := mapUpdateOp_out (P := C.P) hC.types g (hE _) (hE _) (hE _) hu
    exact ⟨undef, w', σ, .inr ⟨by rw [run_bind_ok h1]; rfl, rfl⟩, by simp [VR], h2, h3⟩
  · simp only [Option.map_eq_some_iff, Prod.mk.injEq] at h; obtain ⟨u, hu, rfl, rfl, rfl⟩ := h
    obtain ⟨w', h1, h2, h3⟩ := mapUpdateOp_out (P := C.P) hC.types g (hE _) (hE _) (hE _) hu
    exact ⟨undef, w', σ, .inr ⟨by rw [run_bind_ok h1]; rfl, rfl⟩, by simp [VR], h2, h3⟩
  · rename_i b xs ts
    have := builtinA_out (ty := o.type) (cs := xs.map fun | .const _ => true | _ => false) (w := w) hC g (evs_VRs hE xs.toList) h
    rw [show (List.map a.eval xs.toList).toArray = xs.map a.eval from by rw [← Array.toList_map, Array.toArray_toList]] at this
    exact this
  · cases h
end CI
noncomputable section
namespace CI
open Go
variable {σ σ' : Sig} {H H' : Heap} {nx nx' : Nat} {w w' : World}
abbrev CallF := FuncId → List AV → Heap → Nat → Res
def callA (C : Cx) (call : CallF) (ρ : Operand → AV) (c : Call) (H : Heap) (nx : Nat) : Res :=
  match c.callee with
  | .value f =>
    match ρ f with
    | .func (.func k) fs cs =>
      match C.X k (fs ++ c.args.toList.map ρ ++ cs) with
      | some v => some (v, H, nx)
      | none => match C.Z k (fs ++ c.args.toList.map ρ ++ cs) H nx with
        | some r => some r
        | none => call k (fs ++ c.args.toList.map ρ ++ cs) H nx
    | _ => none
  | _ => none
def isCall : Op → Bool
  | .call { callee := .builtin _, .. } => false
  | .call _ => true
  | _ => false
def stepA (C : Cx) (call : CallF) (ρ : Operand → AV) (o : Op) (H : Heap) (nx : Nat) : Res :=
  match o with
  | .call c => if isCall (.call c) then callA C call ρ c H nx else opA C ρ (.call c) H nx
  | o => opA C ρ o H nx
def RetPost (σ : Sig) (H : Heap) (nx : Nat) (w : World) (v : AV) (H' : Heap) (nx' : Nat) : Ending → World → Prop := fun e w' =>
  ∃ x σ', e = .returned x ∧ VR σ' v x ∧ Step σ H nx w σ' H' nx' w' ∧ Good σ' H' nx' w'
def CallOK (C : Cx) (call : CallF) : Prop := ∀ k args H nx v H' nx', call k args H nx = some (v, H', nx') → ∀ (σ : Sig) (w : World) (xs : List Value), VRs σ args xs → Good σ H nx w →
  (callFunc k xs.toArray).run C.P w = .ok (.enter k xs.toArray) w ∧ Calls C.P k xs.toArray w (RetPost σ H nx w v H' nx')
theorem OutN.wp {P : Program} {o : Oper} {a : Act} {v : AV} {next : Act → World → Prop} {Q : Exit → Act → World → Prop} (h : OutN P σ H nx w v H' nx' (execOp a.eval o))
    (hn : ∀ x w' σ', VR σ' v x → Step σ H nx w σ' H' nx' w' → Good σ' H' nx' w' → next (a.put o.dst x) w') : o.wp P a w next Q := by
  obtain ⟨x, w', σ', h1, h2, h3, h4⟩ := h
  unfold Oper.wp
  rcases h1 with h1 | ⟨h1, rfl⟩
  · rw [h1]; exact hn x w' σ' h2 h3 h4
  · rw [h1]; exact hn _ w' σ' h2 h3 h4
theorem stepA_wp {C : Cx} (hC : C.OK) {call : CallF} (hcall : CallOK C call) (g : Good σ H nx w) {ρ : Operand → AV} {a : Act} (he : ∀ x, VR σ (ρ x) (a.eval x)) {o : Oper} {v : AV}
    (h : stepA C call ρ o.op H nx = some (v, H', nx')) {next : Act → World → Prop} {Q : Exit → Act → World → Prop}
    (hn : ∀ x w' σ', VR σ' v x → Step σ H nx w σ' H' nx' w' → Good σ' H' nx' w' → next (a.put o.dst x) w') : o.wp C.P a w next Q := by
  unfold stepA at h
  split at h
  · rename_i c hop
    split at h
    · rename_i hic
      unfold callA at h
      split at h
      · rename_i f hcal
        split at h
        · rename_i k fs cs hf
          have hfv := he f
          rw [hf] at hfv
          simp only [VR] at hfv
          obtain ⟨fs', cs', hfe, hfs, hcs⟩ := hfv
          have hargs := (hfs.append (evs_VRs he c.args.toList)).append hcs
          have hexec : (execOp a.eval o).run C.P w = (callFunc k (fs' ++ c.args.toList.map a.eval ++ cs').toArray).run C.P w := by
            unfold execOp
            simp only [hop]
            unfold resolve
            simp only [hcal, hfe, Deferred.ofValue]
            rw [run_bind_ok (run_pure' _ w)]
            unfold invoke
            simp only
            congr 2
            apply Array.toList_inj.1
            simp
          split at h
          · rename_i u hX
            simp only [Option.some.injEq, Prod.mk.injEq] at h
            obtain ⟨rfl, rfl, rfl⟩ := h
            rcases hC.exts _ _ _ hX σ w _ g.glb hargs with ⟨x, hx1, hx2⟩ | ⟨h1, h2⟩
            · unfold Oper.wp
              rw [hexec, hx1]
              exact hn x w σ hx2 Step.refl g
            · unfold Oper.wp
              rw [hexec, h1]
              refine Calls.mono h2 ?_
              rintro e w' ⟨x, rfl, r1, r2⟩
              exact hn x w' σ r1 (Step.below r2) (g.below r2)
          · split at h
            · rename_i r hZ
              injection h with h; subst h
              obtain ⟨x, w', σ', h1, h2, h3, h4⟩ := hC.zs _ _ _ _ _ _ _ hZ σ w _ hargs g
              unfold Oper.wp
              rw [hexec, h1]
              exact hn x w' σ' h2 h3 h4
            · obtain ⟨h1, h2⟩ := hcall _ _ _ _ _ _ _ h σ w _ hargs g
              unfold Oper.wp
              rw [hexec, h1]
              refine Calls.mono h2 ?_
              rintro e w' ⟨x, σ', rfl, r1, r2, r3⟩
              exact hn x w' σ' r1 r2 r3
        · cases h
      · cases h
    · rw [← hop] at h
      exact (opA_out hC g he h).wp hn
  · exact (opA_out hC g he h).wp hn
structure St where
  env : Tr AV
  H : Heap
  nx : Nat
def put? (env : Tr AV) (nt : Nat) (d : Option Nat) (v : AV) : Option (Tr AV) :=
  match d with
  | none => some env
  | some d => if d < nt then some (env.put d (some v)) else none
def wantedA (ops : Array Oper) (o : Oper) (env : Tr AV) : Bool :=
  match o.guard with
  | none => true
  | some (j, want) =>
    match (ops[j]?).bind (·.dst) with
    | some d =>
      match (env.get d).getD (.lit undef) with
      | .lit (.bool b) => b == want
      | _ => false
    | none => false
theorem wantedA_eq' {ops : Array Oper} {o : Oper} {env : Tr AV} {a : Act} (he : ∀ j want d, o.guard = some (j, want) → (ops[j]?).bind (·.dst) = some d → VR σ ((env.get d).getD (.lit undef)) (a.tmps.getD d undef)) :
    Region.wanted o (yielded ops a.tmps) = wantedA ops o env := by
  unfold Region.wanted wantedA yielded
  cases hg : o.guard with
  | none => rfl
  | some p =>
    obtain ⟨j, want⟩ := p
    simp only
    cases hd : (ops[j]?).bind (·.dst) with
    | none => rfl
    | some d =>
      simp only [Option.bind_some]
      have := he j want d hg hd
      cases ht : a.tmps[d]? with
      | none =>
        have h2 : a.tmps.getD d undef = undef := by simp [Array.getD_eq_getD_getElem?, ht]
        rw [h2] at this
        simp only
        split
        · rename_i b hb
          rw [hb] at this
          simp only [VR, undef] at this
          cases this
        · rfl
      | some x =>
        have h2 : a.tmps.getD d undef = x := by simp [Array.getD_eq_getD_getElem?, ht]
        rw [h2] at this
        generalize (env.get d).getD (.lit undef) = v at this
        cases x with
        | bool b =>
          simp only
          cases v with
          | lit u => simp only [VR] at this; subst this; rfl
          | ptr => simp only [VR] at this; obtain ⟨_, _, h⟩ := this; cases h
          | slice => simp only [VR] at this; obtain ⟨_, _, _, h, _⟩ := this; cases h
          | eslice => simp only [VR] at this; obtain ⟨_, _, h⟩ := this; cases h
          | map => simp only [VR] at this; obtain ⟨_, _, h⟩ := this; cases h
          | func => simp only [VR] at this; obtain ⟨_, _, h, _⟩ := this; cases h
          | iface => simp only [VR] at this; obtain ⟨_, h, _⟩ := this; cases h
          | agg => simp only [VR] at this; obtain ⟨_, h, _⟩ := this; cases h
          | tuple => simp only [VR] at this; obtain ⟨_, h, _⟩ := this; cases h
        | _ =>
          simp only
          split
          · rename_i b hb; simp only [VR] at this; cases this
          · rfl
theorem wantedA_eq {ops : Array Oper} {o : Oper} {env : Tr AV} {a : Act} (he : EnvR σ env a) : Region.wanted o (yielded ops a.tmps) = wantedA ops o env :=
  wantedA_eq' fun _ _ d _ _ => he d
def runOps (C : Cx) (call : CallF) (nt : Nat) (ops : Array Oper) : List Oper → St → Option St
  | [], s => some s
  | o :: rest, s =>
    if wantedA ops o s.env then
      match stepA C call (ev s.env) o.op s.H s.nx with
      | some (v, H', nx') =>
        match put? s.env nt o.dst v with
        | some env' => runOps C call nt ops rest ⟨env', H', nx'⟩
        | none => none
      | none => none
    else
      match put? s.env nt o.dst (.lit undef) with
      | some env' => runOps C call nt ops rest ⟨env', s.H, s.nx⟩
      | none => none
structure ActR (σ : Sig) (env : Tr AV) (nt : Nat) (a : Act) : Prop where
  env : EnvR σ env a
  size : a.tmps.size = nt
  defers : a.defers = []
theorem put?_ok {env env' : Tr AV} {nt : Nat} {d : Option Nat} {v : AV} {a : Act} {x : Value} (he : ActR σ env nt a) (hv : VR σ v x) (h : put? env nt d v = some env') :
    ActR σ env' nt (a.put d x) := by
  unfold put? at h
  split at h
  · injection h with h; subst h; exact he
  · split at h
    · injection h with h; subst h
      exact ⟨he.env.put (by rw [he.size]; assumption) hv, by simp [Act.put, he.size], by simp [Act.put, he.defers]⟩
    · cases h
theorem ActR.ext {env : Tr AV} {nt : Nat} {a : Act} (h : ActR σ env nt a) (he : Ext σ σ') : ActR σ' env nt a := ⟨h.env.ext he, h.size, h.defers⟩
theorem runOps_wp {C : Cx} (hC : C.OK) {call : CallF} (hcall : CallOK C call) {nt : Nat} {ops : Array Oper} {Q : Exit → Act → World → Prop} :
    ∀ (l : List Oper) (s s' : St) (σ : Sig) (w : World) (a : Act), runOps C call nt ops l s = some s' → ActR σ s.env nt a → Good σ s.H s.nx w →
      (∀ σ' w' a', ActR σ' s'.env nt a' → Step σ s.H s.nx w σ' s'.H s'.nx w' → Good σ' s'.H s'.nx w' → Q .normal a' w') → wpList C.P ops Q l a w
  | [], s, s', σ, w, a, h, he, g, hq => by
    simp only [runOps, Option.some.injEq] at h
    subst h
    exact hq σ w a he Step.refl g
  | o :: rest, s, s', σ, w, a, h, he, g, hq => by
    simp only [runOps] at h
    unfold wpList
    rw [wantedA_eq he.env]
    split at h
    · rename_i hw
      rw [if_pos hw]
      split at h
      · rename_i v H' nx' hst
        split at h
        · rename_i env' hput
          refine .inl (stepA_wp hC hcall g (ev_VR he.env) hst fun x w' σ' hv hs hg => ?_)
          refine runOps_wp hC hcall rest _ s' σ' w' _ h (put?_ok (he.ext (Step.ext g hs)) hv hput) hg ?_
          intro σ'' w'' a'' h1 h2 h3
          exact hq σ'' w'' a'' h1 (Step.trans g hs h2) h3
        · cases h
      · cases h
    · rename_i hw
      rw [if_neg hw]
      split at h
      · rename_i env' hput
        exact runOps_wp hC hcall rest _ s' σ w _ h (put?_ok he (by simp [VR]) hput) g hq
      · cases h
end CI
noncomputable section
namespace CI
open Go
def valEqB : Value → Value → Bool
  | .bool a, .bool b => a == b
  | .int j a, .int k b => decide (j = k) && decide (a = b)
  | .string a, .string b => decide (a.data.toList = b.data.toList)
  | .pointer none, .pointer none => true
  | .slice none 0 0, .slice none 0 0 => true
  | .map none, .map none => true
  | .nilFunc, .nilFunc => true
  | .nilIface, .nilIface => true
  | .tuple a, .tuple b => a.isEmpty && b.isEmpty
  | _, _ => false
theorem valEqB_ok {a b : Value} (h : valEqB a b = true) : a = b := by
  unfold valEqB at h
  split at h
  · simpa using h
  · simp only [Bool.and_eq_true, decide_eq_true_eq] at h; rw [h.1, h.2]
  · simp only [decide_eq_true_eq] at h
    rename_i a b
    cases a; cases b
    simp only [Array.toList_inj] at h
    rw [h]
  · rfl
  · rfl
  · rfl
  · rfl
  · rfl
  · rename_i a b
    simp only [Bool.and_eq_true, Array.isEmpty_iff] at h
    rw [h.1, h.2]
  · cases h
mutual
def AV.eqB : AV → AV → Bool
  | .lit a, .lit b => valEqB a b
  | .ptr b o, .ptr b' o' => decide (b = b') && decide (o = o')
  | .slice b o n c e, .slice b' o' n' c' e' => decide (b = b') && decide (o = o') && decide (n = n') && decide (c = c') && decide (e = e')
  | .eslice, .eslice => true
  | .map b, .map b' => decide (b = b')
  | .func f a b, .func f' a' b' => decide (f = f') && AV.eqBs a a' && AV.eqBs b b'
  | .iface t v, .iface t' v' => decide (t = t') && AV.eqB v v'
  | .agg a, .agg b => AV.eqBs a b
  | .tuple a, .tuple b => AV.eqBs a b
  | _, _ => false
def AV.eqBs : List AV → List AV → Bool
  | [], [] => true
  | a :: asx, b :: bs => AV.eqB a b && AV.eqBs asx bs
  | _, _ => false
end
mutual
theorem AV.eqB_ok : ∀ {a b : AV}, AV.eqB a b = true → a = b
  | .lit _, b, h => by cases b <;> simp only [AV.eqB, Bool.false_eq_true] at h; rw [valEqB_ok h]
  | .ptr _ _, b, h => by cases b <;> simp only [AV.eqB, Bool.false_eq_true, Bool.and_eq_true, decide_eq_true_eq] at h; rw [h.1, h.2]
  | .slice .., b, h => by
    cases b <;> simp only [AV.eqB, Bool.false_eq_true, Bool.and_eq_true, decide_eq_true_eq] at h
    obtain ⟨⟨⟨⟨rfl, rfl⟩, rfl⟩, rfl⟩, rfl⟩ := h; rfl
  | .eslice, b, h => by cases b <;> simp only [AV.eqB, Bool.false_eq_true] at h; rfl
  | .map _, b, h => by cases b <;> simp only [AV.eqB, Bool.false_eq_true, decide_eq_true_eq] at h; rw [h]
  | .func _ a c, b, h => by
    cases b <;> simp only [AV.eqB, Bool.false_eq_true, Bool.and_eq_true, decide_eq_true_eq] at h
    obtain ⟨⟨rfl, h1⟩, h2⟩ := h
    rw [AV.eqBs_ok h1, AV.eqBs_ok h2]
  | .iface _ v, b, h => by
    cases b <;> simp only [AV.eqB, Bool.false_eq_true, Bool.and_eq_true, decide_eq_true_eq] at h
    obtain ⟨rfl, h1⟩ := h
    rw [AV.eqB_ok h1]
  | .agg a, b, h => by cases b <;> simp only [AV.eqB, Bool.false_eq_true] at h; rw [AV.eqBs_ok h]
  | .tuple a, b, h => by cases b <;> simp only [AV.eqB, Bool.false_eq_true] at h; rw [AV.eqBs_ok h]
theorem AV.eqBs_ok : ∀ {a b : List AV}, AV.eqBs a b = true → a = b
  | [], b, h => by cases b <;> simp only [AV.eqBs, Bool.false_eq_true] at h; rfl
  | a :: asx, b, h => by
    cases b <;> simp only [AV.eqBs, Bool.false_eq_true, Bool.and_eq_true] at h
    rw [AV.eqB_ok h.1, AV.eqBs_ok h.2]
end
mutual
def AV.belowB (n : Nat) : AV → Bool
  | .lit _ => true
  | .ptr b _ => decide (b < n)
  | .slice b _ _ _ _ => decide (b < n)
  | .eslice => true
  | .map b => decide (b < n)
  | .func _ a b => AV.belowBs n a && AV.belowBs n b
  | .iface _ v => AV.belowB n v
  | .agg a => AV.belowBs n a
  | .tuple a => AV.belowBs n a
def AV.belowBs (n : Nat) : List AV → Bool
  | [] => true
  | a :: asx => AV.belowB n a && AV.belowBs n asx
end
def Sig.lt (σ : Sig) (n : Nat) : Sig := fun b => if b < n then σ b else none
theorem Sig.lt_of {σ : Sig} {n b : Nat} (h : b < n) : σ.lt n b = σ b := by simp [Sig.lt, h]
theorem Sig.lt_ge {σ : Sig} {n b : Nat} (h : n ≤ b) : σ.lt n b = none := by simp [Sig.lt]; omega
theorem Sig.lt_some {σ : Sig} {n b : Nat} {l : Loc} (h : σ.lt n b = some l) : b < n ∧ σ b = some l := by
  unfold Sig.lt at h
  split at h
  · exact ⟨‹_›, h⟩
  · cases h
theorem Sig.lt_ext (σ : Sig) (n : Nat) : Ext (σ.lt n) σ := fun b l h => (Sig.lt_some h).2
theorem Sig.lt_mono {σ σ' : Sig} (h : Ext σ σ') {n m : Nat} (hn : n ≤ m) : Ext (σ.lt n) (σ'.lt m) := fun b l e => by
  obtain ⟨h1, h2⟩ := Sig.lt_some e
  rw [Sig.lt_of (by omega)]; exact h b l h2
mutual
theorem VR.lt {σ : Sig} {n : Nat} : ∀ {v : AV} {x : Value}, AV.belowB n v = true → VR σ v x → VR (σ.lt n) v x
  | .lit _, _, _, h => by simpa [VR] using h
  | .ptr _ _, _, hb, h => by
    simp only [AV.belowB, decide_eq_true_eq] at hb
    simp only [VR] at h ⊢
    rw [Sig.lt_of hb]; exact h
  | .slice .., _, hb, h => by
    simp only [AV.belowB, decide_eq_true_eq] at hb
    simp only [VR] at h ⊢
    rw [Sig.lt_of hb]; exact h
  | .eslice, _, _, h => by simpa [VR] using h
  | .map _, _, hb, h => by
    simp only [AV.belowB, decide_eq_true_eq] at hb
    simp only [VR] at h ⊢
    rw [Sig.lt_of hb]; exact h
  | .func _ a b, _, hb, h => by
    simp only [AV.belowB, Bool.and_eq_true] at hb
    simp only [VR] at h ⊢
    obtain ⟨fs, cs, e, h1, h2⟩ := h
    exact ⟨fs, cs, e, VRs.lt hb.1 h1, VRs.lt hb.2 h2⟩
  | .iface _ v, _, hb, h => by
    simp only [AV.belowB] at hb
    simp only [VR] at h ⊢
    obtain ⟨y, e, h1⟩ := h
    exact ⟨y, e, VR.lt hb h1⟩
  | .agg _, _, hb, h => by
    simp only [AV.belowB] at hb
    simp only [VR] at h ⊢
    obtain ⟨y, e, h1⟩ := h
    exact ⟨y, e, VRs.lt hb h1⟩
  | .tuple _, _, hb, h => by
    simp only [AV.belowB] at hb
    simp only [VR] at h ⊢
    obtain ⟨y, e, h1⟩ := h
    exact ⟨y, e, VRs.lt hb h1⟩
theorem VRs.lt {σ : Sig} {n : Nat} : ∀ {v : List AV} {x : List Value}, AV.belowBs n v = true → VRs σ v x → VRs (σ.lt n) v x
  | [], _, _, h => by simpa [VRs] using h
  | v :: vs, _, hb, h => by
    simp only [AV.belowBs, Bool.and_eq_true] at hb
    simp only [VRs] at h ⊢
    obtain ⟨y, ys, e, h1, h2⟩ := h
    exact ⟨y, ys, e, VR.lt hb.1 h1, VRs.lt hb.2 h2⟩
end
def AObj.toRo : AObj → AObj
  | .cells cs t _ => .cells cs t true
  | .map es _ => .map es true
  | .iter _ => .iter true
  | .nit _ => .nit true
def roAll : Heap → Heap
  | .nil => .nil
  | .node l v r => .node (roAll l) (v.map AObj.toRo) (roAll r)
theorem roAll_get : ∀ (H : Heap) (b : Nat), (roAll H).get b = (H.get b).map AObj.toRo
  | .nil, b => rfl
  | .node l v r, b => by
    simp only [roAll, Tr.get_node]
    split
    · rfl
    · split
      · exact roAll_get l _
      · exact roAll_get r _
inductive K where
  | skip
  | still
  | read
  | new (ob : AObj)
  | eff
structure DS where
  k : K
  v : AV
  s : St
def isEff : Op → Bool
  | .call { callee := .builtin .len, .. } => false
  | .call { callee := .builtin .max, .. } => false
  | .call { callee := .builtin .min, .. } => false
  | .call { callee := .builtin .cap, .. } => false
  | .call { callee := .builtin .unsafeSliceData, .. } => false
  | .call _ => true
  | .store .. | .mapUpdate .. | .insert .. | .mapEntry .. | .entryStore .. | .next .. | .entry _ | .range .. | .go _ | .defer _ | .panic _ | .send .. | .recv .. | .select .. | .ready _ | .waits _ => true
  | _ => false
def tx1 (C : Cx) (call : CallF) (ops : Array Oper) (o : Oper) (s : St) : Option (K × AV × Heap × Nat) :=
  if wantedA ops o s.env then
    if isEff o.op then
      match stepA C call (ev s.env) o.op s.H s.nx with
      | some (v, H', nx') => if s.nx ≤ nx' then some (.eff, v, H', nx') else none
      | none => none
    else
      match opA C (ev s.env) o.op .nil s.nx with
      | some (v, X, nx') =>
        if nx' = s.nx then some (.still, v, s.H, s.nx) else
        if nx' = s.nx + 1 then
          match X.get s.nx with
          | some ob => some (.new ob, v, s.H.put s.nx (some ob), s.nx + 1)
          | none => none
        else none
      | none =>
        match opA C (ev s.env) o.op (roAll s.H) s.nx with
        | some (v, _, nx') => if nx' = s.nx ∧ AV.belowB s.nx v = true then some (.read, v, s.H, s.nx) else none
        | none => none
  else some (.skip, .lit undef, s.H, s.nx)
def txRun (C : Cx) (call : CallF) (nt : Nat) (ops : Array Oper) : List Oper → St → Option (List DS × St)
  | [], s => some ([], s)
  | o :: rest, s =>
    match tx1 C call ops o s with
    | none => none
    | some (k, v, H', nx') =>
      match put? s.env nt o.dst v with
      | none => none
      | some env' =>
        match txRun C call nt ops rest ⟨env', H', nx'⟩ with
        | none => none
        | some (l, sN) => some (⟨k, v, s⟩ :: l, sN)
def stAt (l : List DS) (sN : St) (i : Nat) : St := match l[i]? with
  | some d => d.s
  | none => sN
theorem txRun_length {C : Cx} {call : CallF} {nt : Nat} {ops : Array Oper} : ∀ {os : List Oper} {s sN : St} {l : List DS}, txRun C call nt ops os s = some (l, sN) → l.length = os.length
  | [], s, sN, l, h => by simp only [txRun, Option.some.injEq, Prod.mk.injEq] at h; rw [← h.1]; rfl
  | o :: rest, s, sN, l, h => by
    simp only [txRun] at h
    split at h
    · cases h
    · split at h
      · cases h
      · split at h
        · cases h
        · rename_i hr
          simp only [Option.some.injEq, Prod.mk.injEq] at h
          rw [← h.1]
          simp [txRun_length hr]
theorem txRun_first {C : Cx} {call : CallF} {nt : Nat} {ops : Array Oper} {os : List Oper} {s sN : St} {l : List DS} (h : txRun C call nt ops os s = some (l, sN)) : stAt l sN 0 = s := by
  cases os with
  | nil => simp only [txRun, Option.some.injEq, Prod.mk.injEq] at h; rw [← h.1, ← h.2]; rfl
  | cons o rest =>
    simp only [txRun] at h
    split at h
    · cases h
    · split at h
      · cases h
      · split at h
        · cases h
        · simp only [Option.some.injEq, Prod.mk.injEq] at h
          rw [← h.1]; rfl
theorem txRun_at {C : Cx} {call : CallF} {nt : Nat} {ops : Array Oper} : ∀ {os : List Oper} {s sN : St} {l : List DS}, txRun C call nt ops os s = some (l, sN) →
    ∀ (i : Nat) (o : Oper) (d : DS), os[i]? = some o → l[i]? = some d →
      tx1 C call ops o d.s = some (d.k, d.v, (stAt l sN (i + 1)).H, (stAt l sN (i + 1)).nx) ∧ put? d.s.env nt o.dst d.v = some (stAt l sN (i + 1)).env
  | [], s, sN, l, h, i, o, d, ho, hd => by simp at ho
  | o' :: rest, s, sN, l, h, i, o, d, ho, hd => by
    simp only [txRun] at h
    split at h
    · cases h
    · rename_i k v H' nx' ht
      split at h
      · cases h
      · rename_i env' hp
        split at h
        · cases h
        · rename_i l' sN' hr
          simp only [Option.some.injEq, Prod.mk.injEq] at h
          obtain ⟨rfl, rfl⟩ := h
          cases i with
          | zero =>
            simp at ho hd
            subst ho; subst hd
            have h1 := txRun_first hr
            have : stAt (⟨k, v, s⟩ :: l') sN' (0 + 1) = stAt l' sN' 0 := by simp [stAt]
            rw [this, h1]
            exact ⟨ht, hp⟩
          | succ i =>
            simp at ho hd
            have := txRun_at hr i o d ho hd
            have e : stAt (⟨k, v, s⟩ :: l') sN' (i + 1 + 1) = stAt l' sN' (i + 1) := by simp [stAt]
            rw [e]
            exact this
end CI
noncomputable section
namespace CI
open Go
def bnds (o : Oper) : List Edge := o.after.toList.filter (Region.binds .any)
def maskOf (acc : List Nat) (o : Oper) : Nat := (bnds o).foldl (fun m e => m ||| (2 ^ e.on ||| acc.getD e.on 0)) 0
theorem mem_bnds {o : Oper} {e : Edge} (he : e ∈ o.after) (hb : Region.binds .any e = true) : e ∈ bnds o := by simp [bnds, he, hb]
theorem of_bnds {o : Oper} {e : Edge} (h : e ∈ bnds o) : e ∈ o.after ∧ Region.binds .any e = true := by simpa [bnds] using h
def ancs : List Oper → List Nat → List Nat
  | [], acc => acc
  | o :: rest, acc => ancs rest (acc ++ [maskOf acc o])
theorem ancs_pre : ∀ (os : List Oper) (acc : List Nat) (i : Nat), i < acc.length → (ancs os acc).getD i 0 = acc.getD i 0
  | [], acc, i, h => rfl
  | o :: rest, acc, i, h => by
    simp only [ancs]
    rw [ancs_pre rest _ i (by simp <;> omega)]
    simp [List.getD_eq_getElem?_getD, List.getElem?_append_left h]
theorem ancs_at : ∀ (os : List Oper) (acc : List Nat) (i : Nat) (o : Oper), os[i]? = some o → ∃ pre : List Nat, (ancs os acc).getD (acc.length + i) 0 = maskOf pre o ∧ pre.length = acc.length + i ∧
    ∀ j, j < pre.length → pre.getD j 0 = (ancs os acc).getD j 0
  | [], acc, i, o, h => by simp at h
  | o' :: rest, acc, i, o, h => by
    cases i with
    | zero =>
      simp at h; subst h
      refine ⟨acc, ?_, by simp, fun j hj => ?_⟩
      · simp only [ancs, Nat.add_zero]
        rw [ancs_pre rest _ _ (by simp)]
        simp [List.getD_eq_getElem?_getD]
      · simp only [ancs]
        rw [ancs_pre rest _ j (by simp <;> omega)]
        simp [List.getD_eq_getElem?_getD, List.getElem?_append_left hj]
    | succ i =>
      simp at h
      obtain ⟨pre, h1, h2, h3⟩ := ancs_at rest (acc ++ [maskOf acc o']) i o h
      refine ⟨pre, ?_, by simp at h2; omega, h3⟩
      simp only [ancs]
      rw [← h1]; congr 1; simp <;> omega
theorem testBit_fold (f : Edge → Nat) (j : Nat) : ∀ (l : List Edge) (m : Nat), (l.foldl (fun m e => m ||| (2 ^ e.on ||| f e)) m).testBit j = true →
    m.testBit j = true ∨ ∃ e ∈ l, e.on = j ∨ (f e).testBit j = true
  | [], m, h => .inl h
  | e :: l, m, h => by
    rw [List.foldl_cons] at h
    rcases testBit_fold f j l _ h with h | ⟨e', he', h⟩
    · rw [Nat.testBit_or, Nat.testBit_or, Nat.testBit_two_pow] at h
      simp only [Bool.or_eq_true, decide_eq_true_eq] at h
      rcases h with h | h | h
      · exact .inl h
      · exact .inr ⟨e, by simp, .inl h⟩
      · exact .inr ⟨e, by simp, .inr h⟩
    · exact .inr ⟨e', by simp [he'], h⟩
def slotsOf (o : Oper) : List Nat := o.op.operands.toList.filterMap fun | .tmp t => some t | _ => none
def drawStatic (ops : List Oper) : Bool :=
  let A := ancs ops []
  (ops.zipIdx.all fun (o, i) => ((bnds o).all fun e => decide (e.on < i)) &&
    (match o.guard with
      | none => true
      | some (j, _) => (A.getD i 0).testBit j)) &&
  (ops.zipIdx.all fun (o, i) => ops.zipIdx.all fun (p, j) => decide (i = j) ||
    ((match o.dst, p.dst with
      | some d, some d' => decide (d ≠ d')
      | _, _ => true) &&
     ((slotsOf o).all fun t => !(p.dst == some t) || (A.getD i 0).testBit j || (A.getD j 0).testBit i) &&
     (!(isEff o.op && isEff p.op && decide (i < j)) || (A.getD j 0).testBit i)))
structure Static (ops : List Oper) : Prop where
  edge : ∀ (i : Nat) (o : Oper), ops[i]? = some o → ∀ e ∈ bnds o, e.on < i
  guard : ∀ (i : Nat) (o : Oper) (j : Nat) (b : Bool), ops[i]? = some o → o.guard = some (j, b) → ((ancs ops []).getD i 0).testBit j = true
  dst : ∀ (i j : Nat) (o p : Oper) (d d' : Nat), ops[i]? = some o → ops[j]? = some p → i ≠ j → o.dst = some d → p.dst = some d' → d ≠ d'
  slot : ∀ (i j : Nat) (o p : Oper) (t : Nat), ops[i]? = some o → ops[j]? = some p → i ≠ j → t ∈ slotsOf o → p.dst = some t → ((ancs ops []).getD i 0).testBit j = true ∨ ((ancs ops []).getD j 0).testBit i = true
  eff : ∀ (i j : Nat) (o p : Oper), ops[i]? = some o → ops[j]? = some p → i < j → isEff o.op = true → isEff p.op = true → ((ancs ops []).getD j 0).testBit i = true
theorem mem_zip {ops : List Oper} {i : Nat} {o : Oper} (h : ops[i]? = some o) : (o, i) ∈ ops.zipIdx := by
  rw [List.mk_mem_zipIdx_iff_getElem?]; exact h
theorem static_of {ops : List Oper} (h : drawStatic ops = true) : Static ops := by
  unfold drawStatic at h
  simp only [Bool.and_eq_true, List.all_eq_true] at h
  obtain ⟨h1, h2⟩ := h
  refine ⟨?_, ?_, ?_, ?_, ?_⟩
  · intro i o ho e he
    have := (h1 (o, i) (mem_zip ho)).1 e he
    simpa using this
  · intro i o j b ho hg
    have := (h1 (o, i) (mem_zip ho)).2
    simp only [hg] at this
    exact this
  · intro i j o p d d' ho hp hij hd hd'
    have := h2 (o, i) (mem_zip ho) (p, j) (mem_zip hp)
    simp only [Bool.or_eq_true, decide_eq_true_eq, hij, false_or, Bool.and_eq_true] at this
    have := this.1.1
    simp only [hd, hd'] at this
    simpa using this
  · intro i j o p t ho hp hij ht hd
    have := h2 (o, i) (mem_zip ho) (p, j) (mem_zip hp)
    simp only [Bool.or_eq_true, decide_eq_true_eq, hij, false_or, Bool.and_eq_true, List.all_eq_true] at this
    have := this.1.2 t ht
    simp only [hd] at this
    simpa using this
  · intro i j o p ho hp hij e1 e2
    have := h2 (o, i) (mem_zip ho) (p, j) (mem_zip hp)
    simp only [Bool.or_eq_true, decide_eq_true_eq, Nat.ne_of_lt hij, false_or, Bool.and_eq_true] at this
    have := this.2
    simp only [e1, e2, hij] at this
    simpa using this
theorem anc_closed {ops : List Oper} (hs : Static ops) {S : Nat → Prop} (hS : ∀ i o, S i → ops[i]? = some o → ∀ e ∈ bnds o, S e.on) :
    ∀ (n i : Nat) (o : Oper), i < n → ops[i]? = some o → (∀ e ∈ bnds o, S e.on) → ∀ j, ((ancs ops []).getD i 0).testBit j = true → S j := by
  intro n
  induction n with
  | zero => intro i o hi; omega
  | succ n ih =>
    intro i o hi ho hd j hj
    obtain ⟨pre, h1, h2, h3⟩ := ancs_at ops [] i o ho
    simp only [List.length_nil, Nat.zero_add] at h1 h2
    rw [h1] at hj
    unfold maskOf at hj
    rcases testBit_fold _ j _ _ hj with h | ⟨e, he, h⟩
    · simp at h
    · have he' : e ∈ bnds o := he
      have hlt := hs.edge i o ho e he'
      rcases h with rfl | h
      · exact hd e he'
      · rw [h3 _ (by omega)] at h
        have hse := hd e he'
        have hlen : e.on < ops.length := by
          have := (List.getElem?_eq_some_iff.1 ho).1; omega
        exact ih e.on ops[e.on] (by omega) (List.getElem?_eq_getElem hlen) (fun e' he' => hS e.on _ hse (List.getElem?_eq_getElem hlen) e' he') j h
def addNews (l : List DS) (p : Nat) (H : Heap) : Heap :=
  (l.drop p).foldl (fun H d => match d.k with | .new ob => H.put d.s.nx (some ob) | _ => H) H
def effIdx (l : List DS) : List Nat := l.zipIdx.filterMap fun (d, i) => match d.k with | .eff => some i | _ => none
def allowed (A effs : List Nat) (i p : Nat) : Bool := effs.all fun e => if e < p then !(A.getD e 0).testBit i else !(A.getD i 0).testBit e
def readOK (C : Cx) (A : List Nat) (l : List DS) (sN : St) (i : Nat) (o : Oper) (d : DS) : Bool :=
  (0 :: (effIdx l).map (· + 1)).all fun p =>
    !(allowed A (effIdx l) i p) ||
    match opA C (ev d.s.env) o.op (roAll (addNews l p (stAt l sN p).H)) sN.nx with
    | some (v, _, nx') => decide (nx' = sN.nx) && AV.eqB v d.v
    | none => false
def runDraw (C : Cx) (call : CallF) (nt : Nat) (ops : Array Oper) (s : St) : Option St :=
  match txRun C call nt ops ops.toList s with
  | none => none
  | some (l, sN) =>
    if (ops.toList.zip l).zipIdx.all fun ((o, d), i) =>
      match d.k with
      | .read => readOK C (ancs ops.toList []) l sN i o d
      | _ => true
    then some sN else none
theorem opA_congr {C : Cx} {ρ ρ' : Operand → AV} {o : Op} (h : ∀ x ∈ o.operands, ρ x = ρ' x) (H : Heap) (nx : Nat) : opA C ρ o H nx = opA C ρ' o H nx := by
  have hmap : ∀ (xs : List Operand), (∀ x ∈ xs, ρ x = ρ' x) → xs.map ρ = xs.map ρ' := fun xs hx => List.map_congr_left hx
  have hparts : ∀ (ps : List (Nat × Operand)), (∀ p ∈ ps, ρ p.2 = ρ' p.2) → partsA ρ ps = partsA ρ' ps := fun ps hx => List.map_congr_left (fun p hp => by rw [hx p hp])
  have hopt : ∀ r : Option Operand, (∀ x ∈ r.toArray.toList, ρ x = ρ' x) → r.map ρ = r.map ρ' := by
    intro r hr
    cases r with
    | none => rfl
    | some x => simp at hr; simp [hr]
  unfold opA
  split <;> simp only [Op.operands, Call.operands, List.mem_toArray, Array.mem_append, Array.mem_def, List.mem_map, Option.mem_toArray, List.mem_cons, List.not_mem_nil, or_false, List.toList_toArray, Array.toList_append, List.mem_append] at h
  all_goals first
    | rfl
    | (rw [h _ rfl]; done)
    | (rw [h _ (.inl rfl), h _ (.inr rfl)]; done)
    | (rw [h _ (.inl rfl), h _ (.inr (.inl rfl)), h _ (.inr (.inr rfl))]; done)
    | (rw [hparts _ (fun p hp => h _ ⟨p, hp, rfl⟩)]; done)
    | (rw [hmap _ (fun x hx => h x (.inl hx)), hmap _ (fun x hx => h x (.inr hx))]; done)
    | (rw [hopt _ h]; done)
    | (rw [h _ (.inl (.inl (.inl rfl))), hopt _ (fun x hx => h x (.inl (.inl (.inr hx)))), hopt _ (fun x hx => h x (.inl (.inr hx))), hopt _ (fun x hx => h x (.inr hx))]; done)
    | (rw [hmap _ (fun x hx => h x (.inr hx))]; done)
end CI
