/- A region whose order is drawn, where nothing that stood there is changed but by the last operation. -/
import Derived.Test.YtbdlpeldglggkaaGreatDoorCiy
import Derived.Test.YtbdlpeldglggkaaGreatDoorCir
set_option linter.unusedVariables false
set_option linter.unusedSimpArgs false
noncomputable section
namespace CI
open Go

def txS (C : Cx) (call : CallF) (o : SOp) (E : Tr AV) (H : Heap) (nx : Nat) : Option (K × AV × Heap × Nat) :=
  if wantedS o.guard E then
    if isEff o.op then
      match stepA C call (ev E) o.op H nx with
      | some (v, H', nx') => if nx ≤ nx' then some (.eff, v, H', nx') else none
      | none => none
    else
      match opA C (ev E) o.op .nil nx with
      | some (v, X, nx') =>
        if nx' = nx then some (.still, v, H, nx) else
        if nx' = nx + 1 then
          match X.get nx with
          | some ob => some (.new ob, v, H.put nx (some ob), nx + 1)
          | none => none
        else none
      | none =>
        match opA C (ev E) o.op (roAll H) nx with
        | some (v, _, nx') => if nx' = nx ∧ AV.belowB nx v = true then some (.read, v, H, nx) else none
        | none => none
  else some (.skip, .lit undef, H, nx)

theorem txS_eq (C : Cx) (call : CallF) (ops : Array Oper) (o : Oper) (s : St) : tx1 C call ops o s = txS C call (stripO ops o) s.env s.H s.nx := by
  unfold tx1 txS
  rw [wantedS_strip]
  rfl

def dk : K → AV → Bool
  | .new _, _ => false
  | .read, v => AV.eqB v v
  | _, _ => true
def dkLast : K → Bool
  | .new _ => false
  | .read => false
  | _ => true

/-- All operations but the last leave the memory alone. -/
def WD (C : Cx) (nt : Nat) (H : Heap) (nx : Nat) : List SOp → Tr AV → (St → Prop) → Prop
  | [], E, K => False
  | [o], E, K =>
    match txS C (Cl C) o E H nx with
    | some (k, v, H', nx') => nx' = nx ∧ dkLast k = true ∧ match put? E nt o.dst v with
      | some E' => K ⟨E', H', nx'⟩
      | none => False
    | none => False
  | o :: o' :: rest, E, K =>
    match txS C (Cl C) o E H nx with
    | some (k, v, H', nx') => H' = H ∧ nx' = nx ∧ dk k v = true ∧ match put? E nt o.dst v with
      | some E' => WD C nt H nx (o' :: rest) E' K
      | none => False
    | none => False

/-- Whatever is read stands ahead of the last operation. -/
def lastOK (ops : Array Oper) : Bool :=
  (List.range (ops.size - 1)).all fun i => ((ancs ops.toList []).getD (ops.size - 1) 0).testBit i || (match (ops.toList[i]?).map (·.op) with
    | some op => isEff op
    | none => false)

theorem WD_run {C : Cx} {nt : Nat} {ops : Array Oper} {H : Heap} {nx : Nat} {K : St → Prop} : ∀ (l : List Oper) (E : Tr AV), WD C nt H nx (l.map (stripO ops)) E K →
    ∃ ds sN, txRun C (Cl C) nt ops l ⟨E, H, nx⟩ = some (ds, sN) ∧ K sN ∧ sN.nx = nx ∧ ds.length = l.length ∧ (∀ i d, ds[i]? = some d → d.s.H = H ∧ d.s.nx = nx ∧ (i + 1 < l.length → dk d.k d.v = true) ∧ (i + 1 = l.length → dkLast d.k = true) ∧
      ∃ o, l[i]? = some o ∧ (tx1 C (Cl C) ops o d.s).isSome = true ∧ (tx1 C (Cl C) ops o d.s).map (fun r => (r.1, r.2.1)) = some (d.k, d.v))
  | [], E, h => by simp [WD] at h
  | [o], E, h => by
    simp only [List.map_cons, List.map_nil, WD] at h
    split at h
    · rename_i k v H' nx' hk
      obtain ⟨h1, h2, h3⟩ := h
      split at h3
      · rename_i E' hE
        have hk' : tx1 C (Cl C) ops o ⟨E, H, nx⟩ = some (k, v, H', nx') := by rw [txS_eq]; exact hk
        refine ⟨[⟨k, v, ⟨E, H, nx⟩⟩], ⟨E', H', nx'⟩, ?_, h3, h1, rfl, ?_⟩
        · simp only [txRun, hk']
          have : put? E nt o.dst v = some E' := hE
          rw [this]
        · intro i d hd
          cases i with
          | zero =>
            simp at hd; subst hd
            exact ⟨rfl, rfl, fun h => absurd h (by simp), fun _ => h2, o, rfl, by rw [hk']; rfl, by rw [hk']; rfl⟩
          | succ i => simp at hd
      · cases h3
    · cases h
  | o :: o' :: rest, E, h => by
    simp only [List.map_cons, WD] at h
    split at h
    · rename_i k v H' nx' hk
      obtain ⟨rfl, rfl, h2, h3⟩ := h
      split at h3
      · rename_i E' hE
        have hk' : tx1 C (Cl C) ops o ⟨E, H', nx'⟩ = some (k, v, H', nx') := by rw [txS_eq]; exact hk
        obtain ⟨ds, sN, r1, r2, r3, r4, r5⟩ := WD_run (o' :: rest) E' h3
        refine ⟨⟨k, v, ⟨E, H', nx'⟩⟩ :: ds, sN, ?_, r2, r3, by simp [r4], ?_⟩
        · have : put? E nt o.dst v = some E' := hE
          rw [txRun, hk']
          simp only
          rw [this]
          simp only
          rw [r1]
        · intro i d hd
          cases i with
          | zero =>
            simp at hd; subst hd
            exact ⟨rfl, rfl, fun _ => h2, fun h => absurd h (by simp), o, rfl, by rw [hk']; rfl, by rw [hk']; rfl⟩
          | succ i =>
            simp only [List.getElem?_cons_succ] at hd
            obtain ⟨a1, a2, a3, a4, p, a5, a6⟩ := r5 i d hd
            exact ⟨a1, a2, fun h => a3 (by simpa using h), fun h => a4 (by simpa using h), p, by simpa using a5, a6⟩
      · cases h3
    · cases h
theorem noNews {l : List DS} {p : Nat} {H : Heap} (h : ∀ d ∈ l, ∀ ob, d.k ≠ .new ob) : addNews l p H = H := by
  unfold addNews
  have h' : ∀ d ∈ l.drop p, ∀ ob, d.k ≠ .new ob := fun d hd => h d (List.mem_of_mem_drop hd)
  generalize l.drop p = l' at h'
  induction l' generalizing H with
  | nil => rfl
  | cons d l' ih =>
    rw [List.foldl_cons]
    have hr := ih (H := H) fun d hd => h' d (List.mem_cons_of_mem _ hd)
    cases hk : d.k with
    | new ob => exact absurd hk (h' d (by simp) _)
    | _ => exact hr

theorem effIdx_lt {l : List DS} {p : Nat} (h : p ∈ (effIdx l).map (· + 1)) : 1 ≤ p ∧ p ≤ l.length ∧ (p - 1) ∈ effIdx l := by
  simp only [List.mem_map] at h
  obtain ⟨e, he, rfl⟩ := h
  refine ⟨by omega, ?_, by simpa using he⟩
  unfold effIdx at he
  simp only [List.mem_filterMap] at he
  obtain ⟨⟨d, i⟩, hd, hi⟩ := he
  have := List.mem_zipIdx hd
  simp only at hi
  split at hi
  · injection hi with hi; subst hi; omega
  · cases hi

theorem tx1_read {C : Cx} {call : CallF} {ops : Array Oper} {o : Oper} {s : St} {v : AV} {H' : Heap} {nx' : Nat} (h : tx1 C call ops o s = some (.read, v, H', nx')) :
    isEff o.op = false ∧ ∃ X, opA C (ev s.env) o.op (roAll s.H) s.nx = some (v, X, s.nx) := by
  unfold tx1 at h
  split at h
  · split at h
    · split at h
      · split at h <;> simp at h
      · cases h
    · rename_i hi
      split at h
      · split at h
        · simp at h
        · split at h
          · split at h <;> simp at h
          · cases h
      · split at h
        · rename_i v2 X nx2 ho
          split at h
          · rename_i hc
            simp only [Option.some.injEq, Prod.mk.injEq, true_and] at h
            obtain ⟨rfl, _, _⟩ := h
            refine ⟨by simpa using hi, X, ?_⟩
            rw [ho, hc.1]
          · cases h
        · cases h
  · simp at h

theorem runDraw_of {C : Cx} {nt : Nat} {ops : Array Oper} {E : Tr AV} {H : Heap} {nx : Nat} {K : St → Prop} (hl : lastOK ops = true) (h : WD C nt H nx (ops.toList.map (stripO ops)) E K) :
    ∃ sN, runDraw C (Cl C) nt ops ⟨E, H, nx⟩ = some sN ∧ K sN := by
  obtain ⟨ds, sN, h1, h2, h3, h4, h5⟩ := WD_run ops.toList E h
  refine ⟨sN, ?_, h2⟩
  unfold runDraw
  rw [h1]
  simp only
  rw [if_pos]
  rw [List.all_eq_true]
  rintro ⟨⟨o, d⟩, i⟩ hm
  simp only
  split
  · rename_i hk
    have hz := List.mem_zipIdx hm
    simp only [Nat.zero_add, Nat.sub_zero] at hz
    obtain ⟨_, hi, hoe⟩ := hz
    have hod : ops.toList[i]? = some o ∧ ds[i]? = some d := by
      have : (ops.toList.zip ds)[i]? = some (o, d) := by rw [List.getElem?_eq_getElem (by omega), ← hoe]
      rw [List.getElem?_zip_eq_some] at this
      exact this
    obtain ⟨hH, hnx, hdk, hdl, o', ho', _, htx⟩ := h5 i d hod.2
    rw [hod.1] at ho'
    injection ho' with ho'
    subst ho'
    have hilt : i < ds.length := (List.getElem?_eq_some_iff.1 hod.2).1
    have hne : i + 1 ≠ ops.toList.length := by
      intro e
      have := hdl e
      rw [hk] at this; cases this
    have hv : AV.eqB d.v d.v = true := by
      have := hdk (by omega)
      rw [hk] at this; exact this
    simp only [Option.map_eq_some_iff] at htx
    obtain ⟨⟨k', v', H', nx'⟩, ht, hte⟩ := htx
    simp only [Prod.mk.injEq] at hte
    obtain ⟨rfl, rfl⟩ := hte
    rw [hk] at ht
    obtain ⟨hne2, X, hX⟩ := tx1_read ht
    have hnews : ∀ d ∈ ds, ∀ ob, d.k ≠ .new ob := by
      intro d' hd' ob hob
      obtain ⟨j, hj, rfl⟩ := List.mem_iff_getElem.1 hd'
      obtain ⟨_, _, c1, c2, _⟩ := h5 j _ (List.getElem?_eq_getElem hj)
      rcases Nat.lt_or_ge (j + 1) ops.toList.length with h | h
      · have := c1 h; rw [hob] at this; cases this
      · have := c2 (by omega); rw [hob] at this; cases this
    unfold readOK
    rw [List.all_eq_true]
    intro p hp
    rw [Bool.or_eq_true]
    by_cases hpl : p < ds.length
    · right
      rw [noNews hnews]
      have hs : (stAt ds sN p).H = H := by
        unfold stAt
        rw [List.getElem?_eq_getElem hpl]
        exact (h5 p _ (List.getElem?_eq_getElem hpl)).1
      rw [hs, h3, ← hH, ← hnx, hX]
      simp [hv]
    · left
      rw [List.mem_cons] at hp
      have hp0 : p ∈ (effIdx ds).map (· + 1) := by
        rcases hp with rfl | hp
        · omega
        · exact hp
      obtain ⟨q1, q2, q3⟩ := effIdx_lt hp0
      have hpe : p = ds.length := by omega
      have hA : ((ancs ops.toList []).getD (p - 1) 0).testBit i = true := by
        unfold lastOK at hl
        rw [List.all_eq_true] at hl
        have := hl i (by
          simp only [List.mem_range]
          have : ops.toList.length = ops.size := by simp
          omega)
        rw [Bool.or_eq_true] at this
        have hsz : ops.size - 1 = p - 1 := by
          have : ops.toList.length = ops.size := by simp
          omega
        rw [hsz] at this
        rcases this with h | h
        · exact h
        · rw [hod.1] at h
          simp only [Option.map_some] at h
          rw [hne2] at h; cases h
      simp only [Bool.not_eq_true']
      unfold allowed
      rw [← Bool.not_eq_true, List.all_eq_true]
      intro hall
      have := hall _ q3
      rw [if_pos (by omega), hA] at this
      cases this
  · rfl
theorem wpS_draw {C : Cx} {nt : Nat} {ops : Array Oper} {so : List SOp} {E : Tr AV} {H : Heap} {nx : Nat} {Q : Ex → St → Prop} (hl : lastOK ops = true) (hs : ops.toList.map (stripO ops) = so) (h : WD C nt H nx so E (Q .normal)) :
    wpS C nt (.draw ops) ⟨E, H, nx⟩ Q := by
  subst hs
  obtain ⟨sN, h1, h2⟩ := runDraw_of hl h
  simp only [wpS, h1]
  exact h2

/-! ### for simp -/
theorem WD_one {C : Cx} {nt : Nat} {H : Heap} {nx : Nat} {o : SOp} {E : Tr AV} {K : St → Prop} : WD C nt H nx [o] E K =
    match txS C (Cl C) o E H nx with
    | some (k, v, H', nx') => nx' = nx ∧ dkLast k = true ∧ match put? E nt o.dst v with
      | some E' => K ⟨E', H', nx'⟩
      | none => False
    | none => False := rfl
theorem WD_cons {C : Cx} {nt : Nat} {H : Heap} {nx : Nat} {o o' : SOp} {rest : List SOp} {E : Tr AV} {K : St → Prop} : WD C nt H nx (o :: o' :: rest) E K =
    match txS C (Cl C) o E H nx with
    | some (k, v, H', nx') => H' = H ∧ nx' = nx ∧ dk k v = true ∧ match put? E nt o.dst v with
      | some E' => WD C nt H nx (o' :: rest) E' K
      | none => False
    | none => False := rfl
@[congr] theorem WD_congr {C : Cx} {nt : Nat} {H : Heap} {nx : Nat} {l : List SOp} {E E' : Tr AV} {K : St → Prop} (h : E = E') : WD C nt H nx l E K = WD C nt H nx l E' K := by rw [h]
theorem loadOp_ro (T : Tr TInfo) (H : Heap) (t : TypeId) (a : AV) : loadOp T (roAll H) t a = loadOp T H t a := by
  unfold loadOp
  split
  · rfl
  · split
    · rename_i b o
      rw [roAll_get]
      cases H.get b with
      | none => rfl
      | some ob => cases ob <;> rfl
    · rfl
    · rfl
theorem loadOp_nil (T : Tr TInfo) (t : TypeId) (b o : Nat) : loadOp T .nil t (.ptr b o) = none := by
  unfold loadOp
  split
  · rfl
  · rfl
theorem eqB_int (k : IntKind) (n : Int) : AV.eqB (.lit (.int k n)) (.lit (.int k n)) = true := by simp [AV.eqB, valEqB]
theorem nx_succ (n : Nat) : (n + 1 = n) = False := by simp
theorem dk_read (v : AV) : dk .read v = AV.eqB v v := rfl
theorem dk_still (v : AV) : dk .still v = true := rfl
theorem dk_eff (v : AV) : dk .eff v = true := rfl
theorem dk_skip (v : AV) : dk .skip v = true := rfl
theorem dkLast_still : dkLast .still = true := rfl
theorem dkLast_eff : dkLast .eff = true := rfl
theorem dkLast_skip : dkLast .skip = true := rfl
end CI
