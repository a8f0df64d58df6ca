/- Merged: Cn Cq Cr Cwg Cwh Cj. -/
import Derived.Test.YtdkicjlbfhmfkaaGreatDoorCiy
import Derived.Test.YtdkicjlbfhmfkaaGreatDoorCir
/- A region whose order is drawn, where nothing that stood there is changed but by the last operation. -/
set_option linter.unusedVariables false
set_option linter.unusedSimpArgs false
noncomputable section
namespace CI
open Go

def txS (C : Cx) (call : CallF) (o : SOp) (E : Tr AV) (H : Heap) (nx : Nat) : Option (K × AV × Heap × Nat) :=
  if wantedS o.guard E then
    if isEff o.op then
      match stepA C call (ev E) o.op H nx with
      | some (v, H', nx') => if nx ≤ nx' then some (.eff, v, H', nx') else none
      | none => none
    else
      match opA C (ev E) o.op .nil nx with
      | some (v, X, nx') =>
        if nx' = nx then some (.still, v, H, nx) else
        if nx' = nx + 1 then
          match X.get nx with
          | some ob => some (.new ob, v, H.put nx (some ob), nx + 1)
          | none => none
        else none
      | none =>
        match opA C (ev E) o.op (roAll H) nx with
        | some (v, _, nx') => if nx' = nx ∧ AV.belowB nx v = true then some (.read, v, H, nx) else none
        | none => none
  else some (.skip, .lit undef, H, nx)

theorem txS_eq (C : Cx) (call : CallF) (ops : Array Oper) (o : Oper) (s : St) : tx1 C call ops o s = txS C call (stripO ops o) s.env s.H s.nx := by
  unfold tx1 txS
  rw [wantedS_strip]
  rfl

def dk : K → AV → Bool
  | .new _, _ => false
  | .read, v => AV.eqB v v
  | _, _ => true
def dkLast : K → Bool
  | .new _ => false
  | .read => false
  | _ => true

/-- All operations but the last leave the memory alone. -/
def WD (C : Cx) (nt : Nat) (H : Heap) (nx : Nat) : List SOp → Tr AV → (St → Prop) → Prop
  | [], E, K => False
  | [o], E, K =>
    match txS C (Cl C) o E H nx with
    | some (k, v, H', nx') => nx' = nx ∧ dkLast k = true ∧ match put? E nt o.dst v with
      | some E' => K ⟨E', H', nx'⟩
      | none => False
    | none => False
  | o :: o' :: rest, E, K =>
    match txS C (Cl C) o E H nx with
    | some (k, v, H', nx') => H' = H ∧ nx' = nx ∧ dk k v = true ∧ match put? E nt o.dst v with
      | some E' => WD C nt H nx (o' :: rest) E' K
      | none => False
    | none => False

/-- Whatever is read stands ahead of the last operation. -/
def lastEffOK (ops : Array Oper) : Bool :=
  (List.range (ops.size - 1)).all fun i => ((ancs ops.toList []).getD (ops.size - 1) 0).testBit i || (match (ops.toList[i]?).map (·.op) with
    | some op => isEff op
    | none => false)

theorem WD_run {C : Cx} {nt : Nat} {ops : Array Oper} {H : Heap} {nx : Nat} {K : St → Prop} : ∀ (l : List Oper) (E : Tr AV), WD C nt H nx (l.map (stripO ops)) E K →
    ∃ ds sN, txRun C (Cl C) nt ops l ⟨E, H, nx⟩ = some (ds, sN) ∧ K sN ∧ sN.nx = nx ∧ ds.length = l.length ∧ (∀ i d, ds[i]? = some d → d.s.H = H ∧ d.s.nx = nx ∧ (i + 1 < l.length → dk d.k d.v = true) ∧ (i + 1 = l.length → dkLast d.k = true) ∧
      ∃ o, l[i]? = some o ∧ (tx1 C (Cl C) ops o d.s).isSome = true ∧ (tx1 C (Cl C) ops o d.s).map (fun r => (r.1, r.2.1)) = some (d.k, d.v))
  | [], E, h => by simp [WD] at h
  | [o], E, h => by
    simp only [List.map_cons, List.map_nil, WD] at h
    split at h
    · rename_i k v H' nx' hk
      obtain ⟨h1, h2, h3⟩ := h
      split at h3
      · rename_i E' hE
        have hk' : tx1 C (Cl C) ops o ⟨E, H, nx⟩ = some (k, v, H', nx') := by rw [txS_eq]; exact hk
        refine ⟨[⟨k, v, ⟨E, H, nx⟩⟩], ⟨E', H', nx'⟩, ?_, h3, h1, rfl, ?_⟩
        · simp only [txRun, hk']
          have : put? E nt o.dst v = some E' := hE
          rw [this]
        · intro i d hd
          cases i with
          | zero =>
            simp at hd; subst hd
            exact ⟨rfl, rfl, fun h => absurd h (by simp), fun _ => h2, o, rfl, by rw [hk']; rfl, by rw [hk']; rfl⟩
          | succ i => simp at hd
      · cases h3
    · cases h
  | o :: o' :: rest, E, h => by
    simp only [List.map_cons, WD] at h
    split at h
    · rename_i k v H' nx' hk
      obtain ⟨rfl, rfl, h2, h3⟩ := h
      split at h3
      · rename_i E' hE
        have hk' : tx1 C (Cl C) ops o ⟨E, H', nx'⟩ = some (k, v, H', nx') := by rw [txS_eq]; exact hk
        obtain ⟨ds, sN, r1, r2, r3, r4, r5⟩ := WD_run (o' :: rest) E' h3
        refine ⟨⟨k, v, ⟨E, H', nx'⟩⟩ :: ds, sN, ?_, r2, r3, by simp [r4], ?_⟩
        · have : put? E nt o.dst v = some E' := hE
          rw [txRun, hk']
          simp only
          rw [this]
          simp only
          rw [r1]
        · intro i d hd
          cases i with
          | zero =>
            simp at hd; subst hd
            exact ⟨rfl, rfl, fun _ => h2, fun h => absurd h (by simp), o, rfl, by rw [hk']; rfl, by rw [hk']; rfl⟩
          | succ i =>
            simp only [List.getElem?_cons_succ] at hd
            obtain ⟨a1, a2, a3, a4, p, a5, a6⟩ := r5 i d hd
            exact ⟨a1, a2, fun h => a3 (by simpa using h), fun h => a4 (by simpa using h), p, by simpa using a5, a6⟩
      · cases h3
    · cases h
theorem noNews {l : List DS} {p : Nat} {H : Heap} (h : ∀ d ∈ l, ∀ ob, d.k ≠ .new ob) : addNews l p H = H := by
  unfold addNews
  have h' : ∀ d ∈ l.drop p, ∀ ob, d.k ≠ .new ob := fun d hd => h d (List.mem_of_mem_drop hd)
  generalize l.drop p = l' at h'
  induction l' generalizing H with
  | nil => rfl
  | cons d l' ih =>
    rw [List.foldl_cons]
    have hr := ih (H := H) fun d hd => h' d (List.mem_cons_of_mem _ hd)
    cases hk : d.k with
    | new ob => exact absurd hk (h' d (by simp) _)
    | _ => exact hr

theorem effIdx_lt {l : List DS} {p : Nat} (h : p ∈ (effIdx l).map (· + 1)) : 1 ≤ p ∧ p ≤ l.length ∧ (p - 1) ∈ effIdx l := by
  simp only [List.mem_map] at h
  obtain ⟨e, he, rfl⟩ := h
  refine ⟨by omega, ?_, by simpa using he⟩
  unfold effIdx at he
  simp only [List.mem_filterMap] at he
  obtain ⟨⟨d, i⟩, hd, hi⟩ := he
  have := List.mem_zipIdx hd
  simp only at hi
  split at hi
  · injection hi with hi; subst hi; omega
  · cases hi

theorem tx1_read {C : Cx} {call : CallF} {ops : Array Oper} {o : Oper} {s : St} {v : AV} {H' : Heap} {nx' : Nat} (h : tx1 C call ops o s = some (.read, v, H', nx')) :
    isEff o.op = false ∧ ∃ X, opA C (ev s.env) o.op (roAll s.H) s.nx = some (v, X, s.nx) := by
  unfold tx1 at h
  split at h
  · split at h
    · split at h
      · split at h <;> simp at h
      · cases h
    · rename_i hi
      split at h
      · split at h
        · simp at h
        · split at h
          · split at h <;> simp at h
          · cases h
      · split at h
        · rename_i v2 X nx2 ho
          split at h
          · rename_i hc
            simp only [Option.some.injEq, Prod.mk.injEq, true_and] at h
            obtain ⟨rfl, _, _⟩ := h
            refine ⟨by simpa using hi, X, ?_⟩
            rw [ho, hc.1]
          · cases h
        · cases h
  · simp at h

theorem runDraw_of {C : Cx} {nt : Nat} {ops : Array Oper} {E : Tr AV} {H : Heap} {nx : Nat} {K : St → Prop} (hl : lastEffOK ops = true) (h : WD C nt H nx (ops.toList.map (stripO ops)) E K) :
    ∃ sN, runDraw C (Cl C) nt ops ⟨E, H, nx⟩ = some sN ∧ K sN := by
  obtain ⟨ds, sN, h1, h2, h3, h4, h5⟩ := WD_run ops.toList E h
  refine ⟨sN, ?_, h2⟩
  unfold runDraw
  rw [h1]
  simp only
  rw [if_pos]
  rw [List.all_eq_true]
  rintro ⟨⟨o, d⟩, i⟩ hm
  simp only
  split
  · rename_i hk
    have hz := List.mem_zipIdx hm
    simp only [Nat.zero_add, Nat.sub_zero] at hz
    obtain ⟨_, hi, hoe⟩ := hz
    have hod : ops.toList[i]? = some o ∧ ds[i]? = some d := by
      have : (ops.toList.zip ds)[i]? = some (o, d) := by rw [List.getElem?_eq_getElem (by omega), ← hoe]
      rw [List.getElem?_zip_eq_some] at this
      exact this
    obtain ⟨hH, hnx, hdk, hdl, o', ho', _, htx⟩ := h5 i d hod.2
    rw [hod.1] at ho'
    injection ho' with ho'
    subst ho'
    have hilt : i < ds.length := (List.getElem?_eq_some_iff.1 hod.2).1
    have hne : i + 1 ≠ ops.toList.length := by
      intro e
      have := hdl e
      rw [hk] at this; cases this
    have hv : AV.eqB d.v d.v = true := by
      have := hdk (by omega)
      rw [hk] at this; exact this
    simp only [Option.map_eq_some_iff] at htx
    obtain ⟨⟨k', v', H', nx'⟩, ht, hte⟩ := htx
    simp only [Prod.mk.injEq] at hte
    obtain ⟨rfl, rfl⟩ := hte
    rw [hk] at ht
    obtain ⟨hne2, X, hX⟩ := tx1_read ht
    have hnews : ∀ d ∈ ds, ∀ ob, d.k ≠ .new ob := by
      intro d' hd' ob hob
      obtain ⟨j, hj, rfl⟩ := List.mem_iff_getElem.1 hd'
      obtain ⟨_, _, c1, c2, _⟩ := h5 j _ (List.getElem?_eq_getElem hj)
      rcases Nat.lt_or_ge (j + 1) ops.toList.length with h | h
      · have := c1 h; rw [hob] at this; cases this
      · have := c2 (by omega); rw [hob] at this; cases this
    unfold readOK
    rw [List.all_eq_true]
    intro p hp
    rw [Bool.or_eq_true]
    by_cases hpl : p < ds.length
    · right
      rw [noNews hnews]
      have hs : (stAt ds sN p).H = H := by
        unfold stAt
        rw [List.getElem?_eq_getElem hpl]
        exact (h5 p _ (List.getElem?_eq_getElem hpl)).1
      rw [hs, h3, ← hH, ← hnx, hX]
      simp [hv]
    · left
      rw [List.mem_cons] at hp
      have hp0 : p ∈ (effIdx ds).map (· + 1) := by
        rcases hp with rfl | hp
        · omega
        · exact hp
      obtain ⟨q1, q2, q3⟩ := effIdx_lt hp0
      have hpe : p = ds.length := by omega
      have hA : ((ancs ops.toList []).getD (p - 1) 0).testBit i = true := by
        unfold lastEffOK at hl
        rw [List.all_eq_true] at hl
        have := hl i (by
          simp only [List.mem_range]
          have : ops.toList.length = ops.size := by simp
          omega)
        rw [Bool.or_eq_true] at this
        have hsz : ops.size - 1 = p - 1 := by
          have : ops.toList.length = ops.size := by simp
          omega
        rw [hsz] at this
        rcases this with h | h
        · exact h
        · rw [hod.1] at h
          simp only [Option.map_some] at h
          rw [hne2] at h; cases h
      simp only [Bool.not_eq_true']
      unfold allowed
      rw [← Bool.not_eq_true, List.all_eq_true]
      intro hall
      have := hall _ q3
      rw [if_pos (by omega), hA] at this
      cases this
  · rfl
theorem wpS_draw {C : Cx} {nt : Nat} {ops : Array Oper} {so : List SOp} {E : Tr AV} {H : Heap} {nx : Nat} {Q : Ex → St → Prop} (hl : lastEffOK ops = true) (hs : ops.toList.map (stripO ops) = so) (h : WD C nt H nx so E (Q .normal)) :
    wpS C nt (.draw ops) ⟨E, H, nx⟩ Q := by
  subst hs
  obtain ⟨sN, h1, h2⟩ := runDraw_of hl h
  simp only [wpS, h1]
  exact h2

/-! ### for simp -/
theorem WD_one {C : Cx} {nt : Nat} {H : Heap} {nx : Nat} {o : SOp} {E : Tr AV} {K : St → Prop} : WD C nt H nx [o] E K =
    match txS C (Cl C) o E H nx with
    | some (k, v, H', nx') => nx' = nx ∧ dkLast k = true ∧ match put? E nt o.dst v with
      | some E' => K ⟨E', H', nx'⟩
      | none => False
    | none => False := rfl
theorem WD_cons {C : Cx} {nt : Nat} {H : Heap} {nx : Nat} {o o' : SOp} {rest : List SOp} {E : Tr AV} {K : St → Prop} : WD C nt H nx (o :: o' :: rest) E K =
    match txS C (Cl C) o E H nx with
    | some (k, v, H', nx') => H' = H ∧ nx' = nx ∧ dk k v = true ∧ match put? E nt o.dst v with
      | some E' => WD C nt H nx (o' :: rest) E' K
      | none => False
    | none => False := rfl
@[congr] theorem WD_congr {C : Cx} {nt : Nat} {H : Heap} {nx : Nat} {l : List SOp} {E E' : Tr AV} {K : St → Prop} (h : E = E') : WD C nt H nx l E K = WD C nt H nx l E' K := by rw [h]
theorem loadOp_ro (T : Tr TInfo) (H : Heap) (t : TypeId) (a : AV) : loadOp T (roAll H) t a = loadOp T H t a := by
  unfold loadOp
  split
  · rfl
  · split
    · rename_i b o
      rw [roAll_get]
      cases H.get b with
      | none => rfl
      | some ob => cases ob <;> rfl
    · rfl
    · rfl
theorem loadOp_nil (T : Tr TInfo) (t : TypeId) (b o : Nat) : loadOp T .nil t (.ptr b o) = none := by
  unfold loadOp
  split
  · rfl
  · rfl
theorem eqB_int (k : IntKind) (n : Int) : AV.eqB (.lit (.int k n)) (.lit (.int k n)) = true := by simp [AV.eqB, valEqB]
theorem nx_succ (n : Nat) : (n + 1 = n) = False := by simp
theorem dk_read (v : AV) : dk .read v = AV.eqB v v := rfl
theorem dk_still (v : AV) : dk .still v = true := rfl
theorem dk_eff (v : AV) : dk .eff v = true := rfl
theorem dk_skip (v : AV) : dk .skip v = true := rfl
theorem dkLast_still : dkLast .still = true := rfl
theorem dkLast_eff : dkLast .eff = true := rfl
theorem dkLast_skip : dkLast .skip = true := rfl
end CI
/- A region whose order is drawn: first what makes blocks, then what reads, then one effect, then nothing that reads. -/
set_option linter.unusedVariables false
set_option linter.unusedSimpArgs false
noncomputable section
namespace CI
open Go

/-- The phase behind an operation: 0 blocks are made, 1 memory is read, 2 it was changed. -/
def nextPh : Nat → K → AV → Option Nat
  | 2, .still, _ => some 2
  | 2, .skip, _ => some 2
  | 2, _, _ => none
  | n, .still, _ => some n
  | n, .skip, _ => some n
  | 0, .new _, _ => some 0
  | _, .new _, _ => none
  | _, .read, v => if AV.eqB v v = true then some 1 else none
  | _, .eff, _ => some 2

def WQ (C : Cx) (nt : Nat) : Nat → List SOp → St → (St → Prop) → Prop
  | _, [], s, K => K s
  | ph, o :: rest, s, K =>
    match txS C (Cl C) o s.env s.H s.nx with
    | some (k, v, H', nx') =>
      match nextPh ph k v with
      | some ph' => match put? s.env nt o.dst v with
        | some E' => WQ C nt ph' rest ⟨E', H', nx'⟩ K
        | none => False
      | none => False
    | none => False

/-- Whatever stands ahead of an effect, it stands behind. -/
def effOK (ops : Array Oper) : Bool :=
  (List.range ops.size).all fun e => (match (ops.toList[e]?).map (·.op) with
    | some op => !isEff op
    | none => true) || (List.range e).all fun i => ((ancs ops.toList []).getD e 0).testBit i || (match (ops.toList[i]?).map (·.op) with
    | some op => isEff op
    | none => false)

def stepK (H : Heap) (nx : Nat) : K → Heap
  | .new ob => H.put nx (some ob)
  | _ => H
def stepN (H : Heap) (d : DS) : Heap := stepK H d.s.nx d.k

theorem addNews_zero (l : List DS) (H : Heap) : addNews l 0 H = l.foldl stepN H := by
  unfold addNews
  rw [List.drop_zero]
  rfl

theorem stepN_none {l : List DS} {H : Heap} (h : ∀ d ∈ l, ∀ ob, d.k ≠ .new ob) : l.foldl stepN H = H := by
  induction l generalizing H with
  | nil => rfl
  | cons d l ih =>
    rw [List.foldl_cons, ih fun d hd => h d (List.mem_cons_of_mem _ hd)]
    unfold stepN stepK
    split
    · rename_i ob hk; exact absurd hk (h d (by simp) ob)
    · rfl

theorem tx1_shape {C : Cx} {call : CallF} {ops : Array Oper} {o : Oper} {s : St} {k : K} {v : AV} {H' : Heap} {nx' : Nat} (h : tx1 C call ops o s = some (k, v, H', nx')) :
    match k with
    | .new ob => H' = s.H.put s.nx (some ob)
    | .eff => isEff o.op = true
    | _ => H' = s.H ∧ nx' = s.nx := by
  unfold tx1 at h
  split at h
  · split at h
    · rename_i hi
      split at h
      · split at h
        · simp only [Option.some.injEq, Prod.mk.injEq] at h
          obtain ⟨rfl, _⟩ := h
          exact hi
        · cases h
      · cases h
    · split at h
      · split at h
        · simp only [Option.some.injEq, Prod.mk.injEq] at h
          obtain ⟨rfl, _, rfl, rfl⟩ := h
          exact ⟨rfl, rfl⟩
        · split at h
          · split at h
            · simp only [Option.some.injEq, Prod.mk.injEq] at h
              obtain ⟨rfl, _, rfl, rfl⟩ := h
              rfl
            · cases h
          · cases h
      · split at h
        · split at h
          · simp only [Option.some.injEq, Prod.mk.injEq] at h
            obtain ⟨rfl, _, rfl, rfl⟩ := h
            exact ⟨rfl, rfl⟩
          · cases h
        · cases h
  · simp only [Option.some.injEq, Prod.mk.injEq] at h
    obtain ⟨rfl, _, rfl, rfl⟩ := h
    exact ⟨rfl, rfl⟩

theorem WQ_run {C : Cx} {nt : Nat} {ops : Array Oper} {K : St → Prop} : ∀ (l : List Oper) (ph : Nat) (s : St), WQ C nt ph (l.map (stripO ops)) s K →
    ∃ ds sN, txRun C (Cl C) nt ops l s = some (ds, sN) ∧ K sN ∧ ds.length = l.length ∧
      (∀ (i : Nat) (d : DS), ds[i]? = some d → ∃ (o : Oper) (H' : Heap) (nx' : Nat), l[i]? = some o ∧ tx1 C (Cl C) ops o d.s = some (d.k, d.v, H', nx')) ∧
      (∀ (i : Nat) (d : DS), ds[i]? = some d → d.k = .read → AV.eqB d.v d.v = true ∧ d.s.H = ds.foldl stepN s.H ∧ ∀ (j : Nat) (d' : DS), j < i → ds[j]? = some d' → d'.k ≠ .eff) ∧
      (1 ≤ ph → ∀ d : DS, d ∈ ds → ∀ ob, d.k ≠ .new ob) ∧ (ph = 2 → ∀ d : DS, d ∈ ds → d.k ≠ .read ∧ d.k ≠ .eff)
  | [], ph, s, h => ⟨[], s, rfl, h, rfl, by simp, by simp, by simp, by simp⟩
  | o :: rest, ph, s, h => by
    simp only [List.map_cons, WQ] at h
    split at h
    · rename_i k v H' nx' hk
      split at h
      · rename_i ph' hph
        split at h
        · rename_i E' hE
          have hk' : tx1 C (Cl C) ops o s = some (k, v, H', nx') := by rw [txS_eq]; exact hk
          obtain ⟨ds, sN, r1, r2, r3, r4, r5, r6, r7⟩ := WQ_run rest ph' ⟨E', H', nx'⟩ h
          have sh := tx1_shape hk'
          refine ⟨⟨k, v, s⟩ :: ds, sN, ?_, r2, by simp [r3], ?_, ?_, ?_, ?_⟩
          · have : put? s.env nt o.dst v = some E' := hE
            rw [txRun, hk']
            simp only
            rw [this]
            simp only
            rw [r1]
          · intro i d hd
            cases i with
            | zero => simp at hd; subst hd; exact ⟨o, H', nx', rfl, hk'⟩
            | succ i => exact r4 i d (by simpa using hd)
          · intro i d hd hr
            have hstep : stepN s.H ⟨k, v, s⟩ = stepK s.H s.nx k := rfl
            cases i with
            | zero =>
              simp at hd; subst hd
              simp only at hr; subst hr
              simp only [List.foldl_cons]
              have hp1 : AV.eqB v v = true ∧ 1 ≤ ph' := by
                unfold nextPh at hph
                split at hph <;> simp_all <;> (obtain ⟨_, rfl⟩ := hph; simp)
              refine ⟨hp1.1, ?_, fun j d' hj => absurd hj (Nat.not_lt_zero j)⟩
              rw [hstep, stepN_none (r6 hp1.2)]
              rfl
            | succ i =>
              simp only [List.getElem?_cons_succ] at hd
              obtain ⟨q1, q2, q3⟩ := r5 i d hd hr
              have hne : k ≠ .eff := by
                intro e; subst e
                have : ph' = 2 := by
                  unfold nextPh at hph
                  split at hph <;> simp_all
                exact (r7 this d (List.mem_of_getElem? hd)).1 hr
              refine ⟨q1, ?_, ?_⟩
              · rw [List.foldl_cons, hstep, q2]
                cases k with
                | new ob => simp only [stepK] at sh ⊢; rw [sh]
                | eff => exact absurd rfl hne
                | _ => simp only [stepK] at sh ⊢; rw [sh.1]
              · intro j d' hj hd'
                cases j with
                | zero => simp at hd'; subst hd'; exact hne
                | succ j => exact q3 j d' (by omega) (by simpa using hd')
          · intro h1 d hd ob he
            have hk0 : (∀ ob, k ≠ .new ob) ∧ 1 ≤ ph' := by
              unfold nextPh at hph
              split at hph <;> simp_all <;> first
                | omega
                | (obtain ⟨_, rfl⟩ := hph; omega)
                | (subst hph; omega)
            rcases List.mem_cons.1 hd with rfl | hd
            · exact hk0.1 ob he
            · exact r6 hk0.2 d hd ob he
          · intro h2 d hd
            subst h2
            have hk0 : k ≠ .read ∧ k ≠ .eff ∧ ph' = 2 := by
              cases k <;> simp_all [nextPh]
            rcases List.mem_cons.1 hd with rfl | hd
            · exact ⟨hk0.1, hk0.2.1⟩
            · exact r7 hk0.2.2 d hd
        · cases h
      · cases h
    · cases h

theorem convA_nx {P : Program} {T : Tr TInfo} {H X : Heap} {nx : Nat} {s d : TypeId} {x v : AV} (h : convA P T H nx s d x = some (v, X, nx)) (n : Nat) : ∃ X', convA P T H n s d x = some (v, X', n) := by
  have e : convOp P T H nx s d x = none → convOp P T H n s d x = none := by
    unfold convOp
    intro h
    split at h
    · cases h
    · repeat' split at h
      all_goals first
        | rfl
        | (cases h; done)
        | simp_all
  unfold convA at h ⊢
  split at h
  · rename_i r hr
    injection h with h; subst h
    unfold convOp at hr ⊢
    split at hr
    · simp only [Option.some.injEq, Prod.mk.injEq] at hr
      obtain ⟨rfl, rfl, _⟩ := hr
      exact ⟨_, rfl⟩
    · split at hr
      · split at hr
        · simp only [Option.map_eq_some_iff, Prod.mk.injEq] at hr
          obtain ⟨ns, hns, rfl, rfl, _⟩ := hr
          rw [hns]
          exact ⟨_, rfl⟩
        · cases hr
      · split at hr
        · simp only [Option.some.injEq, Prod.mk.injEq] at hr; omega
        · cases hr
      · cases hr
  · rename_i hr
    rw [e hr]
    simp only [Option.map_eq_some_iff, Prod.mk.injEq] at h
    obtain ⟨u, hu, rfl, rfl, _⟩ := h
    rw [hu]
    exact ⟨_, rfl⟩
theorem opA_nx {C : Cx} {ρ : Operand → AV} {o : Op} {H X : Heap} {nx : Nat} {v : AV} (he : isEff o = false) (h : opA C ρ o H nx = some (v, X, nx)) (n : Nat) : ∃ X', opA C ρ o H n = some (v, X', n) := by
  have mp : ∀ {p : Option AV}, (p.map fun v => (v, H, nx)) = some (v, X, nx) → ∃ X', (p.map fun v => (v, H, n)) = some (v, X', n) := by
    intro p hp
    simp only [Option.map_eq_some_iff, Prod.mk.injEq] at hp
    obtain ⟨u, rfl, rfl, _, _⟩ := hp
    exact ⟨H, rfl⟩
  unfold opA at h ⊢
  split at h
  · simp only [Option.some.injEq, Prod.mk.injEq] at h; obtain ⟨rfl, rfl, _⟩ := h; exact ⟨_, rfl⟩
  · simp only [Option.some.injEq, Prod.mk.injEq] at h; obtain ⟨rfl, rfl, _⟩ := h; exact ⟨_, rfl⟩
  · rename_i c a b
    split at h
    · rename_i t ht
      simp only [Option.some.injEq, Prod.mk.injEq] at h
      obtain ⟨rfl, rfl, _⟩ := h
      exact ⟨H, rfl⟩
    · cases h
  · unfold allocOp allocA at h; split at h
    · simp only [Option.some.injEq, Prod.mk.injEq] at h; omega
    · cases h
  · unfold boxOp allocA at h
    simp only [Option.some.injEq, Prod.mk.injEq] at h; omega
  · exact mp h
  · unfold buildSliceOp at h
    repeat' split at h
    all_goals first
      | (cases h; done)
      | (simp only [Option.some.injEq, Prod.mk.injEq] at h; omega)
  · exact mp h
  · simp [isEff] at he
  · exact mp h
  · exact mp h
  · exact mp h
  · exact convA_nx h n
  · exact mp h
  · simp only [Option.some.injEq, Prod.mk.injEq] at h; obtain ⟨rfl, rfl, _⟩ := h; exact ⟨_, rfl⟩
  · unfold makeMapOp at h
    repeat' split at h
    all_goals first
      | (cases h; done)
      | (simp only [Option.some.injEq, Prod.mk.injEq] at h; omega)
  · unfold makeSliceOp at h
    repeat' split at h
    all_goals first
      | (cases h; done)
      | (simp only [Option.some.injEq, Prod.mk.injEq] at h; omega)
  · exact mp h
  · exact mp h
  · exact mp h
  · exact mp h
  · exact mp h
  · exact mp h
  · exact mp h
  · simp [isEff] at he
  · simp [isEff] at he
  · rename_i b xs ts
    have mpn : ∀ {p : Option Nat}, (p.map fun (k : Nat) => ((.lit (.int .i64 k) : AV), H, nx)) = some (v, X, nx) → ∃ X', (p.map fun (k : Nat) => ((.lit (.int .i64 k) : AV), H, n)) = some (v, X', n) := by
      intro p hp
      simp only [Option.map_eq_some_iff, Prod.mk.injEq] at hp
      obtain ⟨u, rfl, rfl, _, _⟩ := hp
      exact ⟨H, rfl⟩
    cases b
    all_goals try (exact Bool.noConfusion (show true = false from he))
    all_goals
      simp only [builtinA] at h ⊢
      first
        | exact mp h
        | (split at h <;> first | contradiction | exact mp h | exact mpn h | (cases h; done))
  · cases h

theorem runDraw_of2 {C : Cx} {nt : Nat} {ops : Array Oper} {s : St} {K : St → Prop} (hl : effOK ops = true) (h : WQ C nt 0 (ops.toList.map (stripO ops)) s K) :
    ∃ sN, runDraw C (Cl C) nt ops s = some sN ∧ K sN := by
  obtain ⟨ds, sN, h1, h2, h3, h4, h5, _, _⟩ := WQ_run ops.toList 0 s h
  refine ⟨sN, ?_, h2⟩
  unfold runDraw
  rw [h1]
  simp only
  rw [if_pos]
  rw [List.all_eq_true]
  rintro ⟨⟨o, d⟩, i⟩ hm
  simp only
  split
  · rename_i hk
    have hz := List.mem_zipIdx hm
    simp only [Nat.zero_add, Nat.sub_zero] at hz
    obtain ⟨_, hi, hoe⟩ := hz
    have hod : ops.toList[i]? = some o ∧ ds[i]? = some d := by
      have : (ops.toList.zip ds)[i]? = some (o, d) := by rw [List.getElem?_eq_getElem (by omega), ← hoe]
      rw [List.getElem?_zip_eq_some] at this
      exact this
    obtain ⟨o', H', nx', ho', ht⟩ := h4 i d hod.2
    rw [hod.1] at ho'
    injection ho' with ho'
    subst ho'
    obtain ⟨hv, hH, hne⟩ := h5 i d hod.2 hk
    rw [hk] at ht
    obtain ⟨hne2, X, hX⟩ := tx1_read ht
    unfold readOK
    rw [List.all_eq_true]
    intro p hp
    rw [Bool.or_eq_true]
    rw [List.mem_cons] at hp
    have hs0 : (stAt ds sN 0).H = s.H := by rw [txRun_first h1]
    rcases hp with rfl | hp
    · right
      rw [addNews_zero, hs0, ← hH]
      obtain ⟨X', hX'⟩ := opA_nx hne2 hX sN.nx
      rw [hX']
      simp [hv]
    · left
      obtain ⟨q1, q2, q3⟩ := effIdx_lt hp
      have hpe : p - 1 < ds.length := by omega
      have hek : (ds[p - 1]'hpe).k = .eff := by
        unfold effIdx at q3
        simp only [List.mem_filterMap] at q3
        obtain ⟨⟨d', j⟩, hd', hj⟩ := q3
        have hz := List.mem_zipIdx hd'
        simp only [Nat.zero_add, Nat.sub_zero] at hz
        obtain ⟨_, hj2, hde⟩ := hz
        simp only at hj
        split at hj
        · rename_i hk'
          injection hj with hj; subst hj
          rw [← hde]; exact hk'
        · cases hj
      have hlt : i < p - 1 := by
        rcases Nat.lt_trichotomy i (p - 1) with h | h | h
        · exact h
        · subst h
          have : d = ds[p - 1] := by
            have := hod.2; rw [List.getElem?_eq_getElem hpe] at this; injection this with this; exact this.symm
          rw [← this, hk] at hek; cases hek
        · exact absurd hek (hne (p - 1) _ h (List.getElem?_eq_getElem hpe))
      obtain ⟨oe, He, ne, hoe2, hte⟩ := h4 (p - 1) _ (List.getElem?_eq_getElem hpe)
      rw [hek] at hte
      have heff := tx1_shape hte
      simp only at heff
      have hA : ((ancs ops.toList []).getD (p - 1) 0).testBit i = true := by
        unfold effOK at hl
        rw [List.all_eq_true] at hl
        have := hl (p - 1) (by
          simp only [List.mem_range]
          have : ops.toList.length = ops.size := by simp
          omega)
        rw [hoe2] at this
        simp only [Option.map_some, heff, Bool.not_true, Bool.false_or, List.all_eq_true, List.mem_range] at this
        have := this i hlt
        rw [Bool.or_eq_true] at this
        rcases this with h | h
        · exact h
        · rw [hod.1] at h
          simp only [Option.map_some] at h
          rw [hne2] at h; cases h
      simp only [Bool.not_eq_true']
      unfold allowed
      rw [← Bool.not_eq_true, List.all_eq_true]
      intro hall
      have := hall _ q3
      rw [if_pos (by omega), hA] at this
      cases this
  · rfl
theorem wpS_draw2 {C : Cx} {nt : Nat} {ops : Array Oper} {so : List SOp} {s : St} {Q : Ex → St → Prop} (hl : effOK ops = true) (hs : ops.toList.map (stripO ops) = so) (h : WQ C nt 0 so s (Q .normal)) :
    wpS C nt (.draw ops) s Q := by
  subst hs
  obtain ⟨sN, h1, h2⟩ := runDraw_of2 hl h
  simp only [wpS, h1]
  exact h2

/-! ### for simp -/
theorem WQ_nil {C : Cx} {nt ph : Nat} {s : St} {K : St → Prop} : WQ C nt ph [] s K = K s := rfl
theorem WQ_cons {C : Cx} {nt ph : Nat} {o : SOp} {rest : List SOp} {E : Tr AV} {H : Heap} {nx : Nat} {K : St → Prop} : WQ C nt ph (o :: rest) ⟨E, H, nx⟩ K =
    match txS C (Cl C) o E H nx with
    | some (k, v, H', nx') =>
      match nextPh ph k v with
      | some ph' => match put? E nt o.dst v with
        | some E' => WQ C nt ph' rest ⟨E', H', nx'⟩ K
        | none => False
      | none => False
    | none => False := rfl
@[congr] theorem WQ_congr {C : Cx} {nt ph : Nat} {l : List SOp} {s s' : St} {K : St → Prop} (h : s = s') : WQ C nt ph l s K = WQ C nt ph l s' K := by rw [h]
theorem ph0_still (v : AV) : nextPh 0 .still v = some 0 := rfl
theorem ph0_skip (v : AV) : nextPh 0 .skip v = some 0 := rfl
theorem ph0_new (ob : AObj) (v : AV) : nextPh 0 (.new ob) v = some 0 := rfl
theorem ph0_read (v : AV) : nextPh 0 .read v = if AV.eqB v v = true then some 1 else none := rfl
theorem ph0_eff (v : AV) : nextPh 0 .eff v = some 2 := rfl
theorem ph1_still (v : AV) : nextPh 1 .still v = some 1 := rfl
theorem ph1_skip (v : AV) : nextPh 1 .skip v = some 1 := rfl
theorem ph1_read (v : AV) : nextPh 1 .read v = if AV.eqB v v = true then some 1 else none := rfl
theorem ph1_eff (v : AV) : nextPh 1 .eff v = some 2 := rfl
theorem ph2_still (v : AV) : nextPh 2 .still v = some 2 := rfl
theorem ph2_skip (v : AV) : nextPh 2 .skip v = some 2 := rfl
theorem eqB_str (s : ByteArray) : AV.eqB (.lit (.string s)) (.lit (.string s)) = true := by simp [AV.eqB, valEqB]
theorem eqB_bool (b : Bool) : AV.eqB (.lit (.bool b)) (.lit (.bool b)) = true := by simp [AV.eqB, valEqB]
theorem eqB_ptr (b o : Nat) : AV.eqB (.ptr b o) (.ptr b o) = true := by simp [AV.eqB]
theorem eqB_slice (b o n : Nat) (c : Option Nat) (e : Nat) : AV.eqB (.slice b o n c e) (.slice b o n c e) = true := by simp [AV.eqB]
theorem eqB_nils : AV.eqB (.lit (.slice none 0 0)) (.lit (.slice none 0 0)) = true := rfl
end CI
/- A region whose order is drawn: what makes blocks, what reads, one effect; and what reads behind it just what it would have read ahead of it. -/
set_option linter.unusedVariables false
set_option linter.unusedSimpArgs false
noncomputable section
namespace CI
open Go

/-- What is read there is what was read. -/
def goodAt (C : Cx) (op : Op) (E : Tr AV) (nx : Nat) (v : AV) (X : Heap) : Prop := ∃ u Y, opA C (ev E) op (roAll X) nx = some (u, Y, nx) ∧ AV.eqB u v = true
theorem goodAt.nx {C : Cx} {op : Op} {E : Tr AV} {nx : Nat} {v : AV} {X : Heap} (he : isEff op = false) (h : goodAt C op E nx v X) (n : Nat) : goodAt C op E n v X := by
  obtain ⟨u, Y, h1, h2⟩ := h
  obtain ⟨Y', h3⟩ := opA_nx he h1 n
  exact ⟨u, Y', h3, h2⟩

/-- Behind the effect; 'Hb' stood ahead of it. -/
def W2 (C : Cx) (nt : Nat) (Hb : Heap) : List SOp → St → (St → Prop) → Prop
  | [], s, K => K s
  | o :: rest, s, K =>
    match txS C (Cl C) o s.env s.H s.nx with
    | some (.still, v, H', nx') => match put? s.env nt o.dst v with
      | some E' => W2 C nt Hb rest ⟨E', H', nx'⟩ K
      | none => False
    | some (.skip, v, H', nx') => match put? s.env nt o.dst v with
      | some E' => W2 C nt Hb rest ⟨E', H', nx'⟩ K
      | none => False
    | some (.read, v, H', nx') => (AV.eqB v v = true ∧ goodAt C o.op s.env s.nx v Hb) ∧ match put? s.env nt o.dst v with
      | some E' => W2 C nt Hb rest ⟨E', H', nx'⟩ K
      | none => False
    | _ => False
def WR (C : Cx) (nt : Nat) : Nat → List SOp → St → (St → Prop) → Prop
  | _, [], s, K => K s
  | ph, o :: rest, s, K =>
    match txS C (Cl C) o s.env s.H s.nx with
    | some (.eff, v, H', nx') => match put? s.env nt o.dst v with
      | some E' => W2 C nt s.H rest ⟨E', H', nx'⟩ K
      | none => False
    | some (k, v, H', nx') =>
      match nextPh ph k v with
      | some ph' => match put? s.env nt o.dst v with
        | some E' => WR C nt ph' rest ⟨E', H', nx'⟩ K
        | none => False
      | none => False
    | none => False

theorem nextPh_new {ph ph' : Nat} {k : K} {v : AV} (h : nextPh ph k v = some ph') (h1 : 1 ≤ ph) : (∀ ob, k ≠ .new ob) ∧ 1 ≤ ph' := by
  cases k with
  | new ob =>
    exfalso
    match ph, h1 with
    | 1, _ => simp [nextPh] at h
    | 2, _ => simp [nextPh] at h
    | n + 3, _ => simp [nextPh] at h
  | skip => refine ⟨by simp, ?_⟩; match ph, h1 with
    | 1, _ => simp [nextPh] at h; omega
    | 2, _ => simp [nextPh] at h; omega
    | n + 3, _ => simp [nextPh] at h; omega
  | still => refine ⟨by simp, ?_⟩; match ph, h1 with
    | 1, _ => simp [nextPh] at h; omega
    | 2, _ => simp [nextPh] at h; omega
    | n + 3, _ => simp [nextPh] at h; omega
  | read => refine ⟨by simp, ?_⟩; match ph, h1 with
    | 1, _ => simp [nextPh] at h; omega
    | 2, _ => simp [nextPh] at h
    | n + 3, _ => simp [nextPh] at h; omega
  | eff => refine ⟨by simp, ?_⟩; match ph, h1 with
    | 1, _ => simp [nextPh] at h; omega
    | 2, _ => simp [nextPh] at h
    | n + 3, _ => simp [nextPh] at h; omega
theorem nextPh_read {ph ph' : Nat} {v : AV} (h : nextPh ph .read v = some ph') : AV.eqB v v = true ∧ 1 ≤ ph' := by
  match ph with
  | 0 => simp [nextPh] at h; exact ⟨h.1, by omega⟩
  | 1 => simp [nextPh] at h; exact ⟨h.1, by omega⟩
  | 2 => simp [nextPh] at h
  | n + 3 => simp [nextPh] at h; exact ⟨h.1, by omega⟩

theorem stripO_op (ops : Array Oper) (o : Oper) : (stripO ops o).op = o.op := rfl
theorem stripO_dst (ops : Array Oper) (o : Oper) : (stripO ops o).dst = o.dst := rfl

theorem tx_cons {C : Cx} {nt : Nat} {ops : Array Oper} {o : Oper} {rest : List Oper} {s sN : St} {k : K} {v : AV} {H' : Heap} {nx' : Nat} {E' : Tr AV} {ds : List DS} (h1 : tx1 C (Cl C) ops o s = some (k, v, H', nx'))
    (h2 : put? s.env nt o.dst v = some E') (h3 : txRun C (Cl C) nt ops rest ⟨E', H', nx'⟩ = some (ds, sN)) : txRun C (Cl C) nt ops (o :: rest) s = some (⟨k, v, s⟩ :: ds, sN) := by
  rw [txRun, h1]
  simp only
  rw [h2]
  simp only
  rw [h3]

theorem W2_run {C : Cx} {nt : Nat} {ops : Array Oper} {Hb : Heap} {K : St → Prop} : ∀ (l : List Oper) (s : St), W2 C nt Hb (l.map (stripO ops)) s K →
    ∃ ds sN, txRun C (Cl C) nt ops l s = some (ds, sN) ∧ K sN ∧ ds.length = l.length ∧
      (∀ (i : Nat) (d : DS), ds[i]? = some d → ∃ o, l[i]? = some o ∧ (∃ H' nx', tx1 C (Cl C) ops o d.s = some (d.k, d.v, H', nx')) ∧ d.k ≠ .eff ∧ (∀ ob, d.k ≠ .new ob) ∧ d.s.H = s.H ∧
        (d.k = .read → AV.eqB d.v d.v = true ∧ goodAt C o.op d.s.env d.s.nx d.v Hb))
  | [], s, h => ⟨[], s, rfl, h, rfl, by simp⟩
  | o :: rest, s, h => by
    simp only [List.map_cons, W2] at h
    rw [← txS_eq] at h
    have main : ∀ (k : CI.K) (v : AV) (H' : Heap) (nx' : Nat) (E' : Tr AV), tx1 C (Cl C) ops o s = some (k, v, H', nx') → k ≠ .eff → (∀ ob, k ≠ .new ob) → put? s.env nt o.dst v = some E' → W2 C nt Hb (rest.map (stripO ops)) ⟨E', H', nx'⟩ K →
        (k = .read → AV.eqB v v = true ∧ goodAt C o.op s.env s.nx v Hb) →
        ∃ ds sN, txRun C (Cl C) nt ops (o :: rest) s = some (ds, sN) ∧ K sN ∧ ds.length = (o :: rest).length ∧
          (∀ (i : Nat) (d : DS), ds[i]? = some d → ∃ o', (o :: rest)[i]? = some o' ∧ (∃ H' nx', tx1 C (Cl C) ops o' d.s = some (d.k, d.v, H', nx')) ∧ d.k ≠ .eff ∧ (∀ ob, d.k ≠ .new ob) ∧ d.s.H = s.H ∧
            (d.k = .read → AV.eqB d.v d.v = true ∧ goodAt C o'.op d.s.env d.s.nx d.v Hb)) := by
      intro k v H' nx' E' h1 h2 h3 h4 h5 h6
      obtain ⟨ds, sN, r1, r2, r3, r4⟩ := W2_run rest _ h5
      refine ⟨_, sN, tx_cons h1 h4 r1, r2, by simp [r3], ?_⟩
      intro i d hd
      cases i with
      | zero => simp at hd; subst hd; exact ⟨o, rfl, ⟨H', nx', h1⟩, h2, h3, rfl, h6⟩
      | succ i =>
        obtain ⟨o', q1, q2, q3, q4, q5, q6⟩ := r4 i d (by simpa using hd)
        refine ⟨o', by simpa using q1, q2, q3, q4, ?_, q6⟩
        have sh := tx1_shape h1
        rw [q5]
        cases k with
        | new ob => exact absurd rfl (h3 ob)
        | eff => exact absurd rfl h2
        | _ => exact sh.1
    split at h
    · rename_i v H' nx' hk
      split at h
      · rename_i E' hE
        exact main _ v H' nx' E' hk (by simp) (by simp) hE h (by simp)
      · cases h
    · rename_i v H' nx' hk
      split at h
      · rename_i E' hE
        exact main _ v H' nx' E' hk (by simp) (by simp) hE h (by simp)
      · cases h
    · rename_i v H' nx' hk
      obtain ⟨h0, h⟩ := h
      split at h
      · rename_i E' hE
        exact main _ v H' nx' E' hk (by simp) (by simp) hE h (fun _ => h0)
      · cases h
    · cases h

theorem WR_run {C : Cx} {nt : Nat} {ops : Array Oper} {K : St → Prop} : ∀ (l : List Oper) (ph : Nat) (s : St), WR C nt ph (l.map (stripO ops)) s K →
    ∃ ds sN, txRun C (Cl C) nt ops l s = some (ds, sN) ∧ K sN ∧ ds.length = l.length ∧
      (∀ (i : Nat) (d : DS), ds[i]? = some d → ∃ o, l[i]? = some o ∧ (∃ H' nx', tx1 C (Cl C) ops o d.s = some (d.k, d.v, H', nx'))) ∧
      (1 ≤ ph → ∀ d : DS, d ∈ ds → ∀ ob, d.k ≠ .new ob) ∧
      ∃ e, (∀ (i : Nat) (d : DS), ds[i]? = some d → d.k = .eff → i = e) ∧
        (∀ (i : Nat) (d : DS), ds[i]? = some d → e < i → ∀ ob, d.k ≠ .new ob) ∧
        (∀ (i : Nat) (d : DS) (o : Oper), ds[i]? = some d → l[i]? = some o → d.k = .read → goodAt C o.op d.s.env d.s.nx d.v (ds.foldl stepN s.H) ∧ (e < i → goodAt C o.op d.s.env d.s.nx d.v (stAt ds sN (e + 1)).H))
  | [], ph, s, h => ⟨[], s, rfl, h, rfl, by simp, by simp, 0, by simp, by simp, by simp⟩
  | o :: rest, ph, s, h => by
    simp only [List.map_cons, WR] at h
    rw [← txS_eq] at h
    split at h
    · rename_i v H' nx' hk
      split at h
      · rename_i E' hE
        obtain ⟨ds, sN, r1, r2, r3, r4⟩ := W2_run rest _ h
        have hnn : ∀ d ∈ ds, ∀ ob, d.k ≠ .new ob := by
          intro d hd ob
          obtain ⟨i, hi⟩ := List.getElem?_of_mem hd
          obtain ⟨_, _, _, _, q, _⟩ := r4 i d hi
          exact q ob
        have hfold : (DS.mk .eff v s :: ds).foldl stepN s.H = s.H := by
          rw [List.foldl_cons, stepN_none hnn]
          rfl
        refine ⟨_, sN, tx_cons hk hE r1, r2, by simp [r3], ?_, ?_, 0, ?_, ?_, ?_⟩
        · intro i d hd
          cases i with
          | zero => simp at hd; subst hd; exact ⟨o, rfl, H', nx', hk⟩
          | succ i =>
            obtain ⟨o', q1, q2, _⟩ := r4 i d (by simpa using hd)
            exact ⟨o', by simpa using q1, q2⟩
        · intro _ d hd ob
          rcases List.mem_cons.1 hd with rfl | hd
          · simp
          · exact hnn d hd ob
        · intro i d hd he
          cases i with
          | zero => rfl
          | succ i =>
            obtain ⟨_, _, _, q, _⟩ := r4 i d (by simpa using hd)
            exact absurd he q
        · intro i d hd hi ob
          cases i with
          | zero => omega
          | succ i =>
            obtain ⟨_, _, _, _, q, _⟩ := r4 i d (by simpa using hd)
            exact q ob
        · intro i d o' hd ho hr
          rw [hfold]
          cases i with
          | zero => simp at hd; subst hd; cases hr
          | succ i =>
            simp only [List.getElem?_cons_succ] at hd ho
            obtain ⟨o2, q1, ⟨Hx, nxx, q2⟩, q3, q4, q5, q6⟩ := r4 i d hd
            rw [ho] at q1
            injection q1 with q1
            subst q1
            obtain ⟨q7, q8⟩ := q6 hr
            refine ⟨q8, fun _ => ?_⟩
            have hs : (stAt (DS.mk .eff v s :: ds) sN (0 + 1)).H = H' := by
              have : stAt (DS.mk .eff v s :: ds) sN (0 + 1) = stAt ds sN 0 := by simp [stAt]
              rw [this, txRun_first r1]
            rw [hs]
            rw [hr] at q2
            obtain ⟨_, X, hX⟩ := tx1_read q2
            rw [q5] at hX
            exact ⟨_, X, hX, q7⟩
      · cases h
    · rename_i k v H' nx' hkne hk
      split at h
      · rename_i ph' hph
        split at h
        · rename_i E' hE
          obtain ⟨ds, sN, r1, r2, r3, r4, r5, e, r6, r7, r8⟩ := WR_run rest ph' _ h
          have sh := tx1_shape hk
          have hke : k ≠ .eff := fun hh => hkne hh
          have hstep : stepN s.H ⟨k, v, s⟩ = H' := by
            show stepK s.H s.nx k = H'
            cases k with
            | new ob => exact sh.symm
            | eff => exact absurd rfl hke
            | _ => exact sh.1.symm
          refine ⟨_, sN, tx_cons hk hE r1, r2, by simp [r3], ?_, ?_, e + 1, ?_, ?_, ?_⟩
          · intro i d hd
            cases i with
            | zero => simp at hd; subst hd; exact ⟨o, rfl, H', nx', hk⟩
            | succ i =>
              obtain ⟨o', q1, q2⟩ := r4 i d (by simpa using hd)
              exact ⟨o', by simpa using q1, q2⟩
          · intro h1 d hd ob he
            have hk0 := nextPh_new hph h1
            rcases List.mem_cons.1 hd with rfl | hd
            · exact hk0.1 ob he
            · exact r5 hk0.2 d hd ob he
          · intro i d hd he
            cases i with
            | zero => simp at hd; subst hd; exact absurd he hke
            | succ i => rw [r6 i d (by simpa using hd) he]
          · intro i d hd hi ob
            cases i with
            | zero => omega
            | succ i => exact r7 i d (by simpa using hd) (by omega) ob
          · intro i d o' hd ho hr
            rw [List.foldl_cons, hstep]
            have hst : stAt (DS.mk k v s :: ds) sN (e + 1 + 1) = stAt ds sN (e + 1) := by simp [stAt]
            rw [hst]
            cases i with
            | zero =>
              simp at hd ho; subst hd; subst ho
              simp only at hr; subst hr
              have hp1 := nextPh_read hph
              refine ⟨?_, fun h => by omega⟩
              rw [stepN_none (r5 hp1.2)]
              obtain ⟨_, X, hX⟩ := tx1_read hk
              rw [show H' = s.H from sh.1]
              exact ⟨v, X, hX, hp1.1⟩
            | succ i =>
              simp only [List.getElem?_cons_succ] at hd ho
              obtain ⟨q1, q2⟩ := r8 i d o' hd ho hr
              exact ⟨q1, fun h => q2 (by omega)⟩
        · cases h
      · cases h
    · cases h

theorem addNews_none {l : List DS} {p : Nat} {H : Heap} (h : ∀ (i : Nat) (d : DS), l[i]? = some d → p ≤ i → ∀ ob, d.k ≠ .new ob) : addNews l p H = H := by
  have : addNews l p H = (l.drop p).foldl stepN H := by unfold addNews; rfl
  rw [this]
  refine stepN_none fun d hd ob => ?_
  obtain ⟨i, hi⟩ := List.getElem?_of_mem hd
  rw [List.getElem?_drop] at hi
  exact h (p + i) d hi (by omega) ob

/-- What a run of a drawn region must show. -/
theorem draw_concl {C : Cx} {nt : Nat} {ops : Array Oper} {s sN : St} {ds : List DS} {e : Nat} {K : St → Prop} (hl : effOK ops = true) (h1 : txRun C (Cl C) nt ops ops.toList s = some (ds, sN)) (h2 : K sN) (h3 : ds.length = ops.toList.length)
    (h4 : ∀ (i : Nat) (d : DS), ds[i]? = some d → ∃ o, ops.toList[i]? = some o ∧ (∃ H' nx', tx1 C (Cl C) ops o d.s = some (d.k, d.v, H', nx')))
    (h6 : ∀ (i : Nat) (d : DS), ds[i]? = some d → d.k = .eff → i = e) (h7 : ∀ (i : Nat) (d : DS), ds[i]? = some d → e < i → ∀ ob, d.k ≠ .new ob)
    (h8 : ∀ (i : Nat) (d : DS) (o : Oper), ds[i]? = some d → ops.toList[i]? = some o → d.k = .read → goodAt C o.op d.s.env d.s.nx d.v (ds.foldl stepN s.H) ∧ (e < i → goodAt C o.op d.s.env d.s.nx d.v (stAt ds sN (e + 1)).H)) :
    ∃ sN, runDraw C (Cl C) nt ops s = some sN ∧ K sN := by
  refine ⟨sN, ?_, h2⟩
  unfold runDraw
  rw [h1]
  simp only
  rw [if_pos]
  rw [List.all_eq_true]
  rintro ⟨⟨o, d⟩, i⟩ hm
  simp only
  split
  · rename_i hk
    have hz := List.mem_zipIdx hm
    simp only [Nat.zero_add, Nat.sub_zero] at hz
    obtain ⟨_, hi, hoe⟩ := hz
    have hod : ops.toList[i]? = some o ∧ ds[i]? = some d := by
      have : (ops.toList.zip ds)[i]? = some (o, d) := by rw [List.getElem?_eq_getElem (by omega), ← hoe]
      rw [List.getElem?_zip_eq_some] at this
      exact this
    obtain ⟨o', ho', H', nx', ht⟩ := h4 i d hod.2
    rw [hod.1] at ho'
    injection ho' with ho'
    subst ho'
    obtain ⟨g1, g2⟩ := h8 i d o hod.2 hod.1 hk
    rw [hk] at ht
    obtain ⟨hne2, X, hX⟩ := tx1_read ht
    unfold readOK
    rw [List.all_eq_true]
    intro p hp
    rw [Bool.or_eq_true]
    rw [List.mem_cons] at hp
    have hs0 : (stAt ds sN 0).H = s.H := by rw [txRun_first h1]
    have fin : ∀ X : Heap, goodAt C o.op d.s.env d.s.nx d.v X → (match opA C (ev d.s.env) o.op (roAll X) sN.nx with
        | some (v, _, nx') => decide (nx' = sN.nx) && AV.eqB v d.v
        | none => false) = true := by
      intro X g
      obtain ⟨u, Y, y1, y2⟩ := g.nx hne2 sN.nx
      rw [y1]
      simp [y2]
    rcases hp with rfl | hp
    · right
      rw [addNews_zero, hs0]
      exact fin _ g1
    · obtain ⟨q1, q2, q3⟩ := effIdx_lt hp
      have hpe : p - 1 < ds.length := by omega
      have hek : (ds[p - 1]'hpe).k = .eff := by
        unfold effIdx at q3
        simp only [List.mem_filterMap] at q3
        obtain ⟨⟨d', j⟩, hd', hj⟩ := q3
        have hz := List.mem_zipIdx hd'
        simp only [Nat.zero_add, Nat.sub_zero] at hz
        obtain ⟨_, hj2, hde⟩ := hz
        simp only at hj
        split at hj
        · rename_i hk'
          injection hj with hj; subst hj
          rw [← hde]; exact hk'
        · cases hj
      have hpe2 : p - 1 = e := h6 _ _ (List.getElem?_eq_getElem hpe) hek
      rcases Nat.lt_trichotomy i (p - 1) with hlt | heq | hgt
      · left
        obtain ⟨oe, hoe2, He, ne, hte⟩ := h4 (p - 1) _ (List.getElem?_eq_getElem hpe)
        rw [hek] at hte
        have heff := tx1_shape hte
        simp only at heff
        have hA : ((ancs ops.toList []).getD (p - 1) 0).testBit i = true := by
          unfold effOK at hl
          rw [List.all_eq_true] at hl
          have := hl (p - 1) (by
            simp only [List.mem_range]
            have : ops.toList.length = ops.size := by simp
            omega)
          rw [hoe2] at this
          simp only [Option.map_some, heff, Bool.not_true, Bool.false_or, List.all_eq_true, List.mem_range] at this
          have := this i hlt
          rw [Bool.or_eq_true] at this
          rcases this with h | h
          · exact h
          · rw [hod.1] at h
            simp only [Option.map_some] at h
            rw [hne2] at h; cases h
        simp only [Bool.not_eq_true']
        unfold allowed
        rw [← Bool.not_eq_true, List.all_eq_true]
        intro hall
        have := hall _ q3
        rw [if_pos (by omega), hA] at this
        cases this
      · subst heq
        have : d = ds[p - 1] := by
          have := hod.2; rw [List.getElem?_eq_getElem hpe] at this; injection this with this; exact this.symm
        rw [← this, hk] at hek; cases hek
      · right
        rw [addNews_none (fun j d' hj hle => h7 j d' hj (by omega))]
        have hpp : p = e + 1 := by omega
        rw [hpp]
        exact fin _ (g2 (by omega))
  · rfl
theorem runDraw_of3 {C : Cx} {nt : Nat} {ops : Array Oper} {s : St} {K : St → Prop} (hl : effOK ops = true) (h : WR C nt 0 (ops.toList.map (stripO ops)) s K) :
    ∃ sN, runDraw C (Cl C) nt ops s = some sN ∧ K sN := by
  obtain ⟨ds, sN, h1, h2, h3, h4, _, e, h6, h7, h8⟩ := WR_run ops.toList 0 s h
  exact draw_concl hl h1 h2 h3 h4 h6 h7 h8
theorem wpS_draw3 {C : Cx} {nt : Nat} {ops : Array Oper} {so : List SOp} {s : St} {Q : Ex → St → Prop} (hl : effOK ops = true) (hs : ops.toList.map (stripO ops) = so) (h : WR C nt 0 so s (Q .normal)) :
    wpS C nt (.draw ops) s Q := by
  subst hs
  obtain ⟨sN, h1, h2⟩ := runDraw_of3 hl h
  simp only [wpS, h1]
  exact h2

/-! ### for simp -/
theorem WR_nil {C : Cx} {nt ph : Nat} {s : St} {K : St → Prop} : WR C nt ph [] s K = K s := rfl
theorem WR_cons {C : Cx} {nt ph : Nat} {o : SOp} {rest : List SOp} {E : Tr AV} {H : Heap} {nx : Nat} {K : St → Prop} : WR C nt ph (o :: rest) ⟨E, H, nx⟩ K =
    match txS C (Cl C) o E H nx with
    | some (.eff, v, H', nx') => match put? E nt o.dst v with
      | some E' => W2 C nt H rest ⟨E', H', nx'⟩ K
      | none => False
    | some (k, v, H', nx') =>
      match nextPh ph k v with
      | some ph' => match put? E nt o.dst v with
        | some E' => WR C nt ph' rest ⟨E', H', nx'⟩ K
        | none => False
      | none => False
    | none => False := rfl
theorem W2_nil {C : Cx} {nt : Nat} {Hb : Heap} {s : St} {K : St → Prop} : W2 C nt Hb [] s K = K s := rfl
theorem W2_cons {C : Cx} {nt : Nat} {Hb : Heap} {o : SOp} {rest : List SOp} {E : Tr AV} {H : Heap} {nx : Nat} {K : St → Prop} : W2 C nt Hb (o :: rest) ⟨E, H, nx⟩ K =
    match txS C (Cl C) o E H nx with
    | some (.still, v, H', nx') => match put? E nt o.dst v with
      | some E' => W2 C nt Hb rest ⟨E', H', nx'⟩ K
      | none => False
    | some (.skip, v, H', nx') => match put? E nt o.dst v with
      | some E' => W2 C nt Hb rest ⟨E', H', nx'⟩ K
      | none => False
    | some (.read, v, H', nx') => (AV.eqB v v = true ∧ goodAt C o.op E nx v Hb) ∧ match put? E nt o.dst v with
      | some E' => W2 C nt Hb rest ⟨E', H', nx'⟩ K
      | none => False
    | _ => False := rfl
theorem goodAt_eq {C : Cx} {op : Op} {E : Tr AV} {nx : Nat} {v : AV} {X : Heap} : goodAt C op E nx v X = match opA C (ev E) op (roAll X) nx with
    | some (u, _, n) => n = nx ∧ AV.eqB u v = true
    | none => False := by
  apply propext
  unfold goodAt
  constructor
  · rintro ⟨u, Y, h1, h2⟩
    rw [h1]
    exact ⟨rfl, h2⟩
  · intro h
    split at h
    · rename_i u Y n h1
      obtain ⟨rfl, h2⟩ := h
      exact ⟨u, Y, h1, h2⟩
    · cases h
@[congr] theorem WR_congr {C : Cx} {nt ph : Nat} {l : List SOp} {s s' : St} {K : St → Prop} (h : s = s') : WR C nt ph l s K = WR C nt ph l s' K := by rw [h]
@[congr] theorem W2_congr {C : Cx} {nt : Nat} {Hb : Heap} {l : List SOp} {s s' : St} {K : St → Prop} (h : s = s') : W2 C nt Hb l s K = W2 C nt Hb l s' K := by rw [h]
/-! ### reads ahead of what makes blocks: each read is asked again in the memory 'Hall' ahead of the effect -/
def WN (C : Cx) (nt : Nat) (Hall : Heap) : List SOp → St → (St → Prop) → Prop
  | [], s, K => s.H = Hall ∧ K s
  | o :: rest, s, K =>
    match txS C (Cl C) o s.env s.H s.nx with
    | some (.eff, v, H', nx') => s.H = Hall ∧ match put? s.env nt o.dst v with
      | some E' => WQ C nt 2 rest ⟨E', H', nx'⟩ K
      | none => False
    | some (.read, v, H', nx') => goodAt C o.op s.env s.nx v Hall ∧ match put? s.env nt o.dst v with
      | some E' => WN C nt Hall rest ⟨E', H', nx'⟩ K
      | none => False
    | some (k, v, H', nx') => match put? s.env nt o.dst v with
      | some E' => WN C nt Hall rest ⟨E', H', nx'⟩ K
      | none => False
    | none => False
theorem WN_run {C : Cx} {nt : Nat} {ops : Array Oper} {Hall : Heap} {K : St → Prop} : ∀ (l : List Oper) (s : St), WN C nt Hall (l.map (stripO ops)) s K →
    ∃ ds sN, txRun C (Cl C) nt ops l s = some (ds, sN) ∧ K sN ∧ ds.length = l.length ∧
      (∀ (i : Nat) (d : DS), ds[i]? = some d → ∃ o, l[i]? = some o ∧ (∃ H' nx', tx1 C (Cl C) ops o d.s = some (d.k, d.v, H', nx'))) ∧
      ds.foldl stepN s.H = Hall ∧
      ∃ e, (∀ (i : Nat) (d : DS), ds[i]? = some d → d.k = .eff → i = e) ∧
        (∀ (i : Nat) (d : DS), ds[i]? = some d → e < i → ∀ ob, d.k ≠ .new ob) ∧
        (∀ (i : Nat) (d : DS) (o : Oper), ds[i]? = some d → l[i]? = some o → d.k = .read → goodAt C o.op d.s.env d.s.nx d.v Hall ∧ i < e)
  | [], s, h => ⟨[], s, rfl, h.2, rfl, by simp, h.1, 0, by simp, by simp, by simp⟩
  | o :: rest, s, h => by
    simp only [List.map_cons, WN] at h
    rw [← txS_eq] at h
    have main : ∀ (k : CI.K) (v : AV) (H' : Heap) (nx' : Nat) (E' : Tr AV), tx1 C (Cl C) ops o s = some (k, v, H', nx') → k ≠ .eff → put? s.env nt o.dst v = some E' → WN C nt Hall (rest.map (stripO ops)) ⟨E', H', nx'⟩ K →
        (k = .read → goodAt C o.op s.env s.nx v Hall) →
        ∃ ds sN, txRun C (Cl C) nt ops (o :: rest) s = some (ds, sN) ∧ K sN ∧ ds.length = (o :: rest).length ∧
          (∀ (i : Nat) (d : DS), ds[i]? = some d → ∃ o', (o :: rest)[i]? = some o' ∧ (∃ H' nx', tx1 C (Cl C) ops o' d.s = some (d.k, d.v, H', nx'))) ∧
          ds.foldl stepN s.H = Hall ∧
          ∃ e, (∀ (i : Nat) (d : DS), ds[i]? = some d → d.k = .eff → i = e) ∧
            (∀ (i : Nat) (d : DS), ds[i]? = some d → e < i → ∀ ob, d.k ≠ .new ob) ∧
            (∀ (i : Nat) (d : DS) (o' : Oper), ds[i]? = some d → (o :: rest)[i]? = some o' → d.k = .read → goodAt C o'.op d.s.env d.s.nx d.v Hall ∧ i < e) := by
      intro k v H' nx' E' hk hke hE h hg
      obtain ⟨ds, sN, r1, r2, r3, r4, r5, e, r6, r7, r8⟩ := WN_run rest _ h
      have sh := tx1_shape hk
      have hstep : stepN s.H ⟨k, v, s⟩ = H' := by
        show stepK s.H s.nx k = H'
        cases k with
        | new ob => exact sh.symm
        | eff => exact absurd rfl hke
        | _ => exact sh.1.symm
      refine ⟨_, sN, tx_cons hk hE r1, r2, by simp [r3], ?_, ?_, e + 1, ?_, ?_, ?_⟩
      · intro i d hd
        cases i with
        | zero => simp at hd; subst hd; exact ⟨o, rfl, H', nx', hk⟩
        | succ i =>
          obtain ⟨o', q1, q2⟩ := r4 i d (by simpa using hd)
          exact ⟨o', by simpa using q1, q2⟩
      · rw [List.foldl_cons, hstep]; exact r5
      · intro i d hd he
        cases i with
        | zero => simp at hd; subst hd; exact absurd he hke
        | succ i => rw [r6 i d (by simpa using hd) he]
      · intro i d hd hi ob
        cases i with
        | zero => omega
        | succ i => exact r7 i d (by simpa using hd) (by omega) ob
      · intro i d o' hd ho hr
        cases i with
        | zero =>
          simp at hd ho; subst hd; subst ho
          simp only at hr
          exact ⟨hg hr, by omega⟩
        | succ i =>
          simp only [List.getElem?_cons_succ] at hd ho
          obtain ⟨q1, q2⟩ := r8 i d o' hd ho hr
          exact ⟨q1, by omega⟩
    split at h
    · rename_i v H' nx' hk
      obtain ⟨hH, h⟩ := h
      split at h
      · rename_i E' hE
        obtain ⟨ds, sN, r1, r2, r3, r4, r5, r6, r7⟩ := WQ_run rest 2 _ h
        have hnn : ∀ d ∈ ds, ∀ ob, d.k ≠ .new ob := fun d hd ob => r6 (by omega) d hd ob
        have hfold : (DS.mk .eff v s :: ds).foldl stepN s.H = Hall := by
          rw [List.foldl_cons, stepN_none hnn, ← hH]
          rfl
        refine ⟨_, sN, tx_cons hk hE r1, r2, by simp [r3], ?_, hfold, 0, ?_, ?_, ?_⟩
        · intro i d hd
          cases i with
          | zero => simp at hd; subst hd; exact ⟨o, rfl, H', nx', hk⟩
          | succ i =>
            obtain ⟨o', Hx, nxx, q1, q2⟩ := r4 i d (by simpa using hd)
            exact ⟨o', by simpa using q1, Hx, nxx, q2⟩
        · intro i d hd he
          cases i with
          | zero => rfl
          | succ i => exact absurd he (r7 rfl d (List.mem_of_getElem? (by simpa using hd))).2
        · intro i d hd hi ob
          cases i with
          | zero => omega
          | succ i => exact hnn d (List.mem_of_getElem? (by simpa using hd)) ob
        · intro i d o' hd ho hr
          cases i with
          | zero => simp at hd; subst hd; cases hr
          | succ i => exact absurd hr (r7 rfl d (List.mem_of_getElem? (by simpa using hd))).1
      · cases h
    · rename_i v H' nx' hk
      obtain ⟨h0, h⟩ := h
      split at h
      · rename_i E' hE
        exact main _ v H' nx' E' hk (by simp) hE h (fun _ => h0)
      · cases h
    · rename_i k v H' nx' hk1 hk2 hk
      split at h
      · rename_i E' hE
        exact main _ v H' nx' E' hk (fun e => hk1 e) hE h (fun e => absurd e (fun e => hk2 e))
      · cases h
    · cases h
theorem wpS_draw4 {C : Cx} {nt : Nat} {ops : Array Oper} {so : List SOp} {s : St} {Q : Ex → St → Prop} (Hall : Heap) (hl : effOK ops = true) (hs : ops.toList.map (stripO ops) = so) (h : WN C nt Hall so s (Q .normal)) :
    wpS C nt (.draw ops) s Q := by
  subst hs
  obtain ⟨ds, sN, h1, h2, h3, h4, h5, e, h6, h7, h8⟩ := WN_run ops.toList s h
  obtain ⟨sN, h1, h2⟩ := draw_concl hl h1 h2 h3 h4 h6 h7 (fun i d o hd ho hr => by
    obtain ⟨q1, q2⟩ := h8 i d o hd ho hr
    exact ⟨by rw [h5]; exact q1, fun hh => by omega⟩)
  simp only [wpS, h1]
  exact h2
theorem WN_nil {C : Cx} {nt : Nat} {Hall : Heap} {s : St} {K : St → Prop} : WN C nt Hall [] s K = (s.H = Hall ∧ K s) := rfl
theorem WN_cons {C : Cx} {nt : Nat} {Hall : Heap} {o : SOp} {rest : List SOp} {E : Tr AV} {H : Heap} {nx : Nat} {K : St → Prop} : WN C nt Hall (o :: rest) ⟨E, H, nx⟩ K =
    match txS C (Cl C) o E H nx with
    | some (.eff, v, H', nx') => H = Hall ∧ match put? E nt o.dst v with
      | some E' => WQ C nt 2 rest ⟨E', H', nx'⟩ K
      | none => False
    | some (.read, v, H', nx') => goodAt C o.op E nx v Hall ∧ match put? E nt o.dst v with
      | some E' => WN C nt Hall rest ⟨E', H', nx'⟩ K
      | none => False
    | some (k, v, H', nx') => match put? E nt o.dst v with
      | some E' => WN C nt Hall rest ⟨E', H', nx'⟩ K
      | none => False
    | none => False := rfl
@[congr] theorem WN_congr {C : Cx} {nt : Nat} {Hall : Heap} {l : List SOp} {s s' : St} {K : St → Prop} (h : s = s') : WN C nt Hall l s K = WN C nt Hall l s' K := by rw [h]
end CI
/- A region whose order is drawn, in general: blocks are made ahead of the first effect; each read is asked again in the memory ahead of the first effect ('Hall') and behind each effect. -/
set_option linter.unusedVariables false
set_option linter.unusedSimpArgs false
noncomputable section
namespace CI
open Go

/-- A read that was made. -/
structure RD where
  op : Op
  E : Tr AV
  nx : Nat
  v : AV
def allG (C : Cx) (r : RD) : List Heap → Prop
  | [] => True
  | X :: l => goodAt C r.op r.E r.nx r.v X ∧ allG C r l
def allR (C : Cx) (X : Heap) : List RD → Prop
  | [] => True
  | r :: l => goodAt C r.op r.E r.nx r.v X ∧ allR C X l
theorem allG_iff {C : Cx} {r : RD} : ∀ {l : List Heap}, allG C r l → ∀ X ∈ l, goodAt C r.op r.E r.nx r.v X
  | [], _, _, h => by cases h
  | Y :: l, h, X, hX => by
    rcases List.mem_cons.1 hX with rfl | hX
    · exact h.1
    · exact allG_iff h.2 X hX
theorem allR_iff {C : Cx} {X : Heap} : ∀ {l : List RD}, allR C X l → ∀ r ∈ l, goodAt C r.op r.E r.nx r.v X
  | [], _, _, h => by cases h
  | s :: l, h, r, hr => by
    rcases List.mem_cons.1 hr with rfl | hr
    · exact h.1
    · exact allR_iff h.2 r hr
def WG (C : Cx) (nt : Nat) (Hall : Heap) : Bool → List Heap → List RD → List SOp → St → (St → Prop) → Prop
  | seen, _, _, [], s, K => (seen = false → s.H = Hall) ∧ K s
  | seen, Hs, rs, o :: rest, s, K =>
    match txS C (Cl C) o s.env s.H s.nx with
    | some (.eff, v, H', nx') => (seen = false → s.H = Hall) ∧ allR C H' rs ∧ match put? s.env nt o.dst v with
      | some E' => WG C nt Hall true (H' :: Hs) rs rest ⟨E', H', nx'⟩ K
      | none => False
    | some (.read, v, H', nx') => allG C ⟨o.op, s.env, s.nx, v⟩ Hs ∧ match put? s.env nt o.dst v with
      | some E' => WG C nt Hall seen Hs (⟨o.op, s.env, s.nx, v⟩ :: rs) rest ⟨E', H', nx'⟩ K
      | none => False
    | some (.new _, v, H', nx') => seen = false ∧ match put? s.env nt o.dst v with
      | some E' => WG C nt Hall seen Hs rs rest ⟨E', H', nx'⟩ K
      | none => False
    | some (_, v, H', nx') => match put? s.env nt o.dst v with
      | some E' => WG C nt Hall seen Hs rs rest ⟨E', H', nx'⟩ K
      | none => False
    | none => False

structure WGR (C : Cx) (nt : Nat) (ops : Array Oper) (Hall : Heap) (seen : Bool) (Hs : List Heap) (rs : List RD) (l : List Oper) (s : St) (K : St → Prop) (ds : List DS) (sN : St) : Prop where
  run : txRun C (Cl C) nt ops l s = some (ds, sN)
  fin : K sN
  len : ds.length = l.length
  ops : ∀ (i : Nat) (d : DS), ds[i]? = some d → ∃ o, l[i]? = some o ∧ (∃ H' nx', tx1 C (Cl C) ops o d.s = some (d.k, d.v, H', nx'))
  hall : seen = false → ds.foldl stepN s.H = Hall
  nonew : seen = true → ∀ d ∈ ds, ∀ ob, d.k ≠ .new ob
  late : ∀ (i : Nat) (d : DS) (j : Nat) (d' : DS), ds[i]? = some d → d.k = .eff → ds[j]? = some d' → i ≤ j → ∀ ob, d'.k ≠ .new ob
  reads : ∀ (i : Nat) (d : DS) (o : Oper), ds[i]? = some d → l[i]? = some o → d.k = .read → (∀ X ∈ Hs, goodAt C o.op d.s.env d.s.nx d.v X) ∧ ∀ (e : Nat) (de : DS), ds[e]? = some de → de.k = .eff → goodAt C o.op d.s.env d.s.nx d.v (stAt ds sN (e + 1)).H
  past : ∀ r ∈ rs, ∀ (e : Nat) (de : DS), ds[e]? = some de → de.k = .eff → goodAt C r.op r.E r.nx r.v (stAt ds sN (e + 1)).H

theorem WGR.cons {C : Cx} {nt : Nat} {ops : Array Oper} {Hall : Heap} {K : St → Prop} {o : Oper} {rest : List Oper} {s : St} {seen seen' : Bool} {Hs Hs' : List Heap} {rs rs' : List RD} {k : CI.K} {v : AV} {H' : Heap} {nx' : Nat} {E' : Tr AV} {ds : List DS} {sN : St}
    (hk : tx1 C (Cl C) ops o s = some (k, v, H', nx')) (hE : put? s.env nt o.dst v = some E') (h : WGR C nt ops Hall seen' Hs' rs' rest ⟨E', H', nx'⟩ K ds sN)
    (a1 : seen = true → seen' = true) (a2 : ∀ X ∈ Hs, X ∈ Hs') (a3 : ∀ r ∈ rs, r ∈ rs') (a4 : ∀ ob, k = .new ob → seen = false)
    (a5 : k = .eff → seen' = true ∧ (seen = false → s.H = Hall) ∧ H' ∈ Hs' ∧ ∀ r ∈ rs, goodAt C r.op r.E r.nx r.v H') (a6 : k ≠ .eff → seen = false → seen' = false)
    (a7 : k = .read → (∀ X ∈ Hs, goodAt C o.op s.env s.nx v X) ∧ (⟨o.op, s.env, s.nx, v⟩ : RD) ∈ rs') :
    WGR C nt ops Hall seen Hs rs (o :: rest) s K (⟨k, v, s⟩ :: ds) sN := by
  have sh := tx1_shape hk
  have hst : ∀ e, stAt (DS.mk k v s :: ds) sN (e + 1) = stAt ds sN e := fun e => by simp [stAt]
  have hst0 : (stAt ds sN 0).H = H' := by rw [txRun_first h.run]
  refine ⟨tx_cons hk hE h.run, h.fin, by simp [h.len], ?_, ?_, ?_, ?_, ?_, ?_⟩
  · intro i d hd
    cases i with
    | zero => simp at hd; subst hd; exact ⟨o, rfl, H', nx', hk⟩
    | succ i =>
      obtain ⟨o', q1, q2⟩ := h.ops i d (by simpa using hd)
      exact ⟨o', by simpa using q1, q2⟩
  · intro hs
    rw [List.foldl_cons]
    by_cases hke : k = .eff
    · obtain ⟨b1, b2, _⟩ := a5 hke
      have hstep : stepN s.H ⟨k, v, s⟩ = s.H := by subst hke; rfl
      rw [hstep, stepN_none (h.nonew b1)]
      exact b2 hs
    · have hstep : stepN s.H ⟨k, v, s⟩ = H' := by
        show stepK s.H s.nx k = H'
        cases k with
        | new ob => exact sh.symm
        | eff => exact absurd rfl hke
        | _ => exact sh.1.symm
      rw [hstep]
      exact h.hall (a6 hke hs)
  · intro hs d hd ob
    rcases List.mem_cons.1 hd with rfl | hd
    · intro e
      rw [a4 ob e] at hs; cases hs
    · exact h.nonew (a1 hs) d hd ob
  · intro i d j d' hd hde hd' hij ob
    cases j with
    | zero =>
      obtain rfl : i = 0 := by omega
      simp at hd hd'; subst hd; subst hd'
      simp only at hde
      rw [hde]; simp
    | succ j =>
      simp only [List.getElem?_cons_succ] at hd'
      cases i with
      | zero =>
        simp at hd; subst hd
        exact h.nonew (a5 hde).1 d' (List.mem_of_getElem? hd') ob
      | succ i => exact h.late i d j d' (by simpa using hd) hde hd' (by omega) ob
  · intro i d o' hd ho hr
    cases i with
    | zero =>
      simp at hd ho; subst hd; subst ho
      simp only at hr
      obtain ⟨c1, c2⟩ := a7 hr
      refine ⟨c1, fun e de hde hke => ?_⟩
      cases e with
      | zero => simp at hde; subst hde; simp only at hke; rw [hr] at hke; cases hke
      | succ e =>
        rw [hst]
        exact h.past _ c2 e de (by simpa using hde) hke
    | succ i =>
      simp only [List.getElem?_cons_succ] at hd ho
      obtain ⟨q1, q2⟩ := h.reads i d o' hd ho hr
      refine ⟨fun X hX => q1 X (a2 X hX), fun e de hde hke => ?_⟩
      cases e with
      | zero =>
        simp at hde; subst hde
        rw [hst, hst0]
        exact q1 _ (a5 hke).2.2.1
      | succ e =>
        rw [hst]
        exact q2 e de (by simpa using hde) hke
  · intro r hr e de hde hke
    cases e with
    | zero =>
      simp at hde; subst hde
      rw [hst, hst0]
      exact (a5 hke).2.2.2 r hr
    | succ e =>
      rw [hst]
      exact h.past r (a3 r hr) e de (by simpa using hde) hke

theorem WG_run {C : Cx} {nt : Nat} {ops : Array Oper} {Hall : Heap} {K : St → Prop} : ∀ (l : List Oper) (seen : Bool) (Hs : List Heap) (rs : List RD) (s : St), WG C nt Hall seen Hs rs (l.map (stripO ops)) s K → ∃ ds sN, WGR C nt ops Hall seen Hs rs l s K ds sN
  | [], seen, Hs, rs, s, h => ⟨[], s, rfl, h.2, rfl, by simp, h.1, by simp, by simp, by simp, by simp⟩
  | o :: rest, seen, Hs, rs, s, h => by
    simp only [List.map_cons, WG] at h
    rw [← txS_eq] at h
    split at h
    · rename_i v H' nx' hk
      obtain ⟨h1, h2, h⟩ := h
      split at h
      · rename_i E' hE
        obtain ⟨ds, sN, hr⟩ := WG_run rest _ _ _ _ h
        exact ⟨_, sN, hr.cons hk hE (fun _ => rfl) (fun X hX => List.mem_cons_of_mem _ hX) (fun r hr => hr) (fun ob e => by cases e) (fun _ => ⟨rfl, h1, List.mem_cons_self, allR_iff h2⟩) (fun hh => absurd rfl hh) (fun e => by cases e)⟩
      · cases h
    · rename_i v H' nx' hk
      obtain ⟨h1, h⟩ := h
      split at h
      · rename_i E' hE
        obtain ⟨ds, sN, hr⟩ := WG_run rest _ _ _ _ h
        exact ⟨_, sN, hr.cons hk hE (fun h => h) (fun X hX => hX) (fun r hr => List.mem_cons_of_mem _ hr) (fun ob e => by cases e) (fun e => by cases e) (fun _ h => h) (fun _ => ⟨allG_iff h1, List.mem_cons_self⟩)⟩
      · cases h
    · rename_i ob v H' nx' hk
      obtain ⟨h1, h⟩ := h
      split at h
      · rename_i E' hE
        obtain ⟨ds, sN, hr⟩ := WG_run rest _ _ _ _ h
        exact ⟨_, sN, hr.cons hk hE (fun h => h) (fun X hX => hX) (fun r hr => hr) (fun _ _ => h1) (fun e => by cases e) (fun _ h => h) (fun e => by cases e)⟩
      · cases h
    · rename_i k v H' nx' hk1 hk2 hk3 hk
      split at h
      · rename_i E' hE
        obtain ⟨ds, sN, hr⟩ := WG_run rest _ _ _ _ h
        exact ⟨_, sN, hr.cons hk hE (fun h => h) (fun X hX => hX) (fun r hr => hr) (fun ob e => absurd e (hk3 ob)) (fun e => absurd e hk1) (fun _ h => h) (fun e => absurd e hk2)⟩
      · cases h
    · cases h

theorem runDraw_of5 {C : Cx} {nt : Nat} {ops : Array Oper} {s : St} {K : St → Prop} {Hall : Heap} (h : WG C nt Hall false [Hall] [] (ops.toList.map (stripO ops)) s K) :
    ∃ sN, runDraw C (Cl C) nt ops s = some sN ∧ K sN := by
  obtain ⟨ds, sN, W⟩ := WG_run ops.toList _ _ _ s h
  refine ⟨sN, ?_, W.fin⟩
  have h1 := W.run
  have h3 := W.len
  unfold runDraw
  rw [h1]
  simp only
  rw [if_pos]
  rw [List.all_eq_true]
  rintro ⟨⟨o, d⟩, i⟩ hm
  simp only
  split
  · rename_i hk
    have hz := List.mem_zipIdx hm
    simp only [Nat.zero_add, Nat.sub_zero] at hz
    obtain ⟨_, hi, hoe⟩ := hz
    have hod : ops.toList[i]? = some o ∧ ds[i]? = some d := by
      have : (ops.toList.zip ds)[i]? = some (o, d) := by rw [List.getElem?_eq_getElem (by omega), ← hoe]
      rw [List.getElem?_zip_eq_some] at this
      exact this
    obtain ⟨o', ho', H', nx', ht⟩ := W.ops i d hod.2
    rw [hod.1] at ho'
    injection ho' with ho'
    subst ho'
    obtain ⟨g1, g2⟩ := W.reads i d o hod.2 hod.1 hk
    rw [hk] at ht
    obtain ⟨hne2, X, hX⟩ := tx1_read ht
    unfold readOK
    rw [List.all_eq_true]
    intro p hp
    rw [Bool.or_eq_true]
    rw [List.mem_cons] at hp
    have hs0 : (stAt ds sN 0).H = s.H := by rw [txRun_first h1]
    have fin : ∀ X : Heap, goodAt C o.op d.s.env d.s.nx d.v X → (match opA C (ev d.s.env) o.op (roAll X) sN.nx with
        | some (v, _, nx') => decide (nx' = sN.nx) && AV.eqB v d.v
        | none => false) = true := by
      intro X g
      obtain ⟨u, Y, y1, y2⟩ := g.nx hne2 sN.nx
      rw [y1]
      simp [y2]
    right
    rcases hp with rfl | hp
    · rw [addNews_zero, hs0, W.hall rfl]
      exact fin _ (g1 Hall (by simp))
    · obtain ⟨q1, q2, q3⟩ := effIdx_lt hp
      have hpe : p - 1 < ds.length := by omega
      have hek : (ds[p - 1]'hpe).k = .eff := by
        unfold effIdx at q3
        simp only [List.mem_filterMap] at q3
        obtain ⟨⟨d', j⟩, hd', hj⟩ := q3
        have hz := List.mem_zipIdx hd'
        simp only [Nat.zero_add, Nat.sub_zero] at hz
        obtain ⟨_, hj2, hde⟩ := hz
        simp only at hj
        split at hj
        · rename_i hk'
          injection hj with hj; subst hj
          rw [← hde]; exact hk'
        · cases hj
      have hge := List.getElem?_eq_getElem hpe
      rw [addNews_none (fun j d' hj hle => W.late (p - 1) _ j d' hge hek hj (by omega))]
      have := g2 (p - 1) _ hge hek
      rw [show p - 1 + 1 = p by omega] at this
      exact fin _ this
  · rfl
theorem wpS_draw5 {C : Cx} {nt : Nat} {ops : Array Oper} {so : List SOp} {s : St} {Q : Ex → St → Prop} (Hall : Heap) (hs : ops.toList.map (stripO ops) = so) (h : WG C nt Hall false [Hall] [] so s (Q .normal)) :
    wpS C nt (.draw ops) s Q := by
  subst hs
  obtain ⟨sN, h1, h2⟩ := runDraw_of5 h
  simp only [wpS, h1]
  exact h2

/-! ### for simp -/
theorem WG_nil {C : Cx} {nt : Nat} {Hall : Heap} {seen : Bool} {Hs : List Heap} {rs : List RD} {s : St} {K : St → Prop} : WG C nt Hall seen Hs rs [] s K = ((seen = false → s.H = Hall) ∧ K s) := rfl
theorem WG_cons {C : Cx} {nt : Nat} {Hall : Heap} {seen : Bool} {Hs : List Heap} {rs : List RD} {o : SOp} {rest : List SOp} {E : Tr AV} {H : Heap} {nx : Nat} {K : St → Prop} : WG C nt Hall seen Hs rs (o :: rest) ⟨E, H, nx⟩ K =
    match txS C (Cl C) o E H nx with
    | some (.eff, v, H', nx') => (seen = false → H = Hall) ∧ allR C H' rs ∧ match put? E nt o.dst v with
      | some E' => WG C nt Hall true (H' :: Hs) rs rest ⟨E', H', nx'⟩ K
      | none => False
    | some (.read, v, H', nx') => allG C ⟨o.op, E, nx, v⟩ Hs ∧ match put? E nt o.dst v with
      | some E' => WG C nt Hall seen Hs (⟨o.op, E, nx, v⟩ :: rs) rest ⟨E', H', nx'⟩ K
      | none => False
    | some (.new _, v, H', nx') => seen = false ∧ match put? E nt o.dst v with
      | some E' => WG C nt Hall seen Hs rs rest ⟨E', H', nx'⟩ K
      | none => False
    | some (_, v, H', nx') => match put? E nt o.dst v with
      | some E' => WG C nt Hall seen Hs rs rest ⟨E', H', nx'⟩ K
      | none => False
    | none => False := rfl
@[congr] theorem WG_congr {C : Cx} {nt : Nat} {Hall : Heap} {seen : Bool} {Hs : List Heap} {rs : List RD} {l : List SOp} {s s' : St} {K : St → Prop} (h : s = s') : WG C nt Hall seen Hs rs l s K = WG C nt Hall seen Hs rs l s' K := by rw [h]
theorem allG_nil {C : Cx} {r : RD} : allG C r [] = True := rfl
theorem allG_cons {C : Cx} {op : Op} {E : Tr AV} {nx : Nat} {v : AV} {X : Heap} {l : List Heap} : allG C ⟨op, E, nx, v⟩ (X :: l) = (goodAt C op E nx v X ∧ allG C ⟨op, E, nx, v⟩ l) := rfl
theorem allR_nil {C : Cx} {X : Heap} : allR C X [] = True := rfl
theorem allR_cons {C : Cx} {op : Op} {E : Tr AV} {nx : Nat} {v : AV} {X : Heap} {l : List RD} : allR C X (⟨op, E, nx, v⟩ :: l) = (goodAt C op E nx v X ∧ allR C X l) := rfl
/-! one copy of what follows -/
def phC (C : Cx) (Hall : Heap) (seen : Bool) (Hs : List Heap) (rs : List RD) (op : Op) (E : Tr AV) (nx : Nat) (v : AV) (H H' : Heap) : K → Prop
  | .eff => (seen = false → H = Hall) ∧ allR C H' rs
  | .read => allG C ⟨op, E, nx, v⟩ Hs
  | .new _ => seen = false
  | _ => True
def phS (seen : Bool) : K → Bool
  | .eff => true
  | _ => seen
def phH (Hs : List Heap) (H' : Heap) : K → List Heap
  | .eff => H' :: Hs
  | _ => Hs
def phR (rs : List RD) (r : RD) : K → List RD
  | .read => r :: rs
  | _ => rs
theorem WG_cons2 {C : Cx} {nt : Nat} {Hall : Heap} {seen : Bool} {Hs : List Heap} {rs : List RD} {o : SOp} {rest : List SOp} {E : Tr AV} {H : Heap} {nx : Nat} {K : St → Prop} : WG C nt Hall seen Hs rs (o :: rest) ⟨E, H, nx⟩ K =
    match txS C (Cl C) o E H nx with
    | some (k, v, H', nx') => phC C Hall seen Hs rs o.op E nx v H H' k ∧ match put? E nt o.dst v with
      | some E' => WG C nt Hall (phS seen k) (phH Hs H' k) (phR rs ⟨o.op, E, nx, v⟩ k) rest ⟨E', H', nx'⟩ K
      | none => False
    | none => False := by
  rw [WG_cons]
  cases txS C (Cl C) o E H nx with
  | none => rfl
  | some r =>
    obtain ⟨k, v, H', nx'⟩ := r
    cases k <;> simp only [phC, phS, phH, phR, true_and, and_assoc]
theorem phC_eff {C : Cx} {Hall : Heap} {seen : Bool} {Hs : List Heap} {rs : List RD} {op : Op} {E : Tr AV} {nx : Nat} {v : AV} {H H' : Heap} : phC C Hall seen Hs rs op E nx v H H' .eff = ((seen = false → H = Hall) ∧ allR C H' rs) := rfl
theorem phC_read {C : Cx} {Hall : Heap} {seen : Bool} {Hs : List Heap} {rs : List RD} {op : Op} {E : Tr AV} {nx : Nat} {v : AV} {H H' : Heap} : phC C Hall seen Hs rs op E nx v H H' .read = allG C ⟨op, E, nx, v⟩ Hs := rfl
theorem phC_new {C : Cx} {Hall : Heap} {seen : Bool} {Hs : List Heap} {rs : List RD} {op : Op} {E : Tr AV} {nx : Nat} {v : AV} {H H' : Heap} {ob : AObj} : phC C Hall seen Hs rs op E nx v H H' (.new ob) = (seen = false) := rfl
theorem phC_still {C : Cx} {Hall : Heap} {seen : Bool} {Hs : List Heap} {rs : List RD} {op : Op} {E : Tr AV} {nx : Nat} {v : AV} {H H' : Heap} : phC C Hall seen Hs rs op E nx v H H' .still = True := rfl
theorem phC_skip {C : Cx} {Hall : Heap} {seen : Bool} {Hs : List Heap} {rs : List RD} {op : Op} {E : Tr AV} {nx : Nat} {v : AV} {H H' : Heap} : phC C Hall seen Hs rs op E nx v H H' .skip = True := rfl
theorem phS_eff {b : Bool} : phS b .eff = true := rfl
theorem phS_read {b : Bool} : phS b .read = b := rfl
theorem phS_new {b : Bool} {ob : AObj} : phS b (.new ob) = b := rfl
theorem phS_still {b : Bool} : phS b .still = b := rfl
theorem phS_skip {b : Bool} : phS b .skip = b := rfl
theorem phH_eff {l : List Heap} {X : Heap} : phH l X .eff = X :: l := rfl
theorem phH_read {l : List Heap} {X : Heap} : phH l X .read = l := rfl
theorem phH_new {l : List Heap} {X : Heap} {ob : AObj} : phH l X (.new ob) = l := rfl
theorem phH_still {l : List Heap} {X : Heap} : phH l X .still = l := rfl
theorem phH_skip {l : List Heap} {X : Heap} : phH l X .skip = l := rfl
theorem phR_eff {l : List RD} {r : RD} : phR l r .eff = l := rfl
theorem phR_read {l : List RD} {r : RD} : phR l r .read = r :: l := rfl
theorem phR_new {l : List RD} {r : RD} {ob : AObj} : phR l r (.new ob) = l := rfl
theorem phR_still {l : List RD} {r : RD} : phR l r .still = l := rfl
theorem phR_skip {l : List RD} {r : RD} : phR l r .skip = l := rfl
end CI
/- A region whose order is drawn, where blocks may be made anywhere, if all that is read are cells that stood there before. -/
set_option linter.unusedVariables false
set_option linter.unusedSimpArgs false
noncomputable section
namespace CI
open Go

/-- A load from a block that stood there before. -/
def ldLow (n0 : Nat) (op : Op) (E : Tr AV) : Prop := match op with
  | .load _ a => match ev E a with
    | .ptr b _ => b < n0
    | _ => False
  | _ => False
theorem ldLow_good {C : Cx} {n0 : Nat} {op : Op} {E : Tr AV} {nx : Nat} {v : AV} {X Y : Heap} (h : ldLow n0 op E) (hxy : ∀ b, b < n0 → Y.get b = X.get b) (g : goodAt C op E nx v X) : goodAt C op E nx v Y := by
  unfold ldLow at h
  split at h
  · rename_i t a
    split at h
    · rename_i b off he
      obtain ⟨u, Z, h1, h2⟩ := g
      have e : ∀ W : Heap, opA C (ev E) (.load t a) (roAll W) nx = (loadOp C.T (roAll W) t (ev E a)).map fun v => (v, roAll W, nx) := fun W => rfl
      rw [e, he] at h1
      have e2 : loadOp C.T (roAll Y) t (.ptr b off) = loadOp C.T (roAll X) t (.ptr b off) := by
        rw [loadOp_ro, loadOp_ro]
        unfold loadOp
        simp only [hxy b h]
      simp only [Option.map_eq_some_iff, Prod.mk.injEq] at h1
      obtain ⟨w, hw, rfl, _, _⟩ := h1
      exact ⟨w, _, by rw [e, he, e2, hw]; rfl, h2⟩
    · cases h
  · cases h

def WH (C : Cx) (nt n0 : Nat) : List Heap → List RD → List SOp → St → (St → Prop) → Prop
  | _, _, [], s, K => K s
  | Hs, rs, o :: rest, s, K =>
    match txS C (Cl C) o s.env s.H s.nx with
    | some (.eff, v, H', nx') => s.nx ≤ nx' ∧ allR C H' rs ∧ match put? s.env nt o.dst v with
      | some E' => WH C nt n0 (H' :: Hs) rs rest ⟨E', H', nx'⟩ K
      | none => False
    | some (.read, v, H', nx') => s.nx ≤ nx' ∧ (ldLow n0 o.op s.env ∧ allG C ⟨o.op, s.env, s.nx, v⟩ Hs) ∧ match put? s.env nt o.dst v with
      | some E' => WH C nt n0 Hs (⟨o.op, s.env, s.nx, v⟩ :: rs) rest ⟨E', H', nx'⟩ K
      | none => False
    | some (_, v, H', nx') => s.nx ≤ nx' ∧ match put? s.env nt o.dst v with
      | some E' => WH C nt n0 Hs rs rest ⟨E', H', nx'⟩ K
      | none => False
    | none => False

structure WHR (C : Cx) (nt n0 : Nat) (ops : Array Oper) (Hs : List Heap) (rs : List RD) (l : List Oper) (s : St) (K : St → Prop) (ds : List DS) (sN : St) : Prop where
  run : txRun C (Cl C) nt ops l s = some (ds, sN)
  fin : K sN
  len : ds.length = l.length
  ops : ∀ (i : Nat) (d : DS), ds[i]? = some d → ∃ o, l[i]? = some o ∧ (∃ H' nx', tx1 C (Cl C) ops o d.s = some (d.k, d.v, H', nx'))
  nxs : ∀ d ∈ ds, s.nx ≤ d.s.nx
  low : ∀ (i : Nat) (d : DS) (o : Oper), ds[i]? = some d → l[i]? = some o → d.k = .read → ldLow n0 o.op d.s.env
  reads : ∀ (i : Nat) (d : DS) (o : Oper), ds[i]? = some d → l[i]? = some o → d.k = .read → (∀ X ∈ Hs, goodAt C o.op d.s.env d.s.nx d.v X) ∧ ∀ (e : Nat) (de : DS), ds[e]? = some de → de.k = .eff → goodAt C o.op d.s.env d.s.nx d.v (stAt ds sN (e + 1)).H
  past : ∀ r ∈ rs, ∀ (e : Nat) (de : DS), ds[e]? = some de → de.k = .eff → goodAt C r.op r.E r.nx r.v (stAt ds sN (e + 1)).H

theorem WHR.cons {C : Cx} {nt n0 : Nat} {ops : Array Oper} {K : St → Prop} {o : Oper} {rest : List Oper} {s : St} {Hs Hs' : List Heap} {rs rs' : List RD} {k : CI.K} {v : AV} {H' : Heap} {nx' : Nat} {E' : Tr AV} {ds : List DS} {sN : St}
    (hk : tx1 C (Cl C) ops o s = some (k, v, H', nx')) (hE : put? s.env nt o.dst v = some E') (h : WHR C nt n0 ops Hs' rs' rest ⟨E', H', nx'⟩ K ds sN)
    (a2 : ∀ X ∈ Hs, X ∈ Hs') (a3 : ∀ r ∈ rs, r ∈ rs') (an : s.nx ≤ nx')
    (a5 : k = .eff → H' ∈ Hs' ∧ ∀ r ∈ rs, goodAt C r.op r.E r.nx r.v H')
    (a7 : k = .read → ldLow n0 o.op s.env ∧ (∀ X ∈ Hs, goodAt C o.op s.env s.nx v X) ∧ (⟨o.op, s.env, s.nx, v⟩ : RD) ∈ rs') :
    WHR C nt n0 ops Hs rs (o :: rest) s K (⟨k, v, s⟩ :: ds) sN := by
  have hst : ∀ e, stAt (DS.mk k v s :: ds) sN (e + 1) = stAt ds sN e := fun e => by simp [stAt]
  have hst0 : (stAt ds sN 0).H = H' := by rw [txRun_first h.run]
  refine ⟨tx_cons hk hE h.run, h.fin, by simp [h.len], ?_, ?_, ?_, ?_, ?_⟩
  · intro i d hd
    cases i with
    | zero => simp at hd; subst hd; exact ⟨o, rfl, H', nx', hk⟩
    | succ i =>
      obtain ⟨o', q1, q2⟩ := h.ops i d (by simpa using hd)
      exact ⟨o', by simpa using q1, q2⟩
  · intro d hd
    rcases List.mem_cons.1 hd with rfl | hd
    · exact Nat.le_refl _
    · exact Nat.le_trans an (h.nxs d hd)
  · intro i d o' hd ho hr
    cases i with
    | zero => simp at hd ho; subst hd; subst ho; exact (a7 hr).1
    | succ i =>
      simp only [List.getElem?_cons_succ] at hd ho
      exact h.low i d o' hd ho hr
  · intro i d o' hd ho hr
    cases i with
    | zero =>
      simp at hd ho; subst hd; subst ho
      simp only at hr
      obtain ⟨_, c1, c2⟩ := a7 hr
      refine ⟨c1, fun e de hde hke => ?_⟩
      cases e with
      | zero => simp at hde; subst hde; simp only at hke; rw [hr] at hke; cases hke
      | succ e =>
        rw [hst]
        exact h.past _ c2 e de (by simpa using hde) hke
    | succ i =>
      simp only [List.getElem?_cons_succ] at hd ho
      obtain ⟨q1, q2⟩ := h.reads i d o' hd ho hr
      refine ⟨fun X hX => q1 X (a2 X hX), fun e de hde hke => ?_⟩
      cases e with
      | zero =>
        simp at hde; subst hde
        rw [hst, hst0]
        exact q1 _ (a5 hke).1
      | succ e =>
        rw [hst]
        exact q2 e de (by simpa using hde) hke
  · intro r hr e de hde hke
    cases e with
    | zero =>
      simp at hde; subst hde
      rw [hst, hst0]
      exact (a5 hke).2 r hr
    | succ e =>
      rw [hst]
      exact h.past r (a3 r hr) e de (by simpa using hde) hke

theorem WH_run {C : Cx} {nt n0 : Nat} {ops : Array Oper} {K : St → Prop} : ∀ (l : List Oper) (Hs : List Heap) (rs : List RD) (s : St), WH C nt n0 Hs rs (l.map (stripO ops)) s K → ∃ ds sN, WHR C nt n0 ops Hs rs l s K ds sN
  | [], Hs, rs, s, h => ⟨[], s, rfl, h, rfl, by simp, by simp, by simp, by simp, by simp⟩
  | o :: rest, Hs, rs, s, h => by
    simp only [List.map_cons, WH] at h
    rw [← txS_eq] at h
    split at h
    · rename_i v H' nx' hk
      obtain ⟨h1, h2, h⟩ := h
      split at h
      · rename_i E' hE
        obtain ⟨ds, sN, hr⟩ := WH_run rest _ _ _ h
        exact ⟨_, sN, hr.cons hk hE (fun X hX => List.mem_cons_of_mem _ hX) (fun r hr => hr) h1 (fun _ => ⟨List.mem_cons_self, allR_iff h2⟩) (fun e => by cases e)⟩
      · cases h
    · rename_i v H' nx' hk
      obtain ⟨h1, ⟨h2, h3⟩, h⟩ := h
      split at h
      · rename_i E' hE
        obtain ⟨ds, sN, hr⟩ := WH_run rest _ _ _ h
        exact ⟨_, sN, hr.cons hk hE (fun X hX => hX) (fun r hr => List.mem_cons_of_mem _ hr) h1 (fun e => by cases e) (fun _ => ⟨h2, allG_iff h3, List.mem_cons_self⟩)⟩
      · cases h
    · rename_i k v H' nx' hk1 hk2 hk
      obtain ⟨h1, h⟩ := h
      split at h
      · rename_i E' hE
        obtain ⟨ds, sN, hr⟩ := WH_run rest _ _ _ h
        exact ⟨_, sN, hr.cons hk hE (fun X hX => hX) (fun r hr => hr) h1 (fun e => absurd e hk1) (fun e => absurd e hk2)⟩
      · cases h
    · cases h

theorem foldN_get {n0 b : Nat} (hb : b < n0) : ∀ (l : List DS) (H : Heap), (∀ d ∈ l, n0 ≤ d.s.nx) → (l.foldl stepN H).get b = H.get b
  | [], H, _ => rfl
  | d :: l, H, h => by
    rw [List.foldl_cons, foldN_get hb l _ fun e he => h e (List.mem_cons_of_mem _ he)]
    have hd := h d (by simp)
    show (stepK H d.s.nx d.k).get b = H.get b
    cases d.k <;> simp only [stepK]
    rw [Tr.get_put_ne _ _ _ _ (by omega)]
theorem addNews_low {n0 b p : Nat} {l : List DS} {H : Heap} (hb : b < n0) (h : ∀ d ∈ l, n0 ≤ d.s.nx) : (addNews l p H).get b = H.get b := by
  have : addNews l p H = (l.drop p).foldl stepN H := by unfold addNews; rfl
  rw [this]
  exact foldN_get hb _ _ fun d hd => h d (List.mem_of_mem_drop hd)

theorem runDraw_of6 {C : Cx} {nt n0 : Nat} {ops : Array Oper} {s : St} {K : St → Prop} (hn : n0 ≤ s.nx) (h : WH C nt n0 [s.H] [] (ops.toList.map (stripO ops)) s K) :
    ∃ sN, runDraw C (Cl C) nt ops s = some sN ∧ K sN := by
  obtain ⟨ds, sN, W⟩ := WH_run ops.toList _ _ s h
  refine ⟨sN, ?_, W.fin⟩
  have h1 := W.run
  have h3 := W.len
  unfold runDraw
  rw [h1]
  simp only
  rw [if_pos]
  rw [List.all_eq_true]
  rintro ⟨⟨o, d⟩, i⟩ hm
  simp only
  split
  · rename_i hk
    have hz := List.mem_zipIdx hm
    simp only [Nat.zero_add, Nat.sub_zero] at hz
    obtain ⟨_, hi, hoe⟩ := hz
    have hod : ops.toList[i]? = some o ∧ ds[i]? = some d := by
      have : (ops.toList.zip ds)[i]? = some (o, d) := by rw [List.getElem?_eq_getElem (by omega), ← hoe]
      rw [List.getElem?_zip_eq_some] at this
      exact this
    obtain ⟨o', ho', H', nx', ht⟩ := W.ops i d hod.2
    rw [hod.1] at ho'
    injection ho' with ho'
    subst ho'
    obtain ⟨g1, g2⟩ := W.reads i d o hod.2 hod.1 hk
    have hlow := W.low i d o hod.2 hod.1 hk
    rw [hk] at ht
    obtain ⟨hne2, X, hX⟩ := tx1_read ht
    unfold readOK
    rw [List.all_eq_true]
    intro p hp
    rw [Bool.or_eq_true]
    rw [List.mem_cons] at hp
    have hs0 : (stAt ds sN 0).H = s.H := by rw [txRun_first h1]
    have hnews : ∀ d ∈ ds, n0 ≤ d.s.nx := fun d hd => Nat.le_trans hn (W.nxs d hd)
    have fin : ∀ X : Heap, goodAt C o.op d.s.env d.s.nx d.v X → (match opA C (ev d.s.env) o.op (roAll X) sN.nx with
        | some (v, _, nx') => decide (nx' = sN.nx) && AV.eqB v d.v
        | none => false) = true := by
      intro X g
      obtain ⟨u, Y, y1, y2⟩ := g.nx hne2 sN.nx
      rw [y1]
      simp [y2]
    right
    rcases hp with rfl | hp
    · rw [hs0]
      exact fin _ (ldLow_good hlow (fun b hb => addNews_low hb hnews) (g1 s.H (by simp)))
    · obtain ⟨q1, q2, q3⟩ := effIdx_lt hp
      have hpe : p - 1 < ds.length := by omega
      have hek : (ds[p - 1]'hpe).k = .eff := by
        unfold effIdx at q3
        simp only [List.mem_filterMap] at q3
        obtain ⟨⟨d', j⟩, hd', hj⟩ := q3
        have hz := List.mem_zipIdx hd'
        simp only [Nat.zero_add, Nat.sub_zero] at hz
        obtain ⟨_, hj2, hde⟩ := hz
        simp only at hj
        split at hj
        · rename_i hk'
          injection hj with hj; subst hj
          rw [← hde]; exact hk'
        · cases hj
      have hge := List.getElem?_eq_getElem hpe
      have := g2 (p - 1) _ hge hek
      rw [show p - 1 + 1 = p by omega] at this
      exact fin _ (ldLow_good hlow (fun b hb => addNews_low hb hnews) this)
  · rfl
theorem wpS_draw6 {C : Cx} {nt : Nat} {ops : Array Oper} {so : List SOp} {E : Tr AV} {H : Heap} {nx : Nat} {Q : Ex → St → Prop} (n0 : Nat) (hn : n0 ≤ nx) (hs : ops.toList.map (stripO ops) = so) (h : WH C nt n0 [H] [] so ⟨E, H, nx⟩ (Q .normal)) :
    wpS C nt (.draw ops) ⟨E, H, nx⟩ Q := by
  subst hs
  obtain ⟨sN, h1, h2⟩ := runDraw_of6 (s := ⟨E, H, nx⟩) hn h
  simp only [wpS, h1]
  exact h2

/-! ### for simp -/
theorem WH_nil {C : Cx} {nt n0 : Nat} {Hs : List Heap} {rs : List RD} {s : St} {K : St → Prop} : WH C nt n0 Hs rs [] s K = K s := rfl
theorem WH_cons {C : Cx} {nt n0 : Nat} {Hs : List Heap} {rs : List RD} {o : SOp} {rest : List SOp} {E : Tr AV} {H : Heap} {nx : Nat} {K : St → Prop} : WH C nt n0 Hs rs (o :: rest) ⟨E, H, nx⟩ K =
    match txS C (Cl C) o E H nx with
    | some (.eff, v, H', nx') => nx ≤ nx' ∧ allR C H' rs ∧ match put? E nt o.dst v with
      | some E' => WH C nt n0 (H' :: Hs) rs rest ⟨E', H', nx'⟩ K
      | none => False
    | some (.read, v, H', nx') => nx ≤ nx' ∧ (ldLow n0 o.op E ∧ allG C ⟨o.op, E, nx, v⟩ Hs) ∧ match put? E nt o.dst v with
      | some E' => WH C nt n0 Hs (⟨o.op, E, nx, v⟩ :: rs) rest ⟨E', H', nx'⟩ K
      | none => False
    | some (_, v, H', nx') => nx ≤ nx' ∧ match put? E nt o.dst v with
      | some E' => WH C nt n0 Hs rs rest ⟨E', H', nx'⟩ K
      | none => False
    | none => False := rfl
@[congr] theorem WH_congr {C : Cx} {nt n0 : Nat} {Hs : List Heap} {rs : List RD} {l : List SOp} {s s' : St} {K : St → Prop} (h : s = s') : WH C nt n0 Hs rs l s K = WH C nt n0 Hs rs l s' K := by rw [h]
def phW (C : Cx) (n0 : Nat) (Hs : List Heap) (rs : List RD) (op : Op) (E : Tr AV) (nx : Nat) (v : AV) (H' : Heap) : K → Prop
  | .eff => allR C H' rs
  | .read => ldLow n0 op E ∧ allG C ⟨op, E, nx, v⟩ Hs
  | _ => True
theorem WH_cons2 {C : Cx} {nt n0 : Nat} {Hs : List Heap} {rs : List RD} {o : SOp} {rest : List SOp} {E : Tr AV} {H : Heap} {nx : Nat} {K : St → Prop} : WH C nt n0 Hs rs (o :: rest) ⟨E, H, nx⟩ K =
    match txS C (Cl C) o E H nx with
    | some (k, v, H', nx') => nx ≤ nx' ∧ phW C n0 Hs rs o.op E nx v H' k ∧ match put? E nt o.dst v with
      | some E' => WH C nt n0 (phH Hs H' k) (phR rs ⟨o.op, E, nx, v⟩ k) rest ⟨E', H', nx'⟩ K
      | none => False
    | none => False := by
  rw [WH_cons]
  cases txS C (Cl C) o E H nx with
  | none => rfl
  | some r =>
    obtain ⟨k, v, H', nx'⟩ := r
    cases k <;> simp only [phW, phH, phR, true_and]
theorem phW_eff {C : Cx} {n0 : Nat} {Hs : List Heap} {rs : List RD} {op : Op} {E : Tr AV} {nx : Nat} {v : AV} {H' : Heap} : phW C n0 Hs rs op E nx v H' .eff = allR C H' rs := rfl
theorem phW_read {C : Cx} {n0 : Nat} {Hs : List Heap} {rs : List RD} {op : Op} {E : Tr AV} {nx : Nat} {v : AV} {H' : Heap} : phW C n0 Hs rs op E nx v H' .read = (ldLow n0 op E ∧ allG C ⟨op, E, nx, v⟩ Hs) := rfl
theorem phW_new {C : Cx} {n0 : Nat} {Hs : List Heap} {rs : List RD} {op : Op} {E : Tr AV} {nx : Nat} {v : AV} {H' : Heap} {ob : AObj} : phW C n0 Hs rs op E nx v H' (.new ob) = True := rfl
theorem phW_still {C : Cx} {n0 : Nat} {Hs : List Heap} {rs : List RD} {op : Op} {E : Tr AV} {nx : Nat} {v : AV} {H' : Heap} : phW C n0 Hs rs op E nx v H' .still = True := rfl
theorem phW_skip {C : Cx} {n0 : Nat} {Hs : List Heap} {rs : List RD} {op : Op} {E : Tr AV} {nx : Nat} {v : AV} {H' : Heap} : phW C n0 Hs rs op E nx v H' .skip = True := rfl
end CI
/- The interpreter's operations on numbers, as equations. -/
set_option linter.unusedVariables false
set_option linter.unusedSimpArgs false
noncomputable section
namespace CI
open Go
theorem abs_int (k : IntKind) (n : Int) : abs (.int k n) = .lit (.int k n) := rfl
theorem abs_bool (b : Bool) : abs (.bool b) = .lit (.bool b) := rfl
theorem abs_string (s : ByteArray) : abs (.string s) = .lit (.string s) := rfl
theorem abs_nilp : abs (.pointer none) = .lit (.pointer none) := rfl
theorem abs_nili : abs .nilIface = .lit .nilIface := rfl
theorem abs_nilf : abs .nilFunc = .lit .nilFunc := rfl
theorem abs_nilm : abs (.map none) = .lit (.map none) := rfl
theorem abs_nils (n c : Nat) : abs (.slice none n c) = .lit (.slice none n c) := rfl
theorem un_not (P : Program) (b : Bool) : plain1 P (Op.unary .not) (.lit (.bool b)) = some (.lit (.bool (!b))) := by cases b <;> rfl
theorem maxA (P : Program) (k k' : IntKind) (a b : Int) : foldOp P Builtin.max2 [.lit (.int k a), .lit (.int k' b)] = some (.lit (.int k (max a b))) := by
  have : max a b = if b > a then b else a := by rw [Int.max_def]; split <;> split <;> omega
  rw [this]; rfl
theorem minA (P : Program) (k k' : IntKind) (a b : Int) : foldOp P Builtin.min2 [.lit (.int k a), .lit (.int k' b)] = some (.lit (.int k (min a b))) := by
  have : min a b = if b < a then b else a := by rw [Int.min_def]; split <;> split <;> omega
  rw [this]; rfl
section
variable (P : Program) (T : Tr TInfo) (t : TypeId) (x y : Operand) (k : IntKind) (a b : Int)
theorem bin_add : binOpA P T .add t x y (.lit (.int k a)) (.lit (.int k b)) = some (.lit (.int k (k.wrap (a + b)))) := by cases k <;> rfl
theorem bin_sub : binOpA P T .sub t x y (.lit (.int k a)) (.lit (.int k b)) = some (.lit (.int k (k.wrap (a - b)))) := by cases k <;> rfl
theorem bin_mul : binOpA P T .mul t x y (.lit (.int k a)) (.lit (.int k b)) = some (.lit (.int k (k.wrap (a * b)))) := by cases k <;> rfl
theorem bin_eql : binOpA P T .eql t x y (.lit (.int k a)) (.lit (.int k b)) = some (.lit (.bool (decide (a = b)))) := by cases k <;> rfl
theorem bin_neq : binOpA P T .neq t x y (.lit (.int k a)) (.lit (.int k b)) = some (.lit (.bool (decide (a ≠ b)))) := by
  have : (decide (a ≠ b)) = (a != b) := by by_cases h : a = b <;> simp [h]
  rw [this]; cases k <;> rfl
theorem bin_lss : binOpA P T .lss t x y (.lit (.int k a)) (.lit (.int k b)) = some (.lit (.bool (decide (a < b)))) := by cases k <;> rfl
theorem bin_leq : binOpA P T .leq t x y (.lit (.int k a)) (.lit (.int k b)) = some (.lit (.bool (decide (a ≤ b)))) := by cases k <;> rfl
theorem bin_gtr : binOpA P T .gtr t x y (.lit (.int k a)) (.lit (.int k b)) = some (.lit (.bool (decide (a > b)))) := by cases k <;> rfl
theorem bin_geq : binOpA P T .geq t x y (.lit (.int k a)) (.lit (.int k b)) = some (.lit (.bool (decide (a ≥ b)))) := by cases k <;> rfl
theorem bin_quo (h : b ≠ 0) : binOpA P T .quo t x y (.lit (.int k a)) (.lit (.int k b)) = some (.lit (.int k (k.wrap (a.tdiv b)))) := by
  cases k <;> simp [binOpA, plain2, plain, eqGuard, binOp, Op.intDiv, h] <;> rfl
theorem bin_rem (h : b ≠ 0) : binOpA P T .rem t x y (.lit (.int k a)) (.lit (.int k b)) = some (.lit (.int k (a.tmod b))) := by
  cases k <;> simp [binOpA, plain2, plain, eqGuard, binOp, Op.intDiv, h] <;> rfl
end
/-- A number of the machine. -/
def I64 (a : Int) : Prop := -9223372036854775808 ≤ a ∧ a < 9223372036854775808
theorem i64_of {a : Int} (h : (Lit.int .i64 a).wf = true) : I64 a := by
  simp only [Lit.wf, Bool.and_eq_true, decide_eq_true_eq] at h
  obtain ⟨h1, h2⟩ := h
  have e1 : IntKind.i64.min = -9223372036854775808 := by decide
  have e2 : IntKind.i64.max = 9223372036854775807 := by decide
  constructor <;> omega
theorem wrapI {a : Int} (h : I64 a) : IntKind.i64.wrap a = a := by
  obtain ⟨h1, h2⟩ := h
  simp only [IntKind.wrap, IntKind.signed, IntKind.bits, Bool.true_and, decide_eq_true_eq, Nat.reduceSub, Int.reducePow, ge_iff_le]
  split <;> omega
theorem wrapU {a : Int} (h : 0 ≤ a) (h2 : a < 18446744073709551616) : IntKind.u64.wrap a = a := by
  simp only [IntKind.wrap, IntKind.signed, IntKind.bits, Bool.false_and, Bool.false_eq_true, if_false]
  omega
theorem wrapU_eq (a : Int) : IntKind.u64.wrap a = a % 18446744073709551616 := by
  simp only [IntKind.wrap, IntKind.signed, IntKind.bits, Bool.false_and, Bool.false_eq_true, if_false, Int.reducePow]
theorem bin_and32 (P : Program) (T : Tr TInfo) (t : TypeId) (x y : Operand) (a : Int) : binOpA P T .and t x y (.lit (.int .u64 a)) (.lit (.int .u64 4294967295)) = some (.lit (.int .u64 (a % 4294967296))) := by
  have : binOpA P T .and t x y (.lit (.int .u64 a)) (.lit (.int .u64 4294967295)) = some (.lit (.int .u64 (IntKind.u64.wrap ((BitVec.ofInt 64 a &&& BitVec.ofInt 64 4294967295).toNat : Int)))) := rfl
  rw [this, wrapU_eq]
  have e : (BitVec.ofInt 64 4294967295).toNat = 2 ^ 32 - 1 := by decide
  rw [BitVec.toNat_and, e, Nat.and_two_pow_sub_one_eq_mod, BitVec.toNat_ofInt]
  congr 3
  omega
theorem bin_and1 (P : Program) (T : Tr TInfo) (t : TypeId) (x y : Operand) (a : Int) : binOpA P T .and t x y (.lit (.int .i64 a)) (.lit (.int .i64 1)) = some (.lit (.int .i64 (a % 2))) := by
  have : binOpA P T .and t x y (.lit (.int .i64 a)) (.lit (.int .i64 1)) = some (.lit (.int .i64 (IntKind.i64.wrap ((BitVec.ofInt 64 a &&& BitVec.ofInt 64 1).toNat : Int)))) := rfl
  rw [this]
  have e : (BitVec.ofInt 64 1).toNat = 2 ^ 1 - 1 := by decide
  rw [BitVec.toNat_and, e, Nat.and_two_pow_sub_one_eq_mod, BitVec.toNat_ofInt, wrapI]
  · congr 3
    omega
  · constructor <;> omega
theorem bin_shr (P : Program) (T : Tr TInfo) (t : TypeId) (x y : Operand) (k k' : IntKind) (a b : Int) (h : ¬ b < 0) : binOpA P T .shr t x y (.lit (.int k a)) (.lit (.int k' b)) = some (.lit (.int k (a / 2 ^ (min b.toNat k.bits)))) := by
  have : a / 2 ^ (min b.toNat k.bits) = a.fdiv (2 ^ (min b.toNat k.bits)) := by
    rw [Int.fdiv_eq_ediv_of_nonneg]
    exact Int.le_of_lt (Int.pow_pos (by decide))
  rw [this]
  cases k <;> simp [binOpA, plain2, plain, eqGuard, binOp, Op.shift, h] <;> rfl
theorem bin_shr32 (P : Program) (T : Tr TInfo) (t : TypeId) (x y : Operand) (k' : IntKind) (a : Int) : binOpA P T .shr t x y (.lit (.int .u64 a)) (.lit (.int k' 32)) = some (.lit (.int .u64 (a / 4294967296))) :=
  bin_shr P T t x y .u64 k' a 32 (by decide)
theorem bin_shr1 (P : Program) (T : Tr TInfo) (t : TypeId) (x y : Operand) (k' : IntKind) (a : Int) : binOpA P T .shr t x y (.lit (.int .i64 a)) (.lit (.int k' 1)) = some (.lit (.int .i64 (a / 2))) :=
  bin_shr P T t x y .i64 k' a 1 (by decide)
end CI
