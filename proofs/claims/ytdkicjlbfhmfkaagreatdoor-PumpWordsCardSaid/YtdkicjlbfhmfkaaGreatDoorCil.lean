/- CI, part l: a region whose order Go leaves open: it is run in the text's order, and it is checked that no other order can be told from it. -/
import Derived.Test.YtdkicjlbfhmfkaaGreatDoorCik
import Derived.Orders
set_option linter.unusedVariables false
set_option linter.unusedSimpArgs false
noncomputable section
namespace CI
open Go

/-! ### equality of values -/
def valEqB : Value → Value → Bool
  | .bool a, .bool b => a == b
  | .int j a, .int k b => decide (j = k) && decide (a = b)
  | .string a, .string b => decide (a.data.toList = b.data.toList)
  | .pointer none, .pointer none => true
  | .slice none 0 0, .slice none 0 0 => true
  | .map none, .map none => true
  | .nilFunc, .nilFunc => true
  | .nilIface, .nilIface => true
  | .tuple a, .tuple b => a.isEmpty && b.isEmpty
  | _, _ => false
theorem valEqB_ok {a b : Value} (h : valEqB a b = true) : a = b := by
  unfold valEqB at h
  split at h
  · simpa using h
  · simp only [Bool.and_eq_true, decide_eq_true_eq] at h; rw [h.1, h.2]
  · simp only [decide_eq_true_eq] at h
    rename_i a b
    cases a; cases b
    simp only [Array.toList_inj] at h
    rw [h]
  · rfl
  · rfl
  · rfl
  · rfl
  · rfl
  · rename_i a b
    simp only [Bool.and_eq_true, Array.isEmpty_iff] at h
    rw [h.1, h.2]
  · cases h

mutual
def AV.eqB : AV → AV → Bool
  | .lit a, .lit b => valEqB a b
  | .ptr b o, .ptr b' o' => decide (b = b') && decide (o = o')
  | .slice b o n c e, .slice b' o' n' c' e' => decide (b = b') && decide (o = o') && decide (n = n') && decide (c = c') && decide (e = e')
  | .eslice, .eslice => true
  | .map b, .map b' => decide (b = b')
  | .func f a b, .func f' a' b' => decide (f = f') && AV.eqBs a a' && AV.eqBs b b'
  | .iface t v, .iface t' v' => decide (t = t') && AV.eqB v v'
  | .agg a, .agg b => AV.eqBs a b
  | .tuple a, .tuple b => AV.eqBs a b
  | _, _ => false
def AV.eqBs : List AV → List AV → Bool
  | [], [] => true
  | a :: as, b :: bs => AV.eqB a b && AV.eqBs as bs
  | _, _ => false
end
mutual
theorem AV.eqB_ok : ∀ {a b : AV}, AV.eqB a b = true → a = b
  | .lit _, b, h => by cases b <;> simp only [AV.eqB, Bool.false_eq_true] at h; rw [valEqB_ok h]
  | .ptr _ _, b, h => by cases b <;> simp only [AV.eqB, Bool.false_eq_true, Bool.and_eq_true, decide_eq_true_eq] at h; rw [h.1, h.2]
  | .slice .., b, h => by
    cases b <;> simp only [AV.eqB, Bool.false_eq_true, Bool.and_eq_true, decide_eq_true_eq] at h
    obtain ⟨⟨⟨⟨rfl, rfl⟩, rfl⟩, rfl⟩, rfl⟩ := h; rfl
  | .eslice, b, h => by cases b <;> simp only [AV.eqB, Bool.false_eq_true] at h; rfl
  | .map _, b, h => by cases b <;> simp only [AV.eqB, Bool.false_eq_true, decide_eq_true_eq] at h; rw [h]
  | .func _ a c, b, h => by
    cases b <;> simp only [AV.eqB, Bool.false_eq_true, Bool.and_eq_true, decide_eq_true_eq] at h
    obtain ⟨⟨rfl, h1⟩, h2⟩ := h
    rw [AV.eqBs_ok h1, AV.eqBs_ok h2]
  | .iface _ v, b, h => by
    cases b <;> simp only [AV.eqB, Bool.false_eq_true, Bool.and_eq_true, decide_eq_true_eq] at h
    obtain ⟨rfl, h1⟩ := h
    rw [AV.eqB_ok h1]
  | .agg a, b, h => by cases b <;> simp only [AV.eqB, Bool.false_eq_true] at h; rw [AV.eqBs_ok h]
  | .tuple a, b, h => by cases b <;> simp only [AV.eqB, Bool.false_eq_true] at h; rw [AV.eqBs_ok h]
theorem AV.eqBs_ok : ∀ {a b : List AV}, AV.eqBs a b = true → a = b
  | [], b, h => by cases b <;> simp only [AV.eqBs, Bool.false_eq_true] at h; rfl
  | a :: as, b, h => by
    cases b <;> simp only [AV.eqBs, Bool.false_eq_true, Bool.and_eq_true] at h
    rw [AV.eqB_ok h.1, AV.eqBs_ok h.2]
end

/-! ### all names of a value lie below a number -/
mutual
def AV.belowB (n : Nat) : AV → Bool
  | .lit _ => true
  | .ptr b _ => decide (b < n)
  | .slice b _ _ _ _ => decide (b < n)
  | .eslice => true
  | .map b => decide (b < n)
  | .func _ a b => AV.belowBs n a && AV.belowBs n b
  | .iface _ v => AV.belowB n v
  | .agg a => AV.belowBs n a
  | .tuple a => AV.belowBs n a
def AV.belowBs (n : Nat) : List AV → Bool
  | [] => true
  | a :: as => AV.belowB n a && AV.belowBs n as
end

/-- The names below a number alone. -/
def Sig.lt (σ : Sig) (n : Nat) : Sig := fun b => if b < n then σ b else none
theorem Sig.lt_of {σ : Sig} {n b : Nat} (h : b < n) : σ.lt n b = σ b := by simp [Sig.lt, h]
theorem Sig.lt_ge {σ : Sig} {n b : Nat} (h : n ≤ b) : σ.lt n b = none := by simp [Sig.lt]; omega
theorem Sig.lt_some {σ : Sig} {n b : Nat} {l : Loc} (h : σ.lt n b = some l) : b < n ∧ σ b = some l := by
  unfold Sig.lt at h
  split at h
  · exact ⟨‹_›, h⟩
  · cases h
theorem Sig.lt_ext (σ : Sig) (n : Nat) : Ext (σ.lt n) σ := fun b l h => (Sig.lt_some h).2
theorem Sig.lt_mono {σ σ' : Sig} (h : Ext σ σ') {n m : Nat} (hn : n ≤ m) : Ext (σ.lt n) (σ'.lt m) := fun b l e => by
  obtain ⟨h1, h2⟩ := Sig.lt_some e
  rw [Sig.lt_of (by omega)]; exact h b l h2

mutual
theorem VR.lt {σ : Sig} {n : Nat} : ∀ {v : AV} {x : Value}, AV.belowB n v = true → VR σ v x → VR (σ.lt n) v x
  | .lit _, _, _, h => by simpa [VR] using h
  | .ptr _ _, _, hb, h => by
    simp only [AV.belowB, decide_eq_true_eq] at hb
    simp only [VR] at h ⊢
    rw [Sig.lt_of hb]; exact h
  | .slice .., _, hb, h => by
    simp only [AV.belowB, decide_eq_true_eq] at hb
    simp only [VR] at h ⊢
    rw [Sig.lt_of hb]; exact h
  | .eslice, _, _, h => by simpa [VR] using h
  | .map _, _, hb, h => by
    simp only [AV.belowB, decide_eq_true_eq] at hb
    simp only [VR] at h ⊢
    rw [Sig.lt_of hb]; exact h
  | .func _ a b, _, hb, h => by
    simp only [AV.belowB, Bool.and_eq_true] at hb
    simp only [VR] at h ⊢
    obtain ⟨fs, cs, e, h1, h2⟩ := h
    exact ⟨fs, cs, e, VRs.lt hb.1 h1, VRs.lt hb.2 h2⟩
  | .iface _ v, _, hb, h => by
    simp only [AV.belowB] at hb
    simp only [VR] at h ⊢
    obtain ⟨y, e, h1⟩ := h
    exact ⟨y, e, VR.lt hb h1⟩
  | .agg _, _, hb, h => by
    simp only [AV.belowB] at hb
    simp only [VR] at h ⊢
    obtain ⟨y, e, h1⟩ := h
    exact ⟨y, e, VRs.lt hb h1⟩
  | .tuple _, _, hb, h => by
    simp only [AV.belowB] at hb
    simp only [VR] at h ⊢
    obtain ⟨y, e, h1⟩ := h
    exact ⟨y, e, VRs.lt hb h1⟩
theorem VRs.lt {σ : Sig} {n : Nat} : ∀ {v : List AV} {x : List Value}, AV.belowBs n v = true → VRs σ v x → VRs (σ.lt n) v x
  | [], _, _, h => by simpa [VRs] using h
  | v :: vs, _, hb, h => by
    simp only [AV.belowBs, Bool.and_eq_true] at hb
    simp only [VRs] at h ⊢
    obtain ⟨y, ys, e, h1, h2⟩ := h
    exact ⟨y, ys, e, VR.lt hb.1 h1, VRs.lt hb.2 h2⟩
end

/-! ### a heap that may only be read -/
def AObj.toRo : AObj → AObj
  | .cells cs t _ => .cells cs t true
  | .map es _ => .map es true
  | .iter _ => .iter true
  | .nit _ => .nit true
def roAll : Heap → Heap
  | .nil => .nil
  | .node l v r => .node (roAll l) (v.map AObj.toRo) (roAll r)
theorem roAll_get : ∀ (H : Heap) (b : Nat), (roAll H).get b = (H.get b).map AObj.toRo
  | .nil, b => rfl
  | .node l v r, b => by
    simp only [roAll, Tr.get_node]
    split
    · rfl
    · split
      · exact roAll_get l _
      · exact roAll_get r _

/-! ### the text's order, told step by step -/
inductive K where
  | skip
  | still
  | read
  | new (ob : AObj)
  | eff

structure DS where
  k : K
  v : AV
  s : St

def isEff : Op → Bool
  | .call { callee := .builtin .len, .. } => false
  | .call { callee := .builtin .max, .. } => false
  | .call { callee := .builtin .min, .. } => false
  | .call { callee := .builtin .cap, .. } => false
  | .call { callee := .builtin .unsafeSliceData, .. } => false
  | .call _ => true
  | .store .. | .mapUpdate .. | .insert .. | .mapEntry .. | .entryStore .. | .next .. | .entry _ | .range .. | .go _ | .defer _ | .panic _ | .send .. | .recv .. | .select .. | .ready _ | .waits _ => true
  | _ => false

def tx1 (C : Cx) (call : CallF) (ops : Array Oper) (o : Oper) (s : St) : Option (K × AV × Heap × Nat) :=
  if wantedA ops o s.env then
    if isEff o.op then
      match stepA C call (ev s.env) o.op s.H s.nx with
      | some (v, H', nx') => if s.nx ≤ nx' then some (.eff, v, H', nx') else none
      | none => none
    else
      match opA C (ev s.env) o.op .nil s.nx with
      | some (v, X, nx') =>
        if nx' = s.nx then some (.still, v, s.H, s.nx) else
        if nx' = s.nx + 1 then
          match X.get s.nx with
          | some ob => some (.new ob, v, s.H.put s.nx (some ob), s.nx + 1)
          | none => none
        else none
      | none =>
        match opA C (ev s.env) o.op (roAll s.H) s.nx with
        | some (v, _, nx') => if nx' = s.nx ∧ AV.belowB s.nx v = true then some (.read, v, s.H, s.nx) else none
        | none => none
  else some (.skip, .lit undef, s.H, s.nx)

def txRun (C : Cx) (call : CallF) (nt : Nat) (ops : Array Oper) : List Oper → St → Option (List DS × St)
  | [], s => some ([], s)
  | o :: rest, s =>
    match tx1 C call ops o s with
    | none => none
    | some (k, v, H', nx') =>
      match put? s.env nt o.dst v with
      | none => none
      | some env' =>
        match txRun C call nt ops rest ⟨env', H', nx'⟩ with
        | none => none
        | some (l, sN) => some (⟨k, v, s⟩ :: l, sN)

/-- The state ahead of an operation; behind the last one the end's. -/
def stAt (l : List DS) (sN : St) (i : Nat) : St := match l[i]? with
  | some d => d.s
  | none => sN

theorem txRun_length {C : Cx} {call : CallF} {nt : Nat} {ops : Array Oper} : ∀ {os : List Oper} {s sN : St} {l : List DS}, txRun C call nt ops os s = some (l, sN) → l.length = os.length
  | [], s, sN, l, h => by simp only [txRun, Option.some.injEq, Prod.mk.injEq] at h; rw [← h.1]; rfl
  | o :: rest, s, sN, l, h => by
    simp only [txRun] at h
    split at h
    · cases h
    · split at h
      · cases h
      · split at h
        · cases h
        · rename_i hr
          simp only [Option.some.injEq, Prod.mk.injEq] at h
          rw [← h.1]
          simp [txRun_length hr]

theorem txRun_first {C : Cx} {call : CallF} {nt : Nat} {ops : Array Oper} {os : List Oper} {s sN : St} {l : List DS} (h : txRun C call nt ops os s = some (l, sN)) : stAt l sN 0 = s := by
  cases os with
  | nil => simp only [txRun, Option.some.injEq, Prod.mk.injEq] at h; rw [← h.1, ← h.2]; rfl
  | cons o rest =>
    simp only [txRun] at h
    split at h
    · cases h
    · split at h
      · cases h
      · split at h
        · cases h
        · simp only [Option.some.injEq, Prod.mk.injEq] at h
          rw [← h.1]; rfl

theorem txRun_at {C : Cx} {call : CallF} {nt : Nat} {ops : Array Oper} : ∀ {os : List Oper} {s sN : St} {l : List DS}, txRun C call nt ops os s = some (l, sN) →
    ∀ (i : Nat) (o : Oper) (d : DS), os[i]? = some o → l[i]? = some d →
      tx1 C call ops o d.s = some (d.k, d.v, (stAt l sN (i + 1)).H, (stAt l sN (i + 1)).nx) ∧ put? d.s.env nt o.dst d.v = some (stAt l sN (i + 1)).env
  | [], s, sN, l, h, i, o, d, ho, hd => by simp at ho
  | o' :: rest, s, sN, l, h, i, o, d, ho, hd => by
    simp only [txRun] at h
    split at h
    · cases h
    · rename_i k v H' nx' ht
      split at h
      · cases h
      · rename_i env' hp
        split at h
        · cases h
        · rename_i l' sN' hr
          simp only [Option.some.injEq, Prod.mk.injEq] at h
          obtain ⟨rfl, rfl⟩ := h
          cases i with
          | zero =>
            simp at ho hd
            subst ho; subst hd
            have h1 := txRun_first hr
            have : stAt (⟨k, v, s⟩ :: l') sN' (0 + 1) = stAt l' sN' 0 := by simp [stAt]
            rw [this, h1]
            exact ⟨ht, hp⟩
          | succ i =>
            simp at ho hd
            have := txRun_at hr i o d ho hd
            have e : stAt (⟨k, v, s⟩ :: l') sN' (i + 1 + 1) = stAt l' sN' (i + 1) := by simp [stAt]
            rw [e]
            exact this
end CI
