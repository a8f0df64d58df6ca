/- CI, part m: any order of a region that draws comes to what the text's order comes to. -/
import Derived.Test.YtdkicjlbfhmfkaaGreatDoorCil
set_option linter.unusedVariables false
set_option linter.unusedSimpArgs false
noncomputable section
namespace CI
open Go

/-! ### which operations must stand ahead -/
/-- The edges that bind in whatever order. -/
def bnds (o : Oper) : List Edge := o.after.toList.filter (Region.binds .any)
def maskOf (acc : List Nat) (o : Oper) : Nat := (bnds o).foldl (fun m e => m ||| (2 ^ e.on ||| acc.getD e.on 0)) 0
theorem mem_bnds {o : Oper} {e : Edge} (he : e ∈ o.after) (hb : Region.binds .any e = true) : e ∈ bnds o := by simp [bnds, he, hb]
theorem of_bnds {o : Oper} {e : Edge} (h : e ∈ bnds o) : e ∈ o.after ∧ Region.binds .any e = true := by simpa [bnds] using h
def ancs : List Oper → List Nat → List Nat
  | [], acc => acc
  | o :: rest, acc => ancs rest (acc ++ [maskOf acc o])

theorem ancs_pre : ∀ (os : List Oper) (acc : List Nat) (i : Nat), i < acc.length → (ancs os acc).getD i 0 = acc.getD i 0
  | [], acc, i, h => rfl
  | o :: rest, acc, i, h => by
    simp only [ancs]
    rw [ancs_pre rest _ i (by simp <;> omega)]
    simp [List.getD_eq_getElem?_getD, List.getElem?_append_left h]
theorem ancs_at : ∀ (os : List Oper) (acc : List Nat) (i : Nat) (o : Oper), os[i]? = some o → ∃ pre : List Nat, (ancs os acc).getD (acc.length + i) 0 = maskOf pre o ∧ pre.length = acc.length + i ∧
    ∀ j, j < pre.length → pre.getD j 0 = (ancs os acc).getD j 0
  | [], acc, i, o, h => by simp at h
  | o' :: rest, acc, i, o, h => by
    cases i with
    | zero =>
      simp at h; subst h
      refine ⟨acc, ?_, by simp, fun j hj => ?_⟩
      · simp only [ancs, Nat.add_zero]
        rw [ancs_pre rest _ _ (by simp)]
        simp [List.getD_eq_getElem?_getD]
      · simp only [ancs]
        rw [ancs_pre rest _ j (by simp <;> omega)]
        simp [List.getD_eq_getElem?_getD, List.getElem?_append_left hj]
    | succ i =>
      simp at h
      obtain ⟨pre, h1, h2, h3⟩ := ancs_at rest (acc ++ [maskOf acc o']) i o h
      refine ⟨pre, ?_, by simp at h2; omega, h3⟩
      simp only [ancs]
      rw [← h1]; congr 1; simp <;> omega

theorem testBit_fold (f : Edge → Nat) (j : Nat) : ∀ (l : List Edge) (m : Nat), (l.foldl (fun m e => m ||| (2 ^ e.on ||| f e)) m).testBit j = true →
    m.testBit j = true ∨ ∃ e ∈ l, e.on = j ∨ (f e).testBit j = true
  | [], m, h => .inl h
  | e :: l, m, h => by
    rw [List.foldl_cons] at h
    rcases testBit_fold f j l _ h with h | ⟨e', he', h⟩
    · rw [Nat.testBit_or, Nat.testBit_or, Nat.testBit_two_pow] at h
      simp only [Bool.or_eq_true, decide_eq_true_eq] at h
      rcases h with h | h | h
      · exact .inl h
      · exact .inr ⟨e, by simp, .inl h⟩
      · exact .inr ⟨e, by simp, .inr h⟩
    · exact .inr ⟨e', by simp [he'], h⟩

def slotsOf (o : Oper) : List Nat := o.op.operands.toList.filterMap fun | .tmp t => some t | _ => none

def drawStatic (ops : List Oper) : Bool :=
  let A := ancs ops []
  (ops.zipIdx.all fun (o, i) => ((bnds o).all fun e => decide (e.on < i)) &&
    (match o.guard with
      | none => true
      | some (j, _) => (A.getD i 0).testBit j)) &&
  (ops.zipIdx.all fun (o, i) => ops.zipIdx.all fun (p, j) => decide (i = j) ||
    ((match o.dst, p.dst with
      | some d, some d' => decide (d ≠ d')
      | _, _ => true) &&
     ((slotsOf o).all fun t => !(p.dst == some t) || (A.getD i 0).testBit j || (A.getD j 0).testBit i) &&
     (!(isEff o.op && isEff p.op && decide (i < j)) || (A.getD j 0).testBit i)))

structure Static (ops : List Oper) : Prop where
  edge : ∀ (i : Nat) (o : Oper), ops[i]? = some o → ∀ e ∈ bnds o, e.on < i
  guard : ∀ (i : Nat) (o : Oper) (j : Nat) (b : Bool), ops[i]? = some o → o.guard = some (j, b) → ((ancs ops []).getD i 0).testBit j = true
  dst : ∀ (i j : Nat) (o p : Oper) (d d' : Nat), ops[i]? = some o → ops[j]? = some p → i ≠ j → o.dst = some d → p.dst = some d' → d ≠ d'
  slot : ∀ (i j : Nat) (o p : Oper) (t : Nat), ops[i]? = some o → ops[j]? = some p → i ≠ j → t ∈ slotsOf o → p.dst = some t → ((ancs ops []).getD i 0).testBit j = true ∨ ((ancs ops []).getD j 0).testBit i = true
  eff : ∀ (i j : Nat) (o p : Oper), ops[i]? = some o → ops[j]? = some p → i < j → isEff o.op = true → isEff p.op = true → ((ancs ops []).getD j 0).testBit i = true

theorem mem_zip {ops : List Oper} {i : Nat} {o : Oper} (h : ops[i]? = some o) : (o, i) ∈ ops.zipIdx := by
  rw [List.mk_mem_zipIdx_iff_getElem?]; exact h

theorem static_of {ops : List Oper} (h : drawStatic ops = true) : Static ops := by
  unfold drawStatic at h
  simp only [Bool.and_eq_true, List.all_eq_true] at h
  obtain ⟨h1, h2⟩ := h
  refine ⟨?_, ?_, ?_, ?_, ?_⟩
  · intro i o ho e he
    have := (h1 (o, i) (mem_zip ho)).1 e he
    simpa using this
  · intro i o j b ho hg
    have := (h1 (o, i) (mem_zip ho)).2
    simp only [hg] at this
    exact this
  · intro i j o p d d' ho hp hij hd hd'
    have := h2 (o, i) (mem_zip ho) (p, j) (mem_zip hp)
    simp only [Bool.or_eq_true, decide_eq_true_eq, hij, false_or, Bool.and_eq_true] at this
    have := this.1.1
    simp only [hd, hd'] at this
    simpa using this
  · intro i j o p t ho hp hij ht hd
    have := h2 (o, i) (mem_zip ho) (p, j) (mem_zip hp)
    simp only [Bool.or_eq_true, decide_eq_true_eq, hij, false_or, Bool.and_eq_true, List.all_eq_true] at this
    have := this.1.2 t ht
    simp only [hd] at this
    simpa using this
  · intro i j o p ho hp hij e1 e2
    have := h2 (o, i) (mem_zip ho) (p, j) (mem_zip hp)
    simp only [Bool.or_eq_true, decide_eq_true_eq, Nat.ne_of_lt hij, false_or, Bool.and_eq_true] at this
    have := this.2
    simp only [e1, e2, hij] at this
    simpa using this

/-- What is closed downward holds all that stands ahead. -/
theorem anc_closed {ops : List Oper} (hs : Static ops) {S : Nat → Prop} (hS : ∀ i o, S i → ops[i]? = some o → ∀ e ∈ bnds o, S e.on) :
    ∀ (n i : Nat) (o : Oper), i < n → ops[i]? = some o → (∀ e ∈ bnds o, S e.on) → ∀ j, ((ancs ops []).getD i 0).testBit j = true → S j := by
  intro n
  induction n with
  | zero => intro i o hi; omega
  | succ n ih =>
    intro i o hi ho hd j hj
    obtain ⟨pre, h1, h2, h3⟩ := ancs_at ops [] i o ho
    simp only [List.length_nil, Nat.zero_add] at h1 h2
    rw [h1] at hj
    unfold maskOf at hj
    rcases testBit_fold _ j _ _ hj with h | ⟨e, he, h⟩
    · simp at h
    · have he' : e ∈ bnds o := he
      have hlt := hs.edge i o ho e he'
      rcases h with rfl | h
      · exact hd e he'
      · rw [h3 _ (by omega)] at h
        have hse := hd e he'
        have hlen : e.on < ops.length := by
          have := (List.getElem?_eq_some_iff.1 ho).1; omega
        exact ih e.on ops[e.on] (by omega) (List.getElem?_eq_getElem hlen) (fun e' he' => hS e.on _ hse (List.getElem?_eq_getElem hlen) e' he') j h

/-! ### the run itself -/
def addNews (l : List DS) (p : Nat) (H : Heap) : Heap :=
  (l.drop p).foldl (fun H d => match d.k with | .new ob => H.put d.s.nx (some ob) | _ => H) H

def effIdx (l : List DS) : List Nat := l.zipIdx.filterMap fun (d, i) => match d.k with | .eff => some i | _ => none

def allowed (A effs : List Nat) (i p : Nat) : Bool := effs.all fun e => if e < p then !(A.getD e 0).testBit i else !(A.getD i 0).testBit e

def readOK (C : Cx) (A : List Nat) (l : List DS) (sN : St) (i : Nat) (o : Oper) (d : DS) : Bool :=
  (0 :: (effIdx l).map (· + 1)).all fun p =>
    !(allowed A (effIdx l) i p) ||
    match opA C (ev d.s.env) o.op (roAll (addNews l p (stAt l sN p).H)) sN.nx with
    | some (v, _, nx') => decide (nx' = sN.nx) && AV.eqB v d.v
    | none => false

def runDraw (C : Cx) (call : CallF) (nt : Nat) (ops : Array Oper) (s : St) : Option St :=
  match txRun C call nt ops ops.toList s with
  | none => none
  | some (l, sN) =>
    if (ops.toList.zip l).zipIdx.all fun ((o, d), i) =>
      match d.k with
      | .read => readOK C (ancs ops.toList []) l sN i o d
      | _ => true
    then some sN else none

theorem opA_congr {C : Cx} {ρ ρ' : Operand → AV} {o : Op} (h : ∀ x ∈ o.operands, ρ x = ρ' x) (H : Heap) (nx : Nat) : opA C ρ o H nx = opA C ρ' o H nx := by
  have hmap : ∀ (xs : List Operand), (∀ x ∈ xs, ρ x = ρ' x) → xs.map ρ = xs.map ρ' := fun xs hx => List.map_congr_left hx
  have hparts : ∀ (ps : List (Nat × Operand)), (∀ p ∈ ps, ρ p.2 = ρ' p.2) → partsA ρ ps = partsA ρ' ps := fun ps hx => List.map_congr_left (fun p hp => by rw [hx p hp])
  have hopt : ∀ r : Option Operand, (∀ x ∈ r.toArray.toList, ρ x = ρ' x) → r.map ρ = r.map ρ' := by
    intro r hr
    cases r with
    | none => rfl
    | some x => simp at hr; simp [hr]
  unfold opA
  split <;> simp only [Op.operands, Call.operands, List.mem_toArray, Array.mem_append, Array.mem_def, List.mem_map, Option.mem_toArray, List.mem_cons, List.not_mem_nil, or_false, List.toList_toArray, Array.toList_append, List.mem_append] at h
  all_goals first
    | rfl
    | (rw [h _ rfl]; done)
    | (rw [h _ (.inl rfl), h _ (.inr rfl)]; done)
    | (rw [h _ (.inl rfl), h _ (.inr (.inl rfl)), h _ (.inr (.inr rfl))]; done)
    | (rw [hparts _ (fun p hp => h _ ⟨p, hp, rfl⟩)]; done)
    | (rw [hmap _ (fun x hx => h x (.inl hx)), hmap _ (fun x hx => h x (.inr hx))]; done)
    | (rw [hopt _ h]; done)
    | (rw [h _ (.inl (.inl (.inl rfl))), hopt _ (fun x hx => h x (.inl (.inl (.inr hx)))), hopt _ (fun x hx => h x (.inl (.inr hx))), hopt _ (fun x hx => h x (.inr hx))]; done)
    | (rw [hmap _ (fun x hx => h x (.inr hx))]; done)
end CI
