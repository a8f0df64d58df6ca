/- A region whose order is drawn: first what makes blocks, then what reads, then one effect, then nothing that reads. -/
import Derived.Test.YtbdlpeldglggkaaGreatDoorCn
set_option linter.unusedVariables false
set_option linter.unusedSimpArgs false
noncomputable section
namespace CI
open Go

/-- The phase behind an operation: 0 blocks are made, 1 memory is read, 2 it was changed. -/
def nextPh : Nat → K → AV → Option Nat
  | 2, .still, _ => some 2
  | 2, .skip, _ => some 2
  | 2, _, _ => none
  | n, .still, _ => some n
  | n, .skip, _ => some n
  | 0, .new _, _ => some 0
  | _, .new _, _ => none
  | _, .read, v => if AV.eqB v v = true then some 1 else none
  | _, .eff, _ => some 2

def WQ (C : Cx) (nt : Nat) : Nat → List SOp → St → (St → Prop) → Prop
  | _, [], s, K => K s
  | ph, o :: rest, s, K =>
    match txS C (Cl C) o s.env s.H s.nx with
    | some (k, v, H', nx') =>
      match nextPh ph k v with
      | some ph' => match put? s.env nt o.dst v with
        | some E' => WQ C nt ph' rest ⟨E', H', nx'⟩ K
        | none => False
      | none => False
    | none => False

/-- Whatever stands ahead of an effect, it stands behind. -/
def effOK (ops : Array Oper) : Bool :=
  (List.range ops.size).all fun e => (match (ops.toList[e]?).map (·.op) with
    | some op => !isEff op
    | none => true) || (List.range e).all fun i => ((ancs ops.toList []).getD e 0).testBit i || (match (ops.toList[i]?).map (·.op) with
    | some op => isEff op
    | none => false)

def stepK (H : Heap) (nx : Nat) : K → Heap
  | .new ob => H.put nx (some ob)
  | _ => H
def stepN (H : Heap) (d : DS) : Heap := stepK H d.s.nx d.k

theorem addNews_zero (l : List DS) (H : Heap) : addNews l 0 H = l.foldl stepN H := by
  unfold addNews
  rw [List.drop_zero]
  rfl

theorem stepN_none {l : List DS} {H : Heap} (h : ∀ d ∈ l, ∀ ob, d.k ≠ .new ob) : l.foldl stepN H = H := by
  induction l generalizing H with
  | nil => rfl
  | cons d l ih =>
    rw [List.foldl_cons, ih fun d hd => h d (List.mem_cons_of_mem _ hd)]
    unfold stepN stepK
    split
    · rename_i ob hk; exact absurd hk (h d (by simp) ob)
    · rfl

theorem tx1_shape {C : Cx} {call : CallF} {ops : Array Oper} {o : Oper} {s : St} {k : K} {v : AV} {H' : Heap} {nx' : Nat} (h : tx1 C call ops o s = some (k, v, H', nx')) :
    match k with
    | .new ob => H' = s.H.put s.nx (some ob)
    | .eff => isEff o.op = true
    | _ => H' = s.H ∧ nx' = s.nx := by
  unfold tx1 at h
  split at h
  · split at h
    · rename_i hi
      split at h
      · split at h
        · simp only [Option.some.injEq, Prod.mk.injEq] at h
          obtain ⟨rfl, _⟩ := h
          exact hi
        · cases h
      · cases h
    · split at h
      · split at h
        · simp only [Option.some.injEq, Prod.mk.injEq] at h
          obtain ⟨rfl, _, rfl, rfl⟩ := h
          exact ⟨rfl, rfl⟩
        · split at h
          · split at h
            · simp only [Option.some.injEq, Prod.mk.injEq] at h
              obtain ⟨rfl, _, rfl, rfl⟩ := h
              rfl
            · cases h
          · cases h
      · split at h
        · split at h
          · simp only [Option.some.injEq, Prod.mk.injEq] at h
            obtain ⟨rfl, _, rfl, rfl⟩ := h
            exact ⟨rfl, rfl⟩
          · cases h
        · cases h
  · simp only [Option.some.injEq, Prod.mk.injEq] at h
    obtain ⟨rfl, _, rfl, rfl⟩ := h
    exact ⟨rfl, rfl⟩

theorem WQ_run {C : Cx} {nt : Nat} {ops : Array Oper} {K : St → Prop} : ∀ (l : List Oper) (ph : Nat) (s : St), WQ C nt ph (l.map (stripO ops)) s K →
    ∃ ds sN, txRun C (Cl C) nt ops l s = some (ds, sN) ∧ K sN ∧ ds.length = l.length ∧
      (∀ (i : Nat) (d : DS), ds[i]? = some d → ∃ (o : Oper) (H' : Heap) (nx' : Nat), l[i]? = some o ∧ tx1 C (Cl C) ops o d.s = some (d.k, d.v, H', nx')) ∧
      (∀ (i : Nat) (d : DS), ds[i]? = some d → d.k = .read → AV.eqB d.v d.v = true ∧ d.s.H = ds.foldl stepN s.H ∧ ∀ (j : Nat) (d' : DS), j < i → ds[j]? = some d' → d'.k ≠ .eff) ∧
      (1 ≤ ph → ∀ d : DS, d ∈ ds → ∀ ob, d.k ≠ .new ob) ∧ (ph = 2 → ∀ d : DS, d ∈ ds → d.k ≠ .read ∧ d.k ≠ .eff)
  | [], ph, s, h => ⟨[], s, rfl, h, rfl, by simp, by simp, by simp, by simp⟩
  | o :: rest, ph, s, h => by
    simp only [List.map_cons, WQ] at h
    split at h
    · rename_i k v H' nx' hk
      split at h
      · rename_i ph' hph
        split at h
        · rename_i E' hE
          have hk' : tx1 C (Cl C) ops o s = some (k, v, H', nx') := by rw [txS_eq]; exact hk
          obtain ⟨ds, sN, r1, r2, r3, r4, r5, r6, r7⟩ := WQ_run rest ph' ⟨E', H', nx'⟩ h
          have sh := tx1_shape hk'
          refine ⟨⟨k, v, s⟩ :: ds, sN, ?_, r2, by simp [r3], ?_, ?_, ?_, ?_⟩
          · have : put? s.env nt o.dst v = some E' := hE
            rw [txRun, hk']
            simp only
            rw [this]
            simp only
            rw [r1]
          · intro i d hd
            cases i with
            | zero => simp at hd; subst hd; exact ⟨o, H', nx', rfl, hk'⟩
            | succ i => exact r4 i d (by simpa using hd)
          · intro i d hd hr
            have hstep : stepN s.H ⟨k, v, s⟩ = stepK s.H s.nx k := rfl
            cases i with
            | zero =>
              simp at hd; subst hd
              simp only at hr; subst hr
              simp only [List.foldl_cons]
              have hp1 : AV.eqB v v = true ∧ 1 ≤ ph' := by
                unfold nextPh at hph
                split at hph <;> simp_all <;> (obtain ⟨_, rfl⟩ := hph; simp)
              refine ⟨hp1.1, ?_, fun j d' hj => absurd hj (Nat.not_lt_zero j)⟩
              rw [hstep, stepN_none (r6 hp1.2)]
              rfl
            | succ i =>
              simp only [List.getElem?_cons_succ] at hd
              obtain ⟨q1, q2, q3⟩ := r5 i d hd hr
              have hne : k ≠ .eff := by
                intro e; subst e
                have : ph' = 2 := by
                  unfold nextPh at hph
                  split at hph <;> simp_all
                exact (r7 this d (List.mem_of_getElem? hd)).1 hr
              refine ⟨q1, ?_, ?_⟩
              · rw [List.foldl_cons, hstep, q2]
                cases k with
                | new ob => simp only [stepK] at sh ⊢; rw [sh]
                | eff => exact absurd rfl hne
                | _ => simp only [stepK] at sh ⊢; rw [sh.1]
              · intro j d' hj hd'
                cases j with
                | zero => simp at hd'; subst hd'; exact hne
                | succ j => exact q3 j d' (by omega) (by simpa using hd')
          · intro h1 d hd ob he
            have hk0 : (∀ ob, k ≠ .new ob) ∧ 1 ≤ ph' := by
              unfold nextPh at hph
              split at hph <;> simp_all <;> first
                | omega
                | (obtain ⟨_, rfl⟩ := hph; omega)
                | (subst hph; omega)
            rcases List.mem_cons.1 hd with rfl | hd
            · exact hk0.1 ob he
            · exact r6 hk0.2 d hd ob he
          · intro h2 d hd
            subst h2
            have hk0 : k ≠ .read ∧ k ≠ .eff ∧ ph' = 2 := by
              cases k <;> simp_all [nextPh]
            rcases List.mem_cons.1 hd with rfl | hd
            · exact ⟨hk0.1, hk0.2.1⟩
            · exact r7 hk0.2.2 d hd
        · cases h
      · cases h
    · cases h

theorem convA_nx {P : Program} {T : Tr TInfo} {H X : Heap} {nx : Nat} {s d : TypeId} {x v : AV} (h : convA P T H nx s d x = some (v, X, nx)) (n : Nat) : ∃ X', convA P T H n s d x = some (v, X', n) := by
  have e : convOp P T H nx s d x = none → convOp P T H n s d x = none := by
    unfold convOp
    intro h
    split at h
    · cases h
    · repeat' split at h
      all_goals first
        | rfl
        | (cases h; done)
        | simp_all
  unfold convA at h ⊢
  split at h
  · rename_i r hr
    injection h with h; subst h
    unfold convOp at hr ⊢
    split at hr
    · simp only [Option.some.injEq, Prod.mk.injEq] at hr
      obtain ⟨rfl, rfl, _⟩ := hr
      exact ⟨_, rfl⟩
    · split at hr
      · split at hr
        · simp only [Option.map_eq_some_iff, Prod.mk.injEq] at hr
          obtain ⟨ns, hns, rfl, rfl, _⟩ := hr
          rw [hns]
          exact ⟨_, rfl⟩
        · cases hr
      · split at hr
        · simp only [Option.some.injEq, Prod.mk.injEq] at hr; omega
        · cases hr
      · cases hr
  · rename_i hr
    rw [e hr]
    simp only [Option.map_eq_some_iff, Prod.mk.injEq] at h
    obtain ⟨u, hu, rfl, rfl, _⟩ := h
    rw [hu]
    exact ⟨_, rfl⟩
theorem opA_nx {C : Cx} {ρ : Operand → AV} {o : Op} {H X : Heap} {nx : Nat} {v : AV} (he : isEff o = false) (h : opA C ρ o H nx = some (v, X, nx)) (n : Nat) : ∃ X', opA C ρ o H n = some (v, X', n) := by
  have mp : ∀ {p : Option AV}, (p.map fun v => (v, H, nx)) = some (v, X, nx) → ∃ X', (p.map fun v => (v, H, n)) = some (v, X', n) := by
    intro p hp
    simp only [Option.map_eq_some_iff, Prod.mk.injEq] at hp
    obtain ⟨u, rfl, rfl, _, _⟩ := hp
    exact ⟨H, rfl⟩
  unfold opA at h ⊢
  split at h
  · simp only [Option.some.injEq, Prod.mk.injEq] at h; obtain ⟨rfl, rfl, _⟩ := h; exact ⟨_, rfl⟩
  · simp only [Option.some.injEq, Prod.mk.injEq] at h; obtain ⟨rfl, rfl, _⟩ := h; exact ⟨_, rfl⟩
  · rename_i c a b
    split at h
    · rename_i t ht
      simp only [Option.some.injEq, Prod.mk.injEq] at h
      obtain ⟨rfl, rfl, _⟩ := h
      exact ⟨H, rfl⟩
    · cases h
  · unfold allocOp allocA at h; split at h
    · simp only [Option.some.injEq, Prod.mk.injEq] at h; omega
    · cases h
  · unfold boxOp allocA at h
    simp only [Option.some.injEq, Prod.mk.injEq] at h; omega
  · exact mp h
  · unfold buildSliceOp at h
    repeat' split at h
    all_goals first
      | (cases h; done)
      | (simp only [Option.some.injEq, Prod.mk.injEq] at h; omega)
  · exact mp h
  · simp [isEff] at he
  · exact mp h
  · exact mp h
  · exact mp h
  · exact convA_nx h n
  · exact mp h
  · simp only [Option.some.injEq, Prod.mk.injEq] at h; obtain ⟨rfl, rfl, _⟩ := h; exact ⟨_, rfl⟩
  · unfold makeMapOp at h
    repeat' split at h
    all_goals first
      | (cases h; done)
      | (simp only [Option.some.injEq, Prod.mk.injEq] at h; omega)
  · unfold makeSliceOp at h
    repeat' split at h
    all_goals first
      | (cases h; done)
      | (simp only [Option.some.injEq, Prod.mk.injEq] at h; omega)
  · exact mp h
  · exact mp h
  · exact mp h
  · exact mp h
  · exact mp h
  · exact mp h
  · exact mp h
  · simp [isEff] at he
  · simp [isEff] at he
  · rename_i b xs ts
    have mpn : ∀ {p : Option Nat}, (p.map fun (k : Nat) => ((.lit (.int .i64 k) : AV), H, nx)) = some (v, X, nx) → ∃ X', (p.map fun (k : Nat) => ((.lit (.int .i64 k) : AV), H, n)) = some (v, X', n) := by
      intro p hp
      simp only [Option.map_eq_some_iff, Prod.mk.injEq] at hp
      obtain ⟨u, rfl, rfl, _, _⟩ := hp
      exact ⟨H, rfl⟩
    cases b
    all_goals try (exact Bool.noConfusion (show true = false from he))
    all_goals
      simp only [builtinA] at h ⊢
      first
        | exact mp h
        | (split at h <;> first | contradiction | exact mp h | exact mpn h | (cases h; done))
  · cases h

theorem runDraw_of2 {C : Cx} {nt : Nat} {ops : Array Oper} {s : St} {K : St → Prop} (hl : effOK ops = true) (h : WQ C nt 0 (ops.toList.map (stripO ops)) s K) :
    ∃ sN, runDraw C (Cl C) nt ops s = some sN ∧ K sN := by
  obtain ⟨ds, sN, h1, h2, h3, h4, h5, _, _⟩ := WQ_run ops.toList 0 s h
  refine ⟨sN, ?_, h2⟩
  unfold runDraw
  rw [h1]
  simp only
  rw [if_pos]
  rw [List.all_eq_true]
  rintro ⟨⟨o, d⟩, i⟩ hm
  simp only
  split
  · rename_i hk
    have hz := List.mem_zipIdx hm
    simp only [Nat.zero_add, Nat.sub_zero] at hz
    obtain ⟨_, hi, hoe⟩ := hz
    have hod : ops.toList[i]? = some o ∧ ds[i]? = some d := by
      have : (ops.toList.zip ds)[i]? = some (o, d) := by rw [List.getElem?_eq_getElem (by omega), ← hoe]
      rw [List.getElem?_zip_eq_some] at this
      exact this
    obtain ⟨o', H', nx', ho', ht⟩ := h4 i d hod.2
    rw [hod.1] at ho'
    injection ho' with ho'
    subst ho'
    obtain ⟨hv, hH, hne⟩ := h5 i d hod.2 hk
    rw [hk] at ht
    obtain ⟨hne2, X, hX⟩ := tx1_read ht
    unfold readOK
    rw [List.all_eq_true]
    intro p hp
    rw [Bool.or_eq_true]
    rw [List.mem_cons] at hp
    have hs0 : (stAt ds sN 0).H = s.H := by rw [txRun_first h1]
    rcases hp with rfl | hp
    · right
      rw [addNews_zero, hs0, ← hH]
      obtain ⟨X', hX'⟩ := opA_nx hne2 hX sN.nx
      rw [hX']
      simp [hv]
    · left
      obtain ⟨q1, q2, q3⟩ := effIdx_lt hp
      have hpe : p - 1 < ds.length := by omega
      have hek : (ds[p - 1]'hpe).k = .eff := by
        unfold effIdx at q3
        simp only [List.mem_filterMap] at q3
        obtain ⟨⟨d', j⟩, hd', hj⟩ := q3
        have hz := List.mem_zipIdx hd'
        simp only [Nat.zero_add, Nat.sub_zero] at hz
        obtain ⟨_, hj2, hde⟩ := hz
        simp only at hj
        split at hj
        · rename_i hk'
          injection hj with hj; subst hj
          rw [← hde]; exact hk'
        · cases hj
      have hlt : i < p - 1 := by
        rcases Nat.lt_trichotomy i (p - 1) with h | h | h
        · exact h
        · subst h
          have : d = ds[p - 1] := by
            have := hod.2; rw [List.getElem?_eq_getElem hpe] at this; injection this with this; exact this.symm
          rw [← this, hk] at hek; cases hek
        · exact absurd hek (hne (p - 1) _ h (List.getElem?_eq_getElem hpe))
      obtain ⟨oe, He, ne, hoe2, hte⟩ := h4 (p - 1) _ (List.getElem?_eq_getElem hpe)
      rw [hek] at hte
      have heff := tx1_shape hte
      simp only at heff
      have hA : ((ancs ops.toList []).getD (p - 1) 0).testBit i = true := by
        unfold effOK at hl
        rw [List.all_eq_true] at hl
        have := hl (p - 1) (by
          simp only [List.mem_range]
          have : ops.toList.length = ops.size := by simp
          omega)
        rw [hoe2] at this
        simp only [Option.map_some, heff, Bool.not_true, Bool.false_or, List.all_eq_true, List.mem_range] at this
        have := this i hlt
        rw [Bool.or_eq_true] at this
        rcases this with h | h
        · exact h
        · rw [hod.1] at h
          simp only [Option.map_some] at h
          rw [hne2] at h; cases h
      simp only [Bool.not_eq_true']
      unfold allowed
      rw [← Bool.not_eq_true, List.all_eq_true]
      intro hall
      have := hall _ q3
      rw [if_pos (by omega), hA] at this
      cases this
  · rfl
theorem wpS_draw2 {C : Cx} {nt : Nat} {ops : Array Oper} {so : List SOp} {s : St} {Q : Ex → St → Prop} (hl : effOK ops = true) (hs : ops.toList.map (stripO ops) = so) (h : WQ C nt 0 so s (Q .normal)) :
    wpS C nt (.draw ops) s Q := by
  subst hs
  obtain ⟨sN, h1, h2⟩ := runDraw_of2 hl h
  simp only [wpS, h1]
  exact h2

/-! ### for simp -/
theorem WQ_nil {C : Cx} {nt ph : Nat} {s : St} {K : St → Prop} : WQ C nt ph [] s K = K s := rfl
theorem WQ_cons {C : Cx} {nt ph : Nat} {o : SOp} {rest : List SOp} {E : Tr AV} {H : Heap} {nx : Nat} {K : St → Prop} : WQ C nt ph (o :: rest) ⟨E, H, nx⟩ K =
    match txS C (Cl C) o E H nx with
    | some (k, v, H', nx') =>
      match nextPh ph k v with
      | some ph' => match put? E nt o.dst v with
        | some E' => WQ C nt ph' rest ⟨E', H', nx'⟩ K
        | none => False
      | none => False
    | none => False := rfl
@[congr] theorem WQ_congr {C : Cx} {nt ph : Nat} {l : List SOp} {s s' : St} {K : St → Prop} (h : s = s') : WQ C nt ph l s K = WQ C nt ph l s' K := by rw [h]
theorem ph0_still (v : AV) : nextPh 0 .still v = some 0 := rfl
theorem ph0_skip (v : AV) : nextPh 0 .skip v = some 0 := rfl
theorem ph0_new (ob : AObj) (v : AV) : nextPh 0 (.new ob) v = some 0 := rfl
theorem ph0_read (v : AV) : nextPh 0 .read v = if AV.eqB v v = true then some 1 else none := rfl
theorem ph0_eff (v : AV) : nextPh 0 .eff v = some 2 := rfl
theorem ph1_still (v : AV) : nextPh 1 .still v = some 1 := rfl
theorem ph1_skip (v : AV) : nextPh 1 .skip v = some 1 := rfl
theorem ph1_read (v : AV) : nextPh 1 .read v = if AV.eqB v v = true then some 1 else none := rfl
theorem ph1_eff (v : AV) : nextPh 1 .eff v = some 2 := rfl
theorem ph2_still (v : AV) : nextPh 2 .still v = some 2 := rfl
theorem ph2_skip (v : AV) : nextPh 2 .skip v = some 2 := rfl
theorem eqB_str (s : ByteArray) : AV.eqB (.lit (.string s)) (.lit (.string s)) = true := by simp [AV.eqB, valEqB]
theorem eqB_bool (b : Bool) : AV.eqB (.lit (.bool b)) (.lit (.bool b)) = true := by simp [AV.eqB, valEqB]
theorem eqB_ptr (b o : Nat) : AV.eqB (.ptr b o) (.ptr b o) = true := by simp [AV.eqB]
theorem eqB_slice (b o n : Nat) (c : Option Nat) (e : Nat) : AV.eqB (.slice b o n c e) (.slice b o n c e) = true := by simp [AV.eqB]
theorem eqB_nils : AV.eqB (.lit (.slice none 0 0)) (.lit (.slice none 0 0)) = true := rfl
end CI
