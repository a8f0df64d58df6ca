/- Parts of the proof: Cq Cr Cwg Cwh Al Cit Cml Cmk. -/
import Derived.Test.YtanfejbkoheblaaGreatDoorSuM2
import Derived.Maps.RangeRun
set_option linter.unusedVariables false
set_option linter.unusedSimpArgs false
noncomputable section
namespace CI
open Go
def nextPh : Nat → K → AV → Option Nat
  | 2, .still, _ => some 2
  | 2, .skip, _ => some 2
  | 2, _, _ => none
  | n, .still, _ => some n
  | n, .skip, _ => some n
  | 0, .new _, _ => some 0
  | _, .new _, _ => none
  | _, .read, v => if AV.eqB v v = true then some 1 else none
  | _, .eff, _ => some 2
def WQ (C : Cx) (nt : Nat) : Nat → List SOp → St → (St → Prop) → Prop
  | _, [], s, K => K s
  | ph, o :: rest, s, K =>
    match txS C (Cl C) o s.env s.H s.nx with
    | some (k, v, H', nx') =>
      match nextPh ph k v with
      | some ph' => match put? s.env nt o.dst v with
        | some E' => WQ C nt ph' rest ⟨E', H', nx'⟩ K
        | none => False
      | none => False
    | none => False
def effOK (ops : Array Oper) : Bool :=
  (List.range ops.size).all fun e => (match (ops.toList[e]?).map (·.op) with
    | some op => !isEff op
    | none => true) || (List.range e).all fun i => ((ancs ops.toList []).getD e 0).testBit i || (match (ops.toList[i]?).map (·.op) with
    | some op => isEff op
    | none => false)
def stepK (H : Heap) (nx : Nat) : K → Heap
  | .new ob => H.put nx (some ob)
  | _ => H
def stepN (H : Heap) (d : DS) : Heap := stepK H d.s.nx d.k
theorem addNews_zero (l : List DS) (H : Heap) : addNews l 0 H = l.foldl stepN H := by
  unfold addNews
  rw [List.drop_zero]
  rfl
theorem stepN_none {l : List DS} {H : Heap} (h : ∀ d ∈ l, ∀ ob, d.k ≠ .new ob) : l.foldl stepN H = H := by
  induction l generalizing H with
  | nil => rfl
  | cons d l ih =>
    rw [List.foldl_cons, ih fun d hd => h d (List.mem_cons_of_mem _ hd)]
    unfold stepN stepK
    split
    · rename_i ob hk; exact absurd hk (h d (by simp) ob)
    · rfl
theorem tx1_shape {C : Cx} {call : CallF} {ops : Array Oper} {o : Oper} {s : St} {k : K} {v : AV} {H' : Heap} {nx' : Nat} (h : tx1 C call ops o s = some (k, v, H', nx')) :
    match k with
    | .new ob => H' = s.H.put s.nx (some ob)
    | .eff => isEff o.op = true
    | _ => H' = s.H ∧ nx' = s.nx := by
  unfold tx1 at h
  split at h
  · split at h
    · rename_i hi
      split at h
      · split at h
        · simp only [Option.some.injEq, Prod.mk.injEq] at h
          obtain ⟨rfl, _⟩ := h
          exact hi
        · cases h
      · cases h
    · split at h
      · split at h
        · simp only [Option.some.injEq, Prod.mk.injEq] at h
          obtain ⟨rfl, _, rfl, rfl⟩ := h
          exact ⟨rfl, rfl⟩
        · split at h
          · split at h
            · simp only [Option.some.injEq, Prod.mk.injEq] at h
              obtain ⟨rfl, _, rfl, rfl⟩ := h
              rfl
            · cases h
          · cases h
      · split at h
        · split at h
          · simp only [Option.some.injEq, Prod.mk.injEq] at h
            obtain ⟨rfl, _, rfl, rfl⟩ := h
            exact ⟨rfl, rfl⟩
          · cases h
        · cases h
  · simp only [Option.some.injEq, Prod.mk.injEq] at h
    obtain ⟨rfl, _, rfl, rfl⟩ := h
    exact ⟨rfl, rfl⟩
theorem WQ_run {C : Cx} {nt : Nat} {ops : Array Oper} {K : St → Prop} : ∀ (l : List Oper) (ph : Nat) (s : St), WQ C nt ph (l.map (stripO ops)) s K →
    ∃ ds sN, txRun C (Cl C) nt ops l s = some (ds, sN) ∧ K sN ∧ ds.length = l.length ∧
      (∀ (i : Nat) (d : DS), ds[i]? = some d → ∃ (o : Oper) (H' : Heap) (nx' : Nat), l[i]? = some o ∧ tx1 C (Cl C) ops o d.s = some (d.k, d.v, H', nx')) ∧
      (∀ (i : Nat) (d : DS), ds[i]? = some d → d.k = .read → AV.eqB d.v d.v = true ∧ d.s.H = ds.foldl stepN s.H ∧ ∀ (j : Nat) (d' : DS), j < i → ds[j]? = some d' → d'.k ≠ .eff) ∧
      (1 ≤ ph → ∀ d : DS, d ∈ ds → ∀ ob, d.k ≠ .new ob) ∧ (ph = 2 → ∀ d : DS, d ∈ ds → d.k ≠ .read ∧ d.k ≠ .eff)
  | [], ph, s, h => ⟨[], s, rfl, h, rfl, by simp, by simp, by simp, by simp⟩
  | o :: rest, ph, s, h => by
    simp only [List.map_cons, WQ] at h
    split at h
    · rename_i k v H' nx' hk
      split at h
      · rename_i ph' hph
        split at h
        · rename_i E' hE
          have hk' : tx1 C (Cl C) ops o s = some (k, v, H', nx') := by rw [txS_eq]; exact hk
          obtain ⟨ds, sN, r1, r2, r3, r4, r5, r6, r7⟩ := WQ_run rest ph' ⟨E', H', nx'⟩ h
          have sh := tx1_shape hk'
          refine ⟨⟨k, v, s⟩ :: ds, sN, ?_, r2, by simp [r3], ?_, ?_, ?_, ?_⟩
          · have : put? s.env nt o.dst v = some E' := hE
            rw [txRun, hk']
            simp only
            rw [this]
            simp only
            rw [r1]
          · intro i d hd
            cases i with
            | zero => simp at hd; subst hd; exact ⟨o, H', nx', rfl, hk'⟩
            | succ i => exact r4 i d (by simpa using hd)
          · intro i d hd hr
            have hstep : stepN s.H ⟨k, v, s⟩ = stepK s.H s.nx k := rfl
            cases i with
            | zero =>
              simp at hd; subst hd
              simp only at hr; subst hr
              simp only [List.foldl_cons]
              have hp1 : AV.eqB v v = true ∧ 1 ≤ ph' := by
                unfold nextPh at hph
                split at hph <;> simp_all <;> (obtain ⟨_, rfl⟩ := hph; simp)
              refine ⟨hp1.1, ?_, fun j d' hj => absurd hj (Nat.not_lt_zero j)⟩
              rw [hstep, stepN_none (r6 hp1.2)]
              rfl
            | succ i =>
              simp only [List.getElem?_cons_succ] at hd
              obtain ⟨q1, q2, q3⟩ := r5 i d hd hr
              have hne : k ≠ .eff := by
                intro e; subst e
                have : ph' = 2 := by
                  unfold nextPh at hph
                  split at hph <;> simp_all
                exact (r7 this d (List.mem_of_getElem? hd)).1 hr
              refine ⟨q1, ?_, ?_⟩
              · rw [List.foldl_cons, hstep, q2]
                cases k with
                | new ob => simp only [stepK] at sh ⊢; rw [sh]
                | eff => exact absurd rfl hne
                | _ => simp only [stepK] at sh ⊢; rw [sh.1]
              · intro j d' hj hd'
                cases j with
                | zero => simp at hd'; subst hd'; exact hne
                | succ j => exact q3 j d' (by omega) (by simpa using hd')
          · intro h1 d hd ob he
            have hk0 : (∀ ob, k ≠ .new ob) ∧ 1 ≤ ph' := by
              unfold nextPh at hph
              split at hph <;> simp_all <;> first
                | omega
                | (obtain ⟨_, rfl⟩ := hph; omega)
                | (subst hph; omega)
            rcases List.mem_cons.1 hd with rfl | hd
            · exact hk0.1 ob he
            · exact r6 hk0.2 d hd ob he
          · intro h2 d hd
            subst h2
            have hk0 : k ≠ .read ∧ k ≠ .eff ∧ ph' = 2 := by
              cases k <;> simp_all [nextPh]
            rcases List.mem_cons.1 hd with rfl | hd
            · exact ⟨hk0.1, hk0.2.1⟩
            · exact r7 hk0.2.2 d hd
        · cases h
      · cases h
    · cases h
theorem convA_nx {P : Program} {T : Tr TInfo} {H X : Heap} {nx : Nat} {s d : TypeId} {x v : AV} (h : convA P T H nx s d x = some (v, X, nx)) (n : Nat) : ∃ X', convA P T H n s d x = some (v, X', n) := by
  have e : convOp P T H nx s d x = none → convOp P T H n s d x = none := by
    unfold convOp
    intro h
    split at h
    · cases h
    · repeat' split at h
      all_goals first
        | rfl
        | (cases h; done)
        | simp_all
  unfold convA at h ⊢
  split at h
  · rename_i r hr
    injection h with h; subst h
    unfold convOp at hr ⊢
    split at hr
    · simp only [Option.some.injEq, Prod.mk.injEq] at hr
      obtain ⟨rfl, rfl, _⟩ := hr
      exact ⟨_, rfl⟩
    · split at hr
      · split at hr
        · simp only [Option.map_eq_some_iff, Prod.mk.injEq] at hr
          obtain ⟨ns, hns, rfl, rfl, _⟩ := hr
          rw [hns]
          exact ⟨_, rfl⟩
        · cases hr
      · split at hr
        · simp only [Option.some.injEq, Prod.mk.injEq] at hr; omega
        · cases hr
      · cases hr
  · rename_i hr
    rw [e hr]
    simp only [Option.map_eq_some_iff, Prod.mk.injEq] at h
    obtain ⟨u, hu, rfl, rfl, _⟩ := h
    rw [hu]
    exact ⟨_, rfl⟩
theorem opA_nx {C : Cx} {ρ : Operand → AV} {o : Op} {H X : Heap} {nx : Nat} {v : AV} (he : isEff o = false) (h : opA C ρ o H nx = some (v, X, nx)) (n : Nat) : ∃ X', opA C ρ o H n = some (v, X', n) := by
  have mp : ∀ {p : Option AV}, (p.map fun v => (v, H, nx)) = some (v, X, nx) → ∃ X', (p.map fun v => (v, H, n)) = some (v, X', n) := by
    intro p hp
    simp only [Option.map_eq_some_iff, Prod.mk.injEq] at hp
    obtain ⟨u, rfl, rfl, _, _⟩ := hp
    exact ⟨H, rfl⟩
  unfold opA at h ⊢
  split at h
  · simp only [Option.some.injEq, Prod.mk.injEq] at h; obtain ⟨rfl, rfl, _⟩ := h; exact ⟨_, rfl⟩
  · simp only [Option.some.injEq, Prod.mk.injEq] at h; obtain ⟨rfl, rfl, _⟩ := h; exact ⟨_, rfl⟩
  · rename_i c a b
    split at h
    · rename_i t ht
      simp only [Option.some.injEq, Prod.mk.injEq] at h
      obtain ⟨rfl, rfl, _⟩ := h
      exact ⟨H, rfl⟩
    · cases h
  · unfold allocOp allocA at h; split at h
    · simp only [Option.some.injEq, Prod.mk.injEq] at h; omega
    · cases h
  · unfold boxOp allocA at h
    simp only [Option.some.injEq, Prod.mk.injEq] at h; omega
  · exact mp h
  · unfold buildSliceOp at h
    repeat' split at h
    all_goals first
      | (cases h; done)
      | (simp only [Option.some.injEq, Prod.mk.injEq] at h; omega)
  · exact mp h
  · simp [isEff] at he
  · exact mp h
  · exact mp h
  · exact mp h
  · exact convA_nx h n
  · exact mp h
  · simp only [Option.some.injEq, Prod.mk.injEq] at h; obtain ⟨rfl, rfl, _⟩ := h; exact ⟨_, rfl⟩
  · unfold makeMapOp at h
    repeat' split at h
    all_goals first
      | (cases h; done)
      | (simp only [Option.some.injEq, Prod.mk.injEq] at h; omega)
  · unfold makeSliceOp at h
    repeat' split at h
    all_goals first
      | (cases h; done)
      | (simp only [Option.some.injEq, Prod.mk.injEq] at h; omega)
  · exact mp h
  · exact mp h
  · exact mp h
  · exact mp h
  · exact mp h
  · exact mp h
  · exact mp h
  · simp [isEff] at he
  · simp [isEff] at he
  · rename_i b xs ts
    have mpn : ∀ {p : Option Nat}, (p.map fun (k : Nat) => ((.lit (.int .i64 k) : AV), H, nx)) = some (v, X, nx) → ∃ X', (p.map fun (k : Nat) => ((.lit (.int .i64 k) : AV), H, n)) = some (v, X', n) := by
      intro p hp
      simp only [Option.map_eq_some_iff, Prod.mk.injEq] at hp
      obtain ⟨u, rfl, rfl, _, _⟩ := hp
      exact ⟨H, rfl⟩
    cases b
    all_goals try (exact Bool.noConfusion (show true = false from he))
    all_goals
      simp only [builtinA] at h ⊢
      first
        | exact mp h
        | (split at h <;> first | contradiction | exact mp h | exact mpn h | (cases h; done))
  · cases h
theorem runDraw_of2 {C : Cx} {nt : Nat} {ops : Array Oper} {s : St} {K : St → Prop} (hl : effOK ops = true) (h : WQ C nt 0 (ops.toList.map (stripO ops)) s K) :
    ∃ sN, runDraw C (Cl C) nt ops s = some sN ∧ K sN := by
  obtain ⟨ds, sN, h1, h2, h3, h4, h5, _, _⟩ := WQ_run ops.toList 0 s h
  refine ⟨sN, ?_, h2⟩
  unfold runDraw
  rw [h1]
  simp only
  rw [if_pos]
  rw [List.all_eq_true]
  rintro ⟨⟨o, d⟩, i⟩ hm
  simp only
  split
  · rename_i hk
    have hz := List.mem_zipIdx hm
    simp only [Nat.zero_add, Nat.sub_zero] at hz
    obtain ⟨_, hi, hoe⟩ := hz
    have hod : ops.toList[i]? = some o ∧ ds[i]? = some d := by
      have : (ops.toList.zip ds)[i]? = some (o, d) := by rw [List.getElem?_eq_getElem (by omega), ← hoe]
      rw [List.getElem?_zip_eq_some] at this
      exact this
    obtain ⟨o', H', nx', ho', ht⟩ := h4 i d hod.2
    rw [hod.1] at ho'
    injection ho' with ho'
    subst ho'
    obtain ⟨hv, hH, hne⟩ := h5 i d hod.2 hk
    rw [hk] at ht
    obtain ⟨hne2, X, hX⟩ := tx1_read ht
    unfold readOK
    rw [List.all_eq_true]
    intro p hp
    rw [Bool.or_eq_true]
    rw [List.mem_cons] at hp
    have hs0 : (stAt ds sN 0).H = s.H := by rw [txRun_first h1]
    rcases hp with rfl | hp
    · right
      rw [addNews_zero, hs0, ← hH]
      obtain ⟨X', hX'⟩ := opA_nx hne2 hX sN.nx
      rw [hX']
      simp [hv]
    · left
      obtain ⟨q1, q2, q3⟩ := effIdx_lt hp
      have hpe : p - 1 < ds.length := by omega
      have hek : (ds[p - 1]'hpe).k = .eff := by
        unfold effIdx at q3
        simp only [List.mem_filterMap] at q3
        obtain ⟨⟨d', j⟩, hd', hj⟩ := q3
        have hz := List.mem_zipIdx hd'
        simp only [Nat.zero_add, Nat.sub_zero] at hz
        obtain ⟨_, hj2, hde⟩ := hz
        simp only at hj
        split at hj
        · rename_i hk'
          injection hj with hj; subst hj
          rw [← hde]; exact hk'
        · cases hj
      have hlt : i < p - 1 := by
        rcases Nat.lt_trichotomy i (p - 1) with h | h | h
        · exact h
        · subst h
          have : d = ds[p - 1] := by
            have := hod.2; rw [List.getElem?_eq_getElem hpe] at this; injection this with this; exact this.symm
          rw [← this, hk] at hek; cases hek
        · exact absurd hek (hne (p - 1) _ h (List.getElem?_eq_getElem hpe))
      obtain ⟨oe, He, ne, hoe2, hte⟩ := h4 (p - 1) _ (List.getElem?_eq_getElem hpe)
      rw [hek] at hte
      have heff := tx1_shape hte
      simp only at heff
      have hA : ((ancs ops.toList []).getD (p - 1) 0).testBit i = true := by
        unfold effOK at hl
        rw [List.all_eq_true] at hl
        have := hl (p - 1) (by
          simp only [List.mem_range]
          have : ops.toList.length = ops.size := by simp
          omega)
        rw [hoe2] at this
        simp only [Option.map_some, heff, Bool.not_true, Bool.false_or, List.all_eq_true, List.mem_range] at this
        have := this i hlt
        rw [Bool.or_eq_true] at this
        rcases this with h | h
        · exact h
        · rw [hod.1] at h
          simp only [Option.map_some] at h
          rw [hne2] at h; cases h
      simp only [Bool.not_eq_true']
      unfold allowed
      rw [← Bool.not_eq_true, List.all_eq_true]
      intro hall
      have := hall _ q3
      rw [if_pos (by omega), hA] at this
      cases this
  · rfl
theorem wpS_draw2 {C : Cx} {nt : Nat} {ops : Array Oper} {so : List SOp} {s : St} {Q : Ex → St → Prop} (hl : effOK ops = true) (hs : ops.toList.map (stripO ops) = so) (h : WQ C nt 0 so s (Q .normal)) :
    wpS C nt (.draw ops) s Q := by
  subst hs
  obtain ⟨sN, h1, h2⟩ := runDraw_of2 hl h
  simp only [wpS, h1]
  exact h2
theorem WQ_nil {C : Cx} {nt ph : Nat} {s : St} {K : St → Prop} : WQ C nt ph [] s K = K s := rfl
theorem WQ_cons {C : Cx} {nt ph : Nat} {o : SOp} {rest : List SOp} {E : Tr AV} {H : Heap} {nx : Nat} {K : St → Prop} : WQ C nt ph (o :: rest) ⟨E, H, nx⟩ K =
    match txS C (Cl C) o E H nx with
    | some (k, v, H', nx') =>
      match nextPh ph k v with
      | some ph' => match put? E nt o.dst v with
        | some E' => WQ C nt ph' rest ⟨E', H', nx'⟩ K
        | none => False
      | none => False
    | none => False := rfl
@[congr] theorem WQ_congr {C : Cx} {nt ph : Nat} {l : List SOp} {s s' : St} {K : St → Prop} (h : s = s') : WQ C nt ph l s K = WQ C nt ph l s' K := by rw [h]
theorem ph0_still (v : AV) : nextPh 0 .still v = some 0 := rfl
theorem ph0_skip (v : AV) : nextPh 0 .skip v = some 0 := rfl
theorem ph0_new (ob : AObj) (v : AV) : nextPh 0 (.new ob) v = some 0 := rfl
theorem ph0_read (v : AV) : nextPh 0 .read v = if AV.eqB v v = true then some 1 else none := rfl
theorem ph0_eff (v : AV) : nextPh 0 .eff v = some 2 := rfl
theorem ph1_still (v : AV) : nextPh 1 .still v = some 1 := rfl
theorem ph1_skip (v : AV) : nextPh 1 .skip v = some 1 := rfl
theorem ph1_read (v : AV) : nextPh 1 .read v = if AV.eqB v v = true then some 1 else none := rfl
theorem ph1_eff (v : AV) : nextPh 1 .eff v = some 2 := rfl
theorem ph2_still (v : AV) : nextPh 2 .still v = some 2 := rfl
theorem ph2_skip (v : AV) : nextPh 2 .skip v = some 2 := rfl
theorem eqB_str (s : ByteArray) : AV.eqB (.lit (.string s)) (.lit (.string s)) = true := by simp [AV.eqB, valEqB]
theorem eqB_bool (b : Bool) : AV.eqB (.lit (.bool b)) (.lit (.bool b)) = true := by simp [AV.eqB, valEqB]
theorem eqB_ptr (b o : Nat) : AV.eqB (.ptr b o) (.ptr b o) = true := by simp [AV.eqB]
theorem eqB_slice (b o n : Nat) (c : Option Nat) (e : Nat) : AV.eqB (.slice b o n c e) (.slice b o n c e) = true := by simp [AV.eqB]
theorem eqB_nils : AV.eqB (.lit (.slice none 0 0)) (.lit (.slice none 0 0)) = true := rfl
end CI
noncomputable section
namespace CI
open Go
def goodAt (C : Cx) (op : Op) (E : Tr AV) (nx : Nat) (v : AV) (X : Heap) : Prop := ∃ u Y, opA C (ev E) op (roAll X) nx = some (u, Y, nx) ∧ AV.eqB u v = true
theorem goodAt.nx {C : Cx} {op : Op} {E : Tr AV} {nx : Nat} {v : AV} {X : Heap} (he : isEff op = false) (h : goodAt C op E nx v X) (n : Nat) : goodAt C op E n v X := by
  obtain ⟨u, Y, h1, h2⟩ := h
  obtain ⟨Y', h3⟩ := opA_nx he h1 n
  exact ⟨u, Y', h3, h2⟩
def W2 (C : Cx) (nt : Nat) (Hb : Heap) : List SOp → St → (St → Prop) → Prop
  | [], s, K => K s
  | o :: rest, s, K =>
    match txS C (Cl C) o s.env s.H s.nx with
    | some (.still, v, H', nx') => match put? s.env nt o.dst v with
      | some E' => W2 C nt Hb rest ⟨E', H', nx'⟩ K
      | none => False
    | some (.skip, v, H', nx') => match put? s.env nt o.dst v with
      | some E' => W2 C nt Hb rest ⟨E', H', nx'⟩ K
      | none => False
    | some (.read, v, H', nx') => (AV.eqB v v = true ∧ goodAt C o.op s.env s.nx v Hb) ∧ match put? s.env nt o.dst v with
      | some E' => W2 C nt Hb rest ⟨E', H', nx'⟩ K
      | none => False
    | _ => False
def WR (C : Cx) (nt : Nat) : Nat → List SOp → St → (St → Prop) → Prop
  | _, [], s, K => K s
  | ph, o :: rest, s, K =>
    match txS C (Cl C) o s.env s.H s.nx with
    | some (.eff, v, H', nx') => match put? s.env nt o.dst v with
      | some E' => W2 C nt s.H rest ⟨E', H', nx'⟩ K
      | none => False
    | some (k, v, H', nx') =>
      match nextPh ph k v with
      | some ph' => match put? s.env nt o.dst v with
        | some E' => WR C nt ph' rest ⟨E', H', nx'⟩ K
        | none => False
      | none => False
    | none => False
theorem nextPh_new {ph ph' : Nat} {k : K} {v : AV} (h : nextPh ph k v = some ph') (h1 : 1 ≤ ph) : (∀ ob, k ≠ .new ob) ∧ 1 ≤ ph' := by
  cases k with
  | new ob =>
    exfalso
    match ph, h1 with
    | 1, _ => simp [nextPh] at h
    | 2, _ => simp [nextPh] at h
    | n + 3, _ => simp [nextPh] at h
  | skip => refine ⟨by simp, ?_⟩; match ph, h1 with
    | 1, _ => simp [nextPh] at h; omega
    | 2, _ => simp [nextPh] at h; omega
    | n + 3, _ => simp [nextPh] at h; omega
  | still => refine ⟨by simp, ?_⟩; match ph, h1 with
    | 1, _ => simp [nextPh] at h; omega
    | 2, _ => simp [nextPh] at h; omega
    | n + 3, _ => simp [nextPh] at h; omega
  | read => refine ⟨by simp, ?_⟩; match ph, h1 with
    | 1, _ => simp [nextPh] at h; omega
    | 2, _ => simp [nextPh] at h
    | n + 3, _ => simp [nextPh] at h; omega
  | eff => refine ⟨by simp, ?_⟩; match ph, h1 with
    | 1, _ => simp [nextPh] at h; omega
    | 2, _ => simp [nextPh] at h
    | n + 3, _ => simp [nextPh] at h; omega
theorem nextPh_read {ph ph' : Nat} {v : AV} (h : nextPh ph .read v = some ph') : AV.eqB v v = true ∧ 1 ≤ ph' := by
  match ph with
  | 0 => simp [nextPh] at h; exact ⟨h.1, by omega⟩
  | 1 => simp [nextPh] at h; exact ⟨h.1, by omega⟩
  | 2 => simp [nextPh] at h
  | n + 3 => simp [nextPh] at h; exact ⟨h.1, by omega⟩
theorem tx_cons {C : Cx} {nt : Nat} {ops : Array Oper} {o : Oper} {rest : List Oper} {s sN : St} {k : K} {v : AV} {H' : Heap} {nx' : Nat} {E' : Tr AV} {ds : List DS} (h1 : tx1 C (Cl C) ops o s = some (k, v, H', nx'))
    (h2 : put? s.env nt o.dst v = some E') (h3 : txRun C (Cl C) nt ops rest ⟨E', H', nx'⟩ = some (ds, sN)) : txRun C (Cl C) nt ops (o :: rest) s = some (⟨k, v, s⟩ :: ds, sN) := by
  rw [txRun, h1]
  simp only
  rw [h2]
  simp only
  rw [h3]
theorem W2_run {C : Cx} {nt : Nat} {ops : Array Oper} {Hb : Heap} {K : St → Prop} : ∀ (l : List Oper) (s : St), W2 C nt Hb (l.map (stripO ops)) s K →
    ∃ ds sN, txRun C (Cl C) nt ops l s = some (ds, sN) ∧ K sN ∧ ds.length = l.length ∧
      (∀ (i : Nat) (d : DS), ds[i]? = some d → ∃ o, l[i]? = some o ∧ (∃ H' nx', tx1 C (Cl C) ops o d.s = some (d.k, d.v, H', nx')) ∧ d.k ≠ .eff ∧ (∀ ob, d.k ≠ .new ob) ∧ d.s.H = s.H ∧
        (d.k = .read → AV.eqB d.v d.v = true ∧ goodAt C o.op d.s.env d.s.nx d.v Hb))
  | [], s, h => ⟨[], s, rfl, h, rfl, by simp⟩
  | o :: rest, s, h => by
    simp only [List.map_cons, W2] at h
    rw [← txS_eq] at h
    have main : ∀ (k : CI.K) (v : AV) (H' : Heap) (nx' : Nat) (E' : Tr AV), tx1 C (Cl C) ops o s = some (k, v, H', nx') → k ≠ .eff → (∀ ob, k ≠ .new ob) → put? s.env nt o.dst v = some E' → W2 C nt Hb (rest.map (stripO ops)) ⟨E', H', nx'⟩ K →
        (k = .read → AV.eqB v v = true ∧ goodAt C o.op s.env s.nx v Hb) →
        ∃ ds sN, txRun C (Cl C) nt ops (o :: rest) s = some (ds, sN) ∧ K sN ∧ ds.length = (o :: rest).length ∧
          (∀ (i : Nat) (d : DS), ds[i]? = some d → ∃ o', (o :: rest)[i]? = some o' ∧ (∃ H' nx', tx1 C (Cl C) ops o' d.s = some (d.k, d.v, H', nx')) ∧ d.k ≠ .eff ∧ (∀ ob, d.k ≠ .new ob) ∧ d.s.H = s.H ∧
            (d.k = .read → AV.eqB d.v d.v = true ∧ goodAt C o'.op d.s.env d.s.nx d.v Hb)) := by
      intro k v H' nx' E' h1 h2 h3 h4 h5 h6
      obtain ⟨ds, sN, r1, r2, r3, r4⟩ := W2_run rest _ h5
      refine ⟨_, sN, tx_cons h1 h4 r1, r2, by simp [r3], ?_⟩
      intro i d hd
      cases i with
      | zero => simp at hd; subst hd; exact ⟨o, rfl, ⟨H', nx', h1⟩, h2, h3, rfl, h6⟩
      | succ i =>
        obtain ⟨o', q1, q2, q3, q4, q5, q6⟩ := r4 i d (by simpa using hd)
        refine ⟨o', by simpa using q1, q2, q3, q4, ?_, q6⟩
        have sh := tx1_shape h1
        rw [q5]
        cases k with
        | new ob => exact absurd rfl (h3 ob)
        | eff => exact absurd rfl h2
        | _ => exact sh.1
    split at h
    · rename_i v H' nx' hk
      split at h
      · rename_i E' hE
        exact main _ v H' nx' E' hk (by simp) (by simp) hE h (by simp)
      · cases h
    · rename_i v H' nx' hk
      split at h
      · rename_i E' hE
        exact main _ v H' nx' E' hk (by simp) (by simp) hE h (by simp)
      · cases h
    · rename_i v H' nx' hk
      obtain ⟨h0, h⟩ := h
      split at h
      · rename_i E' hE
        exact main _ v H' nx' E' hk (by simp) (by simp) hE h (fun _ => h0)
      · cases h
    · cases h
theorem WR_run {C : Cx} {nt : Nat} {ops : Array Oper} {K : St → Prop} : ∀ (l : List Oper) (ph : Nat) (s : St), WR C nt ph (l.map (stripO ops)) s K →
    ∃ ds sN, txRun C (Cl C) nt ops l s = some (ds, sN) ∧ K sN ∧ ds.length = l.length ∧
      (∀ (i : Nat) (d : DS), ds[i]? = some d → ∃ o, l[i]? = some o ∧ (∃ H' nx', tx1 C (Cl C) ops o d.s = some (d.k, d.v, H', nx'))) ∧
      (1 ≤ ph → ∀ d : DS, d ∈ ds → ∀ ob, d.k ≠ .new ob) ∧
      ∃ e, (∀ (i : Nat) (d : DS), ds[i]? = some d → d.k = .eff → i = e) ∧
        (∀ (i : Nat) (d : DS), ds[i]? = some d → e < i → ∀ ob, d.k ≠ .new ob) ∧
        (∀ (i : Nat) (d : DS) (o : Oper), ds[i]? = some d → l[i]? = some o → d.k = .read → goodAt C o.op d.s.env d.s.nx d.v (ds.foldl stepN s.H) ∧ (e < i → goodAt C o.op d.s.env d.s.nx d.v (stAt ds sN (e + 1)).H))
  | [], ph, s, h => ⟨[], s, rfl, h, rfl, by simp, by simp, 0, by simp, by simp, by simp⟩
  | o :: rest, ph, s, h => by
    simp only [List.map_cons, WR] at h
    rw [← txS_eq] at h
    split at h
    · rename_i v H' nx' hk
      split at h
      · rename_i E' hE
        obtain ⟨ds, sN, r1, r2, r3, r4⟩ := W2_run rest _ h
        have hnn : ∀ d ∈ ds, ∀ ob, d.k ≠ .new ob := by
          intro d hd ob
          obtain ⟨i, hi⟩ := List.getElem?_of_mem hd
          obtain ⟨_, _, _, _, q, _⟩ := r4 i d hi
          exact q ob
        have hfold : (DS.mk .eff v s :: ds).foldl stepN s.H = s.H := by
          rw [List.foldl_cons, stepN_none hnn]
          rfl
        refine ⟨_, sN, tx_cons hk hE r1, r2, by simp [r3], ?_, ?_, 0, ?_, ?_, ?_⟩
        · intro i d hd
          cases i with
          | zero => simp at hd; subst hd; exact ⟨o, rfl, H', nx', hk⟩
          | succ i =>
            obtain ⟨o', q1, q2, _⟩ := r4 i d (by simpa using hd)
            exact ⟨o', by simpa using q1, q2⟩
        · intro _ d hd ob
          rcases List.mem_cons.1 hd with rfl | hd
          · simp
          · exact hnn d hd ob
        · intro i d hd he
          cases i with
          | zero => rfl
          | succ i =>
            obtain ⟨_, _, _, q, _⟩ := r4 i d (by simpa using hd)
            exact absurd he q
        · intro i d hd hi ob
          cases i with
          | zero => omega
          | succ i =>
            obtain ⟨_, _, _, _, q, _⟩ := r4 i d (by simpa using hd)
            exact q ob
        · intro i d o' hd ho hr
          rw [hfold]
          cases i with
          | zero => simp at hd; subst hd; cases hr
          | succ i =>
            simp only [List.getElem?_cons_succ] at hd ho
            obtain ⟨o2, q1, ⟨Hx, nxx, q2⟩, q3, q4, q5, q6⟩ := r4 i d hd
            rw [ho] at q1
            injection q1 with q1
            subst q1
            obtain ⟨q7, q8⟩ := q6 hr
            refine ⟨q8, fun _ => ?_⟩
            have hs : (stAt (DS.mk .eff v s :: ds) sN (0 + 1)).H = H' := by
              have : stAt (DS.mk .eff v s :: ds) sN (0 + 1) = stAt ds sN 0 := by simp [stAt]
              rw [this, txRun_first r1]
            rw [hs]
            rw [hr] at q2
            obtain ⟨_, X, hX⟩ := tx1_read q2
            rw [q5] at hX
            exact ⟨_, X, hX, q7⟩
      · cases h
    · rename_i k v H' nx' hkne hk
      split at h
      · rename_i ph' hph
        split at h
        · rename_i E' hE
          obtain ⟨ds, sN, r1, r2, r3, r4, r5, e, r6, r7, r8⟩ := WR_run rest ph' _ h
          have sh := tx1_shape hk
          have hke : k ≠ .eff := fun hh => hkne hh
          have hstep : stepN s.H ⟨k, v, s⟩ = H' := by
            show stepK s.H s.nx k = H'
            cases k with
            | new ob => exact sh.symm
            | eff => exact absurd rfl hke
            | _ => exact sh.1.symm
          refine ⟨_, sN, tx_cons hk hE r1, r2, by simp [r3], ?_, ?_, e + 1, ?_, ?_, ?_⟩
          · intro i d hd
            cases i with
            | zero => simp at hd; subst hd; exact ⟨o, rfl, H', nx', hk⟩
            | succ i =>
              obtain ⟨o', q1, q2⟩ := r4 i d (by simpa using hd)
              exact ⟨o', by simpa using q1, q2⟩
          · intro h1 d hd ob he
            have hk0 := nextPh_new hph h1
            rcases List.mem_cons.1 hd with rfl | hd
            · exact hk0.1 ob he
            · exact r5 hk0.2 d hd ob he
          · intro i d hd he
            cases i with
            | zero => simp at hd; subst hd; exact absurd he hke
            | succ i => rw [r6 i d (by simpa using hd) he]
          · intro i d hd hi ob
            cases i with
            | zero => omega
            | succ i => exact r7 i d (by simpa using hd) (by omega) ob
          · intro i d o' hd ho hr
            rw [List.foldl_cons, hstep]
            have hst : stAt (DS.mk k v s :: ds) sN (e + 1 + 1) = stAt ds sN (e + 1) := by simp [stAt]
            rw [hst]
            cases i with
            | zero =>
              simp at hd ho; subst hd; subst ho
              simp only at hr; subst hr
              have hp1 := nextPh_read hph
              refine ⟨?_, fun h => by omega⟩
              rw [stepN_none (r5 hp1.2)]
              obtain ⟨_, X, hX⟩ := tx1_read hk
              rw [show H' = s.H from sh.1]
              exact ⟨v, X, hX, hp1.1⟩
            | succ i =>
              simp only [List.getElem?_cons_succ] at hd ho
              obtain ⟨q1, q2⟩ := r8 i d o' hd ho hr
              exact ⟨q1, fun h => q2 (by omega)⟩
        · cases h
      · cases h
    · cases h
theorem addNews_none {l : List DS} {p : Nat} {H : Heap} (h : ∀ (i : Nat) (d : DS), l[i]? = some d → p ≤ i → ∀ ob, d.k ≠ .new ob) : addNews l p H = H := by
  have : addNews l p H = (l.drop p).foldl stepN H := by unfold addNews; rfl
  rw [this]
  refine stepN_none fun d hd ob => ?_
  obtain ⟨i, hi⟩ := List.getElem?_of_mem hd
  rw [List.getElem?_drop] at hi
  exact h (p + i) d hi (by omega) ob
theorem draw_concl {C : Cx} {nt : Nat} {ops : Array Oper} {s sN : St} {ds : List DS} {e : Nat} {K : St → Prop} (hl : effOK ops = true) (h1 : txRun C (Cl C) nt ops ops.toList s = some (ds, sN)) (h2 : K sN) (h3 : ds.length = ops.toList.length)
    (h4 : ∀ (i : Nat) (d : DS), ds[i]? = some d → ∃ o, ops.toList[i]? = some o ∧ (∃ H' nx', tx1 C (Cl C) ops o d.s = some (d.k, d.v, H', nx')))
    (h6 : ∀ (i : Nat) (d : DS), ds[i]? = some d → d.k = .eff → i = e) (h7 : ∀ (i : Nat) (d : DS), ds[i]? = some d → e < i → ∀ ob, d.k ≠ .new ob)
    (h8 : ∀ (i : Nat) (d : DS) (o : Oper), ds[i]? = some d → ops.toList[i]? = some o → d.k = .read → goodAt C o.op d.s.env d.s.nx d.v (ds.foldl stepN s.H) ∧ (e < i → goodAt C o.op d.s.env d.s.nx d.v (stAt ds sN (e + 1)).H)) :
    ∃ sN, runDraw C (Cl C) nt ops s = some sN ∧ K sN := by
  refine ⟨sN, ?_, h2⟩
  unfold runDraw
  rw [h1]
  simp only
  rw [if_pos]
  rw [List.all_eq_true]
  rintro ⟨⟨o, d⟩, i⟩ hm
  simp only
  split
  · rename_i hk
    have hz := List.mem_zipIdx hm
    simp only [Nat.zero_add, Nat.sub_zero] at hz
    obtain ⟨_, hi, hoe⟩ := hz
    have hod : ops.toList[i]? = some o ∧ ds[i]? = some d := by
      have : (ops.toList.zip ds)[i]? = some (o, d) := by rw [List.getElem?_eq_getElem (by omega), ← hoe]
      rw [List.getElem?_zip_eq_some] at this
      exact this
    obtain ⟨o', ho', H', nx', ht⟩ := h4 i d hod.2
    rw [hod.1] at ho'
    injection ho' with ho'
    subst ho'
    obtain ⟨g1, g2⟩ := h8 i d o hod.2 hod.1 hk
    rw [hk] at ht
    obtain ⟨hne2, X, hX⟩ := tx1_read ht
    unfold readOK
    rw [List.all_eq_true]
    intro p hp
    rw [Bool.or_eq_true]
    rw [List.mem_cons] at hp
    have hs0 : (stAt ds sN 0).H = s.H := by rw [txRun_first h1]
    have fin : ∀ X : Heap, goodAt C o.op d.s.env d.s.nx d.v X → (match opA C (ev d.s.env) o.op (roAll X) sN.nx with
        | some (v, _, nx') => decide (nx' = sN.nx) && AV.eqB v d.v
        | none => false) = true := by
      intro X g
      obtain ⟨u, Y, y1, y2⟩ := g.nx hne2 sN.nx
      rw [y1]
      simp [y2]
    rcases hp with rfl | hp
    · right
      rw [addNews_zero, hs0]
      exact fin _ g1
    · obtain ⟨q1, q2, q3⟩ := effIdx_lt hp
      have hpe : p - 1 < ds.length := by omega
      have hek : (ds[p - 1]'hpe).k = .eff := by
        unfold effIdx at q3
        simp only [List.mem_filterMap] at q3
        obtain ⟨⟨d', j⟩, hd', hj⟩ := q3
        have hz := List.mem_zipIdx hd'
        simp only [Nat.zero_add, Nat.sub_zero] at hz
        obtain ⟨_, hj2, hde⟩ := hz
        simp only at hj
        split at hj
        · rename_i hk'
          injection hj with hj; subst hj
          rw [← hde]; exact hk'
        · cases hj
      have hpe2 : p - 1 = e := h6 _ _ (List.getElem?_eq_getElem hpe) hek
      rcases Nat.lt_trichotomy i (p - 1) with hlt | heq | hgt
      · left
        obtain ⟨oe, hoe2, He, ne, hte⟩ := h4 (p - 1) _ (List.getElem?_eq_getElem hpe)
        rw [hek] at hte
        have heff := tx1_shape hte
        simp only at heff
        have hA : ((ancs ops.toList []).getD (p - 1) 0).testBit i = true := by
          unfold effOK at hl
          rw [List.all_eq_true] at hl
          have := hl (p - 1) (by
            simp only [List.mem_range]
            have : ops.toList.length = ops.size := by simp
            omega)
          rw [hoe2] at this
          simp only [Option.map_some, heff, Bool.not_true, Bool.false_or, List.all_eq_true, List.mem_range] at this
          have := this i hlt
          rw [Bool.or_eq_true] at this
          rcases this with h | h
          · exact h
          · rw [hod.1] at h
            simp only [Option.map_some] at h
            rw [hne2] at h; cases h
        simp only [Bool.not_eq_true']
        unfold allowed
        rw [← Bool.not_eq_true, List.all_eq_true]
        intro hall
        have := hall _ q3
        rw [if_pos (by omega), hA] at this
        cases this
      · subst heq
        have : d = ds[p - 1] := by
          have := hod.2; rw [List.getElem?_eq_getElem hpe] at this; injection this with this; exact this.symm
        rw [← this, hk] at hek; cases hek
      · right
        rw [addNews_none (fun j d' hj hle => h7 j d' hj (by omega))]
        have hpp : p = e + 1 := by omega
        rw [hpp]
        exact fin _ (g2 (by omega))
  · rfl
theorem runDraw_of3 {C : Cx} {nt : Nat} {ops : Array Oper} {s : St} {K : St → Prop} (hl : effOK ops = true) (h : WR C nt 0 (ops.toList.map (stripO ops)) s K) :
    ∃ sN, runDraw C (Cl C) nt ops s = some sN ∧ K sN := by
  obtain ⟨ds, sN, h1, h2, h3, h4, _, e, h6, h7, h8⟩ := WR_run ops.toList 0 s h
  exact draw_concl hl h1 h2 h3 h4 h6 h7 h8
theorem wpS_draw3 {C : Cx} {nt : Nat} {ops : Array Oper} {so : List SOp} {s : St} {Q : Ex → St → Prop} (hl : effOK ops = true) (hs : ops.toList.map (stripO ops) = so) (h : WR C nt 0 so s (Q .normal)) :
    wpS C nt (.draw ops) s Q := by
  subst hs
  obtain ⟨sN, h1, h2⟩ := runDraw_of3 hl h
  simp only [wpS, h1]
  exact h2
theorem WR_nil {C : Cx} {nt ph : Nat} {s : St} {K : St → Prop} : WR C nt ph [] s K = K s := rfl
theorem WR_cons {C : Cx} {nt ph : Nat} {o : SOp} {rest : List SOp} {E : Tr AV} {H : Heap} {nx : Nat} {K : St → Prop} : WR C nt ph (o :: rest) ⟨E, H, nx⟩ K =
    match txS C (Cl C) o E H nx with
    | some (.eff, v, H', nx') => match put? E nt o.dst v with
      | some E' => W2 C nt H rest ⟨E', H', nx'⟩ K
      | none => False
    | some (k, v, H', nx') =>
      match nextPh ph k v with
      | some ph' => match put? E nt o.dst v with
        | some E' => WR C nt ph' rest ⟨E', H', nx'⟩ K
        | none => False
      | none => False
    | none => False := rfl
theorem W2_nil {C : Cx} {nt : Nat} {Hb : Heap} {s : St} {K : St → Prop} : W2 C nt Hb [] s K = K s := rfl
theorem W2_cons {C : Cx} {nt : Nat} {Hb : Heap} {o : SOp} {rest : List SOp} {E : Tr AV} {H : Heap} {nx : Nat} {K : St → Prop} : W2 C nt Hb (o :: rest) ⟨E, H, nx⟩ K =
    match txS C (Cl C) o E H nx with
    | some (.still, v, H', nx') => match put? E nt o.dst v with
      | some E' => W2 C nt Hb rest ⟨E', H', nx'⟩ K
      | none => False
    | some (.skip, v, H', nx') => match put? E nt o.dst v with
      | some E' => W2 C nt Hb rest ⟨E', H', nx'⟩ K
      | none => False
    | some (.read, v, H', nx') => (AV.eqB v v = true ∧ goodAt C o.op E nx v Hb) ∧ match put? E nt o.dst v with
      | some E' => W2 C nt Hb rest ⟨E', H', nx'⟩ K
      | none => False
    | _ => False := rfl
theorem goodAt_eq {C : Cx} {op : Op} {E : Tr AV} {nx : Nat} {v : AV} {X : Heap} : goodAt C op E nx v X = match opA C (ev E) op (roAll X) nx with
    | some (u, _, n) => n = nx ∧ AV.eqB u v = true
    | none => False := by
  apply propext
  unfold goodAt
  constructor
  · rintro ⟨u, Y, h1, h2⟩
    rw [h1]
    exact ⟨rfl, h2⟩
  · intro h
    split at h
    · rename_i u Y n h1
      obtain ⟨rfl, h2⟩ := h
      exact ⟨u, Y, h1, h2⟩
    · cases h
@[congr] theorem WR_congr {C : Cx} {nt ph : Nat} {l : List SOp} {s s' : St} {K : St → Prop} (h : s = s') : WR C nt ph l s K = WR C nt ph l s' K := by rw [h]
@[congr] theorem W2_congr {C : Cx} {nt : Nat} {Hb : Heap} {l : List SOp} {s s' : St} {K : St → Prop} (h : s = s') : W2 C nt Hb l s K = W2 C nt Hb l s' K := by rw [h]
def WN (C : Cx) (nt : Nat) (Hall : Heap) : List SOp → St → (St → Prop) → Prop
  | [], s, K => s.H = Hall ∧ K s
  | o :: rest, s, K =>
    match txS C (Cl C) o s.env s.H s.nx with
    | some (.eff, v, H', nx') => s.H = Hall ∧ match put? s.env nt o.dst v with
      | some E' => WQ C nt 2 rest ⟨E', H', nx'⟩ K
      | none => False
    | some (.read, v, H', nx') => goodAt C o.op s.env s.nx v Hall ∧ match put? s.env nt o.dst v with
      | some E' => WN C nt Hall rest ⟨E', H', nx'⟩ K
      | none => False
    | some (k, v, H', nx') => match put? s.env nt o.dst v with
      | some E' => WN C nt Hall rest ⟨E', H', nx'⟩ K
      | none => False
    | none => False
@[congr] theorem WN_congr {C : Cx} {nt : Nat} {Hall : Heap} {l : List SOp} {s s' : St} {K : St → Prop} (h : s = s') : WN C nt Hall l s K = WN C nt Hall l s' K := by rw [h]
end CI
noncomputable section
namespace CI
open Go
structure RD where
  op : Op
  E : Tr AV
  nx : Nat
  v : AV
def allG (C : Cx) (r : RD) : List Heap → Prop
  | [] => True
  | X :: l => goodAt C r.op r.E r.nx r.v X ∧ allG C r l
def allR (C : Cx) (X : Heap) : List RD → Prop
  | [] => True
  | r :: l => goodAt C r.op r.E r.nx r.v X ∧ allR C X l
theorem allG_iff {C : Cx} {r : RD} : ∀ {l : List Heap}, allG C r l → ∀ X ∈ l, goodAt C r.op r.E r.nx r.v X
  | [], _, _, h => by cases h
  | Y :: l, h, X, hX => by
    rcases List.mem_cons.1 hX with rfl | hX
    · exact h.1
    · exact allG_iff h.2 X hX
theorem allR_iff {C : Cx} {X : Heap} : ∀ {l : List RD}, allR C X l → ∀ r ∈ l, goodAt C r.op r.E r.nx r.v X
  | [], _, _, h => by cases h
  | s :: l, h, r, hr => by
    rcases List.mem_cons.1 hr with rfl | hr
    · exact h.1
    · exact allR_iff h.2 r hr
def WG (C : Cx) (nt : Nat) (Hall : Heap) : Bool → List Heap → List RD → List SOp → St → (St → Prop) → Prop
  | seen, _, _, [], s, K => (seen = false → s.H = Hall) ∧ K s
  | seen, Hs, rs, o :: rest, s, K =>
    match txS C (Cl C) o s.env s.H s.nx with
    | some (.eff, v, H', nx') => (seen = false → s.H = Hall) ∧ allR C H' rs ∧ match put? s.env nt o.dst v with
      | some E' => WG C nt Hall true (H' :: Hs) rs rest ⟨E', H', nx'⟩ K
      | none => False
    | some (.read, v, H', nx') => allG C ⟨o.op, s.env, s.nx, v⟩ Hs ∧ match put? s.env nt o.dst v with
      | some E' => WG C nt Hall seen Hs (⟨o.op, s.env, s.nx, v⟩ :: rs) rest ⟨E', H', nx'⟩ K
      | none => False
    | some (.new _, v, H', nx') => seen = false ∧ match put? s.env nt o.dst v with
      | some E' => WG C nt Hall seen Hs rs rest ⟨E', H', nx'⟩ K
      | none => False
    | some (_, v, H', nx') => match put? s.env nt o.dst v with
      | some E' => WG C nt Hall seen Hs rs rest ⟨E', H', nx'⟩ K
      | none => False
    | none => False
structure WGR (C : Cx) (nt : Nat) (ops : Array Oper) (Hall : Heap) (seen : Bool) (Hs : List Heap) (rs : List RD) (l : List Oper) (s : St) (K : St → Prop) (ds : List DS) (sN : St) : Prop where
  run : txRun C (Cl C) nt ops l s = some (ds, sN)
  fin : K sN
  len : ds.length = l.length
  ops : ∀ (i : Nat) (d : DS), ds[i]? = some d → ∃ o, l[i]? = some o ∧ (∃ H' nx', tx1 C (Cl C) ops o d.s = some (d.k, d.v, H', nx'))
  hall : seen = false → ds.foldl stepN s.H = Hall
  nonew : seen = true → ∀ d ∈ ds, ∀ ob, d.k ≠ .new ob
  late : ∀ (i : Nat) (d : DS) (j : Nat) (d' : DS), ds[i]? = some d → d.k = .eff → ds[j]? = some d' → i ≤ j → ∀ ob, d'.k ≠ .new ob
  reads : ∀ (i : Nat) (d : DS) (o : Oper), ds[i]? = some d → l[i]? = some o → d.k = .read → (∀ X ∈ Hs, goodAt C o.op d.s.env d.s.nx d.v X) ∧ ∀ (e : Nat) (de : DS), ds[e]? = some de → de.k = .eff → goodAt C o.op d.s.env d.s.nx d.v (stAt ds sN (e + 1)).H
  past : ∀ r ∈ rs, ∀ (e : Nat) (de : DS), ds[e]? = some de → de.k = .eff → goodAt C r.op r.E r.nx r.v (stAt ds sN (e + 1)).H
theorem WGR.cons {C : Cx} {nt : Nat} {ops : Array Oper} {Hall : Heap} {K : St → Prop} {o : Oper} {rest : List Oper} {s : St} {seen seen' : Bool} {Hs Hs' : List Heap} {rs rs' : List RD} {k : CI.K} {v : AV} {H' : Heap} {nx' : Nat} {E' : Tr AV} {ds : List DS} {sN : St}
    (hk : tx1 C (Cl C) ops o s = some (k, v, H', nx')) (hE : put? s.env nt o.dst v = some E') (h : WGR C nt ops Hall seen' Hs' rs' rest ⟨E', H', nx'⟩ K ds sN)
    (a1 : seen = true → seen' = true) (a2 : ∀ X ∈ Hs, X ∈ Hs') (a3 : ∀ r ∈ rs, r ∈ rs') (a4 : ∀ ob, k = .new ob → seen = false)
    (a5 : k = .eff → seen' = true ∧ (seen = false → s.H = Hall) ∧ H' ∈ Hs' ∧ ∀ r ∈ rs, goodAt C r.op r.E r.nx r.v H') (a6 : k ≠ .eff → seen = false → seen' = false)
    (a7 : k = .read → (∀ X ∈ Hs, goodAt C o.op s.env s.nx v X) ∧ (⟨o.op, s.env, s.nx, v⟩ : RD) ∈ rs') :
    WGR C nt ops Hall seen Hs rs (o :: rest) s K (⟨k, v, s⟩ :: ds) sN := by
  have sh := tx1_shape hk
  have hst : ∀ e, stAt (DS.mk k v s :: ds) sN (e + 1) = stAt ds sN e := fun e => by simp [stAt]
  have hst0 : (stAt ds sN 0).H = H' := by rw [txRun_first h.run]
  refine ⟨tx_cons hk hE h.run, h.fin, by simp [h.len], ?_, ?_, ?_, ?_, ?_, ?_⟩
  · intro i d hd
    cases i with
    | zero => simp at hd; subst hd; exact ⟨o, rfl, H', nx', hk⟩
    | succ i =>
      obtain ⟨o', q1, q2⟩ := h.ops i d (by simpa using hd)
      exact ⟨o', by simpa using q1, q2⟩
  · intro hs
    rw [List.foldl_cons]
    by_cases hke : k = .eff
    · obtain ⟨b1, b2, _⟩ := a5 hke
      have hstep : stepN s.H ⟨k, v, s⟩ = s.H := by subst hke; rfl
      rw [hstep, stepN_none (h.nonew b1)]
      exact b2 hs
    · have hstep : stepN s.H ⟨k, v, s⟩ = H' := by
        show stepK s.H s.nx k = H'
        cases k with
        | new ob => exact sh.symm
        | eff => exact absurd rfl hke
        | _ => exact sh.1.symm
      rw [hstep]
      exact h.hall (a6 hke hs)
  · intro hs d hd ob
    rcases List.mem_cons.1 hd with rfl | hd
    · intro e
      rw [a4 ob e] at hs; cases hs
    · exact h.nonew (a1 hs) d hd ob
  · intro i d j d' hd hde hd' hij ob
    cases j with
    | zero =>
      obtain rfl : i = 0 := by omega
      simp at hd hd'; subst hd; subst hd'
      simp only at hde
      rw [hde]; simp
    | succ j =>
      simp only [List.getElem?_cons_succ] at hd'
      cases i with
      | zero =>
        simp at hd; subst hd
        exact h.nonew (a5 hde).1 d' (List.mem_of_getElem? hd') ob
      | succ i => exact h.late i d j d' (by simpa using hd) hde hd' (by omega) ob
  · intro i d o' hd ho hr
    cases i with
    | zero =>
      simp at hd ho; subst hd; subst ho
      simp only at hr
      obtain ⟨c1, c2⟩ := a7 hr
      refine ⟨c1, fun e de hde hke => ?_⟩
      cases e with
      | zero => simp at hde; subst hde; simp only at hke; rw [hr] at hke; cases hke
      | succ e =>
        rw [hst]
        exact h.past _ c2 e de (by simpa using hde) hke
    | succ i =>
      simp only [List.getElem?_cons_succ] at hd ho
      obtain ⟨q1, q2⟩ := h.reads i d o' hd ho hr
      refine ⟨fun X hX => q1 X (a2 X hX), fun e de hde hke => ?_⟩
      cases e with
      | zero =>
        simp at hde; subst hde
        rw [hst, hst0]
        exact q1 _ (a5 hke).2.2.1
      | succ e =>
        rw [hst]
        exact q2 e de (by simpa using hde) hke
  · intro r hr e de hde hke
    cases e with
    | zero =>
      simp at hde; subst hde
      rw [hst, hst0]
      exact (a5 hke).2.2.2 r hr
    | succ e =>
      rw [hst]
      exact h.past r (a3 r hr) e de (by simpa using hde) hke
@[congr] theorem WG_congr {C : Cx} {nt : Nat} {Hall : Heap} {seen : Bool} {Hs : List Heap} {rs : List RD} {l : List SOp} {s s' : St} {K : St → Prop} (h : s = s') : WG C nt Hall seen Hs rs l s K = WG C nt Hall seen Hs rs l s' K := by rw [h]
theorem allG_nil {C : Cx} {r : RD} : allG C r [] = True := rfl
theorem allG_cons {C : Cx} {op : Op} {E : Tr AV} {nx : Nat} {v : AV} {X : Heap} {l : List Heap} : allG C ⟨op, E, nx, v⟩ (X :: l) = (goodAt C op E nx v X ∧ allG C ⟨op, E, nx, v⟩ l) := rfl
theorem allR_nil {C : Cx} {X : Heap} : allR C X [] = True := rfl
theorem allR_cons {C : Cx} {op : Op} {E : Tr AV} {nx : Nat} {v : AV} {X : Heap} {l : List RD} : allR C X (⟨op, E, nx, v⟩ :: l) = (goodAt C op E nx v X ∧ allR C X l) := rfl
def phH (Hs : List Heap) (H' : Heap) : K → List Heap
  | .eff => H' :: Hs
  | _ => Hs
def phR (rs : List RD) (r : RD) : K → List RD
  | .read => r :: rs
  | _ => rs
theorem phH_eff {l : List Heap} {X : Heap} : phH l X .eff = X :: l := rfl
theorem phH_read {l : List Heap} {X : Heap} : phH l X .read = l := rfl
theorem phH_new {l : List Heap} {X : Heap} {ob : AObj} : phH l X (.new ob) = l := rfl
theorem phH_still {l : List Heap} {X : Heap} : phH l X .still = l := rfl
theorem phH_skip {l : List Heap} {X : Heap} : phH l X .skip = l := rfl
theorem phR_eff {l : List RD} {r : RD} : phR l r .eff = l := rfl
theorem phR_read {l : List RD} {r : RD} : phR l r .read = r :: l := rfl
theorem phR_new {l : List RD} {r : RD} {ob : AObj} : phR l r (.new ob) = l := rfl
theorem phR_still {l : List RD} {r : RD} : phR l r .still = l := rfl
theorem phR_skip {l : List RD} {r : RD} : phR l r .skip = l := rfl
end CI
noncomputable section
namespace CI
open Go
def ldLow (n0 : Nat) (op : Op) (E : Tr AV) : Prop := match op with
  | .load _ a => match ev E a with
    | .ptr b _ => b < n0
    | _ => False
  | _ => False
theorem ldLow_good {C : Cx} {n0 : Nat} {op : Op} {E : Tr AV} {nx : Nat} {v : AV} {X Y : Heap} (h : ldLow n0 op E) (hxy : ∀ b, b < n0 → Y.get b = X.get b) (g : goodAt C op E nx v X) : goodAt C op E nx v Y := by
  unfold ldLow at h
  split at h
  · rename_i t a
    split at h
    · rename_i b off he
      obtain ⟨u, Z, h1, h2⟩ := g
      have e : ∀ W : Heap, opA C (ev E) (.load t a) (roAll W) nx = (loadOp C.T (roAll W) t (ev E a)).map fun v => (v, roAll W, nx) := fun W => rfl
      rw [e, he] at h1
      have e2 : loadOp C.T (roAll Y) t (.ptr b off) = loadOp C.T (roAll X) t (.ptr b off) := by
        rw [loadOp_ro, loadOp_ro]
        unfold loadOp
        simp only [hxy b h]
      simp only [Option.map_eq_some_iff, Prod.mk.injEq] at h1
      obtain ⟨w, hw, rfl, _, _⟩ := h1
      exact ⟨w, _, by rw [e, he, e2, hw]; rfl, h2⟩
    · cases h
  · cases h
def WH (C : Cx) (nt n0 : Nat) : List Heap → List RD → List SOp → St → (St → Prop) → Prop
  | _, _, [], s, K => K s
  | Hs, rs, o :: rest, s, K =>
    match txS C (Cl C) o s.env s.H s.nx with
    | some (.eff, v, H', nx') => s.nx ≤ nx' ∧ allR C H' rs ∧ match put? s.env nt o.dst v with
      | some E' => WH C nt n0 (H' :: Hs) rs rest ⟨E', H', nx'⟩ K
      | none => False
    | some (.read, v, H', nx') => s.nx ≤ nx' ∧ (ldLow n0 o.op s.env ∧ allG C ⟨o.op, s.env, s.nx, v⟩ Hs) ∧ match put? s.env nt o.dst v with
      | some E' => WH C nt n0 Hs (⟨o.op, s.env, s.nx, v⟩ :: rs) rest ⟨E', H', nx'⟩ K
      | none => False
    | some (_, v, H', nx') => s.nx ≤ nx' ∧ match put? s.env nt o.dst v with
      | some E' => WH C nt n0 Hs rs rest ⟨E', H', nx'⟩ K
      | none => False
    | none => False
structure WHR (C : Cx) (nt n0 : Nat) (ops : Array Oper) (Hs : List Heap) (rs : List RD) (l : List Oper) (s : St) (K : St → Prop) (ds : List DS) (sN : St) : Prop where
  run : txRun C (Cl C) nt ops l s = some (ds, sN)
  fin : K sN
  len : ds.length = l.length
  ops : ∀ (i : Nat) (d : DS), ds[i]? = some d → ∃ o, l[i]? = some o ∧ (∃ H' nx', tx1 C (Cl C) ops o d.s = some (d.k, d.v, H', nx'))
  nxs : ∀ d ∈ ds, s.nx ≤ d.s.nx
  low : ∀ (i : Nat) (d : DS) (o : Oper), ds[i]? = some d → l[i]? = some o → d.k = .read → ldLow n0 o.op d.s.env
  reads : ∀ (i : Nat) (d : DS) (o : Oper), ds[i]? = some d → l[i]? = some o → d.k = .read → (∀ X ∈ Hs, goodAt C o.op d.s.env d.s.nx d.v X) ∧ ∀ (e : Nat) (de : DS), ds[e]? = some de → de.k = .eff → goodAt C o.op d.s.env d.s.nx d.v (stAt ds sN (e + 1)).H
  past : ∀ r ∈ rs, ∀ (e : Nat) (de : DS), ds[e]? = some de → de.k = .eff → goodAt C r.op r.E r.nx r.v (stAt ds sN (e + 1)).H
theorem WHR.cons {C : Cx} {nt n0 : Nat} {ops : Array Oper} {K : St → Prop} {o : Oper} {rest : List Oper} {s : St} {Hs Hs' : List Heap} {rs rs' : List RD} {k : CI.K} {v : AV} {H' : Heap} {nx' : Nat} {E' : Tr AV} {ds : List DS} {sN : St}
    (hk : tx1 C (Cl C) ops o s = some (k, v, H', nx')) (hE : put? s.env nt o.dst v = some E') (h : WHR C nt n0 ops Hs' rs' rest ⟨E', H', nx'⟩ K ds sN)
    (a2 : ∀ X ∈ Hs, X ∈ Hs') (a3 : ∀ r ∈ rs, r ∈ rs') (an : s.nx ≤ nx')
    (a5 : k = .eff → H' ∈ Hs' ∧ ∀ r ∈ rs, goodAt C r.op r.E r.nx r.v H')
    (a7 : k = .read → ldLow n0 o.op s.env ∧ (∀ X ∈ Hs, goodAt C o.op s.env s.nx v X) ∧ (⟨o.op, s.env, s.nx, v⟩ : RD) ∈ rs') :
    WHR C nt n0 ops Hs rs (o :: rest) s K (⟨k, v, s⟩ :: ds) sN := by
  have hst : ∀ e, stAt (DS.mk k v s :: ds) sN (e + 1) = stAt ds sN e := fun e => by simp [stAt]
  have hst0 : (stAt ds sN 0).H = H' := by rw [txRun_first h.run]
  refine ⟨tx_cons hk hE h.run, h.fin, by simp [h.len], ?_, ?_, ?_, ?_, ?_⟩
  · intro i d hd
    cases i with
    | zero => simp at hd; subst hd; exact ⟨o, rfl, H', nx', hk⟩
    | succ i =>
      obtain ⟨o', q1, q2⟩ := h.ops i d (by simpa using hd)
      exact ⟨o', by simpa using q1, q2⟩
  · intro d hd
    rcases List.mem_cons.1 hd with rfl | hd
    · exact Nat.le_refl _
    · exact Nat.le_trans an (h.nxs d hd)
  · intro i d o' hd ho hr
    cases i with
    | zero => simp at hd ho; subst hd; subst ho; exact (a7 hr).1
    | succ i =>
      simp only [List.getElem?_cons_succ] at hd ho
      exact h.low i d o' hd ho hr
  · intro i d o' hd ho hr
    cases i with
    | zero =>
      simp at hd ho; subst hd; subst ho
      simp only at hr
      obtain ⟨_, c1, c2⟩ := a7 hr
      refine ⟨c1, fun e de hde hke => ?_⟩
      cases e with
      | zero => simp at hde; subst hde; simp only at hke; rw [hr] at hke; cases hke
      | succ e =>
        rw [hst]
        exact h.past _ c2 e de (by simpa using hde) hke
    | succ i =>
      simp only [List.getElem?_cons_succ] at hd ho
      obtain ⟨q1, q2⟩ := h.reads i d o' hd ho hr
      refine ⟨fun X hX => q1 X (a2 X hX), fun e de hde hke => ?_⟩
      cases e with
      | zero =>
        simp at hde; subst hde
        rw [hst, hst0]
        exact q1 _ (a5 hke).1
      | succ e =>
        rw [hst]
        exact q2 e de (by simpa using hde) hke
  · intro r hr e de hde hke
    cases e with
    | zero =>
      simp at hde; subst hde
      rw [hst, hst0]
      exact (a5 hke).2 r hr
    | succ e =>
      rw [hst]
      exact h.past r (a3 r hr) e de (by simpa using hde) hke
theorem WH_run {C : Cx} {nt n0 : Nat} {ops : Array Oper} {K : St → Prop} : ∀ (l : List Oper) (Hs : List Heap) (rs : List RD) (s : St), WH C nt n0 Hs rs (l.map (stripO ops)) s K → ∃ ds sN, WHR C nt n0 ops Hs rs l s K ds sN
  | [], Hs, rs, s, h => ⟨[], s, rfl, h, rfl, by simp, by simp, by simp, by simp, by simp⟩
  | o :: rest, Hs, rs, s, h => by
    simp only [List.map_cons, WH] at h
    rw [← txS_eq] at h
    split at h
    · rename_i v H' nx' hk
      obtain ⟨h1, h2, h⟩ := h
      split at h
      · rename_i E' hE
        obtain ⟨ds, sN, hr⟩ := WH_run rest _ _ _ h
        exact ⟨_, sN, hr.cons hk hE (fun X hX => List.mem_cons_of_mem _ hX) (fun r hr => hr) h1 (fun _ => ⟨List.mem_cons_self, allR_iff h2⟩) (fun e => by cases e)⟩
      · cases h
    · rename_i v H' nx' hk
      obtain ⟨h1, ⟨h2, h3⟩, h⟩ := h
      split at h
      · rename_i E' hE
        obtain ⟨ds, sN, hr⟩ := WH_run rest _ _ _ h
        exact ⟨_, sN, hr.cons hk hE (fun X hX => hX) (fun r hr => List.mem_cons_of_mem _ hr) h1 (fun e => by cases e) (fun _ => ⟨h2, allG_iff h3, List.mem_cons_self⟩)⟩
      · cases h
    · rename_i k v H' nx' hk1 hk2 hk
      obtain ⟨h1, h⟩ := h
      split at h
      · rename_i E' hE
        obtain ⟨ds, sN, hr⟩ := WH_run rest _ _ _ h
        exact ⟨_, sN, hr.cons hk hE (fun X hX => hX) (fun r hr => hr) h1 (fun e => absurd e hk1) (fun e => absurd e hk2)⟩
      · cases h
    · cases h
theorem foldN_get {n0 b : Nat} (hb : b < n0) : ∀ (l : List DS) (H : Heap), (∀ d ∈ l, n0 ≤ d.s.nx) → (l.foldl stepN H).get b = H.get b
  | [], H, _ => rfl
  | d :: l, H, h => by
    rw [List.foldl_cons, foldN_get hb l _ fun e he => h e (List.mem_cons_of_mem _ he)]
    have hd := h d (by simp)
    show (stepK H d.s.nx d.k).get b = H.get b
    cases d.k <;> simp only [stepK]
    rw [Tr.get_put_ne _ _ _ _ (by omega)]
theorem addNews_low {n0 b p : Nat} {l : List DS} {H : Heap} (hb : b < n0) (h : ∀ d ∈ l, n0 ≤ d.s.nx) : (addNews l p H).get b = H.get b := by
  have : addNews l p H = (l.drop p).foldl stepN H := by unfold addNews; rfl
  rw [this]
  exact foldN_get hb _ _ fun d hd => h d (List.mem_of_mem_drop hd)
theorem runDraw_of6 {C : Cx} {nt n0 : Nat} {ops : Array Oper} {s : St} {K : St → Prop} (hn : n0 ≤ s.nx) (h : WH C nt n0 [s.H] [] (ops.toList.map (stripO ops)) s K) :
    ∃ sN, runDraw C (Cl C) nt ops s = some sN ∧ K sN := by
  obtain ⟨ds, sN, W⟩ := WH_run ops.toList _ _ s h
  refine ⟨sN, ?_, W.fin⟩
  have h1 := W.run
  have h3 := W.len
  unfold runDraw
  rw [h1]
  simp only
  rw [if_pos]
  rw [List.all_eq_true]
  rintro ⟨⟨o, d⟩, i⟩ hm
  simp only
  split
  · rename_i hk
    have hz := List.mem_zipIdx hm
    simp only [Nat.zero_add, Nat.sub_zero] at hz
    obtain ⟨_, hi, hoe⟩ := hz
    have hod : ops.toList[i]? = some o ∧ ds[i]? = some d := by
      have : (ops.toList.zip ds)[i]? = some (o, d) := by rw [List.getElem?_eq_getElem (by omega), ← hoe]
      rw [List.getElem?_zip_eq_some] at this
      exact this
    obtain ⟨o', ho', H', nx', ht⟩ := W.ops i d hod.2
    rw [hod.1] at ho'
    injection ho' with ho'
    subst ho'
    obtain ⟨g1, g2⟩ := W.reads i d o hod.2 hod.1 hk
    have hlow := W.low i d o hod.2 hod.1 hk
    rw [hk] at ht
    obtain ⟨hne2, X, hX⟩ := tx1_read ht
    unfold readOK
    rw [List.all_eq_true]
    intro p hp
    rw [Bool.or_eq_true]
    rw [List.mem_cons] at hp
    have hs0 : (stAt ds sN 0).H = s.H := by rw [txRun_first h1]
    have hnews : ∀ d ∈ ds, n0 ≤ d.s.nx := fun d hd => Nat.le_trans hn (W.nxs d hd)
    have fin : ∀ X : Heap, goodAt C o.op d.s.env d.s.nx d.v X → (match opA C (ev d.s.env) o.op (roAll X) sN.nx with
        | some (v, _, nx') => decide (nx' = sN.nx) && AV.eqB v d.v
        | none => false) = true := by
      intro X g
      obtain ⟨u, Y, y1, y2⟩ := g.nx hne2 sN.nx
      rw [y1]
      simp [y2]
    right
    rcases hp with rfl | hp
    · rw [hs0]
      exact fin _ (ldLow_good hlow (fun b hb => addNews_low hb hnews) (g1 s.H (by simp)))
    · obtain ⟨q1, q2, q3⟩ := effIdx_lt hp
      have hpe : p - 1 < ds.length := by omega
      have hek : (ds[p - 1]'hpe).k = .eff := by
        unfold effIdx at q3
        simp only [List.mem_filterMap] at q3
        obtain ⟨⟨d', j⟩, hd', hj⟩ := q3
        have hz := List.mem_zipIdx hd'
        simp only [Nat.zero_add, Nat.sub_zero] at hz
        obtain ⟨_, hj2, hde⟩ := hz
        simp only at hj
        split at hj
        · rename_i hk'
          injection hj with hj; subst hj
          rw [← hde]; exact hk'
        · cases hj
      have hge := List.getElem?_eq_getElem hpe
      have := g2 (p - 1) _ hge hek
      rw [show p - 1 + 1 = p by omega] at this
      exact fin _ (ldLow_good hlow (fun b hb => addNews_low hb hnews) this)
  · rfl
theorem wpS_draw6 {C : Cx} {nt : Nat} {ops : Array Oper} {so : List SOp} {E : Tr AV} {H : Heap} {nx : Nat} {Q : Ex → St → Prop} (n0 : Nat) (hn : n0 ≤ nx) (hs : ops.toList.map (stripO ops) = so) (h : WH C nt n0 [H] [] so ⟨E, H, nx⟩ (Q .normal)) :
    wpS C nt (.draw ops) ⟨E, H, nx⟩ Q := by
  subst hs
  obtain ⟨sN, h1, h2⟩ := runDraw_of6 (s := ⟨E, H, nx⟩) hn h
  simp only [wpS, h1]
  exact h2
theorem WH_nil {C : Cx} {nt n0 : Nat} {Hs : List Heap} {rs : List RD} {s : St} {K : St → Prop} : WH C nt n0 Hs rs [] s K = K s := rfl
theorem WH_cons {C : Cx} {nt n0 : Nat} {Hs : List Heap} {rs : List RD} {o : SOp} {rest : List SOp} {E : Tr AV} {H : Heap} {nx : Nat} {K : St → Prop} : WH C nt n0 Hs rs (o :: rest) ⟨E, H, nx⟩ K =
    match txS C (Cl C) o E H nx with
    | some (.eff, v, H', nx') => nx ≤ nx' ∧ allR C H' rs ∧ match put? E nt o.dst v with
      | some E' => WH C nt n0 (H' :: Hs) rs rest ⟨E', H', nx'⟩ K
      | none => False
    | some (.read, v, H', nx') => nx ≤ nx' ∧ (ldLow n0 o.op E ∧ allG C ⟨o.op, E, nx, v⟩ Hs) ∧ match put? E nt o.dst v with
      | some E' => WH C nt n0 Hs (⟨o.op, E, nx, v⟩ :: rs) rest ⟨E', H', nx'⟩ K
      | none => False
    | some (_, v, H', nx') => nx ≤ nx' ∧ match put? E nt o.dst v with
      | some E' => WH C nt n0 Hs rs rest ⟨E', H', nx'⟩ K
      | none => False
    | none => False := rfl
@[congr] theorem WH_congr {C : Cx} {nt n0 : Nat} {Hs : List Heap} {rs : List RD} {l : List SOp} {s s' : St} {K : St → Prop} (h : s = s') : WH C nt n0 Hs rs l s K = WH C nt n0 Hs rs l s' K := by rw [h]
def phW (C : Cx) (n0 : Nat) (Hs : List Heap) (rs : List RD) (op : Op) (E : Tr AV) (nx : Nat) (v : AV) (H' : Heap) : K → Prop
  | .eff => allR C H' rs
  | .read => ldLow n0 op E ∧ allG C ⟨op, E, nx, v⟩ Hs
  | _ => True
theorem WH_cons2 {C : Cx} {nt n0 : Nat} {Hs : List Heap} {rs : List RD} {o : SOp} {rest : List SOp} {E : Tr AV} {H : Heap} {nx : Nat} {K : St → Prop} : WH C nt n0 Hs rs (o :: rest) ⟨E, H, nx⟩ K =
    match txS C (Cl C) o E H nx with
    | some (k, v, H', nx') => nx ≤ nx' ∧ phW C n0 Hs rs o.op E nx v H' k ∧ match put? E nt o.dst v with
      | some E' => WH C nt n0 (phH Hs H' k) (phR rs ⟨o.op, E, nx, v⟩ k) rest ⟨E', H', nx'⟩ K
      | none => False
    | none => False := by
  rw [WH_cons]
  cases txS C (Cl C) o E H nx with
  | none => rfl
  | some r =>
    obtain ⟨k, v, H', nx'⟩ := r
    cases k <;> simp only [phW, phH, phR, true_and]
theorem phW_eff {C : Cx} {n0 : Nat} {Hs : List Heap} {rs : List RD} {op : Op} {E : Tr AV} {nx : Nat} {v : AV} {H' : Heap} : phW C n0 Hs rs op E nx v H' .eff = allR C H' rs := rfl
theorem phW_read {C : Cx} {n0 : Nat} {Hs : List Heap} {rs : List RD} {op : Op} {E : Tr AV} {nx : Nat} {v : AV} {H' : Heap} : phW C n0 Hs rs op E nx v H' .read = (ldLow n0 op E ∧ allG C ⟨op, E, nx, v⟩ Hs) := rfl
theorem phW_new {C : Cx} {n0 : Nat} {Hs : List Heap} {rs : List RD} {op : Op} {E : Tr AV} {nx : Nat} {v : AV} {H' : Heap} {ob : AObj} : phW C n0 Hs rs op E nx v H' (.new ob) = True := rfl
theorem phW_still {C : Cx} {n0 : Nat} {Hs : List Heap} {rs : List RD} {op : Op} {E : Tr AV} {nx : Nat} {v : AV} {H' : Heap} : phW C n0 Hs rs op E nx v H' .still = True := rfl
theorem phW_skip {C : Cx} {n0 : Nat} {Hs : List Heap} {rs : List RD} {op : Op} {E : Tr AV} {nx : Nat} {v : AV} {H' : Heap} : phW C n0 Hs rs op E nx v H' .skip = True := rfl
end CI
namespace CI
open Go
theorem aA : type_of% (And.intro @Tr.get_put <|
  And.intro @un_not <|
  And.intro @List.map_cons.{0, 0} <|
  And.intro @List.map_nil.{0, 0} <|
  And.intro @List.map_toArray.{0, 0} <|
  And.intro @List.append_nil.{0} <|
  And.intro @Nat.zero_add <|
  And.intro @if_true.{1} <|
  And.intro @if_true.{0} <|
  And.intro @if_false.{1} <|
  And.intro @if_false.{0} <|
  And.intro @Bool.false_eq_true <|
  And.intro @Bool.true_eq_false <|
  And.intro @Option.some.injEq.{0} <|
  And.intro @exists_eq_left'.{1} <|
  And.intro @exists_eq_left'.{0} <|
  And.intro @beq_self_eq_true.{0} <|
  And.intro @decide_true <|
  And.intro @decide_false <|
  And.intro @decide_eq_true_eq <|
  And.intro @not_true_eq_false <|
  And.intro @not_false_eq_true <|
  And.intro @Bool.not_eq_true <|
  And.intro @beq_iff_eq.{0} <|
  And.intro @bin_add <|
  And.intro @bin_sub <|
  And.intro @bin_mul <|
  And.intro @bin_eql <|
  And.intro @bin_neq <|
  And.intro @bin_lss <|
  And.intro @bin_leq <|
  And.intro @bin_gtr <|
  And.intro @bin_geq <|
  And.intro @Prod.mk.injEq.{0, 0} <|
  And.intro @and_true <|
  And.intro @true_and <|
  And.intro @beq_eq_false_iff_ne.{0} <|
  And.intro @decide_eq_false_iff_not <|
  And.intro @Bool.true_beq <|
  And.intro @Bool.false_beq <|
  And.intro @beq_true <|
  And.intro @beq_false <|
  And.intro @Bool.not_true <|
  And.intro @Bool.not_false @List.getElem?_toArray.{0}) :=
  And.intro @Tr.get_put <|
  And.intro @un_not <|
  And.intro @List.map_cons.{0, 0} <|
  And.intro @List.map_nil.{0, 0} <|
  And.intro @List.map_toArray.{0, 0} <|
  And.intro @List.append_nil.{0} <|
  And.intro @Nat.zero_add <|
  And.intro @if_true.{1} <|
  And.intro @if_true.{0} <|
  And.intro @if_false.{1} <|
  And.intro @if_false.{0} <|
  And.intro @Bool.false_eq_true <|
  And.intro @Bool.true_eq_false <|
  And.intro @Option.some.injEq.{0} <|
  And.intro @exists_eq_left'.{1} <|
  And.intro @exists_eq_left'.{0} <|
  And.intro @beq_self_eq_true.{0} <|
  And.intro @decide_true <|
  And.intro @decide_false <|
  And.intro @decide_eq_true_eq <|
  And.intro @not_true_eq_false <|
  And.intro @not_false_eq_true <|
  And.intro @Bool.not_eq_true <|
  And.intro @beq_iff_eq.{0} <|
  And.intro @bin_add <|
  And.intro @bin_sub <|
  And.intro @bin_mul <|
  And.intro @bin_eql <|
  And.intro @bin_neq <|
  And.intro @bin_lss <|
  And.intro @bin_leq <|
  And.intro @bin_gtr <|
  And.intro @bin_geq <|
  And.intro @Prod.mk.injEq.{0, 0} <|
  And.intro @and_true <|
  And.intro @true_and <|
  And.intro @beq_eq_false_iff_ne.{0} <|
  And.intro @decide_eq_false_iff_not <|
  And.intro @Bool.true_beq <|
  And.intro @Bool.false_beq <|
  And.intro @beq_true <|
  And.intro @beq_false <|
  And.intro @Bool.not_true <|
  And.intro @Bool.not_false @List.getElem?_toArray.{0}
theorem aB : type_of% (And.intro @loadOp_ro <|
  And.intro @loadOp_nil <|
  And.intro @eqB_int <|
  And.intro @eqB_str <|
  And.intro @eqB_bool <|
  And.intro @eqB_ptr <|
  And.intro @eqB_slice <|
  And.intro @Nat.le_refl @nx_succ) :=
  And.intro @loadOp_ro <|
  And.intro @loadOp_nil <|
  And.intro @eqB_int <|
  And.intro @eqB_str <|
  And.intro @eqB_bool <|
  And.intro @eqB_ptr <|
  And.intro @eqB_slice <|
  And.intro @Nat.le_refl @nx_succ
theorem aC : type_of% (And.intro @Nat.le_succ @Nat.lt_succ_self) :=
  And.intro @Nat.le_succ @Nat.lt_succ_self
theorem aD : type_of% @wpS_skip := @wpS_skip
theorem aE : type_of% @wpS_ops := @wpS_ops
theorem aF : type_of% @wpS_seq := @wpS_seq
theorem aG : type_of% @wpS_cond := @wpS_cond
theorem aH : type_of% @wpS_block := @wpS_block
theorem aI : type_of% @wpS_loop := @wpS_loop
theorem aJ : type_of% @wpS_exit := @wpS_exit
theorem aK : type_of% @wpS_ret := @wpS_ret
theorem aL : type_of% @condW_bool := @condW_bool
theorem aM : type_of% @WOps_go := @WOps_go
theorem aN : type_of% @WOps_skip := @WOps_skip
theorem aO : type_of% @WOps_nil := @WOps_nil
theorem aP : type_of% @Tr.get_put := @Tr.get_put
theorem aQ : type_of% @Tr.get_nil := @Tr.get_nil
theorem aR : type_of% @abs_int := @abs_int
theorem aS : type_of% @abs_bool := @abs_bool
theorem aT : type_of% @abs_string := @abs_string
theorem aU : type_of% @abs_nilp := @abs_nilp
theorem aV : type_of% @abs_nili := @abs_nili
theorem aW : type_of% @abs_nilf := @abs_nilf
theorem aX : type_of% @abs_nilm := @abs_nilm
theorem aY : type_of% @abs_nils := @abs_nils
theorem aZ : type_of% @un_not := @un_not
theorem bA : type_of% @List.zipIdx_cons := @List.zipIdx_cons
theorem bB : type_of% @List.zipIdx_nil := @List.zipIdx_nil
theorem bC : type_of% @List.foldl_cons := @List.foldl_cons
theorem bD : type_of% @List.foldl_nil := @List.foldl_nil
theorem bE : type_of% @List.map_cons := @List.map_cons
theorem bF : type_of% @List.map_nil := @List.map_nil
theorem bG : type_of% @List.map_toArray := @List.map_toArray
theorem bH : type_of% @List.nil_append := @List.nil_append
theorem bI : type_of% @List.cons_append := @List.cons_append
theorem bJ : type_of% @List.append_nil := @List.append_nil
theorem bK : type_of% @List.getElem?_cons_zero := @List.getElem?_cons_zero
theorem bL : type_of% @List.getElem?_cons_succ := @List.getElem?_cons_succ
theorem bM : type_of% @Option.map_some := @Option.map_some
theorem bN : type_of% @Option.map_none := @Option.map_none
theorem bO : type_of% @Nat.zero_add := @Nat.zero_add
theorem bP : type_of% @if_true := @if_true
theorem bQ : type_of% @if_false := @if_false
theorem bR : type_of% @Option.getD_some := @Option.getD_some
theorem bS : type_of% @Option.getD_none := @Option.getD_none
theorem bT : type_of% @Bool.false_eq_true := @Bool.false_eq_true
theorem bU : type_of% @Bool.true_eq_false := @Bool.true_eq_false
theorem bV : type_of% @Option.some.injEq := @Option.some.injEq
theorem bW : type_of% @exists_eq_left' := @exists_eq_left'
theorem bX : type_of% @beq_self_eq_true := @beq_self_eq_true
theorem bY : type_of% @decide_true := @decide_true
theorem bZ : type_of% @decide_false := @decide_false
theorem cA : type_of% @decide_eq_true_eq := @decide_eq_true_eq
theorem cB : type_of% @ne_eq := @ne_eq
theorem cC : type_of% @not_true_eq_false := @not_true_eq_false
theorem cD : type_of% @not_false_eq_true := @not_false_eq_true
theorem cE : type_of% @Bool.not_eq_true := @Bool.not_eq_true
theorem cF : type_of% @beq_iff_eq := @beq_iff_eq
theorem cG : type_of% @bin_add := @bin_add
theorem cH : type_of% @bin_sub := @bin_sub
theorem cI : type_of% @bin_mul := @bin_mul
theorem cJ : type_of% @bin_eql := @bin_eql
theorem cK : type_of% @bin_neq := @bin_neq
theorem cL : type_of% @bin_lss := @bin_lss
theorem cM : type_of% @bin_leq := @bin_leq
theorem cN : type_of% @bin_gtr := @bin_gtr
theorem cO : type_of% @bin_geq := @bin_geq
theorem cP : type_of% @Prod.mk.injEq := @Prod.mk.injEq
theorem cQ : type_of% @and_true := @and_true
theorem cR : type_of% @true_and := @true_and
theorem cS : type_of% @beq_eq_false_iff_ne := @beq_eq_false_iff_ne
theorem cT : type_of% @decide_eq_false_iff_not := @decide_eq_false_iff_not
theorem cU : type_of% @Bool.true_beq := @Bool.true_beq
theorem cV : type_of% @Bool.false_beq := @Bool.false_beq
theorem cW : type_of% @beq_true := @beq_true
theorem cX : type_of% @beq_false := @beq_false
theorem cY : type_of% @Bool.not_true := @Bool.not_true
theorem cZ : type_of% @Bool.not_false := @Bool.not_false
theorem dA : type_of% @List.getElem?_toArray := @List.getElem?_toArray
theorem dB : type_of% @WQ_cons := @WQ_cons
theorem dC : type_of% @WQ_nil := @WQ_nil
theorem dD : type_of% @ph0_still := @ph0_still
theorem dE : type_of% @ph0_skip := @ph0_skip
theorem dF : type_of% @ph0_new := @ph0_new
theorem dG : type_of% @ph0_read := @ph0_read
theorem dH : type_of% @ph0_eff := @ph0_eff
theorem dI : type_of% @ph1_still := @ph1_still
theorem dJ : type_of% @ph1_skip := @ph1_skip
theorem dK : type_of% @ph1_read := @ph1_read
theorem dL : type_of% @ph1_eff := @ph1_eff
theorem dM : type_of% @ph2_still := @ph2_still
theorem dN : type_of% @ph2_skip := @ph2_skip
theorem dO : type_of% @loadOp_ro := @loadOp_ro
theorem dP : type_of% @loadOp_nil := @loadOp_nil
theorem dQ : type_of% @eqB_int := @eqB_int
theorem dR : type_of% @eqB_str := @eqB_str
theorem dS : type_of% @eqB_bool := @eqB_bool
theorem dT : type_of% @eqB_ptr := @eqB_ptr
theorem dU : type_of% @eqB_slice := @eqB_slice
theorem dV : type_of% @eqB_nils := @eqB_nils
theorem dW : type_of% @Nat.le_refl := @Nat.le_refl
theorem dX : type_of% @nx_succ := @nx_succ
theorem dY : type_of% @WH_cons2 := @WH_cons2
theorem dZ : type_of% @WH_nil := @WH_nil
theorem eA : type_of% @phW_eff := @phW_eff
theorem eB : type_of% @phW_read := @phW_read
theorem eC : type_of% @phW_new := @phW_new
theorem eD : type_of% @phW_still := @phW_still
theorem eF : type_of% @phW_skip := @phW_skip
theorem eG : type_of% @phH_eff := @phH_eff
theorem eH : type_of% @phH_read := @phH_read
theorem eI : type_of% @phH_new := @phH_new
theorem eJ : type_of% @phH_still := @phH_still
theorem eK : type_of% @phH_skip := @phH_skip
theorem eL : type_of% @phR_eff := @phR_eff
theorem eM : type_of% @phR_read := @phR_read
theorem eN : type_of% @phR_new := @phR_new
theorem eO : type_of% @phR_still := @phR_still
theorem eP : type_of% @phR_skip := @phR_skip
theorem eQ : type_of% @allG_cons := @allG_cons
theorem eS : type_of% @allG_nil := @allG_nil
theorem eT : type_of% @allR_cons := @allR_cons
theorem eU : type_of% @allR_nil := @allR_nil
theorem eX : type_of% @WR_cons := @WR_cons
theorem eY : type_of% @WR_nil := @WR_nil
theorem eZ : type_of% @W2_cons := @W2_cons
theorem fA : type_of% @W2_nil := @W2_nil
def drs : Code → List (Array Oper)
  | .region _ ops true => [ops]
  | .seq a b => drs a ++ drs b
  | .cond _ a b => drs a ++ drs b
  | .block _ a => drs a
  | .loop a => drs a
  | _ => []
def dAt (b : Option Code) (i : Nat) : Array Oper := match b with
  | some c => (drs c).getD i #[]
  | none => #[]
end CI
noncomputable section
namespace CI
open Go
def partsOf (P : Program) : List Field → Option (List (Nat × Nat × Bool))
  | [] => some []
  | f :: fs =>
    match P.info? f.type, P.underlying f.type with
    | some fi, some d => (partsOf P fs).map fun l => (f.offset, fi.size, isAggD d) :: l
    | _, _ => none
def zOK (info : TypeInfo) : Bool :=
  match info.zero with
  | some z => z.cells.size == info.size
  | none => true
def mkTI (P : Program) (t : TypeId) : Option TInfo :=
  match P.info? t, P.underlying t with
  | some info, some d =>
    match (match d with
      | .struct fs => partsOf P fs.toList
      | _ => some []) with
    | some ps =>
      if zOK info then some ⟨d, info.size, info.bytes, isAggD d, info.zero, ps⟩ else none
    | none => none
  | _, _ => none
theorem partsOf_at {P : Program} : ∀ {fs : List Field} {l : List (Nat × Nat × Bool)}, partsOf P fs = some l → l.length = fs.length ∧
    ∀ (j : Nat) (p : Nat × Nat × Bool), l[j]? = some p → ∃ f fi d, fs[j]? = some f ∧ P.info? f.type = some fi ∧ P.underlying f.type = some d ∧ p = (f.offset, fi.size, isAggD d)
  | [], l, h => by simp only [partsOf, Option.some.injEq] at h; subst h; simp
  | f :: fs, l, h => by
    simp only [partsOf] at h
    split at h
    · rename_i fi d h1 h2
      simp only [Option.map_eq_some_iff] at h
      obtain ⟨l', hl', rfl⟩ := h
      obtain ⟨e1, e2⟩ := partsOf_at hl'
      refine ⟨by simp [e1], fun j p hj => ?_⟩
      cases j with
      | zero => simp at hj; subst hj; exact ⟨f, fi, d, rfl, h1, h2, rfl⟩
      | succ j => simpa using e2 j p (by simpa using hj)
    · cases h
theorem mkTI_fact {P : Program} {t : TypeId} {i : TInfo} (h : mkTI P t = some i) : TFact P t i := by
  unfold mkTI at h
  split at h
  · rename_i info d h1 h2
    split at h
    · rename_i ps hps
      split at h
      · rename_i hz
        injection h with h; subst h
        refine ⟨?_, ?_, h2, ⟨info, h1, rfl, rfl, rfl⟩, rfl, ?_⟩
        · intro fs hfs
          simp only at hfs; subst hfs
          simpa using (partsOf_at hps).1
        · intro z hz'
          simp only at hz'
          simp only [zOK] at hz
          rw [hz'] at hz
          simpa using hz
        · intro fs hfs j p hj
          simp only at hfs; subst hfs
          obtain ⟨f, fi, d', e1, e2⟩ := (partsOf_at hps).2 j p hj
          exact ⟨f, fi, d', by simpa using e1, e2⟩
      · cases h
    · cases h
  · cases h
end CI
namespace CI
open Go
def Tr.All {α : Type} (p : Nat → α → Prop) : Tr α → Prop
  | .nil => True
  | .node l v r => (∀ a, v = some a → p 0 a) ∧ Tr.All (fun k => p (2 * k + 1)) l ∧ Tr.All (fun k => p (2 * k + 2)) r
theorem Tr.all_get {α : Type} {p : Nat → α → Prop} {t : Tr α} (h : Tr.All p t) : ∀ k a, t.get k = some a → p k a := by
  induction t generalizing p with
  | nil => intro k a h; simp [Tr.get_nil] at h
  | node l v r ihl ihr =>
    obtain ⟨h0, hl, hr⟩ := h
    intro k a hk
    simp only [Tr.get_node] at hk
    split at hk
    · rename_i e; subst e; exact h0 a hk
    · rename_i e
      split at hk
      · rename_i e2
        have := ihl hl _ _ hk
        have e3 : 2 * (k / 2) + 1 = k := by omega
        rwa [e3] at this
      · rename_i e2
        have := ihr hr _ _ hk
        have e3 : 2 * (k / 2 - 1) + 2 = k := by omega
        rwa [e3] at this
theorem all_none {α : Type} {q : α → Prop} : ∀ a, (none : Option α) = some a → q a := fun _ h => nomatch h
theorem all_some {α : Type} {q : α → Prop} {b : α} (h : q b) : ∀ a, some b = some a → q a := fun _ e => by cases e; exact h
def Tr.allB {α : Type} (p : α → Bool) : Tr α → Bool
  | .nil => true
  | .node l v r => (match v with | some a => p a | none => true) && Tr.allB p l && Tr.allB p r
theorem Tr.allB_get {α : Type} {p : α → Bool} {t : Tr α} (h : Tr.allB p t = true) : ∀ k a, t.get k = some a → p a = true := by
  induction t with
  | nil => intro k a h; simp [Tr.get_nil] at h
  | node l v r ihl ihr =>
    simp only [Tr.allB, Bool.and_eq_true] at h
    intro k a hk
    simp only [Tr.get_node] at hk
    split at hk
    · subst hk; exact h.1.1
    · split at hk
      · exact ihl h.1.2 _ _ hk
      · exact ihr h.2 _ _ hk
def fnOK (fn : Func) : Bool := !(fn.name == "runtime.NumGoroutine") && (match fn.body with
  | some c => codeOK c
  | none => true)
theorem fnOK_name {fn : Func} (h : fnOK fn = true) : (fn.name == "runtime.NumGoroutine") = false := by
  simp only [fnOK, Bool.and_eq_true, Bool.not_eq_true'] at h; exact h.1
theorem fnOK_code {fn : Func} {c : Code} (h : fnOK fn = true) (hb : fn.body = some c) : codeOK c = true := by
  simp only [fnOK, hb, Bool.and_eq_true] at h; exact h.2
end CI
noncomputable section
namespace CI
open Go
open Go.ChangeMaps (setBlock)
structure It where
  it : Nat
  m : Nat
  es : List (AV × AV)
  ro : Bool
  cur : Option (AV × AV)
  rest : List (AV × AV)
def under (I : Option It) (H : Heap) : Heap := match I with
  | none => H
  | some i => (H.put i.m (some (.map i.es true))).put i.it (some (.iter true))
def back (I : Option It) (H : Heap) : Heap := match I with
  | none => H
  | some i => (H.put i.m (some (.map i.es i.ro))).put i.it (some (.iter false))
structure ItR (σ : Sig) (H : Heap) (w : World) (i : It) : Prop where
  hm : H.get i.m = some (.map i.es i.ro)
  hi : H.get i.it = some (.iter false)
  rel : ∃ (lm li : Loc) (E : Array MapEntry) (clock : Nat) (seen : Array Nat) (R : List (AV × AV)), σ i.m = some lm ∧ σ i.it = some li ∧ w.heap[lm.blk]? = some (.map E clock) ∧
    w.heap[li.blk]? = some (.mapIter (some lm.blk) clock seen clock) ∧ Borns E.toList clock ∧ R.Perm i.rest ∧ MapR σ R (leftOf E seen).toList ∧
    (∀ k v, i.cur = some (k, v) → ∃ e seen', e ∈ E.toList ∧ seen = Array.push seen' e.born ∧ VR σ k e.key ∧ VR σ v e.val)
def ItO (σ : Sig) (H : Heap) (w : World) : Option It → Prop
  | none => True
  | some i => ItR σ H w i
variable {P : Program} {σ σ' : Sig} {H H' Hw : Heap} {nx nx' : Nat} {w w' : World}
theorem ItR.ne {i : It} (h : ItR σ H w i) : i.m ≠ i.it := by
  intro e
  have h1 := h.hm
  rw [e, h.hi] at h1; cases h1
theorem under_get {i : It} (h : i.m ≠ i.it) (b : Nat) : (under (some i) H).get b = if b = i.it then some (.iter true) else if b = i.m then some (.map i.es true) else H.get b := by
  simp only [under, Tr.get_put]
theorem back_get {i : It} (h : i.m ≠ i.it) (b : Nat) : (back (some i) H).get b = if b = i.it then some (.iter false) else if b = i.m then some (.map i.es i.ro) else H.get b := by
  simp only [back, Tr.get_put]
theorem under_good {I : Option It} (g : Good σ H nx w) (h : ItO σ H w I) : Good σ (under I H) nx w := by
  cases I with
  | none => exact g
  | some i =>
    have hne := ItR.ne h
    have sub : ∀ b o, (under (some i) H).get b = some o → ∃ o', H.get b = some o' ∧ (∀ l, OR σ l o' w.heap[l.blk]? → OR σ l o w.heap[l.blk]?) ∧ (o.isRo = false → o' = o) := by
      intro b o hb
      rw [under_get hne] at hb
      split at hb
      · rename_i e; subst e; injection hb with hb; subst hb
        exact ⟨_, h.hi, fun l hl => hl, fun h => by cases h⟩
      · split at hb
        · rename_i e; subst e; injection hb with hb; subst hb
          exact ⟨_, h.hm, fun l hl => hl, fun h => by cases h⟩
        · exact ⟨o, hb, fun l hl => hl, fun _ => rfl⟩
    refine ⟨⟨⟨fun b o l hb hl => ?_, fun b b' o o' l l' hb hb' hl hl' he => ?_⟩, fun b hb => ⟨(g.fresh b hb).1, ?_⟩⟩, g.glb, fun b l o hb hl hr => ?_⟩
    · obtain ⟨o', h1, h2, _⟩ := sub b o hb
      exact h2 l (g.obj b o' l h1 hl)
    · obtain ⟨o1, h1, _⟩ := sub b o hb
      obtain ⟨o2, h2, _⟩ := sub b' o' hb'
      exact g.inj b b' o1 o2 l l' h1 h2 hl hl' he
    · cases hb' : (under (some i) H).get b with
      | none => rfl
      | some o =>
        obtain ⟨o', h1, _⟩ := sub b o hb'
        rw [(g.fresh b hb).2] at h1; cases h1
    · obtain ⟨o', h1, _, h3⟩ := sub b o hb
      have := h3 hr; subst this
      exact g.apart b l o' h1 hl hr
theorem step_back {I : Option It} (g : Good σ H nx w) (h : ItO σ H w I) (s : Step σ (under I H) nx w σ' Hw nx' w') (g' : Good σ' Hw nx' w') :
    Step σ H nx w σ' (back I Hw) nx' w' ∧ Good σ' (back I Hw) nx' w' ∧ ItO σ' (back I Hw) w' I := by
  cases I with
  | none => exact ⟨s, g', trivial⟩
  | some i =>
    have hne := ItR.ne h
    obtain ⟨lm, li, E, clock, seen, R, r1, r2, r3, r4, r5, r6, r7, r8⟩ := h.rel
    have um : (under (some i) H).get i.m = some (.map i.es true) := by rw [under_get hne, if_neg hne, if_pos rfl]
    have ui : (under (some i) H).get i.it = some (.iter true) := by rw [under_get hne, if_pos rfl]
    have wm := s.ro _ _ um rfl
    have wi := s.ro _ _ ui rfl
    have lt : ∀ b o, H.get b = some o → b < nx := fun b o hb => by
      rcases Nat.lt_or_ge b nx with h | h
      · exact h
      · rw [(g.fresh b h).2] at hb; cases hb
    have s1 : σ' i.m = some lm := by rw [s.old _ (lt _ _ h.hm)]; exact r1
    have s2 : σ' i.it = some li := by rw [s.old _ (lt _ _ h.hi)]; exact r2
    have u3 : ∀ b, b ≠ i.it → b ≠ i.m → (under (some i) H).get b = H.get b := fun b h1 h2 => by rw [under_get hne, if_neg h1, if_neg h2]
    have b3 : ∀ b, b ≠ i.it → b ≠ i.m → (back (some i) Hw).get b = Hw.get b := fun b h1 h2 => by rw [back_get hne, if_neg h1, if_neg h2]
    have bm : (back (some i) Hw).get i.m = some (.map i.es i.ro) := by rw [back_get hne, if_neg hne, if_pos rfl]
    have bi : (back (some i) Hw).get i.it = some (.iter false) := by rw [back_get hne, if_pos rfl]
    have hs : Step σ H nx w σ' (back (some i) Hw) nx' w' := by
      refine ⟨s.os, s.tape, s.output, s.size, s.grow, s.old, fun b o hb hr => ?_, fun b hb hn => ?_, fun b hb hn => ?_, fun k hk hh => ?_, fun b l o hb hl hlt => ?_⟩
      · by_cases e1 : b = i.it
        · subst e1; rw [h.hi] at hb; injection hb with hb; subst hb; cases hr
        · by_cases e2 : b = i.m
          · subst e2; rw [h.hm] at hb; injection hb with hb; subst hb; exact bm
          · rw [b3 b e1 e2]; exact s.ro b o (by rw [u3 b e1 e2]; exact hb) hr
      · have e1 : b ≠ i.it := by rintro rfl; rw [h.hi] at hn; cases hn
        have e2 : b ≠ i.m := by rintro rfl; rw [h.hm] at hn; cases hn
        rw [b3 b e1 e2]; exact s.dead b hb (by rw [u3 b e1 e2]; exact hn)
      · have e1 : b ≠ i.it := by rintro rfl; rw [r2] at hn; cases hn
        have e2 : b ≠ i.m := by rintro rfl; rw [r1] at hn; cases hn
        rw [b3 b e1 e2, s.unreal b hb hn, u3 b e1 e2]
      · refine s.frame k hk fun b l o hb hl he => ?_
        by_cases e1 : b = i.it
        · subst e1; rw [ui] at hb; injection hb with hb; subst hb; rfl
        · by_cases e2 : b = i.m
          · subst e2; rw [um] at hb; injection hb with hb; subst hb; rfl
          · exact hh b l o (by rw [← u3 b e1 e2]; exact hb) hl he
      · by_cases e1 : b = i.it
        · subst e1
          rw [s2] at hl; injection hl with hl; subst hl
          exact ⟨_, _, _, h.hi, r2, rfl, .inl rfl⟩
        · by_cases e2 : b = i.m
          · subst e2
            rw [s1] at hl; injection hl with hl; subst hl
            exact ⟨_, _, _, h.hm, r1, rfl, .inr rfl⟩
          · rw [b3 b e1 e2] at hb
            obtain ⟨b0, l0, o0, q1, q2, q3, q4⟩ := s.own b l o hb hl hlt
            have f1 : b0 ≠ i.it := by
              rintro rfl
              rw [ui] at q1; injection q1 with q1; subst q1
              rcases q4 with q4 | q4
              · cases q4
              · exact e1 q4.symm
            have f2 : b0 ≠ i.m := by
              rintro rfl
              rw [um] at q1; injection q1 with q1; subst q1
              rcases q4 with q4 | q4
              · cases q4
              · exact e2 q4.symm
            exact ⟨b0, l0, o0, by rw [← u3 b0 f1 f2]; exact q1, q2, q3, q4⟩
    have sub : ∀ b o, (back (some i) Hw).get b = some o → ∃ o', Hw.get b = some o' ∧ (∀ l, OR σ' l o' w'.heap[l.blk]? → OR σ' l o w'.heap[l.blk]?) := by
      intro b o hb
      by_cases e1 : b = i.it
      · subst e1; rw [bi] at hb; injection hb with hb; subst hb; exact ⟨_, wi, fun l hl => hl⟩
      · by_cases e2 : b = i.m
        · subst e2; rw [bm] at hb; injection hb with hb; subst hb; exact ⟨_, wm, fun l hl => hl⟩
        · rw [b3 b e1 e2] at hb; exact ⟨o, hb, fun l hl => hl⟩
    refine ⟨hs, g.up hs ⟨⟨fun b o l hb hl => ?_, fun b b' o o' l l' hb hb' hl hl' he => ?_⟩, fun b hb => ⟨(g'.fresh b hb).1, ?_⟩⟩, ⟨bm, bi, lm, li, E, clock, seen, R, s1, s2, ?_, ?_, r5, r6, r7.ext (Step.ext g hs), ?_⟩⟩
    · obtain ⟨o', h1, h2⟩ := sub b o hb
      exact h2 l (g'.obj b o' l h1 hl)
    · obtain ⟨o1, h1, _⟩ := sub b o hb
      obtain ⟨o2, h2, _⟩ := sub b' o' hb'
      exact g'.inj b b' o1 o2 l l' h1 h2 hl hl' he
    · cases hb' : (back (some i) Hw).get b with
      | none => rfl
      | some o =>
        obtain ⟨o', h1, _⟩ := sub b o hb'
        rw [(g'.fresh b hb).2] at h1; cases h1
    · rw [s.frame lm.blk (Array.getElem?_eq_some_iff.1 r3).1 fun b l o hb hl he => ?_]
      · exact r3
      · have gw := under_good g h
        have : b = i.m := gw.inj b i.m o _ l lm hb um hl r1 he
        subst this
        rw [um] at hb; injection hb with hb; subst hb; rfl
    · rw [s.frame li.blk (Array.getElem?_eq_some_iff.1 r4).1 fun b l o hb hl he => ?_]
      · exact r4
      · have gw := under_good g h
        have : b = i.it := gw.inj b i.it o _ l li hb ui hl r2 he
        subst this
        rw [ui] at hb; injection hb with hb; subst hb; rfl
    · intro k v hkv
      obtain ⟨e, seen', q1, q2, q3, q4⟩ := r8 k v hkv
      exact ⟨e, seen', q1, q2, q3.ext (Step.ext g hs), q4.ext (Step.ext g hs)⟩
def rangeA (T : Tr TInfo) (H : Heap) (nx : Nat) (t : TypeId) (x : AV) : Option (AV × Heap × Nat × Option It) :=
  match T.get t, x with
  | some { desc := .map _ _, .. }, .map m =>
    match H.get m with
    | some (.map es ro) => some (.ptr nx 0, H.put nx (some (.iter false)), nx + 1, some ⟨nx, m, es, ro, none, es⟩)
    | _ => none
  | _, _ => none
theorem rangeA_out {T : Tr TInfo} (hT : TOK P T) (g : Good σ H nx w) {t : TypeId} {x v : AV} {y : Value} {I : Option It} (hx : VR σ x y) (h : rangeA T H nx t x = some (v, H', nx', I)) :
    ∃ z w' σ', (Instr.range t y).run P w = .ok z w' ∧ VR σ' v z ∧ Step σ H nx w σ' H' nx' w' ∧ Good σ' H' nx' w' ∧ ItO σ' H' w' I := by
  unfold rangeA at h
  split at h
  · rename_i kt et _ _ _ _ _ m hi
    split at h
    · rename_i es ro hb
      simp only [Option.some.injEq, Prod.mk.injEq] at h
      obtain ⟨rfl, rfl, rfl, rfl⟩ := h
      simp only [VR] at hx
      obtain ⟨l, hl, rfl⟩ := hx
      obtain ⟨E, clock, es', e1, e2, e3, e4⟩ := g.obj m _ l hb hl
      have hmn : m < nx := by
        rcases Nat.lt_or_ge m nx with h | h
        · exact h
        · rw [(g.fresh m h).2] at hb; cases hb
      have hlt := g.toSim.lt hb hl
      have hal := alloc_step (w' := { w with heap := w.heap.push (.mapIter (some l.blk) clock #[] clock) }) g (o := .iter false) (O := .mapIter (some l.blk) clock #[] clock) (room := 0) rfl rfl rfl rfl ⟨_, _, _, _, rfl⟩
      refine ⟨.pointer (some ⟨w.heap.size, 0, none⟩), _, _, ?_, ?_, hal.1, hal.2, ?_⟩
      · unfold Instr.range
        rw [run_bind_ok (run_under (hT _ _ hi).under w)]
        simp only
        rw [run_bind_ok (run_getObj e1)]
        rfl
      · simp only [VR]
        exact ⟨_, Sig.upd_same _ _ _, rfl⟩
      · refine ⟨by rw [Tr.get_put_ne _ _ _ _ (by simp only; omega)]; exact hb, Tr.get_put_same _ _ _, l, _, E, clock, #[], es', by rw [Sig.upd_ne _ _ _ (by simp only; omega)]; exact hl, Sig.upd_same _ _ _, ?_, ?_, e4, e2, ?_, by simp⟩
        · rw [← e1]; simp [Array.getElem?_push, Nat.ne_of_lt hlt]
        · simp
        · have : leftOf E #[] = E := by simp [leftOf]
          rw [this]
          exact e3.ext (Sig.upd_ext _ _ _ (g.fresh nx (Nat.le_refl _)).1)
    · cases h
  · cases h
theorem filter_erase : ∀ {L : List MapEntry} {j : Nat} {e : MapEntry}, (L.map (·.born)).Nodup → L[j]? = some e → L.filter (fun x => x.born != e.born) = L.eraseIdx j
  | [], _, _, _, h => by simp at h
  | a :: L, 0, e, hn, h => by
    simp at h; subst h
    simp only [List.map_cons, List.nodup_cons] at hn
    simp only [List.eraseIdx_zero, List.tail_cons]
    rw [List.filter_cons_of_neg (by simp), List.filter_eq_self]
    intro x hx
    simp only [bne_iff_ne, ne_eq]
    intro e
    exact hn.1 (List.mem_map.2 ⟨x, hx, e⟩)
  | a :: L, j + 1, e, hn, h => by
    simp only [List.getElem?_cons_succ] at h
    simp only [List.map_cons, List.nodup_cons] at hn
    simp only [List.eraseIdx_cons_succ]
    have hne : a.born ≠ e.born := fun he => hn.1 (List.mem_map.2 ⟨e, List.mem_of_getElem? h, he.symm⟩)
    rw [List.filter_cons_of_pos (by simpa using hne), filter_erase hn.2 h]
theorem leftOf_push {E : Array MapEntry} {seen : Array Nat} {b : Nat} : (leftOf E (seen.push b)).toList = (leftOf E seen).toList.filter (fun x => x.born != b) := by
  unfold leftOf
  rw [Array.toList_filter, Array.toList_filter, List.filter_filter]
  congr 1
  funext x
  rw [Array.contains_push]
  cases h1 : seen.contains x.born <;> cases h2 : x.born == b <;> simp [bne, h1, h2]
def nextA (i : It) : List (AV × It) := i.rest.zipIdx.map fun (p, j) => (.tuple [.lit (.bool true), p.1, p.2], { i with cur := some p, rest := i.rest.eraseIdx j })
end CI
noncomputable section
namespace CI
open Go
namespace DRun
variable {C : Cx} {call : CallF} {nt : Nat} {front : Array Oper} {s0 sN : St} {l : List DS}
variable {σ0 : Sig} {w0 : World} {S : Nat → Prop} {σ : Sig} {p : Nat} {a : Act} {w w' : World}
theorem wpOp_push {last : Oper} {Q : Exit → Act → World → Prop} {i : Nat} {o : Oper} (ho : front[i]? = some o) (hg : ∀ g b, o.guard = some (g, b) → g < front.size) {K : Act → World → Prop} {P : Program}
    (h : wpOp P front Q i K a w) : wpOp P (front.push last) Q i K a w := by
  have hi := (Array.getElem?_eq_some_iff.1 ho).1
  have ho' : (front.push last)[i]? = some o := by rw [Array.getElem?_push_lt hi, ← ho, Array.getElem?_eq_getElem hi]
  unfold wpOp at h ⊢
  rw [ho] at h; rw [ho']
  simp only at h ⊢
  have hw : Region.wanted o (yielded (front.push last) a.tmps) = Region.wanted o (yielded front a.tmps) := by
    unfold Region.wanted
    cases hgd : o.guard with
    | none => rfl
    | some gb =>
      obtain ⟨g, b⟩ := gb
      have := hg g b hgd
      simp only [yielded, Array.getElem?_push_lt this, Array.getElem?_eq_getElem this]
  rw [hw]; exact h
theorem any_last {last : Oper} (hC : C.OK) (hcall : CallOK C call) (D : DRun C call nt front s0 l sN) (g0 : Good σ0 s0.H s0.nx w0) (hs : Static (front.push last).toList)
    (hg : ∀ (i : Nat) (o : Oper), front[i]? = some o → ∀ g b, o.guard = some (g, b) → g < front.size) (hl : last.guard = none)
    (hdep : ∀ j, j < front.size → ((ancs (front.push last).toList []).getD front.size 0).testBit j = true) {Q : Exit → Act → World → Prop}
    (hq : ∀ σ' w' a', ActR σ' sN.env nt a' → Step σ0 s0.H s0.nx w0 σ' sN.H sN.nx w' → Good σ' sN.H sN.nx w' → last.wp C.P a' w' (fun a w => Q .normal a w) Q) :
    ∀ (fuel : Nat) (listed : Array Bool) (σ : Sig) (p : Nat) (a : Act) (w : World), listed.size = front.size + 1 → listed.getD front.size false = false → ((List.range (front.size + 1)).filter fun i => !listed.getD i true).length ≤ fuel →
      Inv C call nt front s0 l sN σ0 w0 (fun i => listed.getD i false = true) σ p a w → wpAny C.P .any (front.push last) Q fuel listed a w := by
  intro fuel
  have hlastat : (front.push last)[front.size]? = some last := by simp
  have hfr : ∀ i o, i < front.size → (front.push last)[i]? = some o → front[i]? = some o := fun i o hi h => by rw [Array.getElem?_push_lt hi] at h; rw [← h, Array.getElem?_eq_getElem hi]
  have hrd : ∀ (listed : Array Bool), listed.size = front.size + 1 → listed.getD front.size false = false → Region.ready .any (front.push last) listed ≠ [] := by
    intro listed hsz hn hr
    have hall : ∀ n, ∀ i, i < n → i < front.size + 1 → listed.getD i false = true := by
      intro n
      induction n with
      | zero => intro i h; omega
      | succ n ih =>
        intro i hi hs'
        by_cases h : listed.getD i false = true
        · exact h
        · exfalso
          have hlt : i < (front.push last).size := by simpa using hs'
          have ho : (front.push last)[i]? = some (front.push last)[i] := Array.getElem?_eq_getElem hlt
          have hm : i ∈ Region.ready .any (front.push last) listed := by
            rw [mem_ready]
            refine ⟨?_, _, ho, fun e he hb => ?_⟩
            · have hlt : i < listed.size := by omega
              simp only [Array.getD_eq_getD_getElem?, Array.getElem?_eq_getElem hlt, Option.getD_some] at h ⊢
              simpa using h
            · have := hs.edge i _ (by rw [Array.getElem?_toList]; exact ho) e (mem_bnds he hb)
              exact ih e.on (by omega) (by omega)
          rw [hr] at hm; cases hm
    have := hall (front.size + 1) front.size (by omega) (by omega)
    rw [hn] at this; cases this
  induction fuel with
  | zero =>
    intro listed σ p a w hsz hn hc V
    exfalso
    have : front.size ∈ (List.range (front.size + 1)).filter fun i => !listed.getD i true := by
      rw [List.mem_filter, List.mem_range]
      refine ⟨by omega, ?_⟩
      have hlt : front.size < listed.size := by omega
      simp only [Array.getD_eq_getD_getElem?, Array.getElem?_eq_getElem hlt, Option.getD_some] at hn ⊢
      simpa using hn
    have := List.length_pos_of_mem this
    omega
  | succ fuel ih =>
    intro listed σ p a w hsz hn hc V
    refine ⟨fun hr => absurd hr (hrd listed hsz hn), fun i hi => ?_⟩
    obtain ⟨h1, o, ho, hdp⟩ := mem_ready.1 hi
    have his : i < front.size + 1 := by have := (Array.getElem?_eq_some_iff.1 ho).1; simpa using this
    have hS : ¬ listed.getD i false = true := by
      have hlt : i < listed.size := by omega
      simp only [Array.getD_eq_getD_getElem?, Array.getElem?_eq_getElem hlt, Option.getD_some] at h1 ⊢
      simpa using h1
    by_cases hlt : i < front.size
    · have hof := hfr i o hlt ho
      refine wpOp_push hof (hg i o hof) (V.turn hC hcall D g0 hof hS (fun e he => hdp e (of_bnds he).1 (of_bnds he).2) fun σ' p' a' w' V' => ?_)
      refine ih (listed.setIfInBounds i true) σ' p' a' w' (by simpa using hsz) ?_ ?_ ?_
      · rw [getD_set_ne false (by omega)]; exact hn
      · have : ((List.range (front.size + 1)).filter fun j => !(listed.setIfInBounds i true).getD j true).length < ((List.range (front.size + 1)).filter fun j => !listed.getD j true).length := by
          rw [← List.countP_eq_length_filter, ← List.countP_eq_length_filter]
          have hmem : i ∈ List.range (front.size + 1) := List.mem_range.2 his
          obtain ⟨s, t, hst⟩ := List.append_of_mem hmem
          have hnd : (List.range (front.size + 1)).Nodup := List.nodup_range
          rw [hst] at hnd ⊢
          rw [List.nodup_append] at hnd
          have hns : ∀ x ∈ s, x ≠ i := fun x hx => hnd.2.2 x hx i (by simp)
          have hnt : ∀ x ∈ t, x ≠ i := fun x hx e => by
            subst e
            have := hnd.2.1
            rw [List.nodup_cons] at this
            exact this.1 hx
          have e1 : s.countP (fun j => !(listed.setIfInBounds i true).getD j true) = s.countP (fun j => !listed.getD j true) :=
            List.countP_congr fun x hx => by rw [getD_set_ne true (Ne.symm (hns x hx))]
          have e2 : t.countP (fun j => !(listed.setIfInBounds i true).getD j true) = t.countP (fun j => !listed.getD j true) :=
            List.countP_congr fun x hx => by rw [getD_set_ne true (Ne.symm (hnt x hx))]
          have e3 : (!(listed.setIfInBounds i true).getD i true) = false := by
            have hlt : i < listed.size := by omega
            simp [hlt]
          rw [List.countP_append, List.countP_append, List.countP_cons, List.countP_cons, e1, e2, e3, h1]
          simp
        omega
      · have heq : (fun j => (listed.setIfInBounds i true).getD j false = true) = plus (fun j => listed.getD j false = true) i := by
          funext j
          apply propext
          unfold plus
          by_cases e : j = i
          · subst e
            have hlt : j < listed.size := by omega
            simp [hlt]
          · rw [getD_set_ne false (Ne.symm e)]
            simp [e]
        rw [heq]
        exact V'
    · have hie : i = front.size := by omega
      subst hie
      rw [hlastat] at ho; injection ho with ho; subst ho
      have hall : ∀ j, j < front.size → listed.getD j false = true := by
        intro j hj
        refine anc_closed hs (S := fun j => listed.getD j false = true) (fun i o hSi ho e he => ?_) (front.size + 1) front.size last (by omega) (by rw [Array.getElem?_toList]; exact hlastat) (fun e he => hdp e (of_bnds he).1 (of_bnds he).2) j (hdep j hj)
        rcases Nat.lt_or_ge i front.size with h | h
        · exact V.down i o hSi (hfr i o h (by rw [← Array.getElem?_toList]; exact ho)) e he
        · exfalso
          have : i = front.size := by
            have := (List.getElem?_eq_some_iff.1 ho).1
            simp at this; omega
          subst this
          rw [hn] at hSi; cases hSi
      obtain ⟨k1, k2, k3⟩ := V.last D g0 hall
      unfold wpOp
      rw [hlastat]
      simp only
      have hw : Region.wanted last (yielded (front.push last) a.tmps) = true := by unfold Region.wanted; rw [hl]
      rw [if_pos hw]
      refine .inl (Oper.wp_mono (fun a w h => ?_) (hq σ w a k1 k2 k3))
      refine wpAny_done ?_ h _
      cases hr : Region.ready .any (front.push last) (listed.setIfInBounds front.size true) with
      | nil => rfl
      | cons i t =>
        exfalso
        have hm : i ∈ Region.ready .any (front.push last) (listed.setIfInBounds front.size true) := by rw [hr]; simp
        obtain ⟨q1, o, q2, _⟩ := mem_ready.1 hm
        have hi2 := (Array.getElem?_eq_some_iff.1 q2).1
        simp only [Array.size_push] at hi2
        by_cases e : i = front.size
        · subst e
          have hlt : front.size < listed.size := by omega
          simp [hlt] at q1
        · rw [getD_set_ne true (Ne.symm e)] at q1
          have := hall i (by omega)
          have hlt : i < listed.size := by omega
          simp only [Array.getD_eq_getD_getElem?, Array.getElem?_eq_getElem hlt, Option.getD_some] at this q1
          rw [this] at q1; cases q1
end DRun
def isRangeOp : Op → Bool
  | .range _ _ => true
  | _ => false
def guardBelow (n : Nat) (o : Oper) : Bool := match o.guard with
  | none => true
  | some (g, _) => decide (g < n)
def lastOK (ops : Array Oper) (o : Oper) : Bool :=
  isRangeOp o.op && o.guard.isNone && drawStatic ops.pop.toList && ((List.range ops.pop.size).all fun j => ((ancs ops.toList []).getD ops.pop.size 0).testBit j) && ops.pop.toList.all (guardBelow ops.pop.size)
def splitLast (ops : Array Oper) : Option (Array Oper × Oper) :=
  match ops.back? with
  | some o => if lastOK ops o then some (ops.pop, o) else none
  | none => none
theorem runLast_wp {C : Cx} (hC : C.OK) (hm : C.P.follows .mixedOrders = true) {call : CallF} (hcall : CallOK C call) {nt id : Nat} {ops front : Array Oper} {last : Oper} (hst : drawStatic ops.toList = true) (hsp : splitLast ops = some (front, last)) {s s' : St} {σ : Sig} {w : World} {a : Act}
    (h : runDraw C call nt front s = some s') (he : ActR σ s.env nt a) (g : Good σ s.H s.nx w) {Q : Exit → Act → World → Prop}
    (hq : ∀ σ' w' a', ActR σ' s'.env nt a' → Step σ s.H s.nx w σ' s'.H s'.nx w' → Good σ' s'.H s'.nx w' → last.wp C.P a' w' (fun a w => Q .normal a w) Q) : (Code.region id ops true).wp C.P Q a w := by
  unfold splitLast at hsp
  split at hsp
  case h_2 => cases hsp
  rename_i o hback
  split at hsp
  case isFalse => cases hsp
  rename_i hc
  simp only [Option.some.injEq, Prod.mk.injEq] at hsp
  obtain ⟨rfl, rfl⟩ := hsp
  simp only [lastOK, Bool.and_eq_true, List.all_eq_true, List.mem_range, Option.isNone_iff_eq_none] at hc
  obtain ⟨⟨⟨⟨_, c2⟩, c3⟩, c4⟩, c5⟩ := hc
  have hops : ops = ops.pop.push o := by
    rw [Array.back?_eq_getElem?] at hback
    have hlt := (Array.getElem?_eq_some_iff.1 hback)
    obtain ⟨h1, h2⟩ := hlt
    apply Array.ext
    · simp; omega
    · intro i hi1 hi2
      rcases Nat.lt_or_ge i (ops.size - 1) with h | h
      · rw [Array.getElem_push_lt (by simpa using h)]; simp
      · have : i = ops.size - 1 := by omega
        subst this
        rw [Array.getElem_push, dif_neg (by simp), h2]
  have hst' : Static (ops.pop.push o).toList := by rw [← hops]; exact static_of hst
  unfold runDraw at h
  split at h
  · cases h
  · rename_i l sN hrun
    simp only at h
    split at h
    · rename_i hall
      injection h with h; subst h
      have D : DRun C call nt ops.pop s l sN := by
        refine ⟨hrun, static_of c3, fun i o d ho hd hk => ?_⟩
        rw [List.all_eq_true] at hall
        have hm : ((o, d), i) ∈ (ops.pop.toList.zip l).zipIdx := by
          rw [List.mk_mem_zipIdx_iff_getElem?, List.getElem?_zip_eq_some]
          exact ⟨by rw [Array.getElem?_toList]; exact ho, hd⟩
        have := hall _ hm
        simp only [hk] at this
        exact this
      have V := D.first (w := { w with drawn := w.drawn + 1 }) g he rfl rfl rfl rfl
      refine wp_region_any hm ?_
      have key := D.any_last hC hcall g hst' (fun i o ho gd b hgd => ?_) c2 (by rw [← hops]; exact c4) hq ops.size (Array.replicate ops.size false) σ 0 a { w with drawn := w.drawn + 1 } ?_ ?_ ?_ ?_
      · rw [← hops] at key; exact key
      · have hmem : o ∈ ops.pop.toList := by rw [Array.mem_toList_iff]; exact Array.mem_of_getElem? ho
        have := c5 o hmem
        simpa [guardBelow, hgd] using this
      · have : ops.size = (ops.pop.push o).size := by rw [← hops]
        rw [Array.size_push] at this
        simpa using this
      · have : ops.size = (ops.pop.push o).size := by rw [← hops]
        rw [Array.size_push] at this
        simp only [Array.getD_eq_getD_getElem?]
        cases hi : (Array.replicate ops.size false)[ops.pop.size]? with
        | none => rfl
        | some b =>
          have := (Array.getElem?_eq_some_iff.1 hi).2
          simp at this
          simp [← this]
      · have : ops.size = (ops.pop.push o).size := by rw [← hops]
        rw [Array.size_push] at this
        rw [← this]
        exact Nat.le_trans (List.length_filter_le _ _) (by simp)
      · have heq : (fun i => (Array.replicate ops.size false).getD i false = true) = fun _ => False := by
          funext i
          apply propext
          simp only [Array.getD_eq_getD_getElem?]
          cases hi : (Array.replicate ops.size false)[i]? with
          | none => simp
          | some b =>
            have := (Array.getElem?_eq_some_iff.1 hi).2
            simp at this
            simp [← this]
        rw [heq]
        exact V
    · cases h
end CI
