/- A region whose order is drawn: what makes blocks, what reads, one effect; and what reads behind it just what it would have read ahead of it. -/
import Derived.Test.YtbdlpeldglggkaaGreatDoorCq
set_option linter.unusedVariables false
set_option linter.unusedSimpArgs false
noncomputable section
namespace CI
open Go

/-- What is read there is what was read. -/
def goodAt (C : Cx) (op : Op) (E : Tr AV) (nx : Nat) (v : AV) (X : Heap) : Prop := ∃ u Y, opA C (ev E) op (roAll X) nx = some (u, Y, nx) ∧ AV.eqB u v = true
theorem goodAt.nx {C : Cx} {op : Op} {E : Tr AV} {nx : Nat} {v : AV} {X : Heap} (he : isEff op = false) (h : goodAt C op E nx v X) (n : Nat) : goodAt C op E n v X := by
  obtain ⟨u, Y, h1, h2⟩ := h
  obtain ⟨Y', h3⟩ := opA_nx he h1 n
  exact ⟨u, Y', h3, h2⟩

/-- Behind the effect; 'Hb' stood ahead of it. -/
def W2 (C : Cx) (nt : Nat) (Hb : Heap) : List SOp → St → (St → Prop) → Prop
  | [], s, K => K s
  | o :: rest, s, K =>
    match txS C (Cl C) o s.env s.H s.nx with
    | some (.still, v, H', nx') => match put? s.env nt o.dst v with
      | some E' => W2 C nt Hb rest ⟨E', H', nx'⟩ K
      | none => False
    | some (.skip, v, H', nx') => match put? s.env nt o.dst v with
      | some E' => W2 C nt Hb rest ⟨E', H', nx'⟩ K
      | none => False
    | some (.read, v, H', nx') => (AV.eqB v v = true ∧ goodAt C o.op s.env s.nx v Hb) ∧ match put? s.env nt o.dst v with
      | some E' => W2 C nt Hb rest ⟨E', H', nx'⟩ K
      | none => False
    | _ => False
def WR (C : Cx) (nt : Nat) : Nat → List SOp → St → (St → Prop) → Prop
  | _, [], s, K => K s
  | ph, o :: rest, s, K =>
    match txS C (Cl C) o s.env s.H s.nx with
    | some (.eff, v, H', nx') => match put? s.env nt o.dst v with
      | some E' => W2 C nt s.H rest ⟨E', H', nx'⟩ K
      | none => False
    | some (k, v, H', nx') =>
      match nextPh ph k v with
      | some ph' => match put? s.env nt o.dst v with
        | some E' => WR C nt ph' rest ⟨E', H', nx'⟩ K
        | none => False
      | none => False
    | none => False

theorem nextPh_new {ph ph' : Nat} {k : K} {v : AV} (h : nextPh ph k v = some ph') (h1 : 1 ≤ ph) : (∀ ob, k ≠ .new ob) ∧ 1 ≤ ph' := by
  cases k with
  | new ob =>
    exfalso
    match ph, h1 with
    | 1, _ => simp [nextPh] at h
    | 2, _ => simp [nextPh] at h
    | n + 3, _ => simp [nextPh] at h
  | skip => refine ⟨by simp, ?_⟩; match ph, h1 with
    | 1, _ => simp [nextPh] at h; omega
    | 2, _ => simp [nextPh] at h; omega
    | n + 3, _ => simp [nextPh] at h; omega
  | still => refine ⟨by simp, ?_⟩; match ph, h1 with
    | 1, _ => simp [nextPh] at h; omega
    | 2, _ => simp [nextPh] at h; omega
    | n + 3, _ => simp [nextPh] at h; omega
  | read => refine ⟨by simp, ?_⟩; match ph, h1 with
    | 1, _ => simp [nextPh] at h; omega
    | 2, _ => simp [nextPh] at h
    | n + 3, _ => simp [nextPh] at h; omega
  | eff => refine ⟨by simp, ?_⟩; match ph, h1 with
    | 1, _ => simp [nextPh] at h; omega
    | 2, _ => simp [nextPh] at h
    | n + 3, _ => simp [nextPh] at h; omega
theorem nextPh_read {ph ph' : Nat} {v : AV} (h : nextPh ph .read v = some ph') : AV.eqB v v = true ∧ 1 ≤ ph' := by
  match ph with
  | 0 => simp [nextPh] at h; exact ⟨h.1, by omega⟩
  | 1 => simp [nextPh] at h; exact ⟨h.1, by omega⟩
  | 2 => simp [nextPh] at h
  | n + 3 => simp [nextPh] at h; exact ⟨h.1, by omega⟩

theorem stripO_op (ops : Array Oper) (o : Oper) : (stripO ops o).op = o.op := rfl
theorem stripO_dst (ops : Array Oper) (o : Oper) : (stripO ops o).dst = o.dst := rfl

theorem tx_cons {C : Cx} {nt : Nat} {ops : Array Oper} {o : Oper} {rest : List Oper} {s sN : St} {k : K} {v : AV} {H' : Heap} {nx' : Nat} {E' : Tr AV} {ds : List DS} (h1 : tx1 C (Cl C) ops o s = some (k, v, H', nx'))
    (h2 : put? s.env nt o.dst v = some E') (h3 : txRun C (Cl C) nt ops rest ⟨E', H', nx'⟩ = some (ds, sN)) : txRun C (Cl C) nt ops (o :: rest) s = some (⟨k, v, s⟩ :: ds, sN) := by
  rw [txRun, h1]
  simp only
  rw [h2]
  simp only
  rw [h3]

theorem W2_run {C : Cx} {nt : Nat} {ops : Array Oper} {Hb : Heap} {K : St → Prop} : ∀ (l : List Oper) (s : St), W2 C nt Hb (l.map (stripO ops)) s K →
    ∃ ds sN, txRun C (Cl C) nt ops l s = some (ds, sN) ∧ K sN ∧ ds.length = l.length ∧
      (∀ (i : Nat) (d : DS), ds[i]? = some d → ∃ o, l[i]? = some o ∧ (∃ H' nx', tx1 C (Cl C) ops o d.s = some (d.k, d.v, H', nx')) ∧ d.k ≠ .eff ∧ (∀ ob, d.k ≠ .new ob) ∧ d.s.H = s.H ∧
        (d.k = .read → AV.eqB d.v d.v = true ∧ goodAt C o.op d.s.env d.s.nx d.v Hb))
  | [], s, h => ⟨[], s, rfl, h, rfl, by simp⟩
  | o :: rest, s, h => by
    simp only [List.map_cons, W2] at h
    rw [← txS_eq] at h
    have main : ∀ (k : CI.K) (v : AV) (H' : Heap) (nx' : Nat) (E' : Tr AV), tx1 C (Cl C) ops o s = some (k, v, H', nx') → k ≠ .eff → (∀ ob, k ≠ .new ob) → put? s.env nt o.dst v = some E' → W2 C nt Hb (rest.map (stripO ops)) ⟨E', H', nx'⟩ K →
        (k = .read → AV.eqB v v = true ∧ goodAt C o.op s.env s.nx v Hb) →
        ∃ ds sN, txRun C (Cl C) nt ops (o :: rest) s = some (ds, sN) ∧ K sN ∧ ds.length = (o :: rest).length ∧
          (∀ (i : Nat) (d : DS), ds[i]? = some d → ∃ o', (o :: rest)[i]? = some o' ∧ (∃ H' nx', tx1 C (Cl C) ops o' d.s = some (d.k, d.v, H', nx')) ∧ d.k ≠ .eff ∧ (∀ ob, d.k ≠ .new ob) ∧ d.s.H = s.H ∧
            (d.k = .read → AV.eqB d.v d.v = true ∧ goodAt C o'.op d.s.env d.s.nx d.v Hb)) := by
      intro k v H' nx' E' h1 h2 h3 h4 h5 h6
      obtain ⟨ds, sN, r1, r2, r3, r4⟩ := W2_run rest _ h5
      refine ⟨_, sN, tx_cons h1 h4 r1, r2, by simp [r3], ?_⟩
      intro i d hd
      cases i with
      | zero => simp at hd; subst hd; exact ⟨o, rfl, ⟨H', nx', h1⟩, h2, h3, rfl, h6⟩
      | succ i =>
        obtain ⟨o', q1, q2, q3, q4, q5, q6⟩ := r4 i d (by simpa using hd)
        refine ⟨o', by simpa using q1, q2, q3, q4, ?_, q6⟩
        have sh := tx1_shape h1
        rw [q5]
        cases k with
        | new ob => exact absurd rfl (h3 ob)
        | eff => exact absurd rfl h2
        | _ => exact sh.1
    split at h
    · rename_i v H' nx' hk
      split at h
      · rename_i E' hE
        exact main _ v H' nx' E' hk (by simp) (by simp) hE h (by simp)
      · cases h
    · rename_i v H' nx' hk
      split at h
      · rename_i E' hE
        exact main _ v H' nx' E' hk (by simp) (by simp) hE h (by simp)
      · cases h
    · rename_i v H' nx' hk
      obtain ⟨h0, h⟩ := h
      split at h
      · rename_i E' hE
        exact main _ v H' nx' E' hk (by simp) (by simp) hE h (fun _ => h0)
      · cases h
    · cases h

theorem WR_run {C : Cx} {nt : Nat} {ops : Array Oper} {K : St → Prop} : ∀ (l : List Oper) (ph : Nat) (s : St), WR C nt ph (l.map (stripO ops)) s K →
    ∃ ds sN, txRun C (Cl C) nt ops l s = some (ds, sN) ∧ K sN ∧ ds.length = l.length ∧
      (∀ (i : Nat) (d : DS), ds[i]? = some d → ∃ o, l[i]? = some o ∧ (∃ H' nx', tx1 C (Cl C) ops o d.s = some (d.k, d.v, H', nx'))) ∧
      (1 ≤ ph → ∀ d : DS, d ∈ ds → ∀ ob, d.k ≠ .new ob) ∧
      ∃ e, (∀ (i : Nat) (d : DS), ds[i]? = some d → d.k = .eff → i = e) ∧
        (∀ (i : Nat) (d : DS), ds[i]? = some d → e < i → ∀ ob, d.k ≠ .new ob) ∧
        (∀ (i : Nat) (d : DS) (o : Oper), ds[i]? = some d → l[i]? = some o → d.k = .read → goodAt C o.op d.s.env d.s.nx d.v (ds.foldl stepN s.H) ∧ (e < i → goodAt C o.op d.s.env d.s.nx d.v (stAt ds sN (e + 1)).H))
  | [], ph, s, h => ⟨[], s, rfl, h, rfl, by simp, by simp, 0, by simp, by simp, by simp⟩
  | o :: rest, ph, s, h => by
    simp only [List.map_cons, WR] at h
    rw [← txS_eq] at h
    split at h
    · rename_i v H' nx' hk
      split at h
      · rename_i E' hE
        obtain ⟨ds, sN, r1, r2, r3, r4⟩ := W2_run rest _ h
        have hnn : ∀ d ∈ ds, ∀ ob, d.k ≠ .new ob := by
          intro d hd ob
          obtain ⟨i, hi⟩ := List.getElem?_of_mem hd
          obtain ⟨_, _, _, _, q, _⟩ := r4 i d hi
          exact q ob
        have hfold : (DS.mk .eff v s :: ds).foldl stepN s.H = s.H := by
          rw [List.foldl_cons, stepN_none hnn]
          rfl
        refine ⟨_, sN, tx_cons hk hE r1, r2, by simp [r3], ?_, ?_, 0, ?_, ?_, ?_⟩
        · intro i d hd
          cases i with
          | zero => simp at hd; subst hd; exact ⟨o, rfl, H', nx', hk⟩
          | succ i =>
            obtain ⟨o', q1, q2, _⟩ := r4 i d (by simpa using hd)
            exact ⟨o', by simpa using q1, q2⟩
        · intro _ d hd ob
          rcases List.mem_cons.1 hd with rfl | hd
          · simp
          · exact hnn d hd ob
        · intro i d hd he
          cases i with
          | zero => rfl
          | succ i =>
            obtain ⟨_, _, _, q, _⟩ := r4 i d (by simpa using hd)
            exact absurd he q
        · intro i d hd hi ob
          cases i with
          | zero => omega
          | succ i =>
            obtain ⟨_, _, _, _, q, _⟩ := r4 i d (by simpa using hd)
            exact q ob
        · intro i d o' hd ho hr
          rw [hfold]
          cases i with
          | zero => simp at hd; subst hd; cases hr
          | succ i =>
            simp only [List.getElem?_cons_succ] at hd ho
            obtain ⟨o2, q1, ⟨Hx, nxx, q2⟩, q3, q4, q5, q6⟩ := r4 i d hd
            rw [ho] at q1
            injection q1 with q1
            subst q1
            obtain ⟨q7, q8⟩ := q6 hr
            refine ⟨q8, fun _ => ?_⟩
            have hs : (stAt (DS.mk .eff v s :: ds) sN (0 + 1)).H = H' := by
              have : stAt (DS.mk .eff v s :: ds) sN (0 + 1) = stAt ds sN 0 := by simp [stAt]
              rw [this, txRun_first r1]
            rw [hs]
            rw [hr] at q2
            obtain ⟨_, X, hX⟩ := tx1_read q2
            rw [q5] at hX
            exact ⟨_, X, hX, q7⟩
      · cases h
    · rename_i k v H' nx' hkne hk
      split at h
      · rename_i ph' hph
        split at h
        · rename_i E' hE
          obtain ⟨ds, sN, r1, r2, r3, r4, r5, e, r6, r7, r8⟩ := WR_run rest ph' _ h
          have sh := tx1_shape hk
          have hke : k ≠ .eff := fun hh => hkne hh
          have hstep : stepN s.H ⟨k, v, s⟩ = H' := by
            show stepK s.H s.nx k = H'
            cases k with
            | new ob => exact sh.symm
            | eff => exact absurd rfl hke
            | _ => exact sh.1.symm
          refine ⟨_, sN, tx_cons hk hE r1, r2, by simp [r3], ?_, ?_, e + 1, ?_, ?_, ?_⟩
          · intro i d hd
            cases i with
            | zero => simp at hd; subst hd; exact ⟨o, rfl, H', nx', hk⟩
            | succ i =>
              obtain ⟨o', q1, q2⟩ := r4 i d (by simpa using hd)
              exact ⟨o', by simpa using q1, q2⟩
          · intro h1 d hd ob he
            have hk0 := nextPh_new hph h1
            rcases List.mem_cons.1 hd with rfl | hd
            · exact hk0.1 ob he
            · exact r5 hk0.2 d hd ob he
          · intro i d hd he
            cases i with
            | zero => simp at hd; subst hd; exact absurd he hke
            | succ i => rw [r6 i d (by simpa using hd) he]
          · intro i d hd hi ob
            cases i with
            | zero => omega
            | succ i => exact r7 i d (by simpa using hd) (by omega) ob
          · intro i d o' hd ho hr
            rw [List.foldl_cons, hstep]
            have hst : stAt (DS.mk k v s :: ds) sN (e + 1 + 1) = stAt ds sN (e + 1) := by simp [stAt]
            rw [hst]
            cases i with
            | zero =>
              simp at hd ho; subst hd; subst ho
              simp only at hr; subst hr
              have hp1 := nextPh_read hph
              refine ⟨?_, fun h => by omega⟩
              rw [stepN_none (r5 hp1.2)]
              obtain ⟨_, X, hX⟩ := tx1_read hk
              rw [show H' = s.H from sh.1]
              exact ⟨v, X, hX, hp1.1⟩
            | succ i =>
              simp only [List.getElem?_cons_succ] at hd ho
              obtain ⟨q1, q2⟩ := r8 i d o' hd ho hr
              exact ⟨q1, fun h => q2 (by omega)⟩
        · cases h
      · cases h
    · cases h

theorem addNews_none {l : List DS} {p : Nat} {H : Heap} (h : ∀ (i : Nat) (d : DS), l[i]? = some d → p ≤ i → ∀ ob, d.k ≠ .new ob) : addNews l p H = H := by
  have : addNews l p H = (l.drop p).foldl stepN H := by unfold addNews; rfl
  rw [this]
  refine stepN_none fun d hd ob => ?_
  obtain ⟨i, hi⟩ := List.getElem?_of_mem hd
  rw [List.getElem?_drop] at hi
  exact h (p + i) d hi (by omega) ob

/-- What a run of a drawn region must show. -/
theorem draw_concl {C : Cx} {nt : Nat} {ops : Array Oper} {s sN : St} {ds : List DS} {e : Nat} {K : St → Prop} (hl : effOK ops = true) (h1 : txRun C (Cl C) nt ops ops.toList s = some (ds, sN)) (h2 : K sN) (h3 : ds.length = ops.toList.length)
    (h4 : ∀ (i : Nat) (d : DS), ds[i]? = some d → ∃ o, ops.toList[i]? = some o ∧ (∃ H' nx', tx1 C (Cl C) ops o d.s = some (d.k, d.v, H', nx')))
    (h6 : ∀ (i : Nat) (d : DS), ds[i]? = some d → d.k = .eff → i = e) (h7 : ∀ (i : Nat) (d : DS), ds[i]? = some d → e < i → ∀ ob, d.k ≠ .new ob)
    (h8 : ∀ (i : Nat) (d : DS) (o : Oper), ds[i]? = some d → ops.toList[i]? = some o → d.k = .read → goodAt C o.op d.s.env d.s.nx d.v (ds.foldl stepN s.H) ∧ (e < i → goodAt C o.op d.s.env d.s.nx d.v (stAt ds sN (e + 1)).H)) :
    ∃ sN, runDraw C (Cl C) nt ops s = some sN ∧ K sN := by
  refine ⟨sN, ?_, h2⟩
  unfold runDraw
  rw [h1]
  simp only
  rw [if_pos]
  rw [List.all_eq_true]
  rintro ⟨⟨o, d⟩, i⟩ hm
  simp only
  split
  · rename_i hk
    have hz := List.mem_zipIdx hm
    simp only [Nat.zero_add, Nat.sub_zero] at hz
    obtain ⟨_, hi, hoe⟩ := hz
    have hod : ops.toList[i]? = some o ∧ ds[i]? = some d := by
      have : (ops.toList.zip ds)[i]? = some (o, d) := by rw [List.getElem?_eq_getElem (by omega), ← hoe]
      rw [List.getElem?_zip_eq_some] at this
      exact this
    obtain ⟨o', ho', H', nx', ht⟩ := h4 i d hod.2
    rw [hod.1] at ho'
    injection ho' with ho'
    subst ho'
    obtain ⟨g1, g2⟩ := h8 i d o hod.2 hod.1 hk
    rw [hk] at ht
    obtain ⟨hne2, X, hX⟩ := tx1_read ht
    unfold readOK
    rw [List.all_eq_true]
    intro p hp
    rw [Bool.or_eq_true]
    rw [List.mem_cons] at hp
    have hs0 : (stAt ds sN 0).H = s.H := by rw [txRun_first h1]
    have fin : ∀ X : Heap, goodAt C o.op d.s.env d.s.nx d.v X → (match opA C (ev d.s.env) o.op (roAll X) sN.nx with
        | some (v, _, nx') => decide (nx' = sN.nx) && AV.eqB v d.v
        | none => false) = true := by
      intro X g
      obtain ⟨u, Y, y1, y2⟩ := g.nx hne2 sN.nx
      rw [y1]
      simp [y2]
    rcases hp with rfl | hp
    · right
      rw [addNews_zero, hs0]
      exact fin _ g1
    · obtain ⟨q1, q2, q3⟩ := effIdx_lt hp
      have hpe : p - 1 < ds.length := by omega
      have hek : (ds[p - 1]'hpe).k = .eff := by
        unfold effIdx at q3
        simp only [List.mem_filterMap] at q3
        obtain ⟨⟨d', j⟩, hd', hj⟩ := q3
        have hz := List.mem_zipIdx hd'
        simp only [Nat.zero_add, Nat.sub_zero] at hz
        obtain ⟨_, hj2, hde⟩ := hz
        simp only at hj
        split at hj
        · rename_i hk'
          injection hj with hj; subst hj
          rw [← hde]; exact hk'
        · cases hj
      have hpe2 : p - 1 = e := h6 _ _ (List.getElem?_eq_getElem hpe) hek
      rcases Nat.lt_trichotomy i (p - 1) with hlt | heq | hgt
      · left
        obtain ⟨oe, hoe2, He, ne, hte⟩ := h4 (p - 1) _ (List.getElem?_eq_getElem hpe)
        rw [hek] at hte
        have heff := tx1_shape hte
        simp only at heff
        have hA : ((ancs ops.toList []).getD (p - 1) 0).testBit i = true := by
          unfold effOK at hl
          rw [List.all_eq_true] at hl
          have := hl (p - 1) (by
            simp only [List.mem_range]
            have : ops.toList.length = ops.size := by simp
            omega)
          rw [hoe2] at this
          simp only [Option.map_some, heff, Bool.not_true, Bool.false_or, List.all_eq_true, List.mem_range] at this
          have := this i hlt
          rw [Bool.or_eq_true] at this
          rcases this with h | h
          · exact h
          · rw [hod.1] at h
            simp only [Option.map_some] at h
            rw [hne2] at h; cases h
        simp only [Bool.not_eq_true']
        unfold allowed
        rw [← Bool.not_eq_true, List.all_eq_true]
        intro hall
        have := hall _ q3
        rw [if_pos (by omega), hA] at this
        cases this
      · subst heq
        have : d = ds[p - 1] := by
          have := hod.2; rw [List.getElem?_eq_getElem hpe] at this; injection this with this; exact this.symm
        rw [← this, hk] at hek; cases hek
      · right
        rw [addNews_none (fun j d' hj hle => h7 j d' hj (by omega))]
        have hpp : p = e + 1 := by omega
        rw [hpp]
        exact fin _ (g2 (by omega))
  · rfl
theorem runDraw_of3 {C : Cx} {nt : Nat} {ops : Array Oper} {s : St} {K : St → Prop} (hl : effOK ops = true) (h : WR C nt 0 (ops.toList.map (stripO ops)) s K) :
    ∃ sN, runDraw C (Cl C) nt ops s = some sN ∧ K sN := by
  obtain ⟨ds, sN, h1, h2, h3, h4, _, e, h6, h7, h8⟩ := WR_run ops.toList 0 s h
  exact draw_concl hl h1 h2 h3 h4 h6 h7 h8
theorem wpS_draw3 {C : Cx} {nt : Nat} {ops : Array Oper} {so : List SOp} {s : St} {Q : Ex → St → Prop} (hl : effOK ops = true) (hs : ops.toList.map (stripO ops) = so) (h : WR C nt 0 so s (Q .normal)) :
    wpS C nt (.draw ops) s Q := by
  subst hs
  obtain ⟨sN, h1, h2⟩ := runDraw_of3 hl h
  simp only [wpS, h1]
  exact h2

/-! ### for simp -/
theorem WR_nil {C : Cx} {nt ph : Nat} {s : St} {K : St → Prop} : WR C nt ph [] s K = K s := rfl
theorem WR_cons {C : Cx} {nt ph : Nat} {o : SOp} {rest : List SOp} {E : Tr AV} {H : Heap} {nx : Nat} {K : St → Prop} : WR C nt ph (o :: rest) ⟨E, H, nx⟩ K =
    match txS C (Cl C) o E H nx with
    | some (.eff, v, H', nx') => match put? E nt o.dst v with
      | some E' => W2 C nt H rest ⟨E', H', nx'⟩ K
      | none => False
    | some (k, v, H', nx') =>
      match nextPh ph k v with
      | some ph' => match put? E nt o.dst v with
        | some E' => WR C nt ph' rest ⟨E', H', nx'⟩ K
        | none => False
      | none => False
    | none => False := rfl
theorem W2_nil {C : Cx} {nt : Nat} {Hb : Heap} {s : St} {K : St → Prop} : W2 C nt Hb [] s K = K s := rfl
theorem W2_cons {C : Cx} {nt : Nat} {Hb : Heap} {o : SOp} {rest : List SOp} {E : Tr AV} {H : Heap} {nx : Nat} {K : St → Prop} : W2 C nt Hb (o :: rest) ⟨E, H, nx⟩ K =
    match txS C (Cl C) o E H nx with
    | some (.still, v, H', nx') => match put? E nt o.dst v with
      | some E' => W2 C nt Hb rest ⟨E', H', nx'⟩ K
      | none => False
    | some (.skip, v, H', nx') => match put? E nt o.dst v with
      | some E' => W2 C nt Hb rest ⟨E', H', nx'⟩ K
      | none => False
    | some (.read, v, H', nx') => (AV.eqB v v = true ∧ goodAt C o.op E nx v Hb) ∧ match put? E nt o.dst v with
      | some E' => W2 C nt Hb rest ⟨E', H', nx'⟩ K
      | none => False
    | _ => False := rfl
theorem goodAt_eq {C : Cx} {op : Op} {E : Tr AV} {nx : Nat} {v : AV} {X : Heap} : goodAt C op E nx v X = match opA C (ev E) op (roAll X) nx with
    | some (u, _, n) => n = nx ∧ AV.eqB u v = true
    | none => False := by
  apply propext
  unfold goodAt
  constructor
  · rintro ⟨u, Y, h1, h2⟩
    rw [h1]
    exact ⟨rfl, h2⟩
  · intro h
    split at h
    · rename_i u Y n h1
      obtain ⟨rfl, h2⟩ := h
      exact ⟨u, Y, h1, h2⟩
    · cases h
@[congr] theorem WR_congr {C : Cx} {nt ph : Nat} {l : List SOp} {s s' : St} {K : St → Prop} (h : s = s') : WR C nt ph l s K = WR C nt ph l s' K := by rw [h]
@[congr] theorem W2_congr {C : Cx} {nt : Nat} {Hb : Heap} {l : List SOp} {s s' : St} {K : St → Prop} (h : s = s') : W2 C nt Hb l s K = W2 C nt Hb l s' K := by rw [h]
/-! ### reads ahead of what makes blocks: each read is asked again in the memory 'Hall' ahead of the effect -/
def WN (C : Cx) (nt : Nat) (Hall : Heap) : List SOp → St → (St → Prop) → Prop
  | [], s, K => s.H = Hall ∧ K s
  | o :: rest, s, K =>
    match txS C (Cl C) o s.env s.H s.nx with
    | some (.eff, v, H', nx') => s.H = Hall ∧ match put? s.env nt o.dst v with
      | some E' => WQ C nt 2 rest ⟨E', H', nx'⟩ K
      | none => False
    | some (.read, v, H', nx') => goodAt C o.op s.env s.nx v Hall ∧ match put? s.env nt o.dst v with
      | some E' => WN C nt Hall rest ⟨E', H', nx'⟩ K
      | none => False
    | some (k, v, H', nx') => match put? s.env nt o.dst v with
      | some E' => WN C nt Hall rest ⟨E', H', nx'⟩ K
      | none => False
    | none => False
theorem WN_run {C : Cx} {nt : Nat} {ops : Array Oper} {Hall : Heap} {K : St → Prop} : ∀ (l : List Oper) (s : St), WN C nt Hall (l.map (stripO ops)) s K →
    ∃ ds sN, txRun C (Cl C) nt ops l s = some (ds, sN) ∧ K sN ∧ ds.length = l.length ∧
      (∀ (i : Nat) (d : DS), ds[i]? = some d → ∃ o, l[i]? = some o ∧ (∃ H' nx', tx1 C (Cl C) ops o d.s = some (d.k, d.v, H', nx'))) ∧
      ds.foldl stepN s.H = Hall ∧
      ∃ e, (∀ (i : Nat) (d : DS), ds[i]? = some d → d.k = .eff → i = e) ∧
        (∀ (i : Nat) (d : DS), ds[i]? = some d → e < i → ∀ ob, d.k ≠ .new ob) ∧
        (∀ (i : Nat) (d : DS) (o : Oper), ds[i]? = some d → l[i]? = some o → d.k = .read → goodAt C o.op d.s.env d.s.nx d.v Hall ∧ i < e)
  | [], s, h => ⟨[], s, rfl, h.2, rfl, by simp, h.1, 0, by simp, by simp, by simp⟩
  | o :: rest, s, h => by
    simp only [List.map_cons, WN] at h
    rw [← txS_eq] at h
    have main : ∀ (k : CI.K) (v : AV) (H' : Heap) (nx' : Nat) (E' : Tr AV), tx1 C (Cl C) ops o s = some (k, v, H', nx') → k ≠ .eff → put? s.env nt o.dst v = some E' → WN C nt Hall (rest.map (stripO ops)) ⟨E', H', nx'⟩ K →
        (k = .read → goodAt C o.op s.env s.nx v Hall) →
        ∃ ds sN, txRun C (Cl C) nt ops (o :: rest) s = some (ds, sN) ∧ K sN ∧ ds.length = (o :: rest).length ∧
          (∀ (i : Nat) (d : DS), ds[i]? = some d → ∃ o', (o :: rest)[i]? = some o' ∧ (∃ H' nx', tx1 C (Cl C) ops o' d.s = some (d.k, d.v, H', nx'))) ∧
          ds.foldl stepN s.H = Hall ∧
          ∃ e, (∀ (i : Nat) (d : DS), ds[i]? = some d → d.k = .eff → i = e) ∧
            (∀ (i : Nat) (d : DS), ds[i]? = some d → e < i → ∀ ob, d.k ≠ .new ob) ∧
            (∀ (i : Nat) (d : DS) (o' : Oper), ds[i]? = some d → (o :: rest)[i]? = some o' → d.k = .read → goodAt C o'.op d.s.env d.s.nx d.v Hall ∧ i < e) := by
      intro k v H' nx' E' hk hke hE h hg
      obtain ⟨ds, sN, r1, r2, r3, r4, r5, e, r6, r7, r8⟩ := WN_run rest _ h
      have sh := tx1_shape hk
      have hstep : stepN s.H ⟨k, v, s⟩ = H' := by
        show stepK s.H s.nx k = H'
        cases k with
        | new ob => exact sh.symm
        | eff => exact absurd rfl hke
        | _ => exact sh.1.symm
      refine ⟨_, sN, tx_cons hk hE r1, r2, by simp [r3], ?_, ?_, e + 1, ?_, ?_, ?_⟩
      · intro i d hd
        cases i with
        | zero => simp at hd; subst hd; exact ⟨o, rfl, H', nx', hk⟩
        | succ i =>
          obtain ⟨o', q1, q2⟩ := r4 i d (by simpa using hd)
          exact ⟨o', by simpa using q1, q2⟩
      · rw [List.foldl_cons, hstep]; exact r5
      · intro i d hd he
        cases i with
        | zero => simp at hd; subst hd; exact absurd he hke
        | succ i => rw [r6 i d (by simpa using hd) he]
      · intro i d hd hi ob
        cases i with
        | zero => omega
        | succ i => exact r7 i d (by simpa using hd) (by omega) ob
      · intro i d o' hd ho hr
        cases i with
        | zero =>
          simp at hd ho; subst hd; subst ho
          simp only at hr
          exact ⟨hg hr, by omega⟩
        | succ i =>
          simp only [List.getElem?_cons_succ] at hd ho
          obtain ⟨q1, q2⟩ := r8 i d o' hd ho hr
          exact ⟨q1, by omega⟩
    split at h
    · rename_i v H' nx' hk
      obtain ⟨hH, h⟩ := h
      split at h
      · rename_i E' hE
        obtain ⟨ds, sN, r1, r2, r3, r4, r5, r6, r7⟩ := WQ_run rest 2 _ h
        have hnn : ∀ d ∈ ds, ∀ ob, d.k ≠ .new ob := fun d hd ob => r6 (by omega) d hd ob
        have hfold : (DS.mk .eff v s :: ds).foldl stepN s.H = Hall := by
          rw [List.foldl_cons, stepN_none hnn, ← hH]
          rfl
        refine ⟨_, sN, tx_cons hk hE r1, r2, by simp [r3], ?_, hfold, 0, ?_, ?_, ?_⟩
        · intro i d hd
          cases i with
          | zero => simp at hd; subst hd; exact ⟨o, rfl, H', nx', hk⟩
          | succ i =>
            obtain ⟨o', Hx, nxx, q1, q2⟩ := r4 i d (by simpa using hd)
            exact ⟨o', by simpa using q1, Hx, nxx, q2⟩
        · intro i d hd he
          cases i with
          | zero => rfl
          | succ i => exact absurd he (r7 rfl d (List.mem_of_getElem? (by simpa using hd))).2
        · intro i d hd hi ob
          cases i with
          | zero => omega
          | succ i => exact hnn d (List.mem_of_getElem? (by simpa using hd)) ob
        · intro i d o' hd ho hr
          cases i with
          | zero => simp at hd; subst hd; cases hr
          | succ i => exact absurd hr (r7 rfl d (List.mem_of_getElem? (by simpa using hd))).1
      · cases h
    · rename_i v H' nx' hk
      obtain ⟨h0, h⟩ := h
      split at h
      · rename_i E' hE
        exact main _ v H' nx' E' hk (by simp) hE h (fun _ => h0)
      · cases h
    · rename_i k v H' nx' hk1 hk2 hk
      split at h
      · rename_i E' hE
        exact main _ v H' nx' E' hk (fun e => hk1 e) hE h (fun e => absurd e (fun e => hk2 e))
      · cases h
    · cases h
theorem wpS_draw4 {C : Cx} {nt : Nat} {ops : Array Oper} {so : List SOp} {s : St} {Q : Ex → St → Prop} (Hall : Heap) (hl : effOK ops = true) (hs : ops.toList.map (stripO ops) = so) (h : WN C nt Hall so s (Q .normal)) :
    wpS C nt (.draw ops) s Q := by
  subst hs
  obtain ⟨ds, sN, h1, h2, h3, h4, h5, e, h6, h7, h8⟩ := WN_run ops.toList s h
  obtain ⟨sN, h1, h2⟩ := draw_concl hl h1 h2 h3 h4 h6 h7 (fun i d o hd ho hr => by
    obtain ⟨q1, q2⟩ := h8 i d o hd ho hr
    exact ⟨by rw [h5]; exact q1, fun hh => by omega⟩)
  simp only [wpS, h1]
  exact h2
theorem WN_nil {C : Cx} {nt : Nat} {Hall : Heap} {s : St} {K : St → Prop} : WN C nt Hall [] s K = (s.H = Hall ∧ K s) := rfl
theorem WN_cons {C : Cx} {nt : Nat} {Hall : Heap} {o : SOp} {rest : List SOp} {E : Tr AV} {H : Heap} {nx : Nat} {K : St → Prop} : WN C nt Hall (o :: rest) ⟨E, H, nx⟩ K =
    match txS C (Cl C) o E H nx with
    | some (.eff, v, H', nx') => H = Hall ∧ match put? E nt o.dst v with
      | some E' => WQ C nt 2 rest ⟨E', H', nx'⟩ K
      | none => False
    | some (.read, v, H', nx') => goodAt C o.op E nx v Hall ∧ match put? E nt o.dst v with
      | some E' => WN C nt Hall rest ⟨E', H', nx'⟩ K
      | none => False
    | some (k, v, H', nx') => match put? E nt o.dst v with
      | some E' => WN C nt Hall rest ⟨E', H', nx'⟩ K
      | none => False
    | none => False := rfl
@[congr] theorem WN_congr {C : Cx} {nt : Nat} {Hall : Heap} {l : List SOp} {s s' : St} {K : St → Prop} (h : s = s') : WN C nt Hall l s K = WN C nt Hall l s' K := by rw [h]
end CI
