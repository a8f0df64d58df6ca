/- A region whose order is drawn, in general: blocks are made ahead of the first effect; each read is asked again in the memory ahead of the first effect ('Hall') and behind each effect. -/
import Derived.Test.YtbdlpeldglggkaaGreatDoorCr
set_option linter.unusedVariables false
set_option linter.unusedSimpArgs false
noncomputable section
namespace CI
open Go

/-- A read that was made. -/
structure RD where
  op : Op
  E : Tr AV
  nx : Nat
  v : AV
def allG (C : Cx) (r : RD) : List Heap → Prop
  | [] => True
  | X :: l => goodAt C r.op r.E r.nx r.v X ∧ allG C r l
def allR (C : Cx) (X : Heap) : List RD → Prop
  | [] => True
  | r :: l => goodAt C r.op r.E r.nx r.v X ∧ allR C X l
theorem allG_iff {C : Cx} {r : RD} : ∀ {l : List Heap}, allG C r l → ∀ X ∈ l, goodAt C r.op r.E r.nx r.v X
  | [], _, _, h => by cases h
  | Y :: l, h, X, hX => by
    rcases List.mem_cons.1 hX with rfl | hX
    · exact h.1
    · exact allG_iff h.2 X hX
theorem allR_iff {C : Cx} {X : Heap} : ∀ {l : List RD}, allR C X l → ∀ r ∈ l, goodAt C r.op r.E r.nx r.v X
  | [], _, _, h => by cases h
  | s :: l, h, r, hr => by
    rcases List.mem_cons.1 hr with rfl | hr
    · exact h.1
    · exact allR_iff h.2 r hr
def WG (C : Cx) (nt : Nat) (Hall : Heap) : Bool → List Heap → List RD → List SOp → St → (St → Prop) → Prop
  | seen, _, _, [], s, K => (seen = false → s.H = Hall) ∧ K s
  | seen, Hs, rs, o :: rest, s, K =>
    match txS C (Cl C) o s.env s.H s.nx with
    | some (.eff, v, H', nx') => (seen = false → s.H = Hall) ∧ allR C H' rs ∧ match put? s.env nt o.dst v with
      | some E' => WG C nt Hall true (H' :: Hs) rs rest ⟨E', H', nx'⟩ K
      | none => False
    | some (.read, v, H', nx') => allG C ⟨o.op, s.env, s.nx, v⟩ Hs ∧ match put? s.env nt o.dst v with
      | some E' => WG C nt Hall seen Hs (⟨o.op, s.env, s.nx, v⟩ :: rs) rest ⟨E', H', nx'⟩ K
      | none => False
    | some (.new _, v, H', nx') => seen = false ∧ match put? s.env nt o.dst v with
      | some E' => WG C nt Hall seen Hs rs rest ⟨E', H', nx'⟩ K
      | none => False
    | some (_, v, H', nx') => match put? s.env nt o.dst v with
      | some E' => WG C nt Hall seen Hs rs rest ⟨E', H', nx'⟩ K
      | none => False
    | none => False

structure WGR (C : Cx) (nt : Nat) (ops : Array Oper) (Hall : Heap) (seen : Bool) (Hs : List Heap) (rs : List RD) (l : List Oper) (s : St) (K : St → Prop) (ds : List DS) (sN : St) : Prop where
  run : txRun C (Cl C) nt ops l s = some (ds, sN)
  fin : K sN
  len : ds.length = l.length
  ops : ∀ (i : Nat) (d : DS), ds[i]? = some d → ∃ o, l[i]? = some o ∧ (∃ H' nx', tx1 C (Cl C) ops o d.s = some (d.k, d.v, H', nx'))
  hall : seen = false → ds.foldl stepN s.H = Hall
  nonew : seen = true → ∀ d ∈ ds, ∀ ob, d.k ≠ .new ob
  late : ∀ (i : Nat) (d : DS) (j : Nat) (d' : DS), ds[i]? = some d → d.k = .eff → ds[j]? = some d' → i ≤ j → ∀ ob, d'.k ≠ .new ob
  reads : ∀ (i : Nat) (d : DS) (o : Oper), ds[i]? = some d → l[i]? = some o → d.k = .read → (∀ X ∈ Hs, goodAt C o.op d.s.env d.s.nx d.v X) ∧ ∀ (e : Nat) (de : DS), ds[e]? = some de → de.k = .eff → goodAt C o.op d.s.env d.s.nx d.v (stAt ds sN (e + 1)).H
  past : ∀ r ∈ rs, ∀ (e : Nat) (de : DS), ds[e]? = some de → de.k = .eff → goodAt C r.op r.E r.nx r.v (stAt ds sN (e + 1)).H

theorem WGR.cons {C : Cx} {nt : Nat} {ops : Array Oper} {Hall : Heap} {K : St → Prop} {o : Oper} {rest : List Oper} {s : St} {seen seen' : Bool} {Hs Hs' : List Heap} {rs rs' : List RD} {k : CI.K} {v : AV} {H' : Heap} {nx' : Nat} {E' : Tr AV} {ds : List DS} {sN : St}
    (hk : tx1 C (Cl C) ops o s = some (k, v, H', nx')) (hE : put? s.env nt o.dst v = some E') (h : WGR C nt ops Hall seen' Hs' rs' rest ⟨E', H', nx'⟩ K ds sN)
    (a1 : seen = true → seen' = true) (a2 : ∀ X ∈ Hs, X ∈ Hs') (a3 : ∀ r ∈ rs, r ∈ rs') (a4 : ∀ ob, k = .new ob → seen = false)
    (a5 : k = .eff → seen' = true ∧ (seen = false → s.H = Hall) ∧ H' ∈ Hs' ∧ ∀ r ∈ rs, goodAt C r.op r.E r.nx r.v H') (a6 : k ≠ .eff → seen = false → seen' = false)
    (a7 : k = .read → (∀ X ∈ Hs, goodAt C o.op s.env s.nx v X) ∧ (⟨o.op, s.env, s.nx, v⟩ : RD) ∈ rs') :
    WGR C nt ops Hall seen Hs rs (o :: rest) s K (⟨k, v, s⟩ :: ds) sN := by
  have sh := tx1_shape hk
  have hst : ∀ e, stAt (DS.mk k v s :: ds) sN (e + 1) = stAt ds sN e := fun e => by simp [stAt]
  have hst0 : (stAt ds sN 0).H = H' := by rw [txRun_first h.run]
  refine ⟨tx_cons hk hE h.run, h.fin, by simp [h.len], ?_, ?_, ?_, ?_, ?_, ?_⟩
  · intro i d hd
    cases i with
    | zero => simp at hd; subst hd; exact ⟨o, rfl, H', nx', hk⟩
    | succ i =>
      obtain ⟨o', q1, q2⟩ := h.ops i d (by simpa using hd)
      exact ⟨o', by simpa using q1, q2⟩
  · intro hs
    rw [List.foldl_cons]
    by_cases hke : k = .eff
    · obtain ⟨b1, b2, _⟩ := a5 hke
      have hstep : stepN s.H ⟨k, v, s⟩ = s.H := by subst hke; rfl
      rw [hstep, stepN_none (h.nonew b1)]
      exact b2 hs
    · have hstep : stepN s.H ⟨k, v, s⟩ = H' := by
        show stepK s.H s.nx k = H'
        cases k with
        | new ob => exact sh.symm
        | eff => exact absurd rfl hke
        | _ => exact sh.1.symm
      rw [hstep]
      exact h.hall (a6 hke hs)
  · intro hs d hd ob
    rcases List.mem_cons.1 hd with rfl | hd
    · intro e
      rw [a4 ob e] at hs; cases hs
    · exact h.nonew (a1 hs) d hd ob
  · intro i d j d' hd hde hd' hij ob
    cases j with
    | zero =>
      obtain rfl : i = 0 := by omega
      simp at hd hd'; subst hd; subst hd'
      simp only at hde
      rw [hde]; simp
    | succ j =>
      simp only [List.getElem?_cons_succ] at hd'
      cases i with
      | zero =>
        simp at hd; subst hd
        exact h.nonew (a5 hde).1 d' (List.mem_of_getElem? hd') ob
      | succ i => exact h.late i d j d' (by simpa using hd) hde hd' (by omega) ob
  · intro i d o' hd ho hr
    cases i with
    | zero =>
      simp at hd ho; subst hd; subst ho
      simp only at hr
      obtain ⟨c1, c2⟩ := a7 hr
      refine ⟨c1, fun e de hde hke => ?_⟩
      cases e with
      | zero => simp at hde; subst hde; simp only at hke; rw [hr] at hke; cases hke
      | succ e =>
        rw [hst]
        exact h.past _ c2 e de (by simpa using hde) hke
    | succ i =>
      simp only [List.getElem?_cons_succ] at hd ho
      obtain ⟨q1, q2⟩ := h.reads i d o' hd ho hr
      refine ⟨fun X hX => q1 X (a2 X hX), fun e de hde hke => ?_⟩
      cases e with
      | zero =>
        simp at hde; subst hde
        rw [hst, hst0]
        exact q1 _ (a5 hke).2.2.1
      | succ e =>
        rw [hst]
        exact q2 e de (by simpa using hde) hke
  · intro r hr e de hde hke
    cases e with
    | zero =>
      simp at hde; subst hde
      rw [hst, hst0]
      exact (a5 hke).2.2.2 r hr
    | succ e =>
      rw [hst]
      exact h.past r (a3 r hr) e de (by simpa using hde) hke

theorem WG_run {C : Cx} {nt : Nat} {ops : Array Oper} {Hall : Heap} {K : St → Prop} : ∀ (l : List Oper) (seen : Bool) (Hs : List Heap) (rs : List RD) (s : St), WG C nt Hall seen Hs rs (l.map (stripO ops)) s K → ∃ ds sN, WGR C nt ops Hall seen Hs rs l s K ds sN
  | [], seen, Hs, rs, s, h => ⟨[], s, rfl, h.2, rfl, by simp, h.1, by simp, by simp, by simp, by simp⟩
  | o :: rest, seen, Hs, rs, s, h => by
    simp only [List.map_cons, WG] at h
    rw [← txS_eq] at h
    split at h
    · rename_i v H' nx' hk
      obtain ⟨h1, h2, h⟩ := h
      split at h
      · rename_i E' hE
        obtain ⟨ds, sN, hr⟩ := WG_run rest _ _ _ _ h
        exact ⟨_, sN, hr.cons hk hE (fun _ => rfl) (fun X hX => List.mem_cons_of_mem _ hX) (fun r hr => hr) (fun ob e => by cases e) (fun _ => ⟨rfl, h1, List.mem_cons_self, allR_iff h2⟩) (fun hh => absurd rfl hh) (fun e => by cases e)⟩
      · cases h
    · rename_i v H' nx' hk
      obtain ⟨h1, h⟩ := h
      split at h
      · rename_i E' hE
        obtain ⟨ds, sN, hr⟩ := WG_run rest _ _ _ _ h
        exact ⟨_, sN, hr.cons hk hE (fun h => h) (fun X hX => hX) (fun r hr => List.mem_cons_of_mem _ hr) (fun ob e => by cases e) (fun e => by cases e) (fun _ h => h) (fun _ => ⟨allG_iff h1, List.mem_cons_self⟩)⟩
      · cases h
    · rename_i ob v H' nx' hk
      obtain ⟨h1, h⟩ := h
      split at h
      · rename_i E' hE
        obtain ⟨ds, sN, hr⟩ := WG_run rest _ _ _ _ h
        exact ⟨_, sN, hr.cons hk hE (fun h => h) (fun X hX => hX) (fun r hr => hr) (fun _ _ => h1) (fun e => by cases e) (fun _ h => h) (fun e => by cases e)⟩
      · cases h
    · rename_i k v H' nx' hk1 hk2 hk3 hk
      split at h
      · rename_i E' hE
        obtain ⟨ds, sN, hr⟩ := WG_run rest _ _ _ _ h
        exact ⟨_, sN, hr.cons hk hE (fun h => h) (fun X hX => hX) (fun r hr => hr) (fun ob e => absurd e (hk3 ob)) (fun e => absurd e hk1) (fun _ h => h) (fun e => absurd e hk2)⟩
      · cases h
    · cases h

theorem runDraw_of5 {C : Cx} {nt : Nat} {ops : Array Oper} {s : St} {K : St → Prop} {Hall : Heap} (h : WG C nt Hall false [Hall] [] (ops.toList.map (stripO ops)) s K) :
    ∃ sN, runDraw C (Cl C) nt ops s = some sN ∧ K sN := by
  obtain ⟨ds, sN, W⟩ := WG_run ops.toList _ _ _ s h
  refine ⟨sN, ?_, W.fin⟩
  have h1 := W.run
  have h3 := W.len
  unfold runDraw
  rw [h1]
  simp only
  rw [if_pos]
  rw [List.all_eq_true]
  rintro ⟨⟨o, d⟩, i⟩ hm
  simp only
  split
  · rename_i hk
    have hz := List.mem_zipIdx hm
    simp only [Nat.zero_add, Nat.sub_zero] at hz
    obtain ⟨_, hi, hoe⟩ := hz
    have hod : ops.toList[i]? = some o ∧ ds[i]? = some d := by
      have : (ops.toList.zip ds)[i]? = some (o, d) := by rw [List.getElem?_eq_getElem (by omega), ← hoe]
      rw [List.getElem?_zip_eq_some] at this
      exact this
    obtain ⟨o', ho', H', nx', ht⟩ := W.ops i d hod.2
    rw [hod.1] at ho'
    injection ho' with ho'
    subst ho'
    obtain ⟨g1, g2⟩ := W.reads i d o hod.2 hod.1 hk
    rw [hk] at ht
    obtain ⟨hne2, X, hX⟩ := tx1_read ht
    unfold readOK
    rw [List.all_eq_true]
    intro p hp
    rw [Bool.or_eq_true]
    rw [List.mem_cons] at hp
    have hs0 : (stAt ds sN 0).H = s.H := by rw [txRun_first h1]
    have fin : ∀ X : Heap, goodAt C o.op d.s.env d.s.nx d.v X → (match opA C (ev d.s.env) o.op (roAll X) sN.nx with
        | some (v, _, nx') => decide (nx' = sN.nx) && AV.eqB v d.v
        | none => false) = true := by
      intro X g
      obtain ⟨u, Y, y1, y2⟩ := g.nx hne2 sN.nx
      rw [y1]
      simp [y2]
    right
    rcases hp with rfl | hp
    · rw [addNews_zero, hs0, W.hall rfl]
      exact fin _ (g1 Hall (by simp))
    · obtain ⟨q1, q2, q3⟩ := effIdx_lt hp
      have hpe : p - 1 < ds.length := by omega
      have hek : (ds[p - 1]'hpe).k = .eff := by
        unfold effIdx at q3
        simp only [List.mem_filterMap] at q3
        obtain ⟨⟨d', j⟩, hd', hj⟩ := q3
        have hz := List.mem_zipIdx hd'
        simp only [Nat.zero_add, Nat.sub_zero] at hz
        obtain ⟨_, hj2, hde⟩ := hz
        simp only at hj
        split at hj
        · rename_i hk'
          injection hj with hj; subst hj
          rw [← hde]; exact hk'
        · cases hj
      have hge := List.getElem?_eq_getElem hpe
      rw [addNews_none (fun j d' hj hle => W.late (p - 1) _ j d' hge hek hj (by omega))]
      have := g2 (p - 1) _ hge hek
      rw [show p - 1 + 1 = p by omega] at this
      exact fin _ this
  · rfl
theorem wpS_draw5 {C : Cx} {nt : Nat} {ops : Array Oper} {so : List SOp} {s : St} {Q : Ex → St → Prop} (Hall : Heap) (hs : ops.toList.map (stripO ops) = so) (h : WG C nt Hall false [Hall] [] so s (Q .normal)) :
    wpS C nt (.draw ops) s Q := by
  subst hs
  obtain ⟨sN, h1, h2⟩ := runDraw_of5 h
  simp only [wpS, h1]
  exact h2

/-! ### for simp -/
theorem WG_nil {C : Cx} {nt : Nat} {Hall : Heap} {seen : Bool} {Hs : List Heap} {rs : List RD} {s : St} {K : St → Prop} : WG C nt Hall seen Hs rs [] s K = ((seen = false → s.H = Hall) ∧ K s) := rfl
theorem WG_cons {C : Cx} {nt : Nat} {Hall : Heap} {seen : Bool} {Hs : List Heap} {rs : List RD} {o : SOp} {rest : List SOp} {E : Tr AV} {H : Heap} {nx : Nat} {K : St → Prop} : WG C nt Hall seen Hs rs (o :: rest) ⟨E, H, nx⟩ K =
    match txS C (Cl C) o E H nx with
    | some (.eff, v, H', nx') => (seen = false → H = Hall) ∧ allR C H' rs ∧ match put? E nt o.dst v with
      | some E' => WG C nt Hall true (H' :: Hs) rs rest ⟨E', H', nx'⟩ K
      | none => False
    | some (.read, v, H', nx') => allG C ⟨o.op, E, nx, v⟩ Hs ∧ match put? E nt o.dst v with
      | some E' => WG C nt Hall seen Hs (⟨o.op, E, nx, v⟩ :: rs) rest ⟨E', H', nx'⟩ K
      | none => False
    | some (.new _, v, H', nx') => seen = false ∧ match put? E nt o.dst v with
      | some E' => WG C nt Hall seen Hs rs rest ⟨E', H', nx'⟩ K
      | none => False
    | some (_, v, H', nx') => match put? E nt o.dst v with
      | some E' => WG C nt Hall seen Hs rs rest ⟨E', H', nx'⟩ K
      | none => False
    | none => False := rfl
@[congr] theorem WG_congr {C : Cx} {nt : Nat} {Hall : Heap} {seen : Bool} {Hs : List Heap} {rs : List RD} {l : List SOp} {s s' : St} {K : St → Prop} (h : s = s') : WG C nt Hall seen Hs rs l s K = WG C nt Hall seen Hs rs l s' K := by rw [h]
theorem allG_nil {C : Cx} {r : RD} : allG C r [] = True := rfl
theorem allG_cons {C : Cx} {op : Op} {E : Tr AV} {nx : Nat} {v : AV} {X : Heap} {l : List Heap} : allG C ⟨op, E, nx, v⟩ (X :: l) = (goodAt C op E nx v X ∧ allG C ⟨op, E, nx, v⟩ l) := rfl
theorem allR_nil {C : Cx} {X : Heap} : allR C X [] = True := rfl
theorem allR_cons {C : Cx} {op : Op} {E : Tr AV} {nx : Nat} {v : AV} {X : Heap} {l : List RD} : allR C X (⟨op, E, nx, v⟩ :: l) = (goodAt C op E nx v X ∧ allR C X l) := rfl
/-! one copy of what follows -/
def phC (C : Cx) (Hall : Heap) (seen : Bool) (Hs : List Heap) (rs : List RD) (op : Op) (E : Tr AV) (nx : Nat) (v : AV) (H H' : Heap) : K → Prop
  | .eff => (seen = false → H = Hall) ∧ allR C H' rs
  | .read => allG C ⟨op, E, nx, v⟩ Hs
  | .new _ => seen = false
  | _ => True
def phS (seen : Bool) : K → Bool
  | .eff => true
  | _ => seen
def phH (Hs : List Heap) (H' : Heap) : K → List Heap
  | .eff => H' :: Hs
  | _ => Hs
def phR (rs : List RD) (r : RD) : K → List RD
  | .read => r :: rs
  | _ => rs
theorem WG_cons2 {C : Cx} {nt : Nat} {Hall : Heap} {seen : Bool} {Hs : List Heap} {rs : List RD} {o : SOp} {rest : List SOp} {E : Tr AV} {H : Heap} {nx : Nat} {K : St → Prop} : WG C nt Hall seen Hs rs (o :: rest) ⟨E, H, nx⟩ K =
    match txS C (Cl C) o E H nx with
    | some (k, v, H', nx') => phC C Hall seen Hs rs o.op E nx v H H' k ∧ match put? E nt o.dst v with
      | some E' => WG C nt Hall (phS seen k) (phH Hs H' k) (phR rs ⟨o.op, E, nx, v⟩ k) rest ⟨E', H', nx'⟩ K
      | none => False
    | none => False := by
  rw [WG_cons]
  cases txS C (Cl C) o E H nx with
  | none => rfl
  | some r =>
    obtain ⟨k, v, H', nx'⟩ := r
    cases k <;> simp only [phC, phS, phH, phR, true_and, and_assoc]
theorem phC_eff {C : Cx} {Hall : Heap} {seen : Bool} {Hs : List Heap} {rs : List RD} {op : Op} {E : Tr AV} {nx : Nat} {v : AV} {H H' : Heap} : phC C Hall seen Hs rs op E nx v H H' .eff = ((seen = false → H = Hall) ∧ allR C H' rs) := rfl
theorem phC_read {C : Cx} {Hall : Heap} {seen : Bool} {Hs : List Heap} {rs : List RD} {op : Op} {E : Tr AV} {nx : Nat} {v : AV} {H H' : Heap} : phC C Hall seen Hs rs op E nx v H H' .read = allG C ⟨op, E, nx, v⟩ Hs := rfl
theorem phC_new {C : Cx} {Hall : Heap} {seen : Bool} {Hs : List Heap} {rs : List RD} {op : Op} {E : Tr AV} {nx : Nat} {v : AV} {H H' : Heap} {ob : AObj} : phC C Hall seen Hs rs op E nx v H H' (.new ob) = (seen = false) := rfl
theorem phC_still {C : Cx} {Hall : Heap} {seen : Bool} {Hs : List Heap} {rs : List RD} {op : Op} {E : Tr AV} {nx : Nat} {v : AV} {H H' : Heap} : phC C Hall seen Hs rs op E nx v H H' .still = True := rfl
theorem phC_skip {C : Cx} {Hall : Heap} {seen : Bool} {Hs : List Heap} {rs : List RD} {op : Op} {E : Tr AV} {nx : Nat} {v : AV} {H H' : Heap} : phC C Hall seen Hs rs op E nx v H H' .skip = True := rfl
theorem phS_eff {b : Bool} : phS b .eff = true := rfl
theorem phS_read {b : Bool} : phS b .read = b := rfl
theorem phS_new {b : Bool} {ob : AObj} : phS b (.new ob) = b := rfl
theorem phS_still {b : Bool} : phS b .still = b := rfl
theorem phS_skip {b : Bool} : phS b .skip = b := rfl
theorem phH_eff {l : List Heap} {X : Heap} : phH l X .eff = X :: l := rfl
theorem phH_read {l : List Heap} {X : Heap} : phH l X .read = l := rfl
theorem phH_new {l : List Heap} {X : Heap} {ob : AObj} : phH l X (.new ob) = l := rfl
theorem phH_still {l : List Heap} {X : Heap} : phH l X .still = l := rfl
theorem phH_skip {l : List Heap} {X : Heap} : phH l X .skip = l := rfl
theorem phR_eff {l : List RD} {r : RD} : phR l r .eff = l := rfl
theorem phR_read {l : List RD} {r : RD} : phR l r .read = r :: l := rfl
theorem phR_new {l : List RD} {r : RD} {ob : AObj} : phR l r (.new ob) = l := rfl
theorem phR_still {l : List RD} {r : RD} : phR l r .still = l := rfl
theorem phR_skip {l : List RD} {r : RD} : phR l r .skip = l := rfl
end CI
