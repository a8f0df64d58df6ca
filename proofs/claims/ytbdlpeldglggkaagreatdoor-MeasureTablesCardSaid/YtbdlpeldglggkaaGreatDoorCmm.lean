/- CI: code that ranges over a map, run in all orders. -/
import Derived.Test.YtbdlpeldglggkaaGreatDoorCml
set_option linter.unusedVariables false
set_option linter.unusedSimpArgs false
noncomputable section
namespace CI
open Go
open Go.ChangeMaps (setBlock)

variable {P : Program} {σ σ' : Sig} {H H' Hw : Heap} {nx nx' : Nat} {w w' : World}

theorem next_out (g : Good σ H nx w) {i : It} (h : ItR σ H w i) {ty : TypeId} {y : Value} (hy : VR σ (.ptr i.it 0) y) :
    (i.rest = [] ∧ (Instr.next y false ty).run P w = .ok (.tuple #[.bool false]) w) ∨
    ∃ v i' x w', (v, i') ∈ nextA i ∧ (Instr.next y false ty).run P w = .ok x w' ∧ VR σ v x ∧ Step σ H nx w σ (H.put i.it (some (.iter false))) nx w' ∧
      Good σ (H.put i.it (some (.iter false))) nx w' ∧ ItR σ (H.put i.it (some (.iter false))) w' i' := by
  obtain ⟨lm, li, E, clock, seen, R, r1, r2, r3, r4, r5, r6, r7, r8⟩ := h.rel
  simp only [VR] at hy
  obtain ⟨l, hl, rfl⟩ := hy
  rw [r2] at hl; injection hl with hl; subst hl
  rcases run_next_at (P := P) w ty li.blk lm.blk clock clock seen E clock r4 r3 r5.2 (Nat.le_refl _) with ⟨h1, h2⟩ | ⟨e, he, w1, hw1, hr⟩
  · left
    refine ⟨?_, h2⟩
    have : (leftOf E seen).toList = [] := by
      apply List.eq_nil_of_length_eq_zero
      simpa using h1
    rw [this] at r7
    have hR : R = [] := by
      cases R with
      | nil => rfl
      | cons p R => obtain ⟨k, v⟩ := p; simp only [MapR] at r7; obtain ⟨_, _, h, _⟩ := r7; cases h
    subst hR
    exact r6.nil_eq.symm
  · right
    obtain ⟨j, hj, hje⟩ := List.mem_iff_getElem.1 he
    have hje' : (leftOf E seen).toList[j]? = some e := by rw [List.getElem?_eq_getElem hj, hje]
    have hjR : j < R.length := by rw [← r7.length]; exact hj
    obtain ⟨e2, q1, q2, q3⟩ := r7.at_ (List.getElem?_eq_getElem hjR)
    rw [hje'] at q1; injection q1 with q1; subst q1
    have hmem : R[j] ∈ i.rest := r6.mem_iff.1 (List.getElem_mem hjR)
    obtain ⟨n, hn, hne⟩ := List.mem_iff_getElem.1 hmem
    have hn' : i.rest[n]? = some R[j] := by rw [List.getElem?_eq_getElem hn, hne]
    have hnd : ((leftOf E seen).toList.map (·.born)).Nodup := by
      unfold leftOf
      rw [Array.toList_filter]
      exact r5.1.sublist (List.filter_sublist.map _)
    have hw1h : w1.heap = w.heap ∧ w1.os = w.os ∧ w1.tape = w.tape ∧ w1.output = w.output := by
      rcases hw1 with rfl | rfl <;> exact ⟨rfl, rfl, rfl, rfl⟩
    have hlt := g.toSim.lt h.hi r2
    have hms := mod_step (w' := setBlock w1 li.blk (.mapIter (some lm.blk) clock (seen.push e.born) clock)) g h.hi rfl r2 (o' := .iter false) (by simp [setBlock, hw1h.1])
      (fun k hk => by simp [setBlock, hw1h.1, Array.getElem?_setIfInBounds, Ne.symm hk]) hw1h.2.1 hw1h.2.2.1 hw1h.2.2.2 ⟨some lm.blk, clock, seen.push e.born, clock, by simp [setBlock, hw1h.1, Array.getElem?_setIfInBounds, hlt]⟩
    refine ⟨.tuple [.lit (.bool true), R[j].1, R[j].2], { i with cur := some R[j], rest := i.rest.eraseIdx n }, _, _, ?_, hr, ?_, hms.1, hms.2, ?_⟩
    · unfold nextA
      rw [List.mem_map]
      refine ⟨(R[j], n), ?_, rfl⟩
      rw [List.mk_mem_zipIdx_iff_getElem?]
      exact hn'
    · simp only [VR]
      exact ⟨[.bool true, e.key, e.val], rfl, by simp only [VRs]; exact ⟨_, _, rfl, by simp [VR], _, _, rfl, q2, _, _, rfl, q3, rfl⟩⟩
    · have hne2 := h.ne
      have hblk : lm.blk ≠ li.blk := by
        intro e3
        rw [e3, r4] at r3; cases r3
      refine ⟨?_, Tr.get_put_same _ _ _, lm, li, E, clock, seen.push e.born, R.eraseIdx j, r1, r2, ?_, ?_, r5, perm_erase r6 hn' (List.getElem?_eq_getElem hjR), ?_, ?_⟩
      · show (H.put i.it (some (.iter false))).get i.m = _
        rw [Tr.get_put_ne _ _ _ _ hne2]; exact h.hm
      · simp [setBlock, hw1h.1, Array.getElem?_setIfInBounds, Ne.symm hblk, r3]
      · simp [setBlock, hw1h.1, Array.getElem?_setIfInBounds, hlt]
      · rw [leftOf_push, filter_erase hnd hje']
        exact r7.erase
      · intro k v hkv
        simp only [Option.some.injEq] at hkv
        have hk1 : k = R[j].1 := by rw [hkv]
        have hk2 : v = R[j].2 := by rw [hkv]
        subst hk1; subst hk2
        refine ⟨e, seen, ?_, rfl, q2, q3⟩
        unfold leftOf at he
        rw [Array.toList_filter] at he
        exact (List.mem_filter.1 he).1

def entryA (i : It) : Option AV := i.cur.map fun p => .tuple [p.1, p.2]
theorem entry_out (g : Good σ H nx w) {i : It} (h : ItR σ H w i) {y : Value} {v : AV} (hy : VR σ (.ptr i.it 0) y) (hv : entryA i = some v) :
    ∃ x, (Instr.entry y).run P w = .ok x w ∧ VR σ v x := by
  obtain ⟨lm, li, E, clock, seen, R, r1, r2, r3, r4, r5, r6, r7, r8⟩ := h.rel
  simp only [VR] at hy
  obtain ⟨l, hl, rfl⟩ := hy
  rw [r2] at hl; injection hl with hl; subst hl
  unfold entryA at hv
  simp only [Option.map_eq_some_iff] at hv
  obtain ⟨⟨k, u⟩, hc, rfl⟩ := hv
  obtain ⟨e, seen', q1, rfl, q2, q3⟩ := r8 k u hc
  refine ⟨_, run_entry_at (P := P) w li.blk lm.blk clock seen' E clock e r4 r3 q1 r5.1, ?_⟩
  simp only [VR]
  exact ⟨[e.key, e.val], rfl, by simp only [VRs]; exact ⟨_, _, rfl, q2, _, _, rfl, q3, rfl⟩⟩

abbrev Outs := List (AV × Heap × Nat × Option It)
def stepL (C : Cx) (call : CallF) (ρ : Operand → AV) (o : Op) (H : Heap) (nx : Nat) (I : Option It) : Option Outs :=
  match o, I with
  | .range t x, none => (rangeA C.T H nx t (ρ x)).map fun r => [r]
  | .next x false, some i =>
    match ρ x with
    | .ptr b 0 => if b = i.it then (match i.rest with
        | [] => some [(.tuple [.lit (.bool false)], H, nx, none)]
        | _ => some ((nextA i).map fun p => (p.1, H.put i.it (some (.iter false)), nx, some p.2))) else none
    | _ => none
  | .entry x, some i =>
    match ρ x with
    | .ptr b 0 => if b = i.it then (entryA i).map fun v => [(v, H, nx, some i)] else none
    | _ => none
  | o, I => (stepA C call ρ o (under I H) nx).map fun r => [(r.1, back I r.2.1, r.2.2, I)]

theorem stepL_wp {C : Cx} (hC : C.OK) {call : CallF} (hcall : CallOK C call) (g : Good σ H nx w) {I : Option It} (hI : ItO σ H w I) {ρ : Operand → AV} {a : Act} (he : ∀ x, VR σ (ρ x) (a.eval x)) {o : Oper} {outs : Outs}
    (h : stepL C call ρ o.op H nx I = some outs) {next : Act → World → Prop} {Q : Exit → Act → World → Prop}
    (hn : ∀ x w' σ' v H' nx' I', (v, H', nx', I') ∈ outs → VR σ' v x → Step σ H nx w σ' H' nx' w' → Good σ' H' nx' w' → ItO σ' H' w' I' → next (a.put o.dst x) w') : o.wp C.P a w next Q := by
  unfold stepL at h
  split at h
  · rename_i t x hop
    simp only [Option.map_eq_some_iff] at h
    obtain ⟨⟨v, H', nx', I'⟩, hr, rfl⟩ := h
    obtain ⟨z, w', σ', h1, h2, h3, h4, h5⟩ := rangeA_out (P := C.P) hC.types g (he x) hr
    have hrun : (execOp a.eval o).run C.P w = .ok (.value z) w' := by
      unfold execOp
      simp only [hop]
      rw [run_bind_ok h1]; rfl
    unfold Oper.wp
    rw [hrun]
    exact hn z w' σ' v H' nx' I' (by simp) h2 h3 h4 h5
  · rename_i x i hop
    split at h
    · rename_i b hb
      split at h
      · rename_i hbi
        subst hbi
        have hx := he x
        rw [hb] at hx
        have hrun : ∀ {z : Value} {w' : World}, (Instr.next (a.eval x) false o.type).run C.P w = .ok z w' → (execOp a.eval o).run C.P w = .ok (.value z) w' := by
          intro z w' hz
          unfold execOp
          simp only [hop]
          rw [run_bind_ok hz]; rfl
        rcases next_out (P := C.P) g hI (ty := o.type) hx with ⟨h1, h2⟩ | ⟨v, i', z, w', h1, h2, h3, h4, h5, h6⟩
        · rw [h1] at h
          simp only [Option.some.injEq] at h
          subst h
          unfold Oper.wp
          rw [hrun h2]
          exact hn (.tuple #[.bool false]) w σ (.tuple [.lit (.bool false)]) H nx none (List.mem_singleton.2 rfl) (by simp only [VR]; exact ⟨[.bool false], rfl, by simp only [VRs]; exact ⟨_, _, rfl, by simp [VR], rfl⟩⟩) Step.refl g trivial
        · split at h
          · rename_i hnil
            unfold nextA at h1
            rw [hnil] at h1
            simp at h1
          · simp only [Option.some.injEq] at h
            subst h
            unfold Oper.wp
            rw [hrun h2]
            exact hn z w' σ v _ nx (some i') (List.mem_map.2 ⟨(v, i'), h1, rfl⟩) h3 h4 h5 h6
      · cases h
    · cases h
  · rename_i x i hop
    split at h
    · rename_i b hb
      split at h
      · rename_i hbi
        subst hbi
        have hx := he x
        rw [hb] at hx
        simp only [Option.map_eq_some_iff] at h
        obtain ⟨v, hv, rfl⟩ := h
        obtain ⟨z, h1, h2⟩ := entry_out (P := C.P) g hI hx hv
        have hrun : (execOp a.eval o).run C.P w = .ok (.value z) w := by
          unfold execOp
          simp only [hop]
          rw [run_bind_ok h1]; rfl
        unfold Oper.wp
        rw [hrun]
        exact hn z w σ v H nx (some i) (by simp) h2 Step.refl g hI
      · cases h
    · cases h
  · simp only [Option.map_eq_some_iff] at h
    obtain ⟨⟨v, Hw, nx'⟩, hs, rfl⟩ := h
    refine stepA_wp hC hcall (under_good g hI) he hs fun x w' σ' h1 h2 h3 => ?_
    obtain ⟨s1, s2, s3⟩ := step_back g hI h2 h3
    exact hn x w' σ' v _ nx' _ (List.mem_singleton.2 rfl) h1 s1 s2 s3

def allL {α β : Type} (f : α → Option (List β)) : List α → Option (List β)
  | [] => some []
  | x :: xs => match f x, allL f xs with
    | some l, some r => some (l ++ r)
    | _, _ => none
theorem allL_mem {α β : Type} {f : α → Option (List β)} : ∀ {xs : List α} {r : List β}, allL f xs = some r → ∀ x ∈ xs, ∃ l, f x = some l ∧ ∀ y ∈ l, y ∈ r
  | [], _, _ => by simp
  | x :: xs, r, h => by
    simp only [allL] at h
    split at h
    · rename_i l r' h1 h2
      injection h with h; subst h
      intro y hy
      rcases List.mem_cons.1 hy with rfl | hy
      · exact ⟨l, h1, fun z hz => List.mem_append_left _ hz⟩
      · obtain ⟨l', h3, h4⟩ := allL_mem h2 y hy
        exact ⟨l', h3, fun z hz => List.mem_append_right _ (h4 z hz)⟩
    · cases h

def runOpsL (C : Cx) (call : CallF) (nt : Nat) (ops : Array Oper) : List Oper → St → Option It → Option (List (St × Option It))
  | [], s, I => some [(s, I)]
  | o :: rest, s, I =>
    if wantedA ops o s.env then
      match stepL C call (ev s.env) o.op s.H s.nx I with
      | some outs => allL (fun r => match put? s.env nt o.dst r.1 with
        | some env' => runOpsL C call nt ops rest ⟨env', r.2.1, r.2.2.1⟩ r.2.2.2
        | none => none) outs
      | none => none
    else
      match put? s.env nt o.dst (.lit undef) with
      | some env' => runOpsL C call nt ops rest ⟨env', s.H, s.nx⟩ I
      | none => none

theorem runOpsL_wp {C : Cx} (hC : C.OK) {call : CallF} (hcall : CallOK C call) {nt : Nat} {ops : Array Oper} {Q : Exit → Act → World → Prop} :
    ∀ (l : List Oper) (s : St) (I : Option It) (L : List (St × Option It)) (σ : Sig) (w : World) (a : Act), runOpsL C call nt ops l s I = some L → ActR σ s.env nt a → Good σ s.H s.nx w → ItO σ s.H w I →
      (∀ σ' w' a' s' I', (s', I') ∈ L → ActR σ' s'.env nt a' → Step σ s.H s.nx w σ' s'.H s'.nx w' → Good σ' s'.H s'.nx w' → ItO σ' s'.H w' I' → Q .normal a' w') → wpList C.P ops Q l a w
  | [], s, I, L, σ, w, a, h, he, g, hI, hq => by
    simp only [runOpsL, Option.some.injEq] at h
    subst h
    exact hq σ w a s I (by simp) he Step.refl g hI
  | o :: rest, s, I, L, σ, w, a, h, he, g, hI, hq => by
    simp only [runOpsL] at h
    unfold wpList
    rw [wantedA_eq he.env]
    split at h
    · rename_i hw
      rw [if_pos hw]
      split at h
      · rename_i outs hst
        refine .inl (stepL_wp hC hcall g hI (ev_VR he.env) hst fun x w' σ' v H' nx' I' hm hv hs hg hI' => ?_)
        obtain ⟨l', h1, h2⟩ := allL_mem h _ hm
        simp only at h1
        split at h1
        · rename_i env' hput
          refine runOpsL_wp hC hcall rest _ _ _ σ' w' _ h1 (put?_ok (he.ext (Step.ext g hs)) hv hput) hg hI' ?_
          intro σ'' w'' a'' s'' I'' hm2 r1 r2 r3 r4
          exact hq σ'' w'' a'' s'' I'' (h2 _ hm2) r1 (Step.trans g hs r2) r3 r4
        · cases h1
      · cases h
    · rename_i hw
      rw [if_neg hw]
      split at h
      · rename_i env' hput
        exact runOpsL_wp hC hcall rest _ _ _ σ w _ h (put?_ok he (by simp [VR]) hput) g hI hq
      · cases h

abbrev OutL := List (Ex × St × Option It)
def blockF (id : Nat) (r : Ex × St × Option It) : Ex × St × Option It := match r.1 with
  | .exit i => if i = id then (.normal, r.2) else r
  | _ => r
def execL (C : Cx) (call : CallF) : Nat → Nat → Code → St → Option It → Option OutL
  | 0, _, _, _, _ => none
  | n + 1, nt, c, s, I =>
    match c with
    | .skip => some [(.normal, s, I)]
    | .label _ => some [(.normal, s, I)]
    | .region _ ops false => (runOpsL C call nt ops ops.toList s I).map fun L => L.map fun p => (.normal, p.1, p.2)
    | .region _ ops true => (runDraw C call nt ops ⟨s.env, under I s.H, s.nx⟩).map fun s' => [(.normal, ⟨s'.env, back I s'.H, s'.nx⟩, I)]
    | .seq a b =>
      match execL C call n nt a s I with
      | some L => allL (fun r => match r with
        | (.normal, s', I') => execL C call n nt b s' I'
        | r => some [r]) L
      | none => none
    | .cond x a b =>
      match ev s.env x with
      | .lit (.bool true) => execL C call n nt a s I
      | .lit (.bool false) => execL C call n nt b s I
      | _ => none
    | .block id b => (execL C call n nt b s I).map fun L => L.map (blockF id)
    | .loop b =>
      match execL C call n nt b s I with
      | some L => allL (fun r => match r with
        | (.normal, s', I') => execL C call n nt (.loop b) s' I'
        | r => some [r]) L
      | none => none
    | .exit id => some [(.exit id, s, I)]
    | .ret => some [(.ret, s, I)]
    | _ => none

def PostL (nt : Nat) (σ : Sig) (s : St) (w : World) (L : OutL) : Exit → Act → World → Prop := fun e a' w' =>
  ∃ ex s' I', (ex, s', I') ∈ L ∧ e = toExit ex ∧ ∃ σ', ActR σ' s'.env nt a' ∧ Step σ s.H s.nx w σ' s'.H s'.nx w' ∧ Good σ' s'.H s'.nx w' ∧ ItO σ' s'.H w' I'

theorem execL_ok {C : Cx} (hC : C.Sound) {call : CallF} (hcall : CallOK C call) : ∀ (n nt : Nat) (c : Code) (s : St) (I : Option It) (L : OutL), execL C call n nt c s I = some L → codeOK c = true →
    ∀ (σ : Sig) (w : World) (a : Act), ActR σ s.env nt a → Good σ s.H s.nx w → ItO σ s.H w I → c.wp C.P (PostL nt σ s w L) a w := by
  intro n
  induction n using Nat.strongRecOn with
  | _ n IH =>
   cases n with
   | zero => intro nt c s I L h; simp [execL] at h
   | succ n =>
    have ih := IH n (by omega)
    intro nt c s I L h hok σ w a he g hI
    have h0 := h
    unfold execL at h
    have done : ∀ {ex : Ex}, L = [(ex, s, I)] → PostL nt σ s w L (toExit ex) a w := fun hL => by
      subst hL; exact ⟨_, s, I, by simp, rfl, σ, he, Step.refl, g, hI⟩
    split at h
    · injection h with h; exact wp_skip (done h.symm)
    · injection h with h; exact wp_label (done h.symm)
    · simp only [Option.map_eq_some_iff] at h
      obtain ⟨L1, h1, rfl⟩ := h
      refine wp_region_list (runOpsL_wp hC.toOK hcall _ s I L1 σ w a h1 he g hI fun σ' w' a' s' I' hm r1 r2 r3 r4 => ?_)
      exact ⟨.normal, s', I', List.mem_map.2 ⟨(s', I'), hm, rfl⟩, rfl, σ', r1, r2, r3, r4⟩
    · simp only [Option.map_eq_some_iff] at h
      obtain ⟨s1, h1, rfl⟩ := h
      refine runDraw_wp hC.toOK hC.mixed hcall hok h1 he (under_good g hI) fun σ' w' a' r1 r2 r3 => ?_
      obtain ⟨q1, q2, q3⟩ := step_back g hI r2 r3
      exact ⟨.normal, ⟨s1.env, back I s1.H, s1.nx⟩, I, by simp, rfl, σ', r1, q1, q2, q3⟩
    · rename_i b1 b2
      simp only [codeOK, Bool.and_eq_true] at hok
      refine wp_seq ?_
      split at h
      · rename_i L1 h1
        refine wp_mono (ih _ _ _ _ _ h1 hok.1 σ w a he g hI) ?_
        rintro e a' w' ⟨ex, s', I', hm, rfl, σ', r1, r2, r3, r4⟩
        obtain ⟨l', k1, k2⟩ := allL_mem h _ hm
        cases ex with
        | normal =>
          simp only at k1
          show b2.wp C.P _ a' w'
          refine wp_mono (ih _ _ _ _ _ k1 hok.2 σ' w' a' r1 r3 r4) ?_
          rintro e a'' w'' ⟨ex, s'', I'', hm2, rfl, σ'', q1, q2, q3, q4⟩
          exact ⟨ex, s'', I'', k2 _ hm2, rfl, σ'', q1, Step.trans g r2 q2, q3, q4⟩
        | exit id =>
          simp only [Option.some.injEq] at k1; subst k1
          exact ⟨.exit id, s', I', k2 _ (by simp), rfl, σ', r1, r2, r3, r4⟩
        | ret =>
          simp only [Option.some.injEq] at k1; subst k1
          exact ⟨.ret, s', I', k2 _ (by simp), rfl, σ', r1, r2, r3, r4⟩
      · cases h
    · rename_i x b1 b2
      simp only [codeOK, Bool.and_eq_true] at hok
      have hx := ev_VR he.env x
      split at h
      · rename_i hv
        rw [hv] at hx; simp only [VR] at hx
        exact wp_cond_true hx (ih _ _ _ _ _ h hok.1 σ w a he g hI)
      · rename_i hv
        rw [hv] at hx; simp only [VR] at hx
        exact wp_cond_false hx (ih _ _ _ _ _ h hok.2 σ w a he g hI)
      · cases h
    · rename_i id b
      simp only [codeOK] at hok
      simp only [Option.map_eq_some_iff] at h
      obtain ⟨L1, h1, rfl⟩ := h
      refine wp_block ?_
      refine wp_mono (ih _ _ _ _ _ h1 hok σ w a he g hI) ?_
      rintro e a' w' ⟨ex, s', I', hm, rfl, σ', r1, r2, r3, r4⟩
      have hm' : blockF id (ex, s', I') ∈ L1.map (blockF id) := List.mem_map.2 ⟨(ex, s', I'), hm, rfl⟩
      cases ex with
      | normal => exact ⟨.normal, s', I', hm', rfl, σ', r1, r2, r3, r4⟩
      | ret => exact ⟨.ret, s', I', hm', rfl, σ', r1, r2, r3, r4⟩
      | exit i =>
        by_cases hi : i = id
        · simp only [blockF, if_pos hi] at hm'
          simp only [toExit, Exit.inBlock, hi, if_true]
          exact ⟨.normal, s', I', hm', rfl, σ', r1, r2, r3, r4⟩
        · simp only [blockF, if_neg hi] at hm'
          simp only [toExit, Exit.inBlock, hi, if_false]
          exact ⟨.exit i, s', I', hm', rfl, σ', r1, r2, r3, r4⟩
    · rename_i b
      have hokb : codeOK b = true := by simpa [codeOK] using hok
      refine wp_loop_ghost (fun m a1 w1 => m ≤ n + 1 ∧ ∃ s1 I1 L1 σ1, execL C call m nt (.loop b) s1 I1 = some L1 ∧ (∀ y ∈ L1, y ∈ L) ∧ ActR σ1 s1.env nt a1 ∧ Step σ s.H s.nx w σ1 s1.H s1.nx w1 ∧ Good σ1 s1.H s1.nx w1 ∧ ItO σ1 s1.H w1 I1) (n + 1)
        ⟨Nat.le_refl _, s, I, L, σ, h0, fun _ h => h, he, Step.refl, g, hI⟩ ?_
      rintro m a1 w1 ⟨hm, s1, I1, L1, σ1, hx, hsub, r1, r2, r3, r4⟩
      cases m with
      | zero => simp [execL] at hx
      | succ m =>
        unfold execL at hx
        simp only at hx
        have ihm := IH m (by omega)
        split at hx
        · rename_i L2 h2
          refine wp_mono (ihm _ _ _ _ _ h2 hokb σ1 w1 a1 r1 r3 r4) ?_
          rintro e a' w' ⟨ex, s2, I2, hm2, rfl, σ2, q1, q2, q3, q4⟩
          obtain ⟨l', k1, k2⟩ := allL_mem hx _ hm2
          cases ex with
          | normal =>
            simp only at k1
            exact ⟨m, by omega, by omega, s2, I2, l', σ2, k1, fun y hy => hsub y (k2 y hy), q1, Step.trans g r2 q2, q3, q4⟩
          | exit id =>
            simp only [Option.some.injEq] at k1; subst k1
            exact ⟨.exit id, s2, I2, hsub _ (k2 _ (by simp)), rfl, σ2, q1, Step.trans g r2 q2, q3, q4⟩
          | ret =>
            simp only [Option.some.injEq] at k1; subst k1
            exact ⟨.ret, s2, I2, hsub _ (k2 _ (by simp)), rfl, σ2, q1, Step.trans g r2 q2, q3, q4⟩
        · cases hx
    · injection h with h; exact wp_exit (done h.symm)
    · injection h with h; exact wp_ret (done h.symm)
    · cases h
end CI
