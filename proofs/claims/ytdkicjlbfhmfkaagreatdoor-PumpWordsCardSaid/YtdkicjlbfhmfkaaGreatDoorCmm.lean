/- CI: code that ranges over a map, run in all orders. -/
import Derived.Test.YtdkicjlbfhmfkaaGreatDoorCmk
set_option linter.unusedVariables false
set_option linter.unusedSimpArgs false
noncomputable section
namespace CI
open Go
open Go.ChangeMaps (setBlock)

variable {P : Program} {σ σ' : Sig} {H H' Hw : Heap} {nx nx' : Nat} {w w' : World}

theorem next_out (g : Good σ H nx w) {i : It} (h : ItR σ H w i) {ty : TypeId} {y : Value} (hy : VR σ (.ptr i.it 0) y) :
    (i.rest = [] ∧ (Instr.next y false ty).run P w = .ok (.tuple #[.bool false]) w) ∨
    ∃ v i' x w', (v, i') ∈ nextA i ∧ (Instr.next y false ty).run P w = .ok x w' ∧ VR σ v x ∧ Step σ H nx w σ (H.put i.it (some (.iter false))) nx w' ∧
      Good σ (H.put i.it (some (.iter false))) nx w' ∧ ItR σ (H.put i.it (some (.iter false))) w' i' := by
  obtain ⟨lm, li, E, clock, seen, R, r1, r2, r3, r4, r5, r6, r7, r8⟩ := h.rel
  simp only [VR] at hy
  obtain ⟨l, hl, rfl⟩ := hy
  rw [r2] at hl; injection hl with hl; subst hl
  rcases run_next_at (P := P) w ty li.blk lm.blk clock clock seen E clock r4 r3 r5.2 (Nat.le_refl _) with ⟨h1, h2⟩ | ⟨e, he, w1, hw1, hr⟩
  · left
    refine ⟨?_, h2⟩
    have : (leftOf E seen).toList = [] := by
      apply List.eq_nil_of_length_eq_zero
      simpa using h1
    rw [this] at r7
    have hR : R = [] := by
      cases R with
      | nil => rfl
      | cons p R => obtain ⟨k, v⟩ := p; simp only [MapR] at r7; obtain ⟨_, _, h, _⟩ := r7; cases h
    subst hR
    exact r6.nil_eq.symm
  · right
    obtain ⟨j, hj, hje⟩ := List.mem_iff_getElem.1 he
    have hje' : (leftOf E seen).toList[j]? = some e := by rw [List.getElem?_eq_getElem hj, hje]
    have hjR : j < R.length := by rw [← r7.length]; exact hj
    obtain ⟨e2, q1, q2, q3⟩ := r7.at_ (List.getElem?_eq_getElem hjR)
    rw [hje'] at q1; injection q1 with q1; subst q1
    have hmem : R[j] ∈ i.rest := r6.mem_iff.1 (List.getElem_mem hjR)
    obtain ⟨n, hn, hne⟩ := List.mem_iff_getElem.1 hmem
    have hn' : i.rest[n]? = some R[j] := by rw [List.getElem?_eq_getElem hn, hne]
    have hnd : ((leftOf E seen).toList.map (·.born)).Nodup := by
      unfold leftOf
      rw [Array.toList_filter]
      exact r5.1.sublist (List.filter_sublist.map _)
    have hw1h : w1.heap = w.heap ∧ w1.os = w.os ∧ w1.tape = w.tape ∧ w1.output = w.output := by
      rcases hw1 with rfl | rfl <;> exact ⟨rfl, rfl, rfl, rfl⟩
    have hlt := g.toSim.lt h.hi r2
    have hms := mod_step (w' := setBlock w1 li.blk (.mapIter (some lm.blk) clock (seen.push e.born) clock)) g h.hi rfl r2 (o' := .iter false) (by simp [setBlock, hw1h.1])
      (fun k hk => by simp [setBlock, hw1h.1, Array.getElem?_setIfInBounds, Ne.symm hk]) hw1h.2.1 hw1h.2.2.1 hw1h.2.2.2 ⟨some lm.blk, clock, seen.push e.born, clock, by simp [setBlock, hw1h.1, Array.getElem?_setIfInBounds, hlt]⟩
    refine ⟨.tuple [.lit (.bool true), R[j].1, R[j].2], { i with cur := some R[j], rest := i.rest.eraseIdx n }, _, _, ?_, hr, ?_, hms.1, hms.2, ?_⟩
    · unfold nextA
      rw [List.mem_map]
      refine ⟨(R[j], n), ?_, rfl⟩
      rw [List.mk_mem_zipIdx_iff_getElem?]
      exact hn'
    · simp only [VR]
      exact ⟨[.bool true, e.key, e.val], rfl, by simp only [VRs]; exact ⟨_, _, rfl, by simp [VR], _, _, rfl, q2, _, _, rfl, q3, rfl⟩⟩
    · have hne2 := h.ne
      have hblk : lm.blk ≠ li.blk := by
        intro e3
        rw [e3, r4] at r3; cases r3
      refine ⟨?_, Tr.get_put_same _ _ _, lm, li, E, clock, seen.push e.born, R.eraseIdx j, r1, r2, ?_, ?_, r5, perm_erase r6 hn' (List.getElem?_eq_getElem hjR), ?_, ?_⟩
      · show (H.put i.it (some (.iter false))).get i.m = _
        rw [Tr.get_put_ne _ _ _ _ hne2]; exact h.hm
      · simp [setBlock, hw1h.1, Array.getElem?_setIfInBounds, Ne.symm hblk, r3]
      · simp [setBlock, hw1h.1, Array.getElem?_setIfInBounds, hlt]
      · rw [leftOf_push, filter_erase hnd hje']
        exact r7.erase
      · intro k v hkv
        simp only [Option.some.injEq] at hkv
        have hk1 : k = R[j].1 := by rw [hkv]
        have hk2 : v = R[j].2 := by rw [hkv]
        subst hk1; subst hk2
        refine ⟨e, seen, ?_, rfl, q2, q3⟩
        unfold leftOf at he
        rw [Array.toList_filter] at he
        exact (List.mem_filter.1 he).1

def entryA (i : It) : Option AV := i.cur.map fun p => .tuple [p.1, p.2]
theorem entry_out (g : Good σ H nx w) {i : It} (h : ItR σ H w i) {y : Value} {v : AV} (hy : VR σ (.ptr i.it 0) y) (hv : entryA i = some v) :
    ∃ x, (Instr.entry y).run P w = .ok x w ∧ VR σ v x := by
  obtain ⟨lm, li, E, clock, seen, R, r1, r2, r3, r4, r5, r6, r7, r8⟩ := h.rel
  simp only [VR] at hy
  obtain ⟨l, hl, rfl⟩ := hy
  rw [r2] at hl; injection hl with hl; subst hl
  unfold entryA at hv
  simp only [Option.map_eq_some_iff] at hv
  obtain ⟨⟨k, u⟩, hc, rfl⟩ := hv
  obtain ⟨e, seen', q1, rfl, q2, q3⟩ := r8 k u hc
  refine ⟨_, run_entry_at (P := P) w li.blk lm.blk clock seen' E clock e r4 r3 q1 r5.1, ?_⟩
  simp only [VR]
  exact ⟨[e.key, e.val], rfl, by simp only [VRs]; exact ⟨_, _, rfl, q2, _, _, rfl, q3, rfl⟩⟩

abbrev Outs := List (AV × Heap × Nat × Option It)
abbrev Ret := AV × Heap × Nat
/-- Functions of which one of several things comes. -/
abbrev CallM := FuncId → List AV → Heap → Nat → Option (List Ret)
def CallMOK (C : Cx) (call : CallM) : Prop := ∀ k args H nx outs, call k args H nx = some outs → ∀ (σ : Sig) (w : World) (xs : List Value), VRs σ args xs → Good σ H nx w →
  (callFunc k xs.toArray).run C.P w = .ok (.enter k xs.toArray) w ∧ Calls C.P k xs.toArray w fun e w' => ∃ v H' nx', (v, H', nx') ∈ outs ∧ RetPost σ H nx w v H' nx' e w'
def noM : CallM := fun _ _ _ _ => none
theorem noM_ok (C : Cx) : CallMOK C noM := fun k args H nx outs h => by cases h
def multiA (callM : CallM) (ρ : Operand → AV) (c : Call) (H : Heap) (nx : Nat) : Option (List Ret) :=
  match c.callee with
  | .value f =>
    match ρ f with
    | .func (.func k) fs cs => callM k (fs ++ c.args.toList.map ρ ++ cs) H nx
    | _ => none
  | _ => none
theorem run_getObj_nit {r s c : Nat} {sn : Array Nat} (h : w.heap[r]? = some (.mapIter none s sn c)) : (getObj r).run P w = .ok (.mapIter none s sn c) w := by
  simp [getObj, Sem.run, h]
def nilRange (T : Tr TInfo) (H : Heap) (nx : Nat) (t : TypeId) (x : AV) : Option Ret :=
  match T.get t, x with
  | some { desc := .map _ _, .. }, .lit (.map none) => some (.ptr nx 0, H.put nx (some (.nit false)), nx + 1)
  | _, _ => none
def nilNext (H : Heap) (x : AV) : Option AV :=
  match x with
  | .ptr b 0 => match H.get b with
    | some (.nit _) => some (.tuple [.lit (.bool false)])
    | _ => none
  | _ => none
def preL (C : Cx) (callM : CallM) (ρ : Operand → AV) (o : Op) (H : Heap) (nx : Nat) (I : Option It) : Option Outs :=
  match o with
  | .range t x => match I with
    | none => (nilRange C.T H nx t (ρ x)).map fun r => [(r.1, r.2.1, r.2.2, none)]
    | some _ => none
  | .next x false => (nilNext H (ρ x)).map fun v => [(v, H, nx, I)]
  | .call c => (multiA callM ρ c (under I H) nx).map fun l => l.map fun r => (r.1, back I r.2.1, r.2.2, I)
  | _ => none

theorem preL_wp {C : Cx} (hC : C.OK) {callM : CallM} (hM : CallMOK C callM) (g : Good σ H nx w) {I : Option It} (hI : ItO σ H w I) {ρ : Operand → AV} {a : Act} (he : ∀ x, VR σ (ρ x) (a.eval x)) {o : Oper} {outs : Outs}
    (h : preL C callM ρ o.op H nx I = some outs) {next : Act → World → Prop} {Q : Exit → Act → World → Prop}
    (hn : ∀ x w' σ' v H' nx' I', (v, H', nx', I') ∈ outs → VR σ' v x → Step σ H nx w σ' H' nx' w' → Good σ' H' nx' w' → ItO σ' H' w' I' → next (a.put o.dst x) w') : o.wp C.P a w next Q := by
  unfold preL at h
  split at h
  · rename_i t x hop
    split at h
    · simp only [Option.map_eq_some_iff] at h
      obtain ⟨⟨v, H', nx'⟩, hr, rfl⟩ := h
      have hx := he x
      unfold nilRange at hr
      split at hr
      · rename_i kt et _ _ _ _ _ hi hv
        rw [hv] at hx
        simp only [Option.some.injEq, Prod.mk.injEq] at hr
        obtain ⟨rfl, rfl, rfl⟩ := hr
        simp only [VR] at hx
        have hal := alloc_step (w' := { w with heap := w.heap.push (.mapIter none 0 #[] 0) }) g (o := .nit false) (O := .mapIter none 0 #[] 0) (room := 0) rfl rfl rfl rfl ⟨_, _, _, rfl⟩
        have hrun : (Instr.range t (a.eval x)).run C.P w = .ok (.pointer (some ⟨w.heap.size, 0, none⟩)) { w with heap := w.heap.push (.mapIter none 0 #[] 0) } := by
          rw [hx]
          unfold Instr.range
          rw [run_bind_ok (run_under (hC.types _ _ hi).under w)]
          rfl
        have hrun2 : (execOp a.eval o).run C.P w = .ok (.value (.pointer (some ⟨w.heap.size, 0, none⟩))) { w with heap := w.heap.push (.mapIter none 0 #[] 0) } := by
          unfold execOp
          simp only [hop]
          rw [run_bind_ok hrun]; rfl
        unfold Oper.wp
        rw [hrun2]
        refine hn _ _ _ _ _ _ none (List.mem_singleton.2 rfl) ?_ hal.1 hal.2 trivial
        simp only [VR]
        exact ⟨_, Sig.upd_same _ _ _, rfl⟩
      · cases hr
    · cases h
  · rename_i x hop
    simp only [Option.map_eq_some_iff] at h
    obtain ⟨v, hv, rfl⟩ := h
    have hx := he x
    unfold nilNext at hv
    split at hv
    · rename_i b hb
      rw [hb] at hx
      split at hv
      · rename_i ro hg
        simp only [Option.some.injEq] at hv; subst hv
        simp only [VR] at hx
        obtain ⟨l, hl, hxe⟩ := hx
        obtain ⟨s, sn, c, ho⟩ := g.obj b _ l hg hl
        have hrun : (Instr.next (a.eval x) false o.type).run C.P w = .ok (.tuple #[.bool false]) w := by
          rw [hxe]
          unfold Instr.next
          simp only [Loc.base_eq, Nat.add_zero]
          rw [run_bind_ok (run_getObj_nit ho)]
          rfl
        have hrun2 : (execOp a.eval o).run C.P w = .ok (.value (.tuple #[.bool false])) w := by
          unfold execOp
          simp only [hop]
          rw [run_bind_ok hrun]; rfl
        unfold Oper.wp
        rw [hrun2]
        exact hn _ w σ _ H nx I (List.mem_singleton.2 rfl) (by simp only [VR]; exact ⟨[.bool false], rfl, by simp only [VRs]; exact ⟨_, _, rfl, by simp [VR], rfl⟩⟩) Step.refl g hI
      · cases hv
    · cases hv
  · rename_i c hop
    simp only [Option.map_eq_some_iff] at h
    obtain ⟨l, hl, rfl⟩ := h
    unfold multiA at hl
    split at hl
    · rename_i f hcal
      split at hl
      · rename_i k fs cs hf
        have hfv := he f
        rw [hf] at hfv
        simp only [VR] at hfv
        obtain ⟨fs', cs', hfe, hfs, hcs⟩ := hfv
        have hargs := (hfs.append (evs_VRs he c.args.toList)).append hcs
        have hexec : (execOp a.eval o).run C.P w = (callFunc k (fs' ++ c.args.toList.map a.eval ++ cs').toArray).run C.P w := by
          unfold execOp
          simp only [hop]
          unfold resolve
          simp only [hcal, hfe, Deferred.ofValue]
          rw [run_bind_ok (run_pure' _ w)]
          unfold invoke
          simp only
          congr 2
          apply Array.toList_inj.1
          simp
        obtain ⟨h1, h2⟩ := hM _ _ _ _ _ hl σ w _ hargs (under_good g hI)
        unfold Oper.wp
        rw [hexec, h1]
        refine Calls.mono h2 ?_
        rintro e w' ⟨v, H', nx', hm, x, σ', rfl, r1, r2, r3⟩
        obtain ⟨s1, s2, s3⟩ := step_back g hI r2 r3
        exact hn x w' σ' v _ nx' I (List.mem_map.2 ⟨(v, H', nx'), hm, rfl⟩) r1 s1 s2 s3
      · cases hl
    · cases hl
  · cases h
def stepO0 (C : Cx) (call : CallF) (ρ : Operand → AV) (o : Op) (H : Heap) (nx : Nat) (I : Option It) : Option Outs :=
  match o, I with
  | .range t x, none => (rangeA C.T H nx t (ρ x)).map fun r => [r]
  | .next x false, some i =>
    match ρ x with
    | .ptr b 0 => if b = i.it then (match i.rest with
        | [] => some [(.tuple [.lit (.bool false)], H, nx, none)]
        | _ => some ((nextA i).map fun p => (p.1, H.put i.it (some (.iter false)), nx, some p.2))) else none
    | _ => none
  | .entry x, some i =>
    match ρ x with
    | .ptr b 0 => if b = i.it then (entryA i).map fun v => [(v, H, nx, some i)] else none
    | _ => none
  | o, I => (stepA C call ρ o (under I H) nx).map fun r => [(r.1, back I r.2.1, r.2.2, I)]

theorem stepO0_wp {C : Cx} (hC : C.OK) {call : CallF} (hcall : CallOK C call) (g : Good σ H nx w) {I : Option It} (hI : ItO σ H w I) {ρ : Operand → AV} {a : Act} (he : ∀ x, VR σ (ρ x) (a.eval x)) {o : Oper} {outs : Outs}
    (h : stepO0 C call ρ o.op H nx I = some outs) {next : Act → World → Prop} {Q : Exit → Act → World → Prop}
    (hn : ∀ x w' σ' v H' nx' I', (v, H', nx', I') ∈ outs → VR σ' v x → Step σ H nx w σ' H' nx' w' → Good σ' H' nx' w' → ItO σ' H' w' I' → next (a.put o.dst x) w') : o.wp C.P a w next Q := by
  unfold stepO0 at h
  split at h
  · rename_i t x hop
    simp only [Option.map_eq_some_iff] at h
    obtain ⟨⟨v, H', nx', I'⟩, hr, rfl⟩ := h
    obtain ⟨z, w', σ', h1, h2, h3, h4, h5⟩ := rangeA_out (P := C.P) hC.types g (he x) hr
    have hrun : (execOp a.eval o).run C.P w = .ok (.value z) w' := by
      unfold execOp
      simp only [hop]
      rw [run_bind_ok h1]; rfl
    unfold Oper.wp
    rw [hrun]
    exact hn z w' σ' v H' nx' I' (by simp) h2 h3 h4 h5
  · rename_i x i hop
    split at h
    · rename_i b hb
      split at h
      · rename_i hbi
        subst hbi
        have hx := he x
        rw [hb] at hx
        have hrun : ∀ {z : Value} {w' : World}, (Instr.next (a.eval x) false o.type).run C.P w = .ok z w' → (execOp a.eval o).run C.P w = .ok (.value z) w' := by
          intro z w' hz
          unfold execOp
          simp only [hop]
          rw [run_bind_ok hz]; rfl
        rcases next_out (P := C.P) g hI (ty := o.type) hx with ⟨h1, h2⟩ | ⟨v, i', z, w', h1, h2, h3, h4, h5, h6⟩
        · rw [h1] at h
          simp only [Option.some.injEq] at h
          subst h
          unfold Oper.wp
          rw [hrun h2]
          exact hn (.tuple #[.bool false]) w σ (.tuple [.lit (.bool false)]) H nx none (List.mem_singleton.2 rfl) (by simp only [VR]; exact ⟨[.bool false], rfl, by simp only [VRs]; exact ⟨_, _, rfl, by simp [VR], rfl⟩⟩) Step.refl g trivial
        · split at h
          · rename_i hnil
            unfold nextA at h1
            rw [hnil] at h1
            simp at h1
          · simp only [Option.some.injEq] at h
            subst h
            unfold Oper.wp
            rw [hrun h2]
            exact hn z w' σ v _ nx (some i') (List.mem_map.2 ⟨(v, i'), h1, rfl⟩) h3 h4 h5 h6
      · cases h
    · cases h
  · rename_i x i hop
    split at h
    · rename_i b hb
      split at h
      · rename_i hbi
        subst hbi
        have hx := he x
        rw [hb] at hx
        simp only [Option.map_eq_some_iff] at h
        obtain ⟨v, hv, rfl⟩ := h
        obtain ⟨z, h1, h2⟩ := entry_out (P := C.P) g hI hx hv
        have hrun : (execOp a.eval o).run C.P w = .ok (.value z) w := by
          unfold execOp
          simp only [hop]
          rw [run_bind_ok h1]; rfl
        unfold Oper.wp
        rw [hrun]
        exact hn z w σ v H nx (some i) (by simp) h2 Step.refl g hI
      · cases h
    · cases h
  · simp only [Option.map_eq_some_iff] at h
    obtain ⟨⟨v, Hw, nx'⟩, hs, rfl⟩ := h
    refine stepA_wp hC hcall (under_good g hI) he hs fun x w' σ' h1 h2 h3 => ?_
    obtain ⟨s1, s2, s3⟩ := step_back g hI h2 h3
    exact hn x w' σ' v _ nx' _ (List.mem_singleton.2 rfl) h1 s1 s2 s3

def stepL (C : Cx) (call : CallF) (callM : CallM) (ρ : Operand → AV) (o : Op) (H : Heap) (nx : Nat) (I : Option It) : Option Outs :=
  match preL C callM ρ o H nx I with
  | some outs => some outs
  | none => stepO0 C call ρ o H nx I
theorem stepL_wp {C : Cx} (hC : C.OK) {call : CallF} (hcall : CallOK C call) {callM : CallM} (hM : CallMOK C callM) (g : Good σ H nx w) {I : Option It} (hI : ItO σ H w I) {ρ : Operand → AV} {a : Act} (he : ∀ x, VR σ (ρ x) (a.eval x)) {o : Oper} {outs : Outs}
    (h : stepL C call callM ρ o.op H nx I = some outs) {next : Act → World → Prop} {Q : Exit → Act → World → Prop}
    (hn : ∀ x w' σ' v H' nx' I', (v, H', nx', I') ∈ outs → VR σ' v x → Step σ H nx w σ' H' nx' w' → Good σ' H' nx' w' → ItO σ' H' w' I' → next (a.put o.dst x) w') : o.wp C.P a w next Q := by
  unfold stepL at h
  split at h
  · rename_i o1 h1
    injection h with h; subst h
    exact preL_wp hC hM g hI he h1 hn
  · exact stepO0_wp hC hcall g hI he h hn

def allL {α β : Type} (f : α → Option (List β)) : List α → Option (List β)
  | [] => some []
  | x :: xs => match f x, allL f xs with
    | some l, some r => some (l ++ r)
    | _, _ => none
theorem allL_mem {α β : Type} {f : α → Option (List β)} : ∀ {xs : List α} {r : List β}, allL f xs = some r → ∀ x ∈ xs, ∃ l, f x = some l ∧ ∀ y ∈ l, y ∈ r
  | [], _, _ => by simp
  | x :: xs, r, h => by
    simp only [allL] at h
    split at h
    · rename_i l r' h1 h2
      injection h with h; subst h
      intro y hy
      rcases List.mem_cons.1 hy with rfl | hy
      · exact ⟨l, h1, fun z hz => List.mem_append_left _ hz⟩
      · obtain ⟨l', h3, h4⟩ := allL_mem h2 y hy
        exact ⟨l', h3, fun z hz => List.mem_append_right _ (h4 z hz)⟩
    · cases h

def runOpsL (C : Cx) (call : CallF) (callM : CallM) (nt : Nat) (ops : Array Oper) : List Oper → St → Option It → Option (List (St × Option It))
  | [], s, I => some [(s, I)]
  | o :: rest, s, I =>
    if wantedA ops o s.env then
      match stepL C call callM (ev s.env) o.op s.H s.nx I with
      | some outs => allL (fun r => match put? s.env nt o.dst r.1 with
        | some env' => runOpsL C call callM nt ops rest ⟨env', r.2.1, r.2.2.1⟩ r.2.2.2
        | none => none) outs
      | none => none
    else
      match put? s.env nt o.dst (.lit undef) with
      | some env' => runOpsL C call callM nt ops rest ⟨env', s.H, s.nx⟩ I
      | none => none

theorem runOpsL_wp {C : Cx} (hC : C.OK) {call : CallF} (hcall : CallOK C call) {callM : CallM} (hM : CallMOK C callM) {nt : Nat} {ops : Array Oper} {Q : Exit → Act → World → Prop} :
    ∀ (l : List Oper) (s : St) (I : Option It) (L : List (St × Option It)) (σ : Sig) (w : World) (a : Act), runOpsL C call callM nt ops l s I = some L → ActR σ s.env nt a → Good σ s.H s.nx w → ItO σ s.H w I →
      (∀ σ' w' a' s' I', (s', I') ∈ L → ActR σ' s'.env nt a' → Step σ s.H s.nx w σ' s'.H s'.nx w' → Good σ' s'.H s'.nx w' → ItO σ' s'.H w' I' → Q .normal a' w') → wpList C.P ops Q l a w
  | [], s, I, L, σ, w, a, h, he, g, hI, hq => by
    simp only [runOpsL, Option.some.injEq] at h
    subst h
    exact hq σ w a s I (by simp) he Step.refl g hI
  | o :: rest, s, I, L, σ, w, a, h, he, g, hI, hq => by
    simp only [runOpsL] at h
    unfold wpList
    rw [wantedA_eq he.env]
    split at h
    · rename_i hw
      rw [if_pos hw]
      split at h
      · rename_i outs hst
        refine .inl (stepL_wp hC hcall hM g hI (ev_VR he.env) hst fun x w' σ' v H' nx' I' hm hv hs hg hI' => ?_)
        obtain ⟨l', h1, h2⟩ := allL_mem h _ hm
        simp only at h1
        split at h1
        · rename_i env' hput
          refine runOpsL_wp hC hcall hM rest _ _ _ σ' w' _ h1 (put?_ok (he.ext (Step.ext g hs)) hv hput) hg hI' ?_
          intro σ'' w'' a'' s'' I'' hm2 r1 r2 r3 r4
          exact hq σ'' w'' a'' s'' I'' (h2 _ hm2) r1 (Step.trans g hs r2) r3 r4
        · cases h1
      · cases h
    · rename_i hw
      rw [if_neg hw]
      split at h
      · rename_i env' hput
        exact runOpsL_wp hC hcall hM rest _ _ _ σ w _ h (put?_ok he (by simp [VR]) hput) g hI hq
      · cases h

abbrev OutL := List (Ex × St × Option It)
def blockF (id : Nat) (r : Ex × St × Option It) : Ex × St × Option It := match r.1 with
  | .exit i => if i = id then (.normal, r.2) else r
  | _ => r
def execL (C : Cx) (call : CallF) (callM : CallM) : Nat → Nat → Code → St → Option It → Option OutL
  | 0, _, _, _, _ => none
  | n + 1, nt, c, s, I =>
    match c with
    | .skip => some [(.normal, s, I)]
    | .label _ => some [(.normal, s, I)]
    | .region _ ops false => (runOpsL C call callM nt ops ops.toList s I).map fun L => L.map fun p => (.normal, p.1, p.2)
    | .region _ ops true =>
      match splitLast ops, I with
      | some (front, last), none =>
        match runDraw C call nt front s with
        | none => none
        | some s1 =>
          match stepL C call callM (ev s1.env) last.op s1.H s1.nx none with
          | some outs => allL (fun r => match put? s1.env nt last.dst r.1 with
            | some env' => some [(.normal, ⟨env', r.2.1, r.2.2.1⟩, r.2.2.2)]
            | none => none) outs
          | none => none
      | _, I => (runDraw C call nt ops ⟨s.env, under I s.H, s.nx⟩).map fun s' => [(.normal, ⟨s'.env, back I s'.H, s'.nx⟩, I)]
    | .seq a b =>
      match execL C call callM n nt a s I with
      | some L => allL (fun r => match r with
        | (.normal, s', I') => execL C call callM n nt b s' I'
        | r => some [r]) L
      | none => none
    | .cond x a b =>
      match ev s.env x with
      | .lit (.bool true) => execL C call callM n nt a s I
      | .lit (.bool false) => execL C call callM n nt b s I
      | _ => none
    | .block id b => (execL C call callM n nt b s I).map fun L => L.map (blockF id)
    | .loop b =>
      match execL C call callM n nt b s I with
      | some L => allL (fun r => match r with
        | (.normal, s', I') => execL C call callM n nt (.loop b) s' I'
        | r => some [r]) L
      | none => none
    | .exit id => some [(.exit id, s, I)]
    | .ret => some [(.ret, s, I)]
    | _ => none

def PostL (nt : Nat) (σ : Sig) (s : St) (w : World) (L : OutL) : Exit → Act → World → Prop := fun e a' w' =>
  ∃ ex s' I', (ex, s', I') ∈ L ∧ e = toExit ex ∧ ∃ σ', ActR σ' s'.env nt a' ∧ Step σ s.H s.nx w σ' s'.H s'.nx w' ∧ Good σ' s'.H s'.nx w' ∧ ItO σ' s'.H w' I'

theorem execL_ok {C : Cx} (hC : C.Sound) {call : CallF} (hcall : CallOK C call) {callM : CallM} (hM : CallMOK C callM) : ∀ (n nt : Nat) (c : Code) (s : St) (I : Option It) (L : OutL), execL C call callM n nt c s I = some L → codeOK c = true →
    ∀ (σ : Sig) (w : World) (a : Act), ActR σ s.env nt a → Good σ s.H s.nx w → ItO σ s.H w I → c.wp C.P (PostL nt σ s w L) a w := by
  intro n
  induction n using Nat.strongRecOn with
  | _ n IH =>
   cases n with
   | zero => intro nt c s I L h; simp [execL] at h
   | succ n =>
    have ih := IH n (by omega)
    intro nt c s I L h hok σ w a he g hI
    have h0 := h
    unfold execL at h
    have done : ∀ {ex : Ex}, L = [(ex, s, I)] → PostL nt σ s w L (toExit ex) a w := fun hL => by
      subst hL; exact ⟨_, s, I, by simp, rfl, σ, he, Step.refl, g, hI⟩
    split at h
    · injection h with h; exact wp_skip (done h.symm)
    · injection h with h; exact wp_label (done h.symm)
    · simp only [Option.map_eq_some_iff] at h
      obtain ⟨L1, h1, rfl⟩ := h
      refine wp_region_list (runOpsL_wp hC.toOK hcall hM _ s I L1 σ w a h1 he g hI fun σ' w' a' s' I' hm r1 r2 r3 r4 => ?_)
      exact ⟨.normal, s', I', List.mem_map.2 ⟨(s', I'), hm, rfl⟩, rfl, σ', r1, r2, r3, r4⟩
    · split at h
      · rename_i front last hsp
        split at h
        · cases h
        · rename_i s1 h1
          split at h
          · rename_i outs h2
            refine runLast_wp hC.toOK hC.mixed hcall hok hsp h1 he g fun σ' w' a' r1 r2 r3 => ?_
            refine stepL_wp hC.toOK hcall hM r3 (I := none) trivial (ev_VR r1.env) h2 fun x w'' σ'' v H'' nx'' I'' hm hv hs hg hI' => ?_
            obtain ⟨l', k1, k2⟩ := allL_mem h _ hm
            simp only at k1
            split at k1
            · rename_i env' hput
              simp only [Option.some.injEq] at k1; subst k1
              exact ⟨.normal, ⟨env', H'', nx''⟩, I'', k2 _ (by simp), rfl, σ'', put?_ok (r1.ext (Step.ext r3 hs)) hv hput, Step.trans g r2 hs, hg, hI'⟩
            · cases k1
          · cases h
      · simp only [Option.map_eq_some_iff] at h
        obtain ⟨s1, h1, rfl⟩ := h
        refine runDraw_wp hC.toOK hC.mixed hcall hok h1 he (under_good g hI) fun σ' w' a' r1 r2 r3 => ?_
        obtain ⟨q1, q2, q3⟩ := step_back g hI r2 r3
        exact ⟨.normal, ⟨s1.env, back _ s1.H, s1.nx⟩, _, by simp, rfl, σ', r1, q1, q2, q3⟩
    · rename_i b1 b2
      simp only [codeOK, Bool.and_eq_true] at hok
      refine wp_seq ?_
      split at h
      · rename_i L1 h1
        refine wp_mono (ih _ _ _ _ _ h1 hok.1 σ w a he g hI) ?_
        rintro e a' w' ⟨ex, s', I', hm, rfl, σ', r1, r2, r3, r4⟩
        obtain ⟨l', k1, k2⟩ := allL_mem h _ hm
        cases ex with
        | normal =>
          simp only at k1
          show b2.wp C.P _ a' w'
          refine wp_mono (ih _ _ _ _ _ k1 hok.2 σ' w' a' r1 r3 r4) ?_
          rintro e a'' w'' ⟨ex, s'', I'', hm2, rfl, σ'', q1, q2, q3, q4⟩
          exact ⟨ex, s'', I'', k2 _ hm2, rfl, σ'', q1, Step.trans g r2 q2, q3, q4⟩
        | exit id =>
          simp only [Option.some.injEq] at k1; subst k1
          exact ⟨.exit id, s', I', k2 _ (by simp), rfl, σ', r1, r2, r3, r4⟩
        | ret =>
          simp only [Option.some.injEq] at k1; subst k1
          exact ⟨.ret, s', I', k2 _ (by simp), rfl, σ', r1, r2, r3, r4⟩
      · cases h
    · rename_i x b1 b2
      simp only [codeOK, Bool.and_eq_true] at hok
      have hx := ev_VR he.env x
      split at h
      · rename_i hv
        rw [hv] at hx; simp only [VR] at hx
        exact wp_cond_true hx (ih _ _ _ _ _ h hok.1 σ w a he g hI)
      · rename_i hv
        rw [hv] at hx; simp only [VR] at hx
        exact wp_cond_false hx (ih _ _ _ _ _ h hok.2 σ w a he g hI)
      · cases h
    · rename_i id b
      simp only [codeOK] at hok
      simp only [Option.map_eq_some_iff] at h
      obtain ⟨L1, h1, rfl⟩ := h
      refine wp_block ?_
      refine wp_mono (ih _ _ _ _ _ h1 hok σ w a he g hI) ?_
      rintro e a' w' ⟨ex, s', I', hm, rfl, σ', r1, r2, r3, r4⟩
      have hm' : blockF id (ex, s', I') ∈ L1.map (blockF id) := List.mem_map.2 ⟨(ex, s', I'), hm, rfl⟩
      cases ex with
      | normal => exact ⟨.normal, s', I', hm', rfl, σ', r1, r2, r3, r4⟩
      | ret => exact ⟨.ret, s', I', hm', rfl, σ', r1, r2, r3, r4⟩
      | exit i =>
        by_cases hi : i = id
        · simp only [blockF, if_pos hi] at hm'
          simp only [toExit, Exit.inBlock, hi, if_true]
          exact ⟨.normal, s', I', hm', rfl, σ', r1, r2, r3, r4⟩
        · simp only [blockF, if_neg hi] at hm'
          simp only [toExit, Exit.inBlock, hi, if_false]
          exact ⟨.exit i, s', I', hm', rfl, σ', r1, r2, r3, r4⟩
    · rename_i b
      have hokb : codeOK b = true := by simpa [codeOK] using hok
      refine wp_loop_ghost (fun m a1 w1 => m ≤ n + 1 ∧ ∃ s1 I1 L1 σ1, execL C call callM m nt (.loop b) s1 I1 = some L1 ∧ (∀ y ∈ L1, y ∈ L) ∧ ActR σ1 s1.env nt a1 ∧ Step σ s.H s.nx w σ1 s1.H s1.nx w1 ∧ Good σ1 s1.H s1.nx w1 ∧ ItO σ1 s1.H w1 I1) (n + 1)
        ⟨Nat.le_refl _, s, I, L, σ, h0, fun _ h => h, he, Step.refl, g, hI⟩ ?_
      rintro m a1 w1 ⟨hm, s1, I1, L1, σ1, hx, hsub, r1, r2, r3, r4⟩
      cases m with
      | zero => simp [execL] at hx
      | succ m =>
        unfold execL at hx
        simp only at hx
        have ihm := IH m (by omega)
        split at hx
        · rename_i L2 h2
          refine wp_mono (ihm _ _ _ _ _ h2 hokb σ1 w1 a1 r1 r3 r4) ?_
          rintro e a' w' ⟨ex, s2, I2, hm2, rfl, σ2, q1, q2, q3, q4⟩
          obtain ⟨l', k1, k2⟩ := allL_mem hx _ hm2
          cases ex with
          | normal =>
            simp only at k1
            exact ⟨m, by omega, by omega, s2, I2, l', σ2, k1, fun y hy => hsub y (k2 y hy), q1, Step.trans g r2 q2, q3, q4⟩
          | exit id =>
            simp only [Option.some.injEq] at k1; subst k1
            exact ⟨.exit id, s2, I2, hsub _ (k2 _ (by simp)), rfl, σ2, q1, Step.trans g r2 q2, q3, q4⟩
          | ret =>
            simp only [Option.some.injEq] at k1; subst k1
            exact ⟨.ret, s2, I2, hsub _ (k2 _ (by simp)), rfl, σ2, q1, Step.trans g r2 q2, q3, q4⟩
        · cases hx
    · injection h with h; exact wp_exit (done h.symm)
    · injection h with h; exact wp_ret (done h.symm)
    · cases h
end CI
