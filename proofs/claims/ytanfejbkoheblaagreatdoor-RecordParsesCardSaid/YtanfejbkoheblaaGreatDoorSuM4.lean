/- Parts of the proof: Cmm Cmn Cfa Cmz Shelf Sorted Crl. -/
import Derived.Test.YtanfejbkoheblaaGreatDoorSuM3
import Derived.Test.YtanfejbkoheblaaGreatDoorSuM2
import Derived.Test.YtanfejbkoheblaaGreatDoorSuM1
import Derived.Lib.MakeNoZero
import Derived.Laws.Externs
import Derived.Shelf.Strings.Builder1
import Derived.Shelf.Strings.Builder2
import Derived.Shelf.Small.Strs
import Derived.Shelf.Strings.BuilderF
import Derived.Shelf.Strconv.Atoi
import Derived.Shelf.Strconv.Itoa0
import Derived.Shelf.Strconv.Itoa1
import Derived.Shelf.LaysM
import Derived.Shelf.Strconv.Itoa2
import Derived.Shelf.Strconv.Itoa3
import Derived.Shelf.Strconv.AtoiErrFast
import Derived.Shelf.Strconv.ParseIntEmpty
import Derived.Shelf.Strconv.AtoiFail
import Derived.Shelf.Strconv.Clone
import Derived.Shelf.Strconv.SyntaxError
import Derived.Shelf.LaysC
import Derived.Shelf.Strconv.ToError
import Derived.Shelf.Strconv.Lower
import Derived.Shelf.Strconv.ParseUint10
import Derived.Shelf.Strconv.ParseUint10Empty
import Derived.Shelf.Strconv.ParseUint10Any
import Derived.Shelf.Strconv.ParseInt10
import Derived.Shelf.Strconv.AtoiLong
import Derived.Shelf.Strconv.AtoiInnerAll
import Derived.Shelf.Strconv.RangeError
import Derived.Shelf.Strconv.ToErrorRange
import Derived.Shelf.Strconv.AtoiAll
import Derived.Shelf.Strings.Search1
import Derived.Shelf.Strings.Search2
import Derived.Shelf.Strings.Search3
import Derived.Shelf.Strings.Cut
import Derived.Shelf.Strings.Count
import Derived.Shelf.Strings.Shaped
import Derived.Shelf.Strings.Prefix
import Derived.Shelf.Bits.Mul64
import Derived.Shelf.Strings.Repeat
import Derived.Shelf.Unicode.DecodeSlow
import Derived.Ground.SlgmProg
import Derived.Shelf.SortM.Plain
import Derived.Shelf.SortM.SortNone
import Derived.Test.YtanfejbkoheblaaGreatDoorProg
import Derived.Shelf.SlIterI.Nil
import Derived.Ground.GgzProg
set_option linter.unusedVariables false
set_option linter.unusedSimpArgs false
noncomputable section
namespace CI
open Go
open Go.ChangeMaps (setBlock)
variable {P : Program} {σ σ' : Sig} {H H' Hw : Heap} {nx nx' : Nat} {w w' : World}
theorem next_out (g : Good σ H nx w) {i : It} (h : ItR σ H w i) {ty : TypeId} {y : Value} (hy : VR σ (.ptr i.it 0) y) :
    (i.rest = [] ∧ (Instr.next y false ty).run P w = .ok (.tuple #[.bool false]) w) ∨
    ∃ v i' x w', (v, i') ∈ nextA i ∧ (Instr.next y false ty).run P w = .ok x w' ∧ VR σ v x ∧ Step σ H nx w σ (H.put i.it (some (.iter false))) nx w' ∧
      Good σ (H.put i.it (some (.iter false))) nx w' ∧ ItR σ (H.put i.it (some (.iter false))) w' i' := by
  obtain ⟨lm, li, E, clock, seen, R, r1, r2, r3, r4, r5, r6, r7, r8⟩ := h.rel
  simp only [VR] at hy
  obtain ⟨l, hl, rfl⟩ := hy
  rw [r2] at hl; injection hl with hl; subst hl
  rcases run_next_at (P := P) w ty li.blk lm.blk clock clock seen E clock r4 r3 r5.2 (Nat.le_refl _) with ⟨h1, h2⟩ | ⟨e, he, w1, hw1, hr⟩
  · left
    refine ⟨?_, h2⟩
    have : (leftOf E seen).toList = [] := by
      apply List.eq_nil_of_length_eq_zero
      simpa using h1
    rw [this] at r7
    have hR : R = [] := by
      cases R with
      | nil => rfl
      | cons p R => obtain ⟨k, v⟩ := p; simp only [MapR] at r7; obtain ⟨_, _, h, _⟩ := r7; cases h
    subst hR
    exact r6.nil_eq.symm
  · right
    obtain ⟨j, hj, hje⟩ := List.mem_iff_getElem.1 he
    have hje' : (leftOf E seen).toList[j]? = some e := by rw [List.getElem?_eq_getElem hj, hje]
    have hjR : j < R.length := by rw [← r7.length]; exact hj
    obtain ⟨e2, q1, q2, q3⟩ := r7.at_ (List.getElem?_eq_getElem hjR)
    rw [hje'] at q1; injection q1 with q1; subst q1
    have hmem : R[j] ∈ i.rest := r6.mem_iff.1 (List.getElem_mem hjR)
    obtain ⟨n, hn, hne⟩ := List.mem_iff_getElem.1 hmem
    have hn' : i.rest[n]? = some R[j] := by rw [List.getElem?_eq_getElem hn, hne]
    have hnd : ((leftOf E seen).toList.map (·.born)).Nodup := by
      unfold leftOf
      rw [Array.toList_filter]
      exact r5.1.sublist (List.filter_sublist.map _)
    have hw1h : w1.heap = w.heap ∧ w1.os = w.os ∧ w1.tape = w.tape ∧ w1.output = w.output := by
      rcases hw1 with rfl | rfl <;> exact ⟨rfl, rfl, rfl, rfl⟩
    have hlt := g.toSim.lt h.hi r2
    have hms := mod_step (w' := setBlock w1 li.blk (.mapIter (some lm.blk) clock (seen.push e.born) clock)) g h.hi rfl r2 (o' := .iter false) (by simp [setBlock, hw1h.1])
      (fun k hk => by simp [setBlock, hw1h.1, Array.getElem?_setIfInBounds, Ne.symm hk]) hw1h.2.1 hw1h.2.2.1 hw1h.2.2.2 ⟨some lm.blk, clock, seen.push e.born, clock, by simp [setBlock, hw1h.1, Array.getElem?_setIfInBounds, hlt]⟩
    refine ⟨.tuple [.lit (.bool true), R[j].1, R[j].2], { i with cur := some R[j], rest := i.rest.eraseIdx n }, _, _, ?_, hr, ?_, hms.1, hms.2, ?_⟩
    · unfold nextA
      rw [List.mem_map]
      refine ⟨(R[j], n), ?_, rfl⟩
      rw [List.mk_mem_zipIdx_iff_getElem?]
      exact hn'
    · simp only [VR]
      exact ⟨[.bool true, e.key, e.val], rfl, by simp only [VRs]; exact ⟨_, _, rfl, by simp [VR], _, _, rfl, q2, _, _, rfl, q3, rfl⟩⟩
    · have hne2 := h.ne
      have hblk : lm.blk ≠ li.blk := by
        intro e3
        rw [e3, r4] at r3; cases r3
      refine ⟨?_, Tr.get_put_same _ _ _, lm, li, E, clock, seen.push e.born, R.eraseIdx j, r1, r2, ?_, ?_, r5, perm_erase r6 hn' (List.getElem?_eq_getElem hjR), ?_, ?_⟩
      · show (H.put i.it (some (.iter false))).get i.m = _
        rw [Tr.get_put_ne _ _ _ _ hne2]; exact h.hm
      · simp [setBlock, hw1h.1, Array.getElem?_setIfInBounds, Ne.symm hblk, r3]
      · simp [setBlock, hw1h.1, Array.getElem?_setIfInBounds, hlt]
      · rw [leftOf_push, filter_erase hnd hje']
        exact r7.erase
      · intro k v hkv
        simp only [Option.some.injEq] at hkv
        have hk1 : k = R[j].1 := by rw [hkv]
        have hk2 : v = R[j].2 := by rw [hkv]
        subst hk1; subst hk2
        refine ⟨e, seen, ?_, rfl, q2, q3⟩
        unfold leftOf at he
        rw [Array.toList_filter] at he
        exact (List.mem_filter.1 he).1
def entryA (i : It) : Option AV := i.cur.map fun p => .tuple [p.1, p.2]
theorem entry_out (g : Good σ H nx w) {i : It} (h : ItR σ H w i) {y : Value} {v : AV} (hy : VR σ (.ptr i.it 0) y) (hv : entryA i = some v) :
    ∃ x, (Instr.entry y).run P w = .ok x w ∧ VR σ v x := by
  obtain ⟨lm, li, E, clock, seen, R, r1, r2, r3, r4, r5, r6, r7, r8⟩ := h.rel
  simp only [VR] at hy
  obtain ⟨l, hl, rfl⟩ := hy
  rw [r2] at hl; injection hl with hl; subst hl
  unfold entryA at hv
  simp only [Option.map_eq_some_iff] at hv
  obtain ⟨⟨k, u⟩, hc, rfl⟩ := hv
  obtain ⟨e, seen', q1, rfl, q2, q3⟩ := r8 k u hc
  refine ⟨_, run_entry_at (P := P) w li.blk lm.blk clock seen' E clock e r4 r3 q1 r5.1, ?_⟩
  simp only [VR]
  exact ⟨[e.key, e.val], rfl, by simp only [VRs]; exact ⟨_, _, rfl, q2, _, _, rfl, q3, rfl⟩⟩
abbrev Outs := List (AV × Heap × Nat × Option It)
abbrev Ret := AV × Heap × Nat
abbrev CallM := FuncId → List AV → Heap → Nat → Option (List Ret)
def CallMOK (C : Cx) (call : CallM) : Prop := ∀ k args H nx outs, call k args H nx = some outs → ∀ (σ : Sig) (w : World) (xs : List Value), VRs σ args xs → Good σ H nx w →
  (callFunc k xs.toArray).run C.P w = .ok (.enter k xs.toArray) w ∧ Calls C.P k xs.toArray w fun e w' => ∃ v H' nx', (v, H', nx') ∈ outs ∧ RetPost σ H nx w v H' nx' e w'
def noM : CallM := fun _ _ _ _ => none
theorem noM_ok (C : Cx) : CallMOK C noM := fun k args H nx outs h => by cases h
def multiA (callM : CallM) (ρ : Operand → AV) (c : Call) (H : Heap) (nx : Nat) : Option (List Ret) :=
  match c.callee with
  | .value f =>
    match ρ f with
    | .func (.func k) fs cs => callM k (fs ++ c.args.toList.map ρ ++ cs) H nx
    | _ => none
  | _ => none
theorem run_getObj_nit {r s c : Nat} {sn : Array Nat} (h : w.heap[r]? = some (.mapIter none s sn c)) : (getObj r).run P w = .ok (.mapIter none s sn c) w := by
  simp [getObj, Sem.run, h]
def nilRange (T : Tr TInfo) (H : Heap) (nx : Nat) (t : TypeId) (x : AV) : Option Ret :=
  match T.get t, x with
  | some { desc := .map _ _, .. }, .lit (.map none) => some (.ptr nx 0, H.put nx (some (.nit false)), nx + 1)
  | _, _ => none
def nilNext (H : Heap) (x : AV) : Option AV :=
  match x with
  | .ptr b 0 => match H.get b with
    | some (.nit _) => some (.tuple [.lit (.bool false)])
    | _ => none
  | _ => none
def preL (C : Cx) (callM : CallM) (ρ : Operand → AV) (o : Op) (H : Heap) (nx : Nat) (I : Option It) : Option Outs :=
  match o with
  | .range t x => match I with
    | none => (nilRange C.T H nx t (ρ x)).map fun r => [(r.1, r.2.1, r.2.2, none)]
    | some _ => none
  | .next x false => (nilNext H (ρ x)).map fun v => [(v, H, nx, I)]
  | .call c => (multiA callM ρ c (under I H) nx).map fun l => l.map fun r => (r.1, back I r.2.1, r.2.2, I)
  | _ => none
theorem preL_wp {C : Cx} (hC : C.OK) {callM : CallM} (hM : CallMOK C callM) (g : Good σ H nx w) {I : Option It} (hI : ItO σ H w I) {ρ : Operand → AV} {a : Act} (he : ∀ x, VR σ (ρ x) (a.eval x)) {o : Oper} {outs : Outs}
    (h : preL C callM ρ o.op H nx I = some outs) {next : Act → World → Prop} {Q : Exit → Act → World → Prop}
    (hn : ∀ x w' σ' v H' nx' I', (v, H', nx', I') ∈ outs → VR σ' v x → Step σ H nx w σ' H' nx' w' → Good σ' H' nx' w' → ItO σ' H' w' I' → next (a.put o.dst x) w') : o.wp C.P a w next Q := by
  unfold preL at h
  split at h
  · rename_i t x hop
    split at h
    · simp only [Option.map_eq_some_iff] at h
      obtain ⟨⟨v, H', nx'⟩, hr, rfl⟩ := h
      have hx := he x
      unfold nilRange at hr
      split at hr
      · rename_i kt et _ _ _ _ _ hi hv
        rw [hv] at hx
        simp only [Option.some.injEq, Prod.mk.injEq] at hr
        obtain ⟨rfl, rfl, rfl⟩ := hr
        simp only [VR] at hx
        have hal := alloc_step (w' := { w with heap := w.heap.push (.mapIter none 0 #[] 0) }) g (o := .nit false) (O := .mapIter none 0 #[] 0) (room := 0) rfl rfl rfl rfl ⟨_, _, _, rfl⟩
        have hrun : (Instr.range t (a.eval x)).run C.P w = .ok (.pointer (some ⟨w.heap.size, 0, none⟩)) { w with heap := w.heap.push (.mapIter none 0 #[] 0) } := by
          rw [hx]
          unfold Instr.range
          rw [run_bind_ok (run_under (hC.types _ _ hi).under w)]
          rfl
        have hrun2 : (execOp a.eval o).run C.P w = .ok (.value (.pointer (some ⟨w.heap.size, 0, none⟩))) { w with heap := w.heap.push (.mapIter none 0 #[] 0) } := by
          unfold execOp
          simp only [hop]
          rw [run_bind_ok hrun]; rfl
        unfold Oper.wp
        rw [hrun2]
        refine hn _ _ _ _ _ _ none (List.mem_singleton.2 rfl) ?_ hal.1 hal.2 trivial
        simp only [VR]
        exact ⟨_, Sig.upd_same _ _ _, rfl⟩
      · cases hr
    · cases h
  · rename_i x hop
    simp only [Option.map_eq_some_iff] at h
    obtain ⟨v, hv, rfl⟩ := h
    have hx := he x
    unfold nilNext at hv
    split at hv
    · rename_i b hb
      rw [hb] at hx
      split at hv
      · rename_i ro hg
        simp only [Option.some.injEq] at hv; subst hv
        simp only [VR] at hx
        obtain ⟨l, hl, hxe⟩ := hx
        obtain ⟨s, sn, c, ho⟩ := g.obj b _ l hg hl
        have hrun : (Instr.next (a.eval x) false o.type).run C.P w = .ok (.tuple #[.bool false]) w := by
          rw [hxe]
          unfold Instr.next
          simp only [Loc.base_eq, Nat.add_zero]
          rw [run_bind_ok (run_getObj_nit ho)]
          rfl
        have hrun2 : (execOp a.eval o).run C.P w = .ok (.value (.tuple #[.bool false])) w := by
          unfold execOp
          simp only [hop]
          rw [run_bind_ok hrun]; rfl
        unfold Oper.wp
        rw [hrun2]
        exact hn _ w σ _ H nx I (List.mem_singleton.2 rfl) (by simp only [VR]; exact ⟨[.bool false], rfl, by simp only [VRs]; exact ⟨_, _, rfl, by simp [VR], rfl⟩⟩) Step.refl g hI
      · cases hv
    · cases hv
  · rename_i c hop
    simp only [Option.map_eq_some_iff] at h
    obtain ⟨l, hl, rfl⟩ := h
    unfold multiA at hl
    split at hl
    · rename_i f hcal
      split at hl
      · rename_i k fs cs hf
        have hfv := he f
        rw [hf] at hfv
        simp only [VR] at hfv
        obtain ⟨fs', cs', hfe, hfs, hcs⟩ := hfv
        have hargs := (hfs.append (evs_VRs he c.args.toList)).append hcs
        have hexec : (execOp a.eval o).run C.P w = (callFunc k (fs' ++ c.args.toList.map a.eval ++ cs').toArray).run C.P w := by
          unfold execOp
          simp only [hop]
          unfold resolve
          simp only [hcal, hfe, Deferred.ofValue]
          rw [run_bind_ok (run_pure' _ w)]
          unfold invoke
          simp only
          congr 2
          apply Array.toList_inj.1
          simp
        obtain ⟨h1, h2⟩ := hM _ _ _ _ _ hl σ w _ hargs (under_good g hI)
        unfold Oper.wp
        rw [hexec, h1]
        refine Calls.mono h2 ?_
        rintro e w' ⟨v, H', nx', hm, x, σ', rfl, r1, r2, r3⟩
        obtain ⟨s1, s2, s3⟩ := step_back g hI r2 r3
        exact hn x w' σ' v _ nx' I (List.mem_map.2 ⟨(v, H', nx'), hm, rfl⟩) r1 s1 s2 s3
      · cases hl
    · cases hl
  · cases h
def stepO0 (C : Cx) (call : CallF) (ρ : Operand → AV) (o : Op) (H : Heap) (nx : Nat) (I : Option It) : Option Outs :=
  match o, I with
  | .range t x, none => (rangeA C.T H nx t (ρ x)).map fun r => [r]
  | .next x false, some i =>
    match ρ x with
    | .ptr b 0 => if b = i.it then (match i.rest with
        | [] => some [(.tuple [.lit (.bool false)], H, nx, none)]
        | _ => some ((nextA i).map fun p => (p.1, H.put i.it (some (.iter false)), nx, some p.2))) else none
    | _ => none
  | .entry x, some i =>
    match ρ x with
    | .ptr b 0 => if b = i.it then (entryA i).map fun v => [(v, H, nx, some i)] else none
    | _ => none
  | o, I => (stepA C call ρ o (under I H) nx).map fun r => [(r.1, back I r.2.1, r.2.2, I)]
theorem stepO0_wp {C : Cx} (hC : C.OK) {call : CallF} (hcall : CallOK C call) (g : Good σ H nx w) {I : Option It} (hI : ItO σ H w I) {ρ : Operand → AV} {a : Act} (he : ∀ x, VR σ (ρ x) (a.eval x)) {o : Oper} {outs : Outs}
    (h : stepO0 C call ρ o.op H nx I = some outs) {next : Act → World → Prop} {Q : Exit → Act → World → Prop}
    (hn : ∀ x w' σ' v H' nx' I', (v, H', nx', I') ∈ outs → VR σ' v x → Step σ H nx w σ' H' nx' w' → Good σ' H' nx' w' → ItO σ' H' w' I' → next (a.put o.dst x) w') : o.wp C.P a w next Q := by
  unfold stepO0 at h
  split at h
  · rename_i t x hop
    simp only [Option.map_eq_some_iff] at h
    obtain ⟨⟨v, H', nx', I'⟩, hr, rfl⟩ := h
    obtain ⟨z, w', σ', h1, h2, h3, h4, h5⟩ := rangeA_out (P := C.P) hC.types g (he x) hr
    have hrun : (execOp a.eval o).run C.P w = .ok (.value z) w' := by
      unfold execOp
      simp only [hop]
      rw [run_bind_ok h1]; rfl
    unfold Oper.wp
    rw [hrun]
    exact hn z w' σ' v H' nx' I' (by simp) h2 h3 h4 h5
  · rename_i x i hop
    split at h
    · rename_i b hb
      split at h
      · rename_i hbi
        subst hbi
        have hx := he x
        rw [hb] at hx
        have hrun : ∀ {z : Value} {w' : World}, (Instr.next (a.eval x) false o.type).run C.P w = .ok z w' → (execOp a.eval o).run C.P w = .ok (.value z) w' := by
          intro z w' hz
          unfold execOp
          simp only [hop]
          rw [run_bind_ok hz]; rfl
        rcases next_out (P := C.P) g hI (ty := o.type) hx with ⟨h1, h2⟩ | ⟨v, i', z, w', h1, h2, h3, h4, h5, h6⟩
        · rw [h1] at h
          simp only [Option.some.injEq] at h
          subst h
          unfold Oper.wp
          rw [hrun h2]
          exact hn (.tuple #[.bool false]) w σ (.tuple [.lit (.bool false)]) H nx none (List.mem_singleton.2 rfl) (by simp only [VR]; exact ⟨[.bool false], rfl, by simp only [VRs]; exact ⟨_, _, rfl, by simp [VR], rfl⟩⟩) Step.refl g trivial
        · split at h
          · rename_i hnil
            unfold nextA at h1
            rw [hnil] at h1
            simp at h1
          · simp only [Option.some.injEq] at h
            subst h
            unfold Oper.wp
            rw [hrun h2]
            exact hn z w' σ v _ nx (some i') (List.mem_map.2 ⟨(v, i'), h1, rfl⟩) h3 h4 h5 h6
      · cases h
    · cases h
  · rename_i x i hop
    split at h
    · rename_i b hb
      split at h
      · rename_i hbi
        subst hbi
        have hx := he x
        rw [hb] at hx
        simp only [Option.map_eq_some_iff] at h
        obtain ⟨v, hv, rfl⟩ := h
        obtain ⟨z, h1, h2⟩ := entry_out (P := C.P) g hI hx hv
        have hrun : (execOp a.eval o).run C.P w = .ok (.value z) w := by
          unfold execOp
          simp only [hop]
          rw [run_bind_ok h1]; rfl
        unfold Oper.wp
        rw [hrun]
        exact hn z w σ v H nx (some i) (by simp) h2 Step.refl g hI
      · cases h
    · cases h
  · simp only [Option.map_eq_some_iff] at h
    obtain ⟨⟨v, Hw, nx'⟩, hs, rfl⟩ := h
    refine stepA_wp hC hcall (under_good g hI) he hs fun x w' σ' h1 h2 h3 => ?_
    obtain ⟨s1, s2, s3⟩ := step_back g hI h2 h3
    exact hn x w' σ' v _ nx' _ (List.mem_singleton.2 rfl) h1 s1 s2 s3
def stepL (C : Cx) (call : CallF) (callM : CallM) (ρ : Operand → AV) (o : Op) (H : Heap) (nx : Nat) (I : Option It) : Option Outs :=
  match preL C callM ρ o H nx I with
  | some outs => some outs
  | none => stepO0 C call ρ o H nx I
theorem stepL_wp {C : Cx} (hC : C.OK) {call : CallF} (hcall : CallOK C call) {callM : CallM} (hM : CallMOK C callM) (g : Good σ H nx w) {I : Option It} (hI : ItO σ H w I) {ρ : Operand → AV} {a : Act} (he : ∀ x, VR σ (ρ x) (a.eval x)) {o : Oper} {outs : Outs}
    (h : stepL C call callM ρ o.op H nx I = some outs) {next : Act → World → Prop} {Q : Exit → Act → World → Prop}
    (hn : ∀ x w' σ' v H' nx' I', (v, H', nx', I') ∈ outs → VR σ' v x → Step σ H nx w σ' H' nx' w' → Good σ' H' nx' w' → ItO σ' H' w' I' → next (a.put o.dst x) w') : o.wp C.P a w next Q := by
  unfold stepL at h
  split at h
  · rename_i o1 h1
    injection h with h; subst h
    exact preL_wp hC hM g hI he h1 hn
  · exact stepO0_wp hC hcall g hI he h hn
def allL {α β : Type} (f : α → Option (List β)) : List α → Option (List β)
  | [] => some []
  | x :: xs => match f x, allL f xs with
    | some l, some r => some (l ++ r)
    | _, _ => none
theorem allL_mem {α β : Type} {f : α → Option (List β)} : ∀ {xs : List α} {r : List β}, allL f xs = some r → ∀ x ∈ xs, ∃ l, f x = some l ∧ ∀ y ∈ l, y ∈ r
  | [], _, _ => by simp
  | x :: xs, r, h => by
    simp only [allL] at h
    split at h
    · rename_i l r' h1 h2
      injection h with h; subst h
      intro y hy
      rcases List.mem_cons.1 hy with rfl | hy
      · exact ⟨l, h1, fun z hz => List.mem_append_left _ hz⟩
      · obtain ⟨l', h3, h4⟩ := allL_mem h2 y hy
        exact ⟨l', h3, fun z hz => List.mem_append_right _ (h4 z hz)⟩
    · cases h
def runOpsL (C : Cx) (call : CallF) (callM : CallM) (nt : Nat) (ops : Array Oper) : List Oper → St → Option It → Option (List (St × Option It))
  | [], s, I => some [(s, I)]
  | o :: rest, s, I =>
    if wantedA ops o s.env then
      match stepL C call callM (ev s.env) o.op s.H s.nx I with
      | some outs => allL (fun r => match put? s.env nt o.dst r.1 with
        | some env' => runOpsL C call callM nt ops rest ⟨env', r.2.1, r.2.2.1⟩ r.2.2.2
        | none => none) outs
      | none => none
    else
      match put? s.env nt o.dst (.lit undef) with
      | some env' => runOpsL C call callM nt ops rest ⟨env', s.H, s.nx⟩ I
      | none => none
theorem runOpsL_wp {C : Cx} (hC : C.OK) {call : CallF} (hcall : CallOK C call) {callM : CallM} (hM : CallMOK C callM) {nt : Nat} {ops : Array Oper} {Q : Exit → Act → World → Prop} :
    ∀ (l : List Oper) (s : St) (I : Option It) (L : List (St × Option It)) (σ : Sig) (w : World) (a : Act), runOpsL C call callM nt ops l s I = some L → ActR σ s.env nt a → Good σ s.H s.nx w → ItO σ s.H w I →
      (∀ σ' w' a' s' I', (s', I') ∈ L → ActR σ' s'.env nt a' → Step σ s.H s.nx w σ' s'.H s'.nx w' → Good σ' s'.H s'.nx w' → ItO σ' s'.H w' I' → Q .normal a' w') → wpList C.P ops Q l a w
  | [], s, I, L, σ, w, a, h, he, g, hI, hq => by
    simp only [runOpsL, Option.some.injEq] at h
    subst h
    exact hq σ w a s I (by simp) he Step.refl g hI
  | o :: rest, s, I, L, σ, w, a, h, he, g, hI, hq => by
    simp only [runOpsL] at h
    unfold wpList
    rw [wantedA_eq he.env]
    split at h
    · rename_i hw
      rw [if_pos hw]
      split at h
      · rename_i outs hst
        refine .inl (stepL_wp hC hcall hM g hI (ev_VR he.env) hst fun x w' σ' v H' nx' I' hm hv hs hg hI' => ?_)
        obtain ⟨l', h1, h2⟩ := allL_mem h _ hm
        simp only at h1
        split at h1
        · rename_i env' hput
          refine runOpsL_wp hC hcall hM rest _ _ _ σ' w' _ h1 (put?_ok (he.ext (Step.ext g hs)) hv hput) hg hI' ?_
          intro σ'' w'' a'' s'' I'' hm2 r1 r2 r3 r4
          exact hq σ'' w'' a'' s'' I'' (h2 _ hm2) r1 (Step.trans g hs r2) r3 r4
        · cases h1
      · cases h
    · rename_i hw
      rw [if_neg hw]
      split at h
      · rename_i env' hput
        exact runOpsL_wp hC hcall hM rest _ _ _ σ w _ h (put?_ok he (by simp [VR]) hput) g hI hq
      · cases h
abbrev OutL := List (Ex × St × Option It)
def blockF (id : Nat) (r : Ex × St × Option It) : Ex × St × Option It := match r.1 with
  | .exit i => if i = id then (.normal, r.2) else r
  | _ => r
def execL (C : Cx) (call : CallF) (callM : CallM) : Nat → Nat → Code → St → Option It → Option OutL
  | 0, _, _, _, _ => none
  | n + 1, nt, c, s, I =>
    match c with
    | .skip => some [(.normal, s, I)]
    | .label _ => some [(.normal, s, I)]
    | .region _ ops false => (runOpsL C call callM nt ops ops.toList s I).map fun L => L.map fun p => (.normal, p.1, p.2)
    | .region _ ops true =>
      match splitLast ops, I with
      | some (front, last), none =>
        match runDraw C call nt front s with
        | none => none
        | some s1 =>
          match stepL C call callM (ev s1.env) last.op s1.H s1.nx none with
          | some outs => allL (fun r => match put? s1.env nt last.dst r.1 with
            | some env' => some [(.normal, ⟨env', r.2.1, r.2.2.1⟩, r.2.2.2)]
            | none => none) outs
          | none => none
      | _, I => (runDraw C call nt ops ⟨s.env, under I s.H, s.nx⟩).map fun s' => [(.normal, ⟨s'.env, back I s'.H, s'.nx⟩, I)]
    | .seq a b =>
      match execL C call callM n nt a s I with
      | some L => allL (fun r => match r with
        | (.normal, s', I') => execL C call callM n nt b s' I'
        | r => some [r]) L
      | none => none
    | .cond x a b =>
      match ev s.env x with
      | .lit (.bool true) => execL C call callM n nt a s I
      | .lit (.bool false) => execL C call callM n nt b s I
      | _ => none
    | .block id b => (execL C call callM n nt b s I).map fun L => L.map (blockF id)
    | .loop b =>
      match execL C call callM n nt b s I with
      | some L => allL (fun r => match r with
        | (.normal, s', I') => execL C call callM n nt (.loop b) s' I'
        | r => some [r]) L
      | none => none
    | .exit id => some [(.exit id, s, I)]
    | .ret => some [(.ret, s, I)]
    | _ => none
def PostL (nt : Nat) (σ : Sig) (s : St) (w : World) (L : OutL) : Exit → Act → World → Prop := fun e a' w' =>
  ∃ ex s' I', (ex, s', I') ∈ L ∧ e = toExit ex ∧ ∃ σ', ActR σ' s'.env nt a' ∧ Step σ s.H s.nx w σ' s'.H s'.nx w' ∧ Good σ' s'.H s'.nx w' ∧ ItO σ' s'.H w' I'
theorem execL_ok {C : Cx} (hC : C.Sound) {call : CallF} (hcall : CallOK C call) {callM : CallM} (hM : CallMOK C callM) : ∀ (n nt : Nat) (c : Code) (s : St) (I : Option It) (L : OutL), execL C call callM n nt c s I = some L → codeOK c = true →
    ∀ (σ : Sig) (w : World) (a : Act), ActR σ s.env nt a → Good σ s.H s.nx w → ItO σ s.H w I → c.wp C.P (PostL nt σ s w L) a w := by
  intro n
  induction n using Nat.strongRecOn with
  | _ n IH =>
   cases n with
   | zero => intro nt c s I L h; simp [execL] at h
   | succ n =>
    have ih := IH n (by omega)
    intro nt c s I L h hok σ w a he g hI
    have h0 := h
    unfold execL at h
    have done : ∀ {ex : Ex}, L = [(ex, s, I)] → PostL nt σ s w L (toExit ex) a w := fun hL => by
      subst hL; exact ⟨_, s, I, by simp, rfl, σ, he, Step.refl, g, hI⟩
    split at h
    · injection h with h; exact wp_skip (done h.symm)
    · injection h with h; exact wp_label (done h.symm)
    · simp only [Option.map_eq_some_iff] at h
      obtain ⟨L1, h1, rfl⟩ := h
      refine wp_region_list (runOpsL_wp hC.toOK hcall hM _ s I L1 σ w a h1 he g hI fun σ' w' a' s' I' hm r1 r2 r3 r4 => ?_)
      exact ⟨.normal, s', I', List.mem_map.2 ⟨(s', I'), hm, rfl⟩, rfl, σ', r1, r2, r3, r4⟩
    · split at h
      · rename_i front last hsp
        split at h
        · cases h
        · rename_i s1 h1
          split at h
          · rename_i outs h2
            refine runLast_wp hC.toOK hC.mixed hcall hok hsp h1 he g fun σ' w' a' r1 r2 r3 => ?_
            refine stepL_wp hC.toOK hcall hM r3 (I := none) trivial (ev_VR r1.env) h2 fun x w'' σ'' v H'' nx'' I'' hm hv hs hg hI' => ?_
            obtain ⟨l', k1, k2⟩ := allL_mem h _ hm
            simp only at k1
            split at k1
            · rename_i env' hput
              simp only [Option.some.injEq] at k1; subst k1
              exact ⟨.normal, ⟨env', H'', nx''⟩, I'', k2 _ (by simp), rfl, σ'', put?_ok (r1.ext (Step.ext r3 hs)) hv hput, Step.trans g r2 hs, hg, hI'⟩
            · cases k1
          · cases h
      · simp only [Option.map_eq_some_iff] at h
        obtain ⟨s1, h1, rfl⟩ := h
        refine runDraw_wp hC.toOK hC.mixed hcall hok h1 he (under_good g hI) fun σ' w' a' r1 r2 r3 => ?_
        obtain ⟨q1, q2, q3⟩ := step_back g hI r2 r3
        exact ⟨.normal, ⟨s1.env, back _ s1.H, s1.nx⟩, _, by simp, rfl, σ', r1, q1, q2, q3⟩
    · rename_i b1 b2
      simp only [codeOK, Bool.and_eq_true] at hok
      refine wp_seq ?_
      split at h
      · rename_i L1 h1
        refine wp_mono (ih _ _ _ _ _ h1 hok.1 σ w a he g hI) ?_
        rintro e a' w' ⟨ex, s', I', hm, rfl, σ', r1, r2, r3, r4⟩
        obtain ⟨l', k1, k2⟩ := allL_mem h _ hm
        cases ex with
        | normal =>
          simp only at k1
          show b2.wp C.P _ a' w'
          refine wp_mono (ih _ _ _ _ _ k1 hok.2 σ' w' a' r1 r3 r4) ?_
          rintro e a'' w'' ⟨ex, s'', I'', hm2, rfl, σ'', q1, q2, q3, q4⟩
          exact ⟨ex, s'', I'', k2 _ hm2, rfl, σ'', q1, Step.trans g r2 q2, q3, q4⟩
        | exit id =>
          simp only [Option.some.injEq] at k1; subst k1
          exact ⟨.exit id, s', I', k2 _ (by simp), rfl, σ', r1, r2, r3, r4⟩
        | ret =>
          simp only [Option.some.injEq] at k1; subst k1
          exact ⟨.ret, s', I', k2 _ (by simp), rfl, σ', r1, r2, r3, r4⟩
      · cases h
    · rename_i x b1 b2
      simp only [codeOK, Bool.and_eq_true] at hok
      have hx := ev_VR he.env x
      split at h
      · rename_i hv
        rw [hv] at hx; simp only [VR] at hx
        exact wp_cond_true hx (ih _ _ _ _ _ h hok.1 σ w a he g hI)
      · rename_i hv
        rw [hv] at hx; simp only [VR] at hx
        exact wp_cond_false hx (ih _ _ _ _ _ h hok.2 σ w a he g hI)
      · cases h
    · rename_i id b
      simp only [codeOK] at hok
      simp only [Option.map_eq_some_iff] at h
      obtain ⟨L1, h1, rfl⟩ := h
      refine wp_block ?_
      refine wp_mono (ih _ _ _ _ _ h1 hok σ w a he g hI) ?_
      rintro e a' w' ⟨ex, s', I', hm, rfl, σ', r1, r2, r3, r4⟩
      have hm' : blockF id (ex, s', I') ∈ L1.map (blockF id) := List.mem_map.2 ⟨(ex, s', I'), hm, rfl⟩
      cases ex with
      | normal => exact ⟨.normal, s', I', hm', rfl, σ', r1, r2, r3, r4⟩
      | ret => exact ⟨.ret, s', I', hm', rfl, σ', r1, r2, r3, r4⟩
      | exit i =>
        by_cases hi : i = id
        · simp only [blockF, if_pos hi] at hm'
          simp only [toExit, Exit.inBlock, hi, if_true]
          exact ⟨.normal, s', I', hm', rfl, σ', r1, r2, r3, r4⟩
        · simp only [blockF, if_neg hi] at hm'
          simp only [toExit, Exit.inBlock, hi, if_false]
          exact ⟨.exit i, s', I', hm', rfl, σ', r1, r2, r3, r4⟩
    · rename_i b
      have hokb : codeOK b = true := by simpa [codeOK] using hok
      refine wp_loop_ghost (fun m a1 w1 => m ≤ n + 1 ∧ ∃ s1 I1 L1 σ1, execL C call callM m nt (.loop b) s1 I1 = some L1 ∧ (∀ y ∈ L1, y ∈ L) ∧ ActR σ1 s1.env nt a1 ∧ Step σ s.H s.nx w σ1 s1.H s1.nx w1 ∧ Good σ1 s1.H s1.nx w1 ∧ ItO σ1 s1.H w1 I1) (n + 1)
        ⟨Nat.le_refl _, s, I, L, σ, h0, fun _ h => h, he, Step.refl, g, hI⟩ ?_
      rintro m a1 w1 ⟨hm, s1, I1, L1, σ1, hx, hsub, r1, r2, r3, r4⟩
      cases m with
      | zero => simp [execL] at hx
      | succ m =>
        unfold execL at hx
        simp only at hx
        have ihm := IH m (by omega)
        split at hx
        · rename_i L2 h2
          refine wp_mono (ihm _ _ _ _ _ h2 hokb σ1 w1 a1 r1 r3 r4) ?_
          rintro e a' w' ⟨ex, s2, I2, hm2, rfl, σ2, q1, q2, q3, q4⟩
          obtain ⟨l', k1, k2⟩ := allL_mem hx _ hm2
          cases ex with
          | normal =>
            simp only at k1
            exact ⟨m, by omega, by omega, s2, I2, l', σ2, k1, fun y hy => hsub y (k2 y hy), q1, Step.trans g r2 q2, q3, q4⟩
          | exit id =>
            simp only [Option.some.injEq] at k1; subst k1
            exact ⟨.exit id, s2, I2, hsub _ (k2 _ (by simp)), rfl, σ2, q1, Step.trans g r2 q2, q3, q4⟩
          | ret =>
            simp only [Option.some.injEq] at k1; subst k1
            exact ⟨.ret, s2, I2, hsub _ (k2 _ (by simp)), rfl, σ2, q1, Step.trans g r2 q2, q3, q4⟩
        · cases hx
    · injection h with h; exact wp_exit (done h.symm)
    · injection h with h; exact wp_ret (done h.symm)
    · cases h
end CI
noncomputable section
namespace CI
open Go
def pairsB : List (AV × AV) → List (AV × AV) → Bool
  | [], [] => true
  | a :: l, b :: r => AV.eqB a.1 b.1 && AV.eqB a.2 b.2 && pairsB l r
  | _, _ => false
theorem pairsB_ok : ∀ {a b : List (AV × AV)}, pairsB a b = true → a = b
  | [], [], _ => rfl
  | [], _ :: _, h => by simp [pairsB] at h
  | _ :: _, [], h => by simp [pairsB] at h
  | (a1, a2) :: l, (b1, b2) :: r, h => by
    simp only [pairsB, Bool.and_eq_true] at h
    rw [AV.eqB_ok h.1.1, AV.eqB_ok h.1.2, pairsB_ok h.2]
def eqO : AObj → AObj → Bool
  | .cells a t r, .cells b t' r' => AV.eqBs a b && decide (t = t') && decide (r = r')
  | .map a r, .map b r' => pairsB a b && decide (r = r')
  | .iter r, .iter r' => decide (r = r')
  | .nit r, .nit r' => decide (r = r')
  | _, _ => false
theorem eqO_ok {a b : AObj} (h : eqO a b = true) : a = b := by
  unfold eqO at h
  split at h
  · simp only [Bool.and_eq_true, decide_eq_true_eq] at h
    rw [AV.eqBs_ok h.1.1, h.1.2, h.2]
  · simp only [Bool.and_eq_true, decide_eq_true_eq] at h
    rw [pairsB_ok h.1, h.2]
  · simp only [decide_eq_true_eq] at h; rw [h]
  · simp only [decide_eq_true_eq] at h; rw [h]
  · cases h
def eqOO : Option AObj → Option AObj → Bool
  | none, none => true
  | some a, some b => eqO a b
  | _, _ => false
theorem eqOO_ok {a b : Option AObj} (h : eqOO a b = true) : a = b := by
  unfold eqOO at h
  split at h
  · rfl
  · rw [eqO_ok h]
  · cases h
def restrictH (n : Nat) (f : Nat → Option AObj) : Heap := (List.range n).foldl (fun (T : Heap) b => T.put b (f b)) .nil
theorem restrict_get (f : Nat → Option AObj) : ∀ (n j : Nat), (restrictH n f).get j = if j < n then f j else none
  | 0, j => by simp [restrictH, Tr.get_nil]
  | n + 1, j => by
    have ih := restrict_get f n j
    unfold restrictH at ih ⊢
    rw [List.range_succ, List.foldl_append, List.foldl_cons, List.foldl_nil, Tr.get_put, ih]
    by_cases h : j = n
    · subst h; rw [if_pos rfl, if_pos (by omega)]
    · rw [if_neg h]
      by_cases h2 : j < n
      · rw [if_pos h2, if_pos (by omega)]
      · rw [if_neg h2, if_neg (by omega)]
def agree (H1 : Heap) (rest : List Ret) (b : Nat) : Bool := rest.all fun r => eqOO (H1.get b) (r.2.1.get b)
def maxNx (l : List Ret) : Nat := l.foldl (fun n r => max n r.2.2) 0
theorem foldl_max_ge : ∀ (l : List Ret) (n : Nat), n ≤ l.foldl (fun n r => max n r.2.2) n
  | [], n => Nat.le_refl _
  | r :: l, n => Nat.le_trans (Nat.le_max_left _ _) (foldl_max_ge l (max n r.2.2))
theorem foldl_max_mem : ∀ (l : List Ret) (n : Nat) (r : Ret), r ∈ l → r.2.2 ≤ l.foldl (fun n r => max n r.2.2) n
  | [], _, _, h => by simp at h
  | a :: l, n, r, h => by
    rcases List.mem_cons.1 h with rfl | h
    · exact Nat.le_trans (Nat.le_max_right n _) (foldl_max_ge l _)
    · exact foldl_max_mem l _ r h
theorem maxNx_mem {l : List Ret} {r : Ret} (h : r ∈ l) : r.2.2 ≤ maxNx l := foldl_max_mem l 0 r h
def merge (nx0 : Nat) : List Ret → Option Ret
  | [] => none
  | [r] => some r
  | r1 :: rest =>
    if rest.all (fun r => AV.eqB r1.1 r.1) && (List.range nx0).all (agree r1.2.1 rest) then
      some (r1.1, restrictH (maxNx (r1 :: rest)) (fun b => if agree r1.2.1 rest b then r1.2.1.get b else none), maxNx (r1 :: rest))
    else none
theorem merge_ok {nx0 : Nat} {outs : List Ret} {v v' : AV} {H H' : Heap} {nx nx' : Nat} (hm : (v, H, nx) ∈ outs) (h : merge nx0 outs = some (v', H', nx')) (hlt : nx0 ≤ nx) :
    v' = v ∧ nx ≤ nx' ∧ (∀ b o, H'.get b = some o → H.get b = some o) ∧ (∀ b, b < nx0 → H'.get b = H.get b) := by
  unfold merge at h
  split at h
  · cases h
  · rename_i r
    simp only [List.mem_singleton] at hm
    subst hm
    simp only [Option.some.injEq, Prod.mk.injEq] at h
    obtain ⟨rfl, rfl, rfl⟩ := h
    exact ⟨rfl, Nat.le_refl _, fun _ _ h => h, fun _ _ => rfl⟩
  · rename_i r1 rest _
    split at h
    · rename_i hc
      simp only [Bool.and_eq_true, List.all_eq_true] at hc
      simp only [Option.some.injEq, Prod.mk.injEq] at h
      obtain ⟨rfl, rfl, rfl⟩ := h
      have hmx := maxNx_mem hm
      have key : r1.1 = v ∧ ∀ b, agree r1.2.1 rest b = true → r1.2.1.get b = H.get b := by
        rcases List.mem_cons.1 hm with he | hm
        · subst he
          exact ⟨rfl, fun _ _ => rfl⟩
        · have h1 := hc.1 _ hm
          refine ⟨AV.eqB_ok h1, fun b hb => ?_⟩
          unfold agree at hb
          rw [List.all_eq_true] at hb
          exact eqOO_ok (hb _ hm)
      obtain ⟨k1, k3⟩ := key
      refine ⟨k1, hmx, fun b o hb => ?_, fun b hb => ?_⟩
      · rw [restrict_get] at hb
        split at hb
        · split at hb
          · rename_i ha; rw [← k3 b ha]; exact hb
          · cases hb
        · cases hb
      · simp only at hmx
        rw [restrict_get, if_pos (by omega)]
        have := hc.2 b (List.mem_range.2 hb)
        rw [if_pos this, k3 b this]
    · cases h
def outsOf (C : Cx) (rs : List ResultVar) : OutL → Option (List Ret)
  | [] => some []
  | (ex, s, _) :: L =>
    match ex with
    | .exit _ => none
    | _ => (resA C s rs).bind fun v => (outsOf C rs L).map fun l => (v, s.H, s.nx) :: l
theorem outsOf_mem {C : Cx} {rs : List ResultVar} : ∀ {L : OutL} {l : List Ret}, outsOf C rs L = some l → ∀ {ex : Ex} {s : St} {I : Option It}, (ex, s, I) ∈ L → (ex = .normal ∨ ex = .ret) ∧ ∃ v, resA C s rs = some v ∧ (v, s.H, s.nx) ∈ l
  | [], _, _, _, _, _, hm => by simp at hm
  | (e0, s0, I0) :: L, l, h, ex, s, I, hm => by
    have base : (e0 = .normal ∨ e0 = .ret) ∧ ∃ v l', resA C s0 rs = some v ∧ outsOf C rs L = some l' ∧ l = (v, s0.H, s0.nx) :: l' := by
      cases e0 with
      | exit i => simp [outsOf] at h
      | normal =>
        simp only [outsOf, Option.bind_eq_some_iff, Option.map_eq_some_iff] at h
        obtain ⟨v, h1, l', h2, rfl⟩ := h
        exact ⟨.inl rfl, v, l', h1, h2, rfl⟩
      | ret =>
        simp only [outsOf, Option.bind_eq_some_iff, Option.map_eq_some_iff] at h
        obtain ⟨v, h1, l', h2, rfl⟩ := h
        exact ⟨.inr rfl, v, l', h1, h2, rfl⟩
    obtain ⟨b1, v, l', b2, b3, rfl⟩ := base
    rcases List.mem_cons.1 hm with he | hm
    · simp only [Prod.mk.injEq] at he
      obtain ⟨rfl, rfl, rfl⟩ := he
      exact ⟨b1, v, b2, by simp⟩
    · obtain ⟨c1, u, c2, c3⟩ := outsOf_mem b3 hm
      exact ⟨c1, u, c2, List.mem_cons_of_mem _ c3⟩
def outsL (C : Cx) (call : CallF) (callM : CallM) (n : Nat) (F : Nat → Option Func) : CallM := fun k args H nx =>
  match F k with
  | none => none
  | some fn =>
    match fn.body with
    | none => none
    | some body =>
      if args.length ≤ fn.ntmps then
        (execL C call callM n fn.ntmps body ⟨argEnv args, H, nx⟩ none).bind fun L => outsOf C fn.results.toList L
      else none
def callL (C : Cx) (call : CallF) (callM : CallM) (n : Nat) (F : Nat → Option Func) : CallF := fun k args H nx => (outsL C call callM n F k args H nx).bind (merge nx)
theorem step_less {σ σ' : Sig} {H H1 H2 : Heap} {nx nx' nx2 : Nat} {w w' : World} (g : Good σ H nx w) (s : Step σ H nx w σ' H1 nx' w') (g' : Good σ' H1 nx' w') (h1 : ∀ b o, H2.get b = some o → H1.get b = some o) (h2 : ∀ b, b < nx → H2.get b = H1.get b) (hn : nx' ≤ nx2) :
    Step σ H nx w σ' H2 nx2 w' ∧ Good σ' H2 nx2 w' := by
  have lt : ∀ b o, H.get b = some o → b < nx := fun b o hb => by
    rcases Nat.lt_or_ge b nx with h | h
    · exact h
    · rw [(g.fresh b h).2] at hb; cases hb
  have hs : Step σ H nx w σ' H2 nx2 w' := ⟨s.os, s.tape, s.output, s.size, Nat.le_trans s.grow hn, s.old, fun b o hb hr => by rw [h2 b (lt b o hb)]; exact s.ro b o hb hr, fun b hb hn => by rw [h2 b hb]; exact s.dead b hb hn,
    fun b hb hn => by rw [h2 b hb]; exact s.unreal b hb hn, s.frame, fun b l o hb hl hlt => s.own b l o (h1 b o hb) hl hlt⟩
  refine ⟨hs, g.up hs ⟨⟨fun b o l hb hl => g'.obj b o l (h1 b o hb) hl, fun b b' o o' l l' hb hb' hl hl' he => g'.inj b b' o o' l l' (h1 b o hb) (h1 b' o' hb') hl hl' he⟩, fun b hb => ⟨(g'.fresh b (Nat.le_trans hn hb)).1, ?_⟩⟩⟩
  cases hb' : H2.get b with
  | none => rfl
  | some o =>
    have := h1 b o hb'
    rw [(g'.fresh b (Nat.le_trans hn hb)).2] at this; cases this
theorem outsL_ok {C : Cx} (hC : C.Sound) {call : CallF} (hcall : CallOK C call) {callM : CallM} (hM : CallMOK C callM) {n : Nat} {F : Nat → Option Func}
    (hF : ∀ k fn, F k = some fn → C.P.funcs[k]? = some fn ∧ (fn.name == "runtime.NumGoroutine") = false ∧ ∀ c, fn.body = some c → codeOK c = true) : CallMOK C (outsL C call callM n F) := by
  intro k args H nx outs h σ w xs hxs g
  unfold outsL at h
  split at h
  · cases h
  · rename_i fn hfn
    split at h
    · cases h
    · rename_i body hbody
      obtain ⟨hf, hname, hok⟩ := hF k fn hfn
      have hok := hok body hbody
      split at h
      · rename_i hle
        have hact := argEnv_R hxs hle
        simp only [Option.bind_eq_some_iff] at h
        obtain ⟨L, hL, ho⟩ := h
        constructor
        · unfold callFunc
          rw [run_bind_ok (a := C.P) (w' := w) rfl]
          simp only [hf]
          rw [if_neg (by rw [hname]; simp), if_neg (by simp [hbody])]
          rfl
        · refine calls_of_wp hf hbody ?_
          refine wp_mono (execL_ok hC hcall hM n _ _ _ _ _ hL hok σ w _ hact g trivial) ?_
          rintro e a' w' ⟨ex, s', I', hm, he, σ', h1, h2, h3, _⟩
          obtain ⟨hor, u, hu, hin⟩ := outsOf_mem ho hm
          obtain ⟨x, hx1, hx2⟩ := resA_run hC.toOK h3 h1 hu
          rcases hor with rfl | rfl <;> subst he <;> exact ⟨h1.defers, x, hx1, u, s'.H, s'.nx, hin, x, σ', rfl, hx2, h2, h3⟩
      · cases h
theorem callL_ok {C : Cx} (hC : C.Sound) {call : CallF} (hcall : CallOK C call) {callM : CallM} (hM : CallMOK C callM) {n : Nat} {F : Nat → Option Func}
    (hF : ∀ k fn, F k = some fn → C.P.funcs[k]? = some fn ∧ (fn.name == "runtime.NumGoroutine") = false ∧ ∀ c, fn.body = some c → codeOK c = true) : CallOK C (callL C call callM n F) := by
  intro k args H nx v H' nx' h σ w xs hxs g
  unfold callL at h
  simp only [Option.bind_eq_some_iff] at h
  obtain ⟨outs, ho, hmg⟩ := h
  obtain ⟨h1, h2⟩ := outsL_ok hC hcall hM hF k args H nx outs ho σ w xs hxs g
  refine ⟨h1, h2.mono ?_⟩
  rintro e w' ⟨u, H1, n1, hin, x, σ', rfl, r1, r2, r3⟩
  obtain ⟨rfl, k2, k3, k4⟩ := merge_ok hin hmg r2.grow
  obtain ⟨q1, q2⟩ := step_less g r2 r3 k3 k4 k2
  exact ⟨x, σ', rfl, r1, q1, q2⟩
end CI
noncomputable section
namespace CI
open Go
abbrev RunFn := Nat → Code → St → Option (Ex × St)
abbrev RC := Cx → CallF → Tr AV → Heap → Nat → Res
def fMove (x : Operand) : RC := fun C call E H nx => some (ev E x, H, nx)
def fPick (c a b : Operand) : RC := fun C call E H nx => match ev E c with
  | .lit (.bool t) => some (if t then ev E a else ev E b, H, nx)
  | _ => none
def fAlloc (t : TypeId) : RC := fun C call E H nx => allocOp C.T H nx t
def fBox (t : TypeId) (x : Operand) : RC := fun C call E H nx => boxOp H nx t (ev E x)
def ret1 (H : Heap) (nx : Nat) (v : AV) : AV × Heap × Nat := (v, H, nx)
def fBuild (t : TypeId) (ps : Array (Nat × Operand)) : RC := fun C call E H nx => (buildOp C.T t (partsA (ev E) ps.toList)).map (ret1 H nx)
def fBuildSlice (t : TypeId) (len : Nat) (ps : Array (Nat × Operand)) : RC := fun C call E H nx => buildSliceOp C.T H nx t len (partsA (ev E) ps.toList)
def fUpd (t : TypeId) (m k x : Operand) : RC := fun C call E H nx => (mapUpdateOp C.P C.T H t (ev E m) (ev E k) (ev E x)).map fun H' => (.lit undef, H', nx)
noncomputable def nth (l : List AV) : Nat → Option AV := @List.rec AV (fun _ => Nat → Option AV) (fun _ => none) (fun c _ ih k => @Bool.rec (fun _ => Option AV) (ih (Nat.sub k 1)) (some c) (Nat.beq k 0)) l
theorem nth_eq : ∀ (l : List AV) (k : Nat), nth l k = l[k]?
  | [], k => by simp [nth]
  | c :: l, k => by
    show @Bool.rec (fun _ => Option AV) (nth l (k - 1)) (some c) (Nat.beq k 0) = _
    cases k with
    | zero => rfl
    | succ k => rw [show Nat.beq (k + 1) 0 = false from rfl]; simp only [Nat.add_sub_cancel]; rw [nth_eq l k]; simp
noncomputable def setN (v : AV) (l : List AV) : Nat → Option (List AV) := @List.rec AV (fun _ => Nat → Option (List AV)) (fun _ => none) (fun c cs ih k => @Bool.rec (fun _ => Option (List AV)) (match ih (Nat.sub k 1) with
    | some l => some (c :: l)
    | none => none) (some (v :: cs)) (Nat.beq k 0)) l
theorem setN_eq (v : AV) : ∀ (l : List AV) (k : Nat), setN v l k = if k < l.length then some (l.set k v) else none
  | [], k => by simp [setN]
  | c :: l, k => by
    show @Bool.rec (fun _ => Option (List AV)) (match setN v l (k - 1) with | some l => some (c :: l) | none => none) (some (v :: l)) (Nat.beq k 0) = _
    cases k with
    | zero => simp
    | succ k =>
      rw [show Nat.beq (k + 1) 0 = false from rfl]
      simp only [Nat.add_sub_cancel, setN_eq v l k]
      by_cases h : k < l.length
      · simp [h]
      · simp [h]
noncomputable def loadF (T : Tr TInfo) (H : Heap) (t : TypeId) (a : AV) : Option AV :=
  match a with
  | .ptr b o => match T.get t with
    | some i => @Bool.rec (fun _ => Option AV) (match H.get b with
      | some (.cells cs _ _) => nth cs o
      | _ => none) (loadOp T H t (.ptr b o)) i.agg
    | none => none
  | a => loadOp T H t a
theorem loadF_eq (T : Tr TInfo) (H : Heap) (t : TypeId) (a : AV) : loadF T H t a = loadOp T H t a := by
  unfold loadF
  split
  · rename_i b o
    split
    · rename_i i hi
      cases hg : i.agg with
      | true => rfl
      | false =>
        unfold loadOp
        rw [hi]
        simp only [hg, Bool.false_eq_true, if_false]
        cases H.get b with
        | none => rfl
        | some ob =>
          cases ob with
          | cells cs tb ro =>
            simp only [nth_eq, cut]
            by_cases h : o + 1 ≤ cs.length
            · rw [if_pos h]
              simp only [Option.bind_some, List.getElem?_take, List.getElem?_drop]
              simp
            · rw [if_neg h]
              simp only [Option.bind_none]
              rw [List.getElem?_eq_none (by omega)]
          | _ => rfl
    · rename_i hi
      unfold loadOp
      rw [hi]
  · rfl
def single : AV → Bool
  | .lit v => oneV v
  | .agg _ => false
  | .tuple _ => false
  | v => one v
noncomputable def storeF (T : Tr TInfo) (H : Heap) (t : TypeId) (a v : AV) : Option Heap :=
  match a with
  | .ptr b o => match T.get t with
    | some i => @Bool.rec (fun _ => Option Heap) (storeOp T H t (.ptr b o) v) (match H.get b with
      | some (.cells cs tb false) => match setN v cs o with
        | some cs' => some (H.put b (some (.cells cs' tb false)))
        | none => none
      | _ => none) (Nat.beq i.size 1 && single v)
    | none => none
  | a => storeOp T H t a v
theorem overA_one (cs : List AV) (o : Nat) (v : AV) (h : o < cs.length) : overA cs o [v] = cs.set o v := by
  unfold overA
  rw [List.set_eq_take_append_cons_drop, if_pos h]
  simp
theorem storeF_eq (T : Tr TInfo) (H : Heap) (t : TypeId) (a v : AV) : storeF T H t a v = storeOp T H t a v := by
  unfold storeF
  split
  · rename_i b o
    split
    · rename_i i hi
      cases hc : (Nat.beq i.size 1 && single v) with
      | false => rfl
      | true =>
        simp only [Bool.and_eq_true] at hc
        have h1 : i.size = 1 := Nat.eq_of_beq_eq_true hc.1
        have hcell : cellsOf v = [v] := by
          cases v with
          | lit x => cases x <;> first | rfl | (exfalso; have := hc.2; simp [single, oneV] at this)
          | agg cs => have := hc.2; simp [single] at this
          | tuple cs => have := hc.2; simp [single] at this
          | _ => rfl
        have hone : one v = true := by
          cases v with
          | lit x => exact hc.2
          | agg cs => have := hc.2; simp [single] at this
          | tuple cs => have := hc.2; simp [single] at this
          | _ => exact hc.2
        unfold storeOp
        rw [hi]
        simp only
        cases hH : H.get b with
        | none => rfl
        | some ob =>
          cases ob with
          | cells cs tb ro =>
            cases ro with
            | true => rfl
            | false =>
              simp only [hcell, List.length_singleton, h1, List.all_cons, hone, List.all_nil, Bool.and_true, and_true, true_and, setN_eq]
              by_cases h : o < cs.length
              · rw [if_pos h, if_pos (by omega), overA_one _ _ _ h]
              · rw [if_neg h, if_neg (by omega)]
          | _ => rfl
    · rename_i hi
      unfold storeOp
      rw [hi]
  · rfl
noncomputable def fLoad (t : TypeId) (a : Operand) : RC := fun C call E H nx => (loadF C.T H t (ev E a)).map (ret1 H nx)
noncomputable def fStore (t : TypeId) (a x : Operand) : RC := fun C call E H nx => (storeF C.T H t (ev E a) (ev E x)).map fun H' => (.lit undef, H', nx)
def fNil (x : Operand) : RC := fun C call E H nx => (nilCheckOp (ev E x)).map (ret1 H nx)
def fastInt (op : BinOp) : Option (IntKind → Int → Int → AV) :=
  @BinOp.casesOn (fun _ => Option (IntKind → Int → Int → AV)) op
    (some fun k a b => .lit (.int k (k.wrap (a + b)))) (some fun k a b => .lit (.int k (k.wrap (a - b)))) (some fun k a b => .lit (.int k (k.wrap (a * b)))) none none none none none none none none
    (some fun k a b => .lit (.bool (decide (a = b)))) (some fun k a b => .lit (.bool (!decide (a = b)))) (some fun k a b => .lit (.bool (decide (a < b)))) (some fun k a b => .lit (.bool (decide (a ≤ b)))) (some fun k a b => .lit (.bool (decide (b < a)))) (some fun k a b => .lit (.bool (decide (b ≤ a))))
theorem fastInt_ok {op : BinOp} {f : IntKind → Int → Int → AV} (h : fastInt op = some f) (P : Program) (T : Tr TInfo) (t : TypeId) (x y : Operand) (k : IntKind) (a b : Int) :
    binOpA P T op t x y (.lit (.int k a)) (.lit (.int k b)) = some (f k a b) := by
  cases op <;> simp only [fastInt, Option.some.injEq, reduceCtorEq] at h <;> subst h <;> cases k <;> rfl
def fBin (op : BinOp) (t : TypeId) (x y : Operand) (_ : TypeId) : RC := fun C call E H nx => match ev E x, ev E y with
  | .lit (.int k a), .lit (.int k' b) => (match fastInt op, decide (k = k') with
    | some f, true => some (f k a b, H, nx)
    | _, _ => (binOpA C.P C.T op t x y (.lit (.int k a)) (.lit (.int k' b))).map (ret1 H nx))
  | u, v => (binOpA C.P C.T op t x y u v).map (ret1 H nx)
theorem fBin_eq (op : BinOp) (t : TypeId) (x y : Operand) (t2 : TypeId) (C : Cx) (call : CallF) (E : Tr AV) (H : Heap) (nx : Nat) : fBin op t x y t2 C call E H nx = (binOpA C.P C.T op t x y (ev E x) (ev E y)).map (ret1 H nx) := by
  unfold fBin
  split
  · rename_i k a k' b hx hy
    split
    · rename_i f hf hk
      have := of_decide_eq_true hk
      subst this
      rw [hx, hy, fastInt_ok hf]
      rfl
    · rw [hx, hy]
  · rfl
def fUn (op : UnOp) (_ : TypeId) (x : Operand) : RC := fun C call E H nx => (plain1 C.P (Op.unary op) (ev E x)).map (ret1 H nx)
def fConv (s d : TypeId) (x : Operand) : RC := fun C call E H nx => convA C.P C.T H nx s d (ev E x)
def fIface (t : TypeId) (x : Operand) : RC := fun C call E H nx => (mkIfaceOp C.T t (ev E x)).map (ret1 H nx)
def fFunc (fn : Fn) (fs cs : Array Operand) : RC := fun C call E H nx => some (.func fn (fs.toList.map (ev E)) (cs.toList.map (ev E)), H, nx)
def fMakeMap (t : TypeId) (r : Option Operand) : RC := fun C call E H nx => makeMapOp C.T H nx t (r.map (ev E))
def fMakeSlice (t : TypeId) (l c : Operand) : RC := fun C call E H nx => makeSliceOp C.T H nx t (ev E l) (ev E c)
def fSlice (t : TypeId) (x : Operand) (lo hi mx : Option Operand) : RC := fun C call E H nx => (sliceOp C.P C.T H t (ev E x) (lo.map (ev E)) (hi.map (ev E)) (mx.map (ev E))).map (ret1 H nx)
def fFA (s : TypeId) (x : Operand) (f : Nat) : RC := fun C call E H nx => (fieldAddrOp C.T s (ev E x) f).map (ret1 H nx)
def fField (s : TypeId) (x : Operand) (f : Nat) : RC := fun C call E H nx => (fieldOp C.T s (ev E x) f).map (ret1 H nx)
def fIA (t : TypeId) (x i : Operand) : RC := fun C call E H nx => (indexAddrOp C.T t (ev E x) (ev E i)).map (ret1 H nx)
def fIx (t : TypeId) (x i : Operand) : RC := fun C call E H nx => (indexOp C.P C.T t (ev E x) (ev E i)).map (ret1 H nx)
def fLookup (t : TypeId) (x i : Operand) (ok : Bool) : RC := fun C call E H nx => (lookupOp C.P C.T H t (ev E x) (ev E i) ok).map (ret1 H nx)
def fExtract (x : Operand) (i : Nat) : RC := fun C call E H nx => (extractOp (ev E x) i).map (ret1 H nx)
def fCall (c : Call) : RC := fun C call E H nx => match c.callee with
  | .builtin b => builtinA C H nx b c.argTypes.toList (c.args.toList.map (ev E))
  | _ => callA C call (ev E) c H nx
def n0 : RC := fun _ _ _ _ _ => none
noncomputable def stepF (o : Op) : RC :=
  @Op.casesOn (fun _ => RC) o fMove fMove fPick fAlloc fBox fBuild fBuildSlice fUpd fLoad fStore (fun _ => n0) (fun _ => n0) fNil fBin fUn fConv (fun _ _ => n0) fIface fFunc fMakeMap (fun _ _ => n0) fMakeSlice fSlice fFA fField fIA fIx
    fLookup fUpd (fun _ _ _ => n0) (fun _ _ _ _ => n0) (fun _ _ => n0) (fun _ _ => n0) (fun _ => n0) (fun _ _ _ _ => n0) fExtract fCall (fun _ => n0) (fun _ => n0) (fun _ => n0) (fun _ _ => n0) (fun _ _ _ => n0) (fun _ _ => n0)
theorem stepF_eq (o : Op) (C : Cx) (call : CallF) (E : Tr AV) (H : Heap) (nx : Nat) : stepF o C call E H nx = stepA C call (ev E) o H nx := by
  cases o <;> try rfl
  · rename_i t a
    show (loadF C.T H t (ev E a)).map (ret1 H nx) = _
    rw [loadF_eq]; rfl
  · rename_i t a x
    show (storeF C.T H t (ev E a) (ev E x)).map _ = _
    rw [storeF_eq]; rfl
  · rename_i op t x y t2
    exact fBin_eq op t x y t2 C call E H nx
  · rename_i c
    obtain ⟨cal, args, ts⟩ := c
    cases cal <;> rfl
noncomputable def stepO (C : Cx) (call : CallF) (nt : Nat) (ops : Array Oper) (o : Oper) (ih : St → Option St) (s : St) : Option St :=
  @Bool.rec (fun _ => Option St)
    (match put? s.env nt o.dst (.lit undef) with
      | some env' => ih ⟨env', s.H, s.nx⟩
      | none => none)
    (match stepF o.op C call s.env s.H s.nx with
      | some r => match put? s.env nt o.dst r.1 with
        | some env' => ih ⟨env', r.2.1, r.2.2⟩
        | none => none
      | none => none) (wantedA ops o s.env)
noncomputable def runOpsF (C : Cx) (call : CallF) (nt : Nat) (ops : Array Oper) (l : List Oper) : St → Option St :=
  @List.rec Oper (fun _ => St → Option St) (fun s => some s) (fun o rest ih => stepO C call nt ops o ih) l
theorem runOpsF_eq (C : Cx) (call : CallF) (nt : Nat) (ops : Array Oper) : ∀ (l : List Oper), runOpsF C call nt ops l = runOps C call nt ops l
  | [] => rfl
  | o :: rest => by
    have ih := runOpsF_eq C call nt ops rest
    funext s
    show stepO C call nt ops o (runOpsF C call nt ops rest) s = _
    rw [ih]
    unfold stepO
    simp only [runOps, stepF_eq]
    cases wantedA ops o s.env with
    | true =>
      simp only [if_true]
      cases stepA C call (ev s.env) o.op s.H s.nx with
      | none => rfl
      | some r => rfl
    | false => simp only [Bool.false_eq_true, if_false]; rfl
theorem load_nil (T : Tr TInfo) (t : TypeId) (b o : Nat) : loadOp T .nil t (.ptr b o) = none := by
  unfold loadOp
  cases T.get t with
  | none => rfl
  | some i => simp only [Tr.get_nil]
theorem load_ro (T : Tr TInfo) (H : Heap) (t : TypeId) (b o : Nat) : loadOp T (roAll H) t (.ptr b o) = loadOp T H t (.ptr b o) := by
  unfold loadOp
  cases T.get t with
  | none => rfl
  | some i =>
    simp only [roAll_get]
    cases H.get b with
    | none => rfl
    | some ob => cases ob <;> rfl
def ldOf (o : Op) (E : Tr AV) : Option (TypeId × Nat × Nat) := match o with
  | .load t a => match ev E a with
    | .ptr b off => some (t, b, off)
    | _ => none
  | _ => none
theorem ldOf_step {o : Op} {E : Tr AV} {t : TypeId} {b off : Nat} (h : ldOf o E = some (t, b, off)) (C : Cx) (call : CallF) (H : Heap) (nx : Nat) : stepF o C call E H nx = (loadOp C.T H t (.ptr b off)).map (ret1 H nx) := by
  unfold ldOf at h
  split at h
  · rename_i t' a
    split at h
    · rename_i b' off' he
      simp only [Option.some.injEq, Prod.mk.injEq] at h
      obtain ⟨rfl, rfl, rfl⟩ := h
      show (loadF C.T H _ (ev E a)).map (ret1 H nx) = _
      rw [he, loadF_eq]
    · cases h
  · cases h
theorem ldOf_eff {o : Op} {E : Tr AV} {r : TypeId × Nat × Nat} (h : ldOf o E = some r) : isEff o = false := by
  unfold ldOf at h
  split at h
  · rfl
  · cases h
noncomputable def tx1S (C : Cx) (call : CallF) (ops : Array Oper) (o : Oper) (s : St) : Option (K × AV × Heap × Nat) :=
  @Bool.rec (fun _ => Option (K × AV × Heap × Nat)) (some (.skip, .lit undef, s.H, s.nx))
    (@Bool.rec (fun _ => Option (K × AV × Heap × Nat))
      (match stepF o.op C call s.env .nil s.nx with
        | some (v, X, nx') =>
          if nx' = s.nx then some (.still, v, s.H, s.nx) else
          if nx' = s.nx + 1 then
            match X.get s.nx with
            | some ob => some (.new ob, v, s.H.put s.nx (some ob), s.nx + 1)
            | none => none
          else none
        | none =>
          match stepF o.op C call s.env (roAll s.H) s.nx with
          | some (v, _, nx') => if nx' = s.nx ∧ AV.belowB s.nx v = true then some (.read, v, s.H, s.nx) else none
          | none => none)
      (match stepF o.op C call s.env s.H s.nx with
        | some (v, H', nx') => if s.nx ≤ nx' then some (.eff, v, H', nx') else none
        | none => none) (isEff o.op)) (wantedA ops o s.env)
theorem stepA_still (C : Cx) (call : CallF) (ρ : Operand → AV) (o : Op) (h : isEff o = false) (H : Heap) (nx : Nat) : stepA C call ρ o H nx = opA C ρ o H nx := by
  unfold stepA
  split
  · rename_i c
    split
    · rename_i hc
      exfalso
      obtain ⟨cal, args, ts⟩ := c
      cases cal with
      | builtin b => simp [isCall] at hc
      | _ => exact Bool.noConfusion (show true = false from h)
    · rfl
  · rfl
theorem tx1S_eq (C : Cx) (call : CallF) (ops : Array Oper) (o : Oper) (s : St) : tx1S C call ops o s = tx1 C call ops o s := by
  unfold tx1S tx1
  cases wantedA ops o s.env with
  | false => simp only [Bool.false_eq_true, if_false]
  | true =>
    simp only [if_true]
    cases he : isEff o.op with
    | true =>
      simp only [if_true, stepF_eq]
      cases stepA C call (ev s.env) o.op s.H s.nx with
      | none => rfl
      | some r => rfl
    | false =>
      simp only [Bool.false_eq_true, if_false, stepF_eq, stepA_still _ _ _ _ he]
      cases opA C (ev s.env) o.op .nil s.nx with
      | none =>
        simp only
        cases opA C (ev s.env) o.op (roAll s.H) s.nx with
        | none => rfl
        | some r => rfl
      | some r => rfl
noncomputable def tx1F (C : Cx) (call : CallF) (ops : Array Oper) (o : Oper) (s : St) : Option (K × AV × Heap × Nat) :=
  match ldOf o.op s.env with
  | some (t, b, off) => @Bool.rec (fun _ => Option (K × AV × Heap × Nat)) (some (.skip, .lit undef, s.H, s.nx)) (match loadF C.T s.H t (.ptr b off) with
    | some v => @Bool.rec (fun _ => Option (K × AV × Heap × Nat)) none (some (.read, v, s.H, s.nx)) (AV.belowB s.nx v)
    | none => none) (wantedA ops o s.env)
  | none => tx1S C call ops o s
theorem tx1F_eq (C : Cx) (call : CallF) (ops : Array Oper) (o : Oper) (s : St) : tx1F C call ops o s = tx1 C call ops o s := by
  rw [← tx1S_eq]
  unfold tx1F
  split
  · rename_i t b off h
    unfold tx1S
    cases wantedA ops o s.env with
    | false => rfl
    | true =>
      simp only [ldOf_eff h, ldOf_step h, load_nil, load_ro, loadF_eq, Option.map_none]
      cases loadOp C.T s.H t (.ptr b off) with
      | none => rfl
      | some v =>
        simp only [Option.map_some, ret1, true_and]
        cases AV.belowB s.nx v <;> rfl
  · rfl
noncomputable def txO (C : Cx) (call : CallF) (nt : Nat) (ops : Array Oper) (o : Oper) (ih : St → Option (List DS × St)) (s : St) : Option (List DS × St) :=
  match tx1F C call ops o s with
  | none => none
  | some (k, v, H', nx') =>
    match put? s.env nt o.dst v with
    | none => none
    | some env' =>
      match ih ⟨env', H', nx'⟩ with
      | none => none
      | some (l, sN) => some (⟨k, v, s⟩ :: l, sN)
noncomputable def txRunF (C : Cx) (call : CallF) (nt : Nat) (ops : Array Oper) (l : List Oper) : St → Option (List DS × St) :=
  @List.rec Oper (fun _ => St → Option (List DS × St)) (fun s => some ([], s)) (fun o rest ih => txO C call nt ops o ih) l
theorem txRunF_eq (C : Cx) (call : CallF) (nt : Nat) (ops : Array Oper) : ∀ (l : List Oper), txRunF C call nt ops l = txRun C call nt ops l
  | [] => rfl
  | o :: rest => by
    have ih := txRunF_eq C call nt ops rest
    funext s
    show txO C call nt ops o (txRunF C call nt ops rest) s = _
    rw [ih]
    unfold txO
    simp only [txRun, tx1F_eq]
    rfl
noncomputable def readS (C : Cx) (A : List Nat) (l : List DS) (sN : St) (i : Nat) (o : Oper) (d : DS) : Bool :=
  @Bool.rec (fun _ => Bool)
    ((0 :: (effIdx l).map (· + 1)).all fun p =>
      !(allowed A (effIdx l) i p) ||
      match stepF o.op C (fun _ _ _ _ => none) d.s.env (roAll (addNews l p (stAt l sN p).H)) sN.nx with
      | some (v, _, nx') => decide (nx' = sN.nx) && AV.eqB v d.v
      | none => false)
    (readOK C A l sN i o d) (isEff o.op)
theorem readS_eq (C : Cx) (A : List Nat) (l : List DS) (sN : St) (i : Nat) (o : Oper) (d : DS) : readS C A l sN i o d = readOK C A l sN i o d := by
  unfold readS
  cases he : isEff o.op with
  | true => rfl
  | false =>
    simp only [stepF_eq, stepA_still _ _ _ _ he]
    rfl
noncomputable def readF (C : Cx) (A : List Nat) (l : List DS) (sN : St) (i : Nat) (o : Oper) (d : DS) : Bool :=
  match ldOf o.op d.s.env with
  | some (t, b, off) => (0 :: (effIdx l).map (· + 1)).all fun p =>
      !(allowed A (effIdx l) i p) ||
      match loadF C.T (addNews l p (stAt l sN p).H) t (.ptr b off) with
      | some v => AV.eqB v d.v
      | none => false
  | none => readS C A l sN i o d
theorem readF_eq (C : Cx) (A : List Nat) (l : List DS) (sN : St) (i : Nat) (o : Oper) (d : DS) : readF C A l sN i o d = readOK C A l sN i o d := by
  rw [← readS_eq]
  unfold readF
  split
  · rename_i t b off h
    unfold readS
    simp only [ldOf_eff h, ldOf_step h, load_ro, loadF_eq]
    congr 1
    funext p
    cases loadOp C.T (addNews l p (stAt l sN p).H) t (.ptr b off) with
    | none => rfl
    | some v => simp only [Option.map_some, ret1, decide_true, Bool.true_and]
  · rfl
noncomputable def runDrawF (C : Cx) (call : CallF) (nt : Nat) (ops : Array Oper) (s : St) : Option St :=
  match txRunF C call nt ops ops.toList s with
  | none => none
  | some (l, sN) =>
    if (ops.toList.zip l).zipIdx.all fun ((o, d), i) =>
      match d.k with
      | .read => readF C (ancs ops.toList []) l sN i o d
      | _ => true
    then some sN else none
theorem runDrawF_eq (C : Cx) (call : CallF) (nt : Nat) (ops : Array Oper) (s : St) : runDrawF C call nt ops s = runDraw C call nt ops s := by
  unfold runDrawF runDraw
  rw [txRunF_eq]
  cases txRun C call nt ops ops.toList s with
  | none => rfl
  | some r =>
    obtain ⟨l, sN⟩ := r
    simp only [readF_eq]
    rfl
abbrev CR := Cx → RunFn → Nat → St → Option (Ex × St)
def nrm (s : St) : Ex × St := (.normal, s)
def gSkip : CR := fun C run nt s => some (.normal, s)
noncomputable def gRegion (_ : Nat) (ops : Array Oper) (dr : Bool) : CR := fun C run nt s =>
  @Bool.rec (fun _ => Option (Ex × St)) ((runOpsF C (callS C run) nt ops ops.toList s).map nrm) ((runDrawF C (callS C run) nt ops s).map nrm) dr
def gSeq (a b : Code) : CR := fun C run nt s => match run nt a s with
  | some (.normal, s') => run nt b s'
  | r => r
def gCond (x : Operand) (a b : Code) : CR := fun C run nt s => match ev s.env x with
  | .lit (.bool true) => run nt a s
  | .lit (.bool false) => run nt b s
  | _ => none
def gBlock (id : Nat) (b : Code) : CR := fun C run nt s => match run nt b s with
  | some (.exit i, s') => if i = id then some (.normal, s') else some (.exit i, s')
  | r => r
def gLoop (b : Code) : CR := fun C run nt s => match run nt b s with
  | some (.normal, s') => run nt (.loop b) s'
  | r => r
def gExit (id : Nat) : CR := fun C run nt s => some (.exit id, s)
def gRet : CR := fun C run nt s => some (.ret, s)
def c0 : CR := fun _ _ _ _ => none
noncomputable def execSF (c : Code) : CR :=
  @Code.casesOn (fun _ => CR) c gSkip gRegion gSeq gCond gBlock gLoop (fun _ _ _ _ => c0) gExit (fun _ => c0) (fun _ => gSkip) (fun _ => c0) gRet (fun _ => c0)
theorem execSF_eq (c : Code) (C : Cx) (run : RunFn) (nt : Nat) (s : St) : execSF c C run nt s = execS C run nt c s := by
  cases c <;> try rfl
  rename_i id ops dr
  show gRegion id ops dr C run nt s = _
  unfold gRegion
  rw [runOpsF_eq, runDrawF_eq]
  cases dr <;> rfl
noncomputable def execF (C : Cx) (n : Nat) : RunFn := @Nat.rec (fun _ => RunFn) (fun _ _ _ => none) (fun _ ih nt c s => execSF c C ih nt s) n
theorem execF_eq (C : Cx) : ∀ n, execF C n = exec C n
  | 0 => rfl
  | n + 1 => by
    have ih := execF_eq C n
    funext nt c s
    show execSF c C (execF C n) nt s = _
    rw [ih, execSF_eq]
    rfl
noncomputable abbrev callF (C : Cx) (n : Nat) : CallF := callS C (execF C n)
theorem callF_eq (C : Cx) (n : Nat) : callF C n = callN C n := by
  unfold callF callN
  rw [execF_eq]
end CI
noncomputable section
namespace CI
open Go
structure MzFact (P : Program) (f : Nat) (t e : TypeId) : Prop where
  under : P.underlying t = some (.slice e)
  ext : ∃ fn ps, P.funcs[f]? = some fn ∧ (fn.name == "runtime.NumGoroutine") = false ∧ fn.body.isNone = true ∧ Extern.findNext fn = none ∧ Extern.find fn = some (Extern.BytealgMakeNoZero.makeNoZero ps #[t])
def mzA (f : Nat) (e : TypeId) (k : FuncId) (args : List AV) (H : Heap) (nx : Nat) : Option (AV × Heap × Nat) :=
  if (k : Nat) = f then
    match args with
    | [.lit (.int .i64 (.ofNat n))] => if n ≤ 281474976710656 then some (.slice nx 0 n none 1, H.put nx (some (.cells [] e false)), nx + 1) else none
    | _ => none
  else none
theorem mzA_ok {P : Program} {f : Nat} {t e : TypeId} (hf : MzFact P f t e) {k : FuncId} {args : List AV} {H H' : Heap} {nx nx' : Nat} {v : AV} (h : mzA f e k args H nx = some (v, H', nx'))
    (σ : Sig) (w : World) (xs : List Value) (hx : VRs σ args xs) (g : Good σ H nx w) :
    ∃ x w' σ', (callFunc k xs.toArray).run P w = .ok (.value x) w' ∧ VR σ' v x ∧ Step σ H nx w σ' H' nx' w' ∧ Good σ' H' nx' w' := by
  unfold mzA at h
  split at h
  · rename_i hk
    subst hk
    split at h
    · rename_i n
      split at h
      · rename_i hn
        simp only [Option.some.injEq, Prod.mk.injEq] at h
        obtain ⟨rfl, rfl, rfl⟩ := h
        simp only [VRs, VR] at hx
        obtain ⟨y, ys, rfl, rfl, rfl⟩ := hx
        obtain ⟨fn, ps, h1, h2, h3, h4, h5⟩ := hf.ext
        obtain ⟨cs, r1, r2, _⟩ := Lib.run_makeNoZero (P := P) w ps t e hf.under n hn
        have hal := alloc_step (w' := w.drew.drew.alloc (.cells cs e)) g (o := .cells [] e false) (O := .cells cs e) (room := cs.size) rfl rfl rfl rfl
          ⟨cs, (0, 0), rfl, rfl, by simp [Loc.base_eq], by simp, fun _ i _ => by simp⟩
        refine ⟨.slice (some ⟨w.heap.size, 0, none⟩) n cs.size, _, _, ?_, ?_, hal.1, hal.2⟩
        · rw [run_callFunc_extern h1 h2 h3 h4 h5]
          rw [show (Value.int .i64 (Int.ofNat n)) = Value.int .i64 (n : Nat) from rfl]
          rw [r1]
          rfl
        · simp only [VR]
          exact ⟨_, cs.size, Sig.upd_same _ _ _, rfl, r2, by simp [Loc.base_eq], by simp [Loc.base_eq]⟩
      · cases h
    · cases h
  · cases h
end CI
namespace Go.Proofs
open Go.Shelf
def Tryz.laysM171_ren : Go.Shelf.Ren := ⟨fun | 171 => 139 | 243 => 200 | 246 => 268 | 283 => 339 | 284 => 340 | 285 => 341 | 286 => 342 | 129 => 294 | 317 => 381 | 318 => 382 | 319 => 383 | 320 => 384 | 337 => 409 | 338 => 331 | n => n, fun | 3 => 3 | 9 => 9 | 2 => 2 | 4 => 4 | 171 => 453 | 0 => 0 | 53 => 181 | 37 => 81 | 5 => 5 | 173 => 455 | 212 => 494 | 51 => 335 | 20 => 20 | 213 => 495 | 46 => 221 | 232 => 519 | 233 => 492 | n => n, fun | 17 => 2 | 18 => 7 | 19 => 1 | n => n⟩
theorem Tryz.laysM171 : Go.Proofs.LaysM.n171 Tryz.prog Tryz.laysM171_ren := {
  mixed := by kernel_rfl
  f129 := Tryz.func294.trans (congrArg some (by kernel_rfl))
  f171 := Tryz.func139.trans (congrArg some (by kernel_rfl))
  f243 := Tryz.func200.trans (congrArg some (by kernel_rfl))
  f246 := Tryz.func268.trans (congrArg some (by kernel_rfl))
  f283 := Tryz.func339.trans (congrArg some (by kernel_rfl))
  f284 := Tryz.func340.trans (congrArg some (by kernel_rfl))
  f285 := Tryz.func341.trans (congrArg some (by kernel_rfl))
  f286 := Tryz.func342.trans (congrArg some (by kernel_rfl))
  f317 := Tryz.func381.trans (congrArg some (by kernel_rfl))
  f318 := Tryz.func382.trans (congrArg some (by kernel_rfl))
  f319 := Tryz.func383.trans (congrArg some (by kernel_rfl))
  f320 := Tryz.func384.trans (congrArg some (by kernel_rfl))
  f337 := Tryz.func409.trans (congrArg some (by kernel_rfl))
  f338 := Tryz.func331.trans (congrArg some (by kernel_rfl))
  t0 := Tryz.underlying0
  a0 := Tryz.isAgg0
  z0 := Tryz.sizeOf0
  v0 := Tryz.zeroValue0
  t2 := Tryz.underlying2
  a2 := Tryz.isAgg2
  z2 := Tryz.sizeOf2
  v2 := Tryz.zeroValue2
  t3 := Tryz.underlying3
  a3 := Tryz.isAgg3
  z3 := Tryz.sizeOf3
  v3 := Tryz.zeroValue3
  t4 := Tryz.underlying4
  a4 := Tryz.isAgg4
  z4 := Tryz.sizeOf4
  v4 := Tryz.zeroValue4
  t5 := Tryz.underlying5
  a5 := Tryz.isAgg5
  z5 := Tryz.sizeOf5
  v5 := Tryz.zeroValue5
  t9 := Tryz.underlying9
  a9 := Tryz.isAgg9
  z9 := Tryz.sizeOf9
  v9 := Tryz.zeroValue9
  t20 := Tryz.underlying20
  a20 := Tryz.isAgg20
  z20 := Tryz.sizeOf20
  v20 := Tryz.zeroValue20
  t37 := Tryz.underlying81
  a37 := Tryz.isAgg81
  z37 := Tryz.sizeOf81
  v37 := Tryz.zeroValue81
  t46 := Tryz.underlying221
  a46 := Tryz.isAgg221
  z46 := Tryz.sizeOf221
  v46 := Tryz.zeroValue221
  t51 := Tryz.underlying335
  a51 := Tryz.isAgg335
  z51 := Tryz.sizeOf335
  v51 := Tryz.zeroValue335
  t53 := Tryz.underlying181
  a53 := Tryz.isAgg181
  z53 := Tryz.sizeOf181
  v53 := Tryz.zeroValue181
  t171 := Tryz.underlying453
  a171 := Tryz.isAgg453
  z171 := Tryz.sizeOf453
  v171 := Tryz.zeroValue453
  t173 := Tryz.underlying455
  a173 := Tryz.isAgg455
  z173 := Tryz.sizeOf455
  v173 := Tryz.zeroValue455
  t212 := Tryz.underlying494
  a212 := Tryz.isAgg494
  z212 := Tryz.sizeOf494
  v212 := Tryz.zeroValue494
  t213 := Tryz.underlying495
  a213 := Tryz.isAgg495
  z213 := Tryz.sizeOf495
  t232 := Tryz.underlying519
  a232 := Tryz.isAgg519
  z232 := Tryz.sizeOf519
  v232 := Tryz.zeroValue519
  t233 := Tryz.underlying492
  a233 := Tryz.isAgg492
  z233 := Tryz.sizeOf492
  v233 := Tryz.zeroValue492
  g17 := by kernel_rfl
  g18 := by kernel_rfl
  g19 := by kernel_rfl
  i0 := by kernel_rfl
  i2 := by kernel_rfl
  i3 := by kernel_rfl
  i4 := by kernel_rfl
  i5 := by kernel_rfl
  i9 := by kernel_rfl
  i20 := by kernel_rfl
  i37 := by kernel_rfl
  i46 := by kernel_rfl
  i51 := by kernel_rfl
  i53 := by kernel_rfl
  i171 := by kernel_rfl
  i173 := by kernel_rfl
  i212 := by kernel_rfl
  i232 := by kernel_rfl
  i233 := by kernel_rfl
  m17 := by kernel_rfl
  m18 := by kernel_rfl
  m19 := by kernel_rfl }
open Go.RowKit Go.Sort Go.Lib in
theorem Tryz.strconv_Itoa (n : Int) (h0 : -9223372036854775808 ≤ n) (h1 : n ≤ 9223372036854775807) (w : World) (htab : Lib.TabIs Tryz.prog w "internal/strconv.uint64pow10" .u64 Lib.pow10Tab) :
    Calls Tryz.prog 139 #[.int .i64 n] w fun e w' => e = .returned (.string ⟨(Lib.itoa n).toArray⟩) ∧ ∃ k os, w' = grow (w.drewN k) os := Any.strconv_Itoa Tryz.laysM171 n h0 h1 w htab
def Tryz.laysC172_ren : Go.Shelf.Ren := ⟨fun | 172 => 204 | 244 => 273 | 245 => 274 | 247 => 347 | 279 => 348 | 280 => 349 | 281 => 350 | 282 => 351 | 287 => 386 | 316 => 387 | 171 => 139 | 205 => 388 | 321 => 410 | 322 => 411 | 243 => 200 | 246 => 268 | 283 => 339 | 284 => 340 | 285 => 341 | 286 => 342 | 129 => 294 | 317 => 381 | 318 => 382 | 319 => 383 | 320 => 384 | 337 => 409 | 338 => 331 | n => n, fun | 9 => 9 | 3 => 3 | 75 => 128 | 76 => 129 | 4 => 4 | 5 => 5 | 167 => 460 | 37 => 81 | 0 => 0 | 85 => 461 | 2 => 2 | 168 => 463 | 53 => 181 | 175 => 496 | 46 => 221 | 210 => 499 | 127 => 219 | 145 => 515 | 143 => 513 | 21 => 21 | 171 => 453 | 173 => 455 | 212 => 494 | 51 => 335 | 20 => 20 | 213 => 495 | 232 => 519 | 233 => 492 | 80 => 132 | n => n, fun | 15 => 3 | 16 => 4 | 17 => 2 | 18 => 7 | 19 => 1 | n => n⟩
theorem Tryz.laysC172 : Go.Proofs.LaysC.n172 Tryz.prog Tryz.laysC172_ren := {
  mixed := by kernel_rfl
  f129 := Tryz.func294.trans (congrArg some (by kernel_rfl))
  f171 := Tryz.func139.trans (congrArg some (by kernel_rfl))
  f172 := Tryz.func204.trans (congrArg some (by kernel_rfl))
  f205 := Tryz.func388.trans (congrArg some (by kernel_rfl))
  f243 := Tryz.func200.trans (congrArg some (by kernel_rfl))
  f244 := Tryz.func273.trans (congrArg some (by kernel_rfl))
  f245 := Tryz.func274.trans (congrArg some (by kernel_rfl))
  f246 := Tryz.func268.trans (congrArg some (by kernel_rfl))
  f247 := Tryz.func347.trans (congrArg some (by kernel_rfl))
  f279 := Tryz.func348.trans (congrArg some (by kernel_rfl))
  f280 := Tryz.func349.trans (congrArg some (by kernel_rfl))
  f281 := Tryz.func350.trans (congrArg some (by kernel_rfl))
  f282 := Tryz.func351.trans (congrArg some (by kernel_rfl))
  f283 := Tryz.func339.trans (congrArg some (by kernel_rfl))
  f284 := Tryz.func340.trans (congrArg some (by kernel_rfl))
  f285 := Tryz.func341.trans (congrArg some (by kernel_rfl))
  f286 := Tryz.func342.trans (congrArg some (by kernel_rfl))
  f287 := Tryz.func386.trans (congrArg some (by kernel_rfl))
  f316 := Tryz.func387.trans (congrArg some (by kernel_rfl))
  f317 := Tryz.func381.trans (congrArg some (by kernel_rfl))
  f318 := Tryz.func382.trans (congrArg some (by kernel_rfl))
  f319 := Tryz.func383.trans (congrArg some (by kernel_rfl))
  f320 := Tryz.func384.trans (congrArg some (by kernel_rfl))
  f321 := Tryz.func410.trans (congrArg some (by kernel_rfl))
  f322 := Tryz.func411.trans (congrArg some (by kernel_rfl))
  f337 := Tryz.func409.trans (congrArg some (by kernel_rfl))
  f338 := Tryz.func331.trans (congrArg some (by kernel_rfl))
  t0 := Tryz.underlying0
  a0 := Tryz.isAgg0
  z0 := Tryz.sizeOf0
  v0 := Tryz.zeroValue0
  t2 := Tryz.underlying2
  a2 := Tryz.isAgg2
  z2 := Tryz.sizeOf2
  v2 := Tryz.zeroValue2
  t3 := Tryz.underlying3
  a3 := Tryz.isAgg3
  z3 := Tryz.sizeOf3
  v3 := Tryz.zeroValue3
  t4 := Tryz.underlying4
  a4 := Tryz.isAgg4
  z4 := Tryz.sizeOf4
  v4 := Tryz.zeroValue4
  t5 := Tryz.underlying5
  a5 := Tryz.isAgg5
  z5 := Tryz.sizeOf5
  v5 := Tryz.zeroValue5
  t9 := Tryz.underlying9
  a9 := Tryz.isAgg9
  z9 := Tryz.sizeOf9
  v9 := Tryz.zeroValue9
  t20 := Tryz.underlying20
  a20 := Tryz.isAgg20
  z20 := Tryz.sizeOf20
  v20 := Tryz.zeroValue20
  t21 := Tryz.underlying21
  a21 := Tryz.isAgg21
  z21 := Tryz.sizeOf21
  v21 := Tryz.zeroValue21
  t37 := Tryz.underlying81
  a37 := Tryz.isAgg81
  z37 := Tryz.sizeOf81
  v37 := Tryz.zeroValue81
  t46 := Tryz.underlying221
  a46 := Tryz.isAgg221
  z46 := Tryz.sizeOf221
  v46 := Tryz.zeroValue221
  t51 := Tryz.underlying335
  a51 := Tryz.isAgg335
  z51 := Tryz.sizeOf335
  v51 := Tryz.zeroValue335
  t53 := Tryz.underlying181
  a53 := Tryz.isAgg181
  z53 := Tryz.sizeOf181
  v53 := Tryz.zeroValue181
  t75 := Tryz.underlying128
  a75 := Tryz.isAgg128
  z75 := Tryz.sizeOf128
  v75 := Tryz.zeroValue128
  t76 := Tryz.underlying129
  a76 := Tryz.isAgg129
  z76 := Tryz.sizeOf129
  v76 := Tryz.zeroValue129
  t85 := Tryz.underlying461
  a85 := Tryz.isAgg461
  z85 := Tryz.sizeOf461
  v85 := Tryz.zeroValue461
  t127 := Tryz.underlying219
  a127 := Tryz.isAgg219
  z127 := Tryz.sizeOf219
  v127 := Tryz.zeroValue219
  t143 := Tryz.underlying513
  a143 := Tryz.isAgg513
  z143 := Tryz.sizeOf513
  v143 := Tryz.zeroValue513
  t145 := Tryz.underlying515
  a145 := Tryz.isAgg515
  z145 := Tryz.sizeOf515
  v145 := Tryz.zeroValue515
  t167 := Tryz.underlying460
  a167 := Tryz.isAgg460
  z167 := Tryz.sizeOf460
  v167 := Tryz.zeroValue460
  t168 := Tryz.underlying463
  a168 := Tryz.isAgg463
  z168 := Tryz.sizeOf463
  v168 := Tryz.zeroValue463
  t171 := Tryz.underlying453
  a171 := Tryz.isAgg453
  z171 := Tryz.sizeOf453
  v171 := Tryz.zeroValue453
  t173 := Tryz.underlying455
  a173 := Tryz.isAgg455
  z173 := Tryz.sizeOf455
  v173 := Tryz.zeroValue455
  t175 := Tryz.underlying496
  a175 := Tryz.isAgg496
  z175 := Tryz.sizeOf496
  v175 := Tryz.zeroValue496
  t210 := Tryz.underlying499
  a210 := Tryz.isAgg499
  z210 := Tryz.sizeOf499
  v210 := Tryz.zeroValue499
  t212 := Tryz.underlying494
  a212 := Tryz.isAgg494
  z212 := Tryz.sizeOf494
  v212 := Tryz.zeroValue494
  t213 := Tryz.underlying495
  a213 := Tryz.isAgg495
  z213 := Tryz.sizeOf495
  t232 := Tryz.underlying519
  a232 := Tryz.isAgg519
  z232 := Tryz.sizeOf519
  v232 := Tryz.zeroValue519
  t233 := Tryz.underlying492
  a233 := Tryz.isAgg492
  z233 := Tryz.sizeOf492
  v233 := Tryz.zeroValue492
  g15 := by kernel_rfl
  g16 := by kernel_rfl
  g17 := by kernel_rfl
  g18 := by kernel_rfl
  g19 := by kernel_rfl
  t80 := Tryz.underlying132
  a80 := Tryz.isAgg132
  z80 := Tryz.sizeOf132
  v80 := Tryz.zeroValue132
  i0 := by kernel_rfl
  i2 := by kernel_rfl
  i3 := by kernel_rfl
  i4 := by kernel_rfl
  i5 := by kernel_rfl
  i9 := by kernel_rfl
  i20 := by kernel_rfl
  i21 := by kernel_rfl
  i37 := by kernel_rfl
  i46 := by kernel_rfl
  i51 := by kernel_rfl
  i53 := by kernel_rfl
  i75 := by kernel_rfl
  i76 := by kernel_rfl
  i80 := by kernel_rfl
  i85 := by kernel_rfl
  i127 := by kernel_rfl
  i143 := by kernel_rfl
  i145 := by kernel_rfl
  i167 := by kernel_rfl
  i168 := by kernel_rfl
  i171 := by kernel_rfl
  i173 := by kernel_rfl
  i175 := by kernel_rfl
  i210 := by kernel_rfl
  i212 := by kernel_rfl
  i232 := by kernel_rfl
  i233 := by kernel_rfl
  m15 := by kernel_rfl
  m16 := by kernel_rfl
  m17 := by kernel_rfl
  m18 := by kernel_rfl
  m19 := by kernel_rfl
  c0 := by kernel_rfl
  c2 := by kernel_rfl
  c3 := by kernel_rfl
  c4 := by kernel_rfl
  c5 := by kernel_rfl
  c9 := by kernel_rfl
  c20 := by kernel_rfl
  c21 := by kernel_rfl
  c37 := by kernel_rfl
  c46 := by kernel_rfl
  c51 := by kernel_rfl
  c53 := by kernel_rfl
  c75 := by kernel_rfl
  c76 := by kernel_rfl
  c80 := by kernel_rfl
  c85 := by kernel_rfl
  c127 := by kernel_rfl
  c143 := by kernel_rfl
  c145 := by kernel_rfl
  c167 := by kernel_rfl
  c168 := by kernel_rfl
  c171 := by kernel_rfl
  c173 := by kernel_rfl
  c175 := by kernel_rfl
  c210 := by kernel_rfl
  c212 := by kernel_rfl
  c213 := by kernel_rfl
  c232 := by kernel_rfl
  c233 := by kernel_rfl }
open Go.RowKit in
theorem Tryz.strconv_Atoi_ok (s : ByteArray) (hmax : s.size ≤ 9223372036854775806) (v : Int) (h : Lib.atoiAll s.data.toList = .ok v) (w : World) :
    Calls Tryz.prog 204 #[.string s] w fun e w' => e = .returned (.tuple #[.int .i64 v, .nilIface]) ∧ (w' = w ∨ ∃ t, w' = Lib.bytesWorld w 5 t) := Any.strconv_Atoi_ok Tryz.laysC172 s hmax v h w
open Go.RowKit in
theorem Tryz.strconv_Atoi_syntax (s : ByteArray) (hlim : s.size ≤ 281474976710656) (h : Lib.atoiAll s.data.toList = Lib.NumEnd.syntax) (ev : Value) (w : World) (hv : w.cell? ⟨3, 0, none⟩ = some ev) (hev : ev = .nilIface ∨ ∃ te pe, ev = .iface te pe) :
    Calls Tryz.prog 204 #[.string s] w fun e w' => ∃ N, e = .returned (.tuple #[.int .i64 (0), .iface 463 (.pointer (some ⟨N, 0, none⟩))]) ∧ w.heap.size ≤ N ∧ w'.heap[N]? = some (.cells #[.string ⟨#[65, 116, 111, 105]⟩, .string s, ev] 499 (0, 0)) ∧ Below w.heap.size w w' := Any.strconv_Atoi_syntax Tryz.laysC172 s hlim h ev w hv hev
open Go.RowKit in
theorem Tryz.strconv_Atoi_range (s : ByteArray) (hlim : s.size ≤ 281474976710656) (h : Lib.atoiAll s.data.toList = .range) (ev : Value) (w : World) (hv : w.cell? ⟨4, 0, none⟩ = some ev) (hev : ev = .nilIface ∨ ∃ te pe, ev = .iface te pe) :
    Calls Tryz.prog 204 #[.string s] w fun e w' => ∃ N, e = .returned (.tuple #[.int .i64 (Lib.atoiSat s.data.toList), .iface 463 (.pointer (some ⟨N, 0, none⟩))]) ∧ w.heap.size ≤ N ∧ w'.heap[N]? = some (.cells #[.string ⟨#[65, 116, 111, 105]⟩, .string s, ev] 499 (0, 0)) ∧ Below w.heap.size w w' := Any.strconv_Atoi_range Tryz.laysC172 s hlim h ev w hv hev
def Tryz.lays105_ren : Go.Shelf.Ren := ⟨fun | 105 => 195 | 212 => 171 | 99 => 259 | 165 => 202 | 166 => 70 | 170 => 92 | 169 => 73 | 263 => 220 | 264 => 221 | 206 => 335 | 240 => 140 | 241 => 269 | 276 => 201 | 277 => 343 | n => n, fun | 9 => 9 | 3 => 3 | 4 => 4 | 20 => 20 | 0 => 0 | 46 => 221 | 109 => 272 | 5 => 5 | 72 => 125 | 76 => 129 | 51 => 335 | 146 => 336 | 53 => 181 | 148 => 338 | 70 => 123 | 37 => 81 | 75 => 128 | 127 => 219 | 164 => 314 | 80 => 132 | n => n, fun | n => n⟩
theorem Tryz.lays105 : Go.Proofs.Lays.n105 Tryz.prog Tryz.lays105_ren := {
  mixed := by kernel_rfl
  f99 := Tryz.func259.trans (congrArg some (by kernel_rfl))
  f105 := Tryz.func195.trans (congrArg some (by kernel_rfl))
  f165 := Tryz.func202.trans (congrArg some (by kernel_rfl))
  f166 := Tryz.func70.trans (congrArg some (by kernel_rfl))
  f169 := Tryz.func73.trans (congrArg some (by kernel_rfl))
  f170 := Tryz.func92.trans (congrArg some (by kernel_rfl))
  f206 := Tryz.func335.trans (congrArg some (by kernel_rfl))
  f212 := Tryz.func171.trans (congrArg some (by kernel_rfl))
  f240 := Tryz.func140.trans (congrArg some (by kernel_rfl))
  f241 := Tryz.func269.trans (congrArg some (by kernel_rfl))
  f263 := Tryz.func220.trans (congrArg some (by kernel_rfl))
  f264 := Tryz.func221.trans (congrArg some (by kernel_rfl))
  f276 := Tryz.func201.trans (congrArg some (by kernel_rfl))
  f277 := Tryz.func343.trans (congrArg some (by kernel_rfl))
  t0 := Tryz.underlying0
  a0 := Tryz.isAgg0
  z0 := Tryz.sizeOf0
  v0 := Tryz.zeroValue0
  t3 := Tryz.underlying3
  a3 := Tryz.isAgg3
  z3 := Tryz.sizeOf3
  v3 := Tryz.zeroValue3
  t4 := Tryz.underlying4
  a4 := Tryz.isAgg4
  z4 := Tryz.sizeOf4
  v4 := Tryz.zeroValue4
  t5 := Tryz.underlying5
  a5 := Tryz.isAgg5
  z5 := Tryz.sizeOf5
  v5 := Tryz.zeroValue5
  t9 := Tryz.underlying9
  a9 := Tryz.isAgg9
  z9 := Tryz.sizeOf9
  v9 := Tryz.zeroValue9
  t20 := Tryz.underlying20
  a20 := Tryz.isAgg20
  z20 := Tryz.sizeOf20
  v20 := Tryz.zeroValue20
  t37 := Tryz.underlying81
  a37 := Tryz.isAgg81
  z37 := Tryz.sizeOf81
  v37 := Tryz.zeroValue81
  t46 := Tryz.underlying221
  a46 := Tryz.isAgg221
  z46 := Tryz.sizeOf221
  v46 := Tryz.zeroValue221
  t51 := Tryz.underlying335
  a51 := Tryz.isAgg335
  z51 := Tryz.sizeOf335
  v51 := Tryz.zeroValue335
  t53 := Tryz.underlying181
  a53 := Tryz.isAgg181
  z53 := Tryz.sizeOf181
  v53 := Tryz.zeroValue181
  t70 := Tryz.underlying123
  a70 := Tryz.isAgg123
  z70 := Tryz.sizeOf123
  v70 := Tryz.zeroValue123
  t72 := Tryz.underlying125
  a72 := Tryz.isAgg125
  z72 := Tryz.sizeOf125
  v72 := Tryz.zeroValue125
  t75 := Tryz.underlying128
  a75 := Tryz.isAgg128
  z75 := Tryz.sizeOf128
  v75 := Tryz.zeroValue128
  t76 := Tryz.underlying129
  a76 := Tryz.isAgg129
  z76 := Tryz.sizeOf129
  v76 := Tryz.zeroValue129
  t109 := Tryz.underlying272
  a109 := Tryz.isAgg272
  z109 := Tryz.sizeOf272
  v109 := Tryz.zeroValue272
  t127 := Tryz.underlying219
  a127 := Tryz.isAgg219
  z127 := Tryz.sizeOf219
  v127 := Tryz.zeroValue219
  t146 := Tryz.underlying336
  a146 := Tryz.isAgg336
  z146 := Tryz.sizeOf336
  v146 := Tryz.zeroValue336
  t148 := Tryz.underlying338
  a148 := Tryz.isAgg338
  z148 := Tryz.sizeOf338
  v148 := Tryz.zeroValue338
  t164 := Tryz.underlying314
  a164 := Tryz.isAgg314
  z164 := Tryz.sizeOf314
  v164 := Tryz.zeroValue314 }
theorem Tryz.Builder_Extra_105 : Builder.Extra Tryz.prog Tryz.lays105_ren := {
  sizeBuilder := by kernel_rfl
  liesBuilder := by kernel_rfl
  t5 := Tryz.underlying5
  a5 := Tryz.isAgg5
  z5 := Tryz.sizeOf5
  v5 := Tryz.zeroValue5
  infoByte := by kernel_rfl
  cellsByte := by kernel_rfl
  sizeByte := by kernel_rfl
  neB5 := by decide }
open Go.RowKit Go.Lib in
theorem Tryz.strings_Repeat (s : ByteArray) (c : Nat) (w : World) (hc : c ≤ 9223372036854775807) (hlen : s.size * c ≤ 140737488355328) :
    Calls Tryz.prog 195 #[.string s, .int .i64 c] w fun e w' => e = .returned (.string ⟨(Lib.repeatL s.data.toList c).toArray⟩) ∧ Below w.heap.size w w' := Any.strings_Repeat Tryz.lays105 Tryz.Builder_Extra_105 s c w hc hlen
end Go.Proofs
namespace Go.Proofs
open Go.Shelf
def Tryz.keysA_ren : Go.Shelf.Ren := ⟨fun | 7 => 362 | 10 => 394 | n => n, fun | 23 => 158 | 26 => 3 | 3 => 4 | 28 => 476 | 0 => 0 | 27 => 475 | 33 => 147 | 4 => 4 | n => n, fun | n => n⟩
theorem Tryz.keysA : Go.Proofs.SlLaysZI.n7 Tryz.prog Tryz.keysA_ren := {
  mixed := by kernel_rfl
  f7 := ⟨Tryz.f362.name, by decide, Tryz.func362.trans (congrArg some (by kernel_rfl))⟩
  f10 := ⟨Tryz.f394.name, by decide, Tryz.func394.trans (congrArg some (by kernel_rfl))⟩
  t0 := Tryz.underlying0
  a0 := Tryz.isAgg0
  z0 := Tryz.sizeOf0
  v0 := Tryz.zeroValue0
  t4 := Tryz.underlying4
  a4 := Tryz.isAgg4
  z4 := Tryz.sizeOf4
  v4 := Tryz.zeroValue4
  t23 := Tryz.underlying158
  a23 := Tryz.isAgg158
  z23 := Tryz.sizeOf158
  v23 := Tryz.zeroValue158
  t26 := Tryz.underlying3
  a26 := Tryz.isAgg3
  z26 := Tryz.sizeOf3
  v26 := Tryz.zeroValue3
  t27 := Tryz.underlying475
  a27 := Tryz.isAgg475
  z27 := Tryz.sizeOf475
  v27 := Tryz.zeroValue475
  t28 := Tryz.underlying476
  a28 := Tryz.isAgg476
  z28 := Tryz.sizeOf476
  v28 := Tryz.zeroValue476
  t33 := Tryz.underlying147
  a33 := Tryz.isAgg147
  z33 := Tryz.sizeOf147
  v33 := Tryz.zeroValue147 }
def Tryz.sortedA_ren : Go.Shelf.Ren := ⟨fun | 6 => 361 | 8 => 393 | 9 => 157 | 11 => 412 | 13 => 214 | 12 => 213 | 23 => 293 | 24 => 294 | 14 => 284 | 15 => 285 | 16 => 286 | 17 => 287 | 18 => 288 | 19 => 289 | 20 => 290 | 21 => 291 | 22 => 292 | 25 => 356 | 26 => 357 | 27 => 358 | 28 => 359 | 29 => 360 | 30 => 279 | 31 => 392 | n => n, fun | 26 => 3 | 28 => 476 | 24 => 117 | 0 => 0 | 3 => 3 | 37 => 221 | 48 => 335 | 50 => 181 | 4 => 4 | 40 => 421 | 39 => 420 | 45 => 27 | 5 => 5 | 9 => 9 | 51 => 468 | 55 => 472 | 57 => 501 | 58 => 483 | 33 => 147 | n => n, fun | n => n⟩
theorem Tryz.sortedA : Go.Proofs.SlLaysZI.n6 Tryz.prog Tryz.sortedA_ren := {
  mixed := by kernel_rfl
  f6 := ⟨Tryz.f361.name, by decide, Tryz.func361.trans (congrArg some (by kernel_rfl))⟩
  f8 := ⟨Tryz.f393.name, by decide, Tryz.func393.trans (congrArg some (by kernel_rfl))⟩
  f11 := ⟨Tryz.f412.name, by decide, Tryz.func412.trans (congrArg some (by kernel_rfl))⟩
  t0 := Tryz.underlying0
  a0 := Tryz.isAgg0
  z0 := Tryz.sizeOf0
  v0 := Tryz.zeroValue0
  t24 := Tryz.underlying117
  a24 := Tryz.isAgg117
  z24 := Tryz.sizeOf117
  v24 := Tryz.zeroValue117
  t26 := Tryz.underlying3
  a26 := Tryz.isAgg3
  z26 := Tryz.sizeOf3
  v26 := Tryz.zeroValue3
  t28 := Tryz.underlying476
  a28 := Tryz.isAgg476
  z28 := Tryz.sizeOf476
  v28 := Tryz.zeroValue476
  i26 := by kernel_rfl }
def Tryz.sortA_ren : Go.Shelf.Ren := ⟨fun | 5 => 157 | 8 => 214 | 7 => 213 | 19 => 293 | 20 => 294 | 10 => 284 | 11 => 285 | 12 => 286 | 13 => 287 | 14 => 288 | 15 => 289 | 16 => 290 | 17 => 291 | 18 => 292 | 30 => 356 | 31 => 357 | 32 => 358 | 33 => 359 | 34 => 360 | 35 => 279 | 40 => 392 | n => n, fun | 23 => 117 | 25 => 3 | 3 => 3 | 32 => 221 | 22 => 117 | 0 => 0 | 44 => 335 | 46 => 181 | 4 => 4 | 36 => 421 | 35 => 420 | 41 => 27 | 5 => 5 | 9 => 9 | 53 => 468 | 57 => 472 | 63 => 501 | 64 => 483 | n => n, fun | n => n⟩
theorem Tryz.sortA : Go.Proofs.SlLaysM.n5 Tryz.prog Tryz.sortA_ren := {
  mixed := by kernel_rfl
  f5 := ⟨Tryz.f157.name, by decide, Tryz.func157.trans (congrArg some (by kernel_rfl))⟩
  f7 := ⟨Tryz.f213.name, by decide, Tryz.func213.trans (congrArg some (by kernel_rfl))⟩
  f8 := Tryz.func214.trans (congrArg some (by kernel_rfl))
  f10 := ⟨Tryz.f284.name, by decide, Tryz.func284.trans (congrArg some (by kernel_rfl))⟩
  f11 := ⟨Tryz.f285.name, by decide, Tryz.func285.trans (congrArg some (by kernel_rfl))⟩
  f12 := ⟨Tryz.f286.name, by decide, Tryz.func286.trans (congrArg some (by kernel_rfl))⟩
  f13 := ⟨Tryz.f287.name, by decide, Tryz.func287.trans (congrArg some (by kernel_rfl))⟩
  f14 := ⟨Tryz.f288.name, by decide, Tryz.func288.trans (congrArg some (by kernel_rfl))⟩
  f15 := ⟨Tryz.f289.name, by decide, Tryz.func289.trans (congrArg some (by kernel_rfl))⟩
  f16 := ⟨Tryz.f290.name, by decide, Tryz.func290.trans (congrArg some (by kernel_rfl))⟩
  f17 := ⟨Tryz.f291.name, by decide, Tryz.func291.trans (congrArg some (by kernel_rfl))⟩
  f18 := ⟨Tryz.f292.name, by decide, Tryz.func292.trans (congrArg some (by kernel_rfl))⟩
  f19 := Tryz.func293.trans (congrArg some (by kernel_rfl))
  f20 := Tryz.func294.trans (congrArg some (by kernel_rfl))
  f30 := ⟨Tryz.f356.name, by decide, Tryz.func356.trans (congrArg some (by kernel_rfl))⟩
  f31 := Tryz.func357.trans (congrArg some (by kernel_rfl))
  f32 := Tryz.func358.trans (congrArg some (by kernel_rfl))
  f33 := ⟨Tryz.f359.name, by decide, Tryz.func359.trans (congrArg some (by kernel_rfl))⟩
  f34 := ⟨Tryz.f360.name, by decide, Tryz.func360.trans (congrArg some (by kernel_rfl))⟩
  f35 := ⟨Tryz.f279.name, by decide, Tryz.func279.trans (congrArg some (by kernel_rfl))⟩
  f40 := ⟨Tryz.f392.name, by decide, Tryz.func392.trans (congrArg some (by kernel_rfl))⟩
  t0 := Tryz.underlying0
  a0 := Tryz.isAgg0
  z0 := Tryz.sizeOf0
  v0 := Tryz.zeroValue0
  t3 := Tryz.underlying3
  a3 := Tryz.isAgg3
  z3 := Tryz.sizeOf3
  v3 := Tryz.zeroValue3
  t4 := Tryz.underlying4
  a4 := Tryz.isAgg4
  z4 := Tryz.sizeOf4
  v4 := Tryz.zeroValue4
  t5 := Tryz.underlying5
  a5 := Tryz.isAgg5
  z5 := Tryz.sizeOf5
  v5 := Tryz.zeroValue5
  t9 := Tryz.underlying9
  a9 := Tryz.isAgg9
  z9 := Tryz.sizeOf9
  v9 := Tryz.zeroValue9
  t22 := Tryz.underlying117
  a22 := Tryz.isAgg117
  z22 := Tryz.sizeOf117
  v22 := Tryz.zeroValue117
  t23 := Tryz.underlying117
  a23 := Tryz.isAgg117
  z23 := Tryz.sizeOf117
  v23 := Tryz.zeroValue117
  t25 := Tryz.underlying3
  a25 := Tryz.isAgg3
  z25 := Tryz.sizeOf3
  v25 := Tryz.zeroValue3
  t32 := Tryz.underlying221
  a32 := Tryz.isAgg221
  z32 := Tryz.sizeOf221
  v32 := Tryz.zeroValue221
  t35 := Tryz.underlying420
  a35 := Tryz.isAgg420
  z35 := Tryz.sizeOf420
  v35 := Tryz.zeroValue420
  t36 := Tryz.underlying421
  a36 := Tryz.isAgg421
  z36 := Tryz.sizeOf421
  v36 := Tryz.zeroValue421
  t41 := Tryz.underlying27
  a41 := Tryz.isAgg27
  z41 := Tryz.sizeOf27
  v41 := Tryz.zeroValue27
  t44 := Tryz.underlying335
  a44 := Tryz.isAgg335
  z44 := Tryz.sizeOf335
  v44 := Tryz.zeroValue335
  t46 := Tryz.underlying181
  a46 := Tryz.isAgg181
  z46 := Tryz.sizeOf181
  v46 := Tryz.zeroValue181
  t53 := Tryz.underlying468
  a53 := Tryz.isAgg468
  z53 := Tryz.sizeOf468
  v53 := Tryz.zeroValue468
  t57 := Tryz.underlying472
  a57 := Tryz.isAgg472
  z57 := Tryz.sizeOf472
  v57 := Tryz.zeroValue472
  t63 := Tryz.underlying501
  a63 := Tryz.isAgg501
  z63 := Tryz.sizeOf501
  v63 := Tryz.zeroValue501
  t64 := Tryz.underlying483
  a64 := Tryz.isAgg483
  z64 := Tryz.sizeOf483
  v64 := Tryz.zeroValue483 }
end Go.Proofs
noncomputable section
namespace CI
open Go
mutual
def AV.ren (f : Nat → Nat) : AV → AV
  | .lit v => .lit v
  | .ptr b o => .ptr (f b) o
  | .slice b o n c e => .slice (f b) o n c e
  | .eslice => .eslice
  | .map b => .map (f b)
  | .func fn a b => .func fn (AV.rens f a) (AV.rens f b)
  | .iface t v => .iface t (AV.ren f v)
  | .agg a => .agg (AV.rens f a)
  | .tuple a => .tuple (AV.rens f a)
def AV.rens (f : Nat → Nat) : List AV → List AV
  | [] => []
  | a :: asx => AV.ren f a :: AV.rens f asx
end
theorem AV.rens_get (f : Nat → Nat) : ∀ (l : List AV) (i : Nat), (AV.rens f l)[i]? = (l[i]?).map (AV.ren f)
  | [], i => by simp [AV.rens]
  | a :: l, 0 => by simp [AV.rens]
  | a :: l, i + 1 => by simp [AV.rens, AV.rens_get f l i]
theorem AV.rens_length (f : Nat → Nat) : ∀ (l : List AV), (AV.rens f l).length = l.length
  | [] => rfl
  | a :: l => by simp [AV.rens, AV.rens_length f l]
def Sig.via (σ : Sig) (f : Nat → Nat) : Sig := fun b => σ (f b)
mutual
theorem VR_ren {σ : Sig} {f : Nat → Nat} : ∀ {v : AV} {x : Value}, VR σ (AV.ren f v) x ↔ VR (σ.via f) v x
  | .lit _, _ => by simp only [AV.ren, VR]
  | .ptr _ _, _ => by simp only [AV.ren, VR, Sig.via]
  | .slice .., _ => by simp only [AV.ren, VR, Sig.via]
  | .eslice, _ => by simp only [AV.ren, VR]
  | .map _, _ => by simp only [AV.ren, VR, Sig.via]
  | .func .., _ => by simp only [AV.ren, VR, VRs_ren]
  | .iface .., _ => by simp only [AV.ren, VR, VR_ren]
  | .agg _, _ => by simp only [AV.ren, VR, VRs_ren]
  | .tuple _, _ => by simp only [AV.ren, VR, VRs_ren]
theorem VRs_ren {σ : Sig} {f : Nat → Nat} : ∀ {v : List AV} {x : List Value}, VRs σ (AV.rens f v) x ↔ VRs (σ.via f) v x
  | [], _ => by simp only [AV.rens, VRs]
  | v :: vs, _ => by simp only [AV.rens, VRs, VR_ren, VRs_ren]
end
mutual
theorem AV.ren_ren {f g h : Nat → Nat} {n : Nat} (hf : ∀ j, f j < n → h j = g (f j)) : ∀ {v : AV}, AV.belowB n (AV.ren f v) = true → AV.ren h v = AV.ren g (AV.ren f v)
  | .lit _, _ => rfl
  | .ptr _ _, hb => by
    simp only [AV.ren, AV.belowB, decide_eq_true_eq] at hb
    simp only [AV.ren, hf _ hb]
  | .slice .., hb => by
    simp only [AV.ren, AV.belowB, decide_eq_true_eq] at hb
    simp only [AV.ren, hf _ hb]
  | .eslice, _ => rfl
  | .map _, hb => by
    simp only [AV.ren, AV.belowB, decide_eq_true_eq] at hb
    simp only [AV.ren, hf _ hb]
  | .func _ a b, hb => by
    simp only [AV.ren, AV.belowB, Bool.and_eq_true] at hb
    simp only [AV.ren, AV.rens_rens hf hb.1, AV.rens_rens hf hb.2]
  | .iface _ v, hb => by
    simp only [AV.ren, AV.belowB] at hb
    simp only [AV.ren, AV.ren_ren hf hb]
  | .agg a, hb => by
    simp only [AV.ren, AV.belowB] at hb
    simp only [AV.ren, AV.rens_rens hf hb]
  | .tuple a, hb => by
    simp only [AV.ren, AV.belowB] at hb
    simp only [AV.ren, AV.rens_rens hf hb]
theorem AV.rens_rens {f g h : Nat → Nat} {n : Nat} (hf : ∀ j, f j < n → h j = g (f j)) : ∀ {v : List AV}, AV.belowBs n (AV.rens f v) = true → AV.rens h v = AV.rens g (AV.rens f v)
  | [], _ => rfl
  | v :: vs, hb => by
    simp only [AV.rens, AV.belowBs, Bool.and_eq_true] at hb
    simp only [AV.rens, AV.ren_ren hf hb.1, AV.rens_rens hf hb.2]
end
def renE (f : Nat → Nat) (p : AV × AV) : AV × AV := (AV.ren f p.1, AV.ren f p.2)
def renO (f : Nat → Nat) : AObj → AObj
  | .cells cs t ro => .cells (AV.rens f cs) t ro
  | .map es ro => .map (es.map (renE f)) ro
  | .iter ro => .iter ro
  | .nit ro => .nit ro
theorem renO_isRo (f : Nat → Nat) (o : AObj) : (renO f o).isRo = o.isRo := by cases o <;> rfl
theorem MapR_ren {σ : Sig} {f : Nat → Nat} : ∀ {es : List (AV × AV)} {E : List MapEntry}, MapR σ (es.map (renE f)) E ↔ MapR (σ.via f) es E
  | [], _ => by simp only [List.map_nil, MapR]
  | (k, v) :: es, _ => by simp only [List.map_cons, renE, MapR, VR_ren, MapR_ren]
theorem perm_map_back {α β : Type} {f : α → β} {l l' : List β} (h : l.Perm l') : ∀ es : List α, l' = es.map f → ∃ es2 : List α, es2.Perm es ∧ l = es2.map f := by
  induction h with
  | nil => intro es h; exact ⟨es, .refl _, h⟩
  | cons x h ih =>
    intro es he
    cases es with
    | nil => simp at he
    | cons e es =>
      simp only [List.map_cons, List.cons.injEq] at he
      obtain ⟨es', h1, h2⟩ := ih es he.2
      exact ⟨e :: es', h1.cons e, by simp [he.1, h2]⟩
  | swap x y l =>
    intro es he
    match es, he with
    | [], he => simp at he
    | [e], he => simp at he
    | e1 :: e2 :: es, he =>
      simp only [List.map_cons, List.cons.injEq] at he
      exact ⟨e2 :: e1 :: es, .swap _ _ _, by simp [he.1, he.2.1, he.2.2]⟩
  | trans h1 h2 ih1 ih2 =>
    intro es he
    obtain ⟨es2, q1, q2⟩ := ih2 es he
    obtain ⟨es1, r1, r2⟩ := ih1 es2 q2
    exact ⟨es1, r1.trans q1, r2⟩
theorem OR_ren {σ : Sig} {f : Nat → Nat} {l : Loc} {o : AObj} {ob : Option Obj} : OR σ l (renO f o) ob ↔ OR (σ.via f) l o ob := by
  cases o with
  | cells cs t ro =>
    simp only [renO, OR, AV.rens_length]
    constructor
    · rintro ⟨C, fz, e, h1, h2, h3, h4⟩
      refine ⟨C, fz, e, h1, h2, fun i v hi => ?_, h4⟩
      obtain ⟨x, hx, hv⟩ := h3 i (AV.ren f v) (by rw [AV.rens_get, hi]; rfl)
      exact ⟨x, hx, VR_ren.1 hv⟩
    · rintro ⟨C, fz, e, h1, h2, h3, h4⟩
      refine ⟨C, fz, e, h1, h2, fun i v hi => ?_, h4⟩
      rw [AV.rens_get] at hi
      simp only [Option.map_eq_some_iff] at hi
      obtain ⟨u, hu, rfl⟩ := hi
      obtain ⟨x, hx, hv⟩ := h3 i u hu
      exact ⟨x, hx, VR_ren.2 hv⟩
  | map es ro =>
    simp only [renO, OR]
    constructor
    · rintro ⟨E, c, es', e, hp, h1, h2⟩
      obtain ⟨es2, q1, rfl⟩ := perm_map_back hp es rfl
      exact ⟨E, c, es2, e, q1, MapR_ren.1 h1, h2⟩
    · rintro ⟨E, c, es', e, hp, h1, h2⟩
      exact ⟨E, c, es'.map (renE f), e, hp.map _, MapR_ren.2 h1, h2⟩
  | iter ro => simp only [renO, OR]
  | nit ro => simp only [renO, OR]
def belowE (n : Nat) : List (AV × AV) → Bool
  | [] => true
  | p :: l => AV.belowB n p.1 && AV.belowB n p.2 && belowE n l
def belowO (n : Nat) : AObj → Bool
  | .cells cs _ _ => AV.belowBs n cs
  | .map es _ => belowE n es
  | .iter _ => true
  | .nit _ => true
theorem renE_renE {f g h : Nat → Nat} {n : Nat} (hf : ∀ j, f j < n → h j = g (f j)) : ∀ {es : List (AV × AV)}, belowE n (es.map (renE f)) = true → es.map (renE h) = (es.map (renE f)).map (renE g)
  | [], _ => rfl
  | p :: l, hb => by
    simp only [List.map_cons, renE, belowE, Bool.and_eq_true] at hb
    have := renE_renE hf hb.2
    simp only [List.map_cons]
    rw [this]
    simp only [renE, AV.ren_ren hf hb.1.1, AV.ren_ren hf hb.1.2]
theorem renO_renO {f g h : Nat → Nat} {n : Nat} (hf : ∀ j, f j < n → h j = g (f j)) {o : AObj} (hb : belowO n (renO f o) = true) : renO h o = renO g (renO f o) := by
  cases o with
  | cells cs t ro => simp only [renO, belowO] at hb ⊢; rw [AV.rens_rens hf hb]
  | map es ro => simp only [renO, belowO] at hb ⊢; rw [renE_renE hf hb]
  | iter ro => rfl
  | nit ro => rfl
structure Sm where
  k : Nat
  args : List AV
  pre : List (Option AObj)
  v : AV
  post : List (Option AObj)
  news : List (Option AObj)
def Sm.n0 (S : Sm) : Nat := S.pre.length
def Sm.p (S : Sm) (i : Nat) : Option AObj := (S.pre[i]?).join
def Sm.q (S : Sm) (i : Nat) : Option AObj := (S.post[i]?).join
def Sm.r (S : Sm) (i : Nat) : Option AObj := (S.news[i]?).join
def Sm.heap (S : Sm) : Heap := restrictH S.n0 S.p
theorem Sm.heap_get (S : Sm) (b : Nat) : S.heap.get b = S.p b := by
  unfold Sm.heap
  rw [restrict_get]
  split
  · rfl
  · unfold Sm.p
    rw [List.getElem?_eq_none (by unfold Sm.n0 at *; omega)]
    rfl
def wr : Option AObj → Bool
  | some o => !o.isRo
  | none => false
def up1 : List Nat → Bool
  | [] => true
  | [_] => true
  | a :: b :: l => decide (a < b) && up1 (b :: l)
theorem up1_lt : ∀ {l : List Nat}, up1 l = true → ∀ (i j a b : Nat), i < j → l[i]? = some a → l[j]? = some b → a < b
  | [], _, i, j, a, b, _, h, _ => by simp at h
  | [x], _, i, j, a, b, hij, h, h2 => by
    cases j with
    | zero => omega
    | succ j => simp at h2
  | x :: y :: l, h, i, j, a, b, hij, h1, h2 => by
    simp only [up1, Bool.and_eq_true, decide_eq_true_eq] at h
    cases j with
    | zero => omega
    | succ j =>
      simp only [List.getElem?_cons_succ] at h2
      cases i with
      | succ i =>
        simp only [List.getElem?_cons_succ] at h1
        exact up1_lt h.2 i j a b (by omega) h1 h2
      | zero =>
        simp only [List.getElem?_cons_zero, Option.some.injEq] at h1; subst h1
        cases j with
        | zero => simp only [List.getElem?_cons_zero, Option.some.injEq] at h2; subst h2; exact h.1
        | succ j => exact Nat.lt_trans h.1 (up1_lt h.2 0 (j + 1) y b (by omega) (by simp) h2)
def okO (f : Nat → Nat) (a : Option AObj) : Option AObj → Bool
  | none => true
  | some o => eqOO a (some (renO f o))
def okQ (f : Nat → Nat) (a : Option AObj) : Option AObj → Bool
  | none => a.isNone
  | some o => eqOO a (some (renO f o))
def phiF (n0 n1 : Nat) (φ : List Nat) (i : Nat) : Nat := if i < n0 then i else (φ[i - n0]?).getD n1
def smCheck (S : Sm) (φ : List Nat) : Option (AV × Heap × Nat) → Bool
  | none => false
  | some (v, H, n) =>
    AV.eqB v (AV.ren (phiF S.n0 n φ) S.v) && decide (S.news.length = φ.length) && up1 φ && φ.all (fun b => decide (S.n0 ≤ b) && decide (b < n)) &&
    (List.range S.n0).all (fun i => match S.p i with
      | none => true
      | some o => belowO S.n0 o && (o.isRo || okQ (phiF S.n0 n φ) (H.get i) (S.q i))) &&
    (List.range S.news.length).all (fun j => okO (phiF S.n0 n φ) (H.get (phiF S.n0 n φ (S.n0 + j))) (S.r j))
def puts (H : Heap) (U : List (Nat × Option AObj)) : Heap := U.foldl (fun T p => T.put p.1 p.2) H
theorem puts_not (b : Nat) : ∀ (U : List (Nat × Option AObj)) (H : Heap), (∀ p ∈ U, p.1 ≠ b) → (puts H U).get b = H.get b
  | [], H, _ => rfl
  | p :: U, H, h => by
    show (puts (H.put p.1 p.2) U).get b = _
    rw [puts_not b U _ fun q hq => h q (List.mem_cons_of_mem _ hq), Tr.get_put_ne _ _ _ _ (Ne.symm (h p (by simp)))]
theorem puts_mem (b : Nat) (x : Option AObj) : ∀ (U : List (Nat × Option AObj)) (H : Heap), (∀ p ∈ U, p.1 = b → p.2 = x) → (b, x) ∈ U → (puts H U).get b = x
  | [], H, _, hm => by simp at hm
  | p :: U, H, h, hm => by
    show (puts (H.put p.1 p.2) U).get b = _
    by_cases hin : ∃ q ∈ U, q.1 = b
    · obtain ⟨q, hq, he⟩ := hin
      have := h q (List.mem_cons_of_mem _ hq) he
      refine puts_mem b x U _ (fun q hq => h q (List.mem_cons_of_mem _ hq)) ?_
      rw [← he, ← this]; exact hq
    · rw [puts_not b U _ fun q hq he => hin ⟨q, hq, he⟩]
      rcases List.mem_cons.1 hm with he | hm
      · subst he; rw [Tr.get_put_same]
      · exact absurd ⟨_, hm, rfl⟩ hin
mutual
def pairsOf : AV → AV → List (Nat × Nat) → List (Nat × Nat)
  | .ptr b _, .ptr b' _, acc => (b, b') :: acc
  | .slice b _ _ _ _, .slice b' _ _ _ _, acc => (b, b') :: acc
  | .map b, .map b', acc => (b, b') :: acc
  | .func _ a c, .func _ a' c', acc => pairsOfs a a' (pairsOfs c c' acc)
  | .iface _ v, .iface _ v', acc => pairsOf v v' acc
  | .agg a, .agg a', acc => pairsOfs a a' acc
  | .tuple a, .tuple a', acc => pairsOfs a a' acc
  | _, _, acc => acc
def pairsOfs : List AV → List AV → List (Nat × Nat) → List (Nat × Nat)
  | a :: asx, b :: bs, acc => pairsOf a b (pairsOfs asx bs acc)
  | _, _, acc => acc
end
def pairsE : List (AV × AV) → List (AV × AV) → List (Nat × Nat) → List (Nat × Nat)
  | p :: l, q :: r, acc => pairsOf p.1 q.1 (pairsOf p.2 q.2 (pairsE l r acc))
  | _, _, acc => acc
def pairsO : Option AObj → Option AObj → List (Nat × Nat) → List (Nat × Nat)
  | some (.cells a _ _), some (.cells b _ _), acc => pairsOfs a b acc
  | some (.map a _), some (.map b _), acc => pairsE a b acc
  | _, _, acc => acc
def findL (p : Nat → Option AObj) (H : Heap) (n : Nat) : List (Nat × Nat) → Tr Nat × Tr Nat → Tr Nat × Tr Nat :=
  @Nat.rec (fun _ => List (Nat × Nat) → Tr Nat × Tr Nat → Tr Nat × Tr Nat) (fun _ t => t) (fun _ ih l t => match l with
    | [] => t
    | (b, b') :: l => match t.1.get b with
      | some _ => ih l t
      | none => ih (pairsO (p b) (H.get b') l) (t.1.put b (some b'), t.2.put b' (some b))) n
def asRo : AObj → AObj
  | .cells cs t _ => .cells cs t true
  | .map es _ => .map es true
  | .iter _ => .iter true
  | .nit _ => .nit true
def matchO (f : Nat → Nat) : Option AObj → Option AObj → Bool
  | none, _ => true
  | some o, some a => if o.isRo then eqO (asRo a) (renO f o) else eqO a (renO f o)
  | some _, none => false
def newF (f : Nat → Nat) (n0 nx : Nat) (i : Nat) : Nat := if i < n0 then f i else nx + (i - n0)
def Sm.ups (S : Sm) (f : Nat → Nat) (nx : Nat) : List (Nat × Option AObj) :=
  ((List.range S.n0).filter fun i => wr (S.p i)).map (fun i => (f i, (S.q i).map (renO (newF f S.n0 nx)))) ++
  (List.range S.news.length).map (fun j => (nx + j, (S.r j).map (renO (newF f S.n0 nx))))
def Sm.fits (S : Sm) (f : Nat → Nat) (inv : Tr Nat) (args : List AV) (H : Heap) (nx : Nat) : Bool :=
  AV.eqBs args (AV.rens f S.args) && (List.range S.n0).all fun i => decide (f i < nx) && (match inv.get (f i) with | some j => decide (j = i) | none => false) && matchO f (S.p i) (H.get (f i))
def applyAt (S : Sm) (f : Nat → Nat) (inv : Tr Nat) (args : List AV) (H : Heap) (nx : Nat) : Option (AV × Heap × Nat) :=
  if S.fits f inv args H nx then some (AV.ren (newF f S.n0 nx) S.v, puts H (S.ups f nx), nx + S.news.length) else none
def psiF (t : Tr Nat) (n0 nx : Nat) (i : Nat) : Nat := if i < n0 then (t.get i).getD nx else nx
def applySm (S : Sm) (args : List AV) (H : Heap) (nx : Nat) : Option (AV × Heap × Nat) :=
  match findL S.p H 3000 (pairsOfs S.args args []) (.nil, .nil) with
  | (t, inv) => applyAt S (psiF t S.n0 nx) inv args H nx
def smCall (S : Sm) : CallF := fun k args H nx => if k = S.k then applySm S args H nx else none
variable {σ : Sig} {H : Heap} {nx : Nat} {w : World}
theorem apply_ok {S : Sm} {φ : List Nat} {v1 : AV} {H1 : Heap} {n1 : Nat} (hc : smCheck S φ (some (v1, H1, n1)) = true) {f : Nat → Nat} {inv : Tr Nat} {args : List AV} {v : AV} {H' : Heap} {nx' : Nat}
    (hf : ∀ i, S.n0 ≤ i → σ (f i) = none) (ha : applyAt S f inv args H nx = some (v, H', nx')) (g : Good σ H nx w) :
    args = AV.rens f S.args ∧ Good (σ.via f) S.heap S.n0 w ∧
    ∀ {σ1 : Sig} {w' : World} {x : Value}, VR σ1 v1 x → Step (σ.via f) S.heap S.n0 w σ1 H1 n1 w' → Good σ1 H1 n1 w' → ∃ σ', VR σ' v x ∧ Step σ H nx w σ' H' nx' w' ∧ Good σ' H' nx' w' := by
  unfold applyAt at ha
  split at ha
  case isFalse => cases ha
  rename_i hfit
  simp only [Option.some.injEq, Prod.mk.injEq] at ha
  obtain ⟨rfl, rfl, rfl⟩ := ha
  simp only [Sm.fits, Bool.and_eq_true, List.all_eq_true, List.mem_range, decide_eq_true_eq] at hfit
  obtain ⟨hargs, hall⟩ := hfit
  have hlt : ∀ i, i < S.n0 → f i < nx := fun i hi => (hall i hi).1.1
  have hinj : ∀ i j, i < S.n0 → j < S.n0 → f i = f j → i = j := by
    intro i j hi hj he
    have h1 := (hall i hi).1.2
    have h2 := (hall j hj).1.2
    rw [he] at h1
    cases hg : inv.get (f j) with
    | none => rw [hg] at h2; simp at h2
    | some m => rw [hg] at h1 h2; simp only [decide_eq_true_eq] at h1 h2; omega
  have plt : ∀ {i o}, S.p i = some o → i < S.n0 := by
    intro i o h
    rcases Nat.lt_or_ge i S.n0 with h' | h'
    · exact h'
    · unfold Sm.p at h; rw [List.getElem?_eq_none h'] at h; cases h
  have hm : ∀ i o, S.p i = some o → ∃ oa, H.get (f i) = some oa ∧ (o.isRo = false → oa = renO f o) ∧ (o.isRo = true → asRo oa = renO f o) := by
    intro i o hp
    have := (hall i (plt hp)).2
    rw [hp] at this
    cases hg : H.get (f i) with
    | none => rw [hg] at this; simp [matchO] at this
    | some oa =>
      rw [hg] at this
      simp only [matchO] at this
      refine ⟨oa, rfl, fun hr => ?_, fun hr => ?_⟩
      · rw [if_neg (by rw [hr]; simp)] at this; exact eqO_ok this
      · rw [if_pos hr] at this; exact eqO_ok this
  have hmro : ∀ i o oa, S.p i = some o → H.get (f i) = some oa → oa.isRo = true → o.isRo = true := by
    intro i o oa hp hg hr
    obtain ⟨oa', h1, h2, _⟩ := hm i o hp
    rw [hg] at h1; injection h1 with h1; subst h1
    cases ho : o.isRo with
    | true => rfl
    | false => rw [h2 ho, renO_isRo, ho] at hr; cases hr
  have orRo : ∀ {σ : Sig} {l : Loc} {o : AObj} {ob : Option Obj}, OR σ l o ob → OR σ l (asRo o) ob := by
    intro σ l o ob h
    cases o with
    | cells cs t ro => obtain ⟨C, fz, e, h1, h2, h3, h4⟩ := h; exact ⟨C, fz, e, h1, h2, h3, fun h => by cases h⟩
    | map es ro => exact h
    | iter ro => exact h
    | nit ro => exact h
  have hgood : Good (σ.via f) S.heap S.n0 w := by
    refine ⟨⟨⟨fun b o l hb hl => ?_, fun b b' o o' l l' hb hb' hl hl' he => ?_⟩, fun b hb => ⟨hf b hb, ?_⟩⟩, g.glb, fun b l o hb hl hr => ?_⟩
    · rw [Sm.heap_get] at hb
      obtain ⟨oa, h1, h2, h3⟩ := hm b o hb
      have := g.obj (f b) oa l h1 hl
      refine OR_ren.1 ?_
      cases hr : o.isRo with
      | false => rw [← h2 hr]; exact this
      | true => rw [← h3 hr]; exact orRo this
    · rw [Sm.heap_get] at hb hb'
      obtain ⟨oa, h1, _⟩ := hm b o hb
      obtain ⟨oa', h1', _⟩ := hm b' o' hb'
      exact hinj b b' (plt hb) (plt hb') (g.inj _ _ oa oa' l l' h1 h1' hl hl' he)
    · rw [Sm.heap_get]
      cases hp : S.p b with
      | none => rfl
      | some o => have := plt hp; omega
    · rw [Sm.heap_get] at hb
      obtain ⟨oa, h1, h2, _⟩ := hm b o hb
      exact g.apart (f b) l oa h1 hl (by rw [h2 hr, renO_isRo, hr])
  refine ⟨AV.eqBs_ok hargs, hgood, fun {σ1 w' x} hv s1 g1 => ?_⟩
  simp only [smCheck, Bool.and_eq_true, List.all_eq_true, List.mem_range, decide_eq_true_eq] at hc
  obtain ⟨⟨⟨⟨⟨c1, c2⟩, c3⟩, c4⟩, c5⟩, c6⟩ := hc
  have c1 := AV.eqB_ok c1
  have hn1 := s1.grow
  have ph0 : ∀ i, i < S.n0 → phiF S.n0 n1 φ i = i := fun i hi => by unfold phiF; rw [if_pos hi]
  have ph1 : ∀ j, j < S.news.length → S.n0 ≤ phiF S.n0 n1 φ (S.n0 + j) ∧ phiF S.n0 n1 φ (S.n0 + j) < n1 := by
    intro j hj
    unfold phiF
    rw [if_neg (by omega), show S.n0 + j - S.n0 = j from by omega, List.getElem?_eq_getElem (by omega)]
    exact c4 _ (List.getElem_mem _)
  have ph2 : ∀ i, S.n0 ≤ i → S.n0 ≤ phiF S.n0 n1 φ i := by
    intro i hi
    rcases Nat.lt_or_ge (i - S.n0) S.news.length with h | h
    · have := (ph1 (i - S.n0) h).1
      rwa [show S.n0 + (i - S.n0) = i from by omega] at this
    · unfold phiF
      rw [if_neg (by omega), List.getElem?_eq_none (by omega)]
      simpa using hn1
  have ph3 : ∀ j j', j < S.news.length → j' < S.news.length → phiF S.n0 n1 φ (S.n0 + j) = phiF S.n0 n1 φ (S.n0 + j') → j = j' := by
    intro j j' hj hj' he
    unfold phiF at he
    rw [if_neg (by omega), if_neg (by omega), show S.n0 + j - S.n0 = j from by omega, show S.n0 + j' - S.n0 = j' from by omega, List.getElem?_eq_getElem (by omega), List.getElem?_eq_getElem (by omega)] at he
    simp only [Option.getD_some] at he
    rcases Nat.lt_trichotomy j j' with h | h | h
    · have := up1_lt c3 j j' _ _ h (List.getElem?_eq_getElem (by omega)) (List.getElem?_eq_getElem (by omega)); omega
    · exact h
    · have := up1_lt c3 j' j _ _ h (List.getElem?_eq_getElem (by omega)) (List.getElem?_eq_getElem (by omega)); omega
  let φf := phiF S.n0 n1 φ
  let gf := newF f S.n0 nx
  let σ' : Sig := fun b => if b < nx then σ b else if b < nx + S.news.length then σ1 (φf (S.n0 + (b - nx))) else none
  have sOld : ∀ b, b < nx → σ' b = σ b := fun b hb => by simp only [σ', if_pos hb]
  have sNew : ∀ j, j < S.news.length → σ' (nx + j) = σ1 (φf (S.n0 + j)) := fun j hj => by
    simp only [σ']
    rw [if_neg (by omega), if_pos (by omega), show nx + j - nx = j from by omega]
  have s0 : ∀ i, i < S.n0 → σ1 i = σ (f i) := fun i hi => s1.old i hi
  have hext : Ext (σ1.via φf) (σ'.via gf) := by
    intro i l hl
    simp only [Sig.via] at hl ⊢
    rcases Nat.lt_or_ge i S.n0 with hi | hi
    · have e1 : φf i = i := ph0 i hi
      have e2 : gf i = f i := by simp only [gf, newF, if_pos hi]
      rw [e1, s0 i hi] at hl
      rw [e2, sOld _ (hlt i hi)]; exact hl
    · rcases Nat.lt_or_ge (i - S.n0) S.news.length with h | h
      · have e2 : gf i = nx + (i - S.n0) := by simp only [gf, newF]; rw [if_neg (by omega)]
        rw [e2, sNew _ h, show S.n0 + (i - S.n0) = i from by omega]; exact hl
      · exfalso
        have : φf i = n1 := by
          simp only [φf, phiF]
          rw [if_neg (by omega), List.getElem?_eq_none (by omega)]; rfl
        rw [this, (g1.fresh n1 (Nat.le_refl _)).1] at hl; cases hl
  have hextσ : Ext σ σ' := fun b l h => by
    rcases Nat.lt_or_ge b nx with hb | hb
    · rw [sOld b hb]; exact h
    · rw [(g.fresh b hb).1] at h; cases h
  have lt : ∀ b o, H.get b = some o → b < nx := fun b o hb => by
    rcases Nat.lt_or_ge b nx with h | h
    · exact h
    · rw [(g.fresh b h).2] at hb; cases hb
  have uMem : ∀ q, q ∈ S.ups f nx → (∃ i, i < S.n0 ∧ wr (S.p i) = true ∧ q = (f i, (S.q i).map (renO gf))) ∨ ∃ j, j < S.news.length ∧ q = (nx + j, (S.r j).map (renO gf)) := by
    intro q hq
    simp only [Sm.ups, List.mem_append, List.mem_map, List.mem_filter, List.mem_range] at hq
    rcases hq with ⟨i, ⟨h1, h2⟩, rfl⟩ | ⟨j, h1, rfl⟩
    · exact .inl ⟨i, h1, h2, rfl⟩
    · exact .inr ⟨j, h1, rfl⟩
  have hOld : ∀ i, i < S.n0 → wr (S.p i) = true → (puts H (S.ups f nx)).get (f i) = (S.q i).map (renO gf) := by
    intro i hi hw
    refine puts_mem _ _ _ _ (fun q hq he => ?_) ?_
    · rcases uMem q hq with ⟨i', h1, h2, rfl⟩ | ⟨j, h1, rfl⟩
      · have := hinj i' i h1 hi he
        subst this; rfl
      · have := hlt i hi
        simp only at he; omega
    · simp only [Sm.ups, List.mem_append, List.mem_map, List.mem_filter, List.mem_range]
      exact .inl ⟨i, ⟨hi, hw⟩, rfl⟩
  have hNew : ∀ j, j < S.news.length → (puts H (S.ups f nx)).get (nx + j) = (S.r j).map (renO gf) := by
    intro j hj
    refine puts_mem _ _ _ _ (fun q hq he => ?_) ?_
    · rcases uMem q hq with ⟨i', h1, h2, rfl⟩ | ⟨j', h1, rfl⟩
      · have := hlt i' h1
        simp only at he; omega
      · simp only at he
        have : j' = j := by omega
        subst this; rfl
    · simp only [Sm.ups, List.mem_append, List.mem_map, List.mem_filter, List.mem_range]
      exact .inr ⟨j, hj, rfl⟩
  have hOther : ∀ b, b < nx → (∀ i, i < S.n0 → wr (S.p i) = true → f i ≠ b) → (puts H (S.ups f nx)).get b = H.get b := by
    intro b hb hn
    refine puts_not b _ _ fun q hq => ?_
    rcases uMem q hq with ⟨i', h1, h2, rfl⟩ | ⟨j', h1, rfl⟩
    · exact hn i' h1 h2
    · simp only; omega
  have hFar : ∀ b, nx + S.news.length ≤ b → (puts H (S.ups f nx)).get b = none := by
    intro b hb
    rw [puts_not b _ _ fun q hq => ?_, (g.fresh b (by omega)).2]
    rcases uMem q hq with ⟨i', h1, h2, rfl⟩ | ⟨j', h1, rfl⟩
    · have := hlt i' h1; simp only; omega
    · simp only; omega
  have wrp : ∀ i, wr (S.p i) = true → ∃ o, S.p i = some o ∧ o.isRo = false := by
    intro i h
    cases hp : S.p i with
    | none => rw [hp] at h; simp [wr] at h
    | some o => rw [hp] at h; simp only [wr, Bool.not_eq_true'] at h; exact ⟨o, rfl, h⟩
  have cOld : ∀ i, i < S.n0 → wr (S.p i) = true → ∀ o1, S.q i = some o1 → H1.get i = some (renO φf o1) := by
    intro i hi hw o1 hq
    obtain ⟨o, hp, hr⟩ := wrp i hw
    have := c5 i hi
    rw [hp] at this
    simp only [hr, Bool.false_or, hq, okQ, Bool.and_eq_true] at this
    exact eqOO_ok this.2
  have cNew : ∀ j, j < S.news.length → ∀ o1, S.r j = some o1 → H1.get (φf (S.n0 + j)) = some (renO φf o1) := by
    intro j hj o1 hq
    have := c6 j hj
    rw [hq] at this
    simp only [okO] at this
    exact eqOO_ok this
  have kinds : ∀ b o, (puts H (S.ups f nx)).get b = some o → (b < nx ∧ H.get b = some o ∧ ∀ i, i < S.n0 → wr (S.p i) = true → f i ≠ b) ∨
      (∃ i o1, i < S.n0 ∧ wr (S.p i) = true ∧ b = f i ∧ S.q i = some o1 ∧ o = renO gf o1) ∨ ∃ j o1, j < S.news.length ∧ b = nx + j ∧ S.r j = some o1 ∧ o = renO gf o1 := by
    intro b o hb
    rcases Nat.lt_or_ge b nx with h | h
    · by_cases hk : ∃ i, i < S.n0 ∧ wr (S.p i) = true ∧ f i = b
      · obtain ⟨i, h1, h2, rfl⟩ := hk
        rw [hOld i h1 h2, Option.map_eq_some_iff] at hb
        obtain ⟨o1, h3, h4⟩ := hb
        exact .inr (.inl ⟨i, o1, h1, h2, rfl, h3, h4.symm⟩)
      · have hn : ∀ i, i < S.n0 → wr (S.p i) = true → f i ≠ b := fun i h1 h2 h3 => hk ⟨i, h1, h2, h3⟩
        rw [hOther b h hn] at hb
        exact .inl ⟨h, hb, hn⟩
    · rcases Nat.lt_or_ge b (nx + S.news.length) with h2 | h2
      · have he : b = nx + (b - nx) := by omega
        rw [he, hNew (b - nx) (by omega), Option.map_eq_some_iff] at hb
        obtain ⟨o1, h3, h4⟩ := hb
        exact .inr (.inr ⟨b - nx, o1, by omega, he, h3, h4.symm⟩)
      · rw [hFar b h2] at hb; cases hb
  have hstep : Step σ H nx w σ' (puts H (S.ups f nx)) (nx + S.news.length) w' := by
    refine ⟨s1.os, s1.tape, s1.output, s1.size, by omega, sOld, fun b o hb hr => ?_, fun b hb hn => ?_, fun b hb hn => ?_, fun k hk hh => ?_, fun b l o hb hl hlt' => ?_⟩
    · rw [hOther b (lt b o hb) fun i hi hw he => ?_]
      · exact hb
      · obtain ⟨o', hp, hr'⟩ := wrp i hw
        rw [hmro i o' o hp (by rw [he]; exact hb) hr] at hr'; cases hr'
    · rw [hOther b hb fun i hi hw he => ?_]
      · exact hn
      · obtain ⟨o', hp, hr'⟩ := wrp i hw
        obtain ⟨oa, h1, _⟩ := hm i o' hp
        rw [he, hn] at h1; cases h1
    · by_cases hk : ∃ i, i < S.n0 ∧ wr (S.p i) = true ∧ f i = b
      · obtain ⟨i, h1, h2, rfl⟩ := hk
        obtain ⟨o, hp, hr⟩ := wrp i h2
        obtain ⟨oa, h3, h4, _⟩ := hm i o hp
        have hu := s1.unreal i h1 hn
        rw [Sm.heap_get, hp] at hu
        rw [hOld i h1 h2, h3, h4 hr]
        have c5' := c5 i h1
        rw [hp] at c5'
        simp only [Bool.and_eq_true] at c5'
        cases hq : S.q i with
        | none =>
          have := c5'.2
          simp only [hr, Bool.false_or, hq, okQ] at this
          rw [hu] at this; cases this
        | some o1 =>
          have := cOld i h1 h2 o1 hq
          rw [hu] at this
          injection this with this
          simp only [Option.map_some, Option.some.injEq]
          have hb1 := c5'.1
          rw [this] at hb1 ⊢
          refine renO_renO (n := S.n0) (fun j hj => ?_) hb1
          have hj' : j < S.n0 := by
            rcases Nat.lt_or_ge j S.n0 with h | h
            · exact h
            · have := ph2 j h; simp only [φf] at hj; omega
          have e1 : φf j = j := ph0 j hj'
          rw [e1]
          simp only [gf, newF, if_pos hj']
      · exact hOther b hb fun i h1 h2 h3 => hk ⟨i, h1, h2, h3⟩
    · refine s1.frame k hk fun b l o hb hl he => ?_
      rw [Sm.heap_get] at hb
      obtain ⟨oa, h1, _⟩ := hm b o hb
      exact hmro b o oa hb h1 (hh (f b) l oa h1 hl he)
    · rcases kinds b o hb with ⟨h1, h2, _⟩ | ⟨i, o1, h1, h2, rfl, h3, rfl⟩ | ⟨j, o1, h1, rfl, h3, rfl⟩
      · rw [sOld b h1] at hl
        exact ⟨b, l, o, h2, hl, rfl, .inr rfl⟩
      · rw [sOld _ (hlt i h1)] at hl
        obtain ⟨o', hp, hr'⟩ := wrp i h2
        obtain ⟨oa, h4, _⟩ := hm i o' hp
        exact ⟨f i, l, oa, h4, hl, rfl, .inr rfl⟩
      · rw [sNew j h1] at hl
        obtain ⟨b0, l0, o0, q1, q2, q3, q4⟩ := s1.own _ l _ (cNew j h1 o1 h3) hl hlt'
        rw [Sm.heap_get] at q1
        obtain ⟨oa, h4, h5, _⟩ := hm b0 o0 q1
        have hr0 : o0.isRo = false := by
          rcases q4 with q4 | q4
          · exact q4
          · have := plt q1
            have := (ph1 j h1).1
            simp only [φf] at q4; omega
        exact ⟨f b0, l0, oa, h4, q2, q3, .inl (by rw [h5 hr0, renO_isRo, hr0])⟩
  refine ⟨σ', ?_, hstep, g.up hstep ⟨⟨fun b o l hb hl => ?_, fun b b' o o' l l' hb hb' hl hl' he => ?_⟩, fun b hb => ⟨?_, hFar b hb⟩⟩⟩
  · rw [c1] at hv
    exact VR_ren.2 ((VR_ren.1 hv).ext hext)
  · rcases kinds b o hb with ⟨h1, h2, h3⟩ | ⟨i, o1, h1, h2, rfl, h3, rfl⟩ | ⟨j, o1, h1, rfl, h3, rfl⟩
    · rw [sOld b h1] at hl
      rw [s1.frame l.blk (g.toSim.lt h2 hl) fun b0 l0 o0 hb0 hl0 he0 => ?_]
      · exact (g.obj b o l h2 hl).ext hextσ
      · rw [Sm.heap_get] at hb0
        obtain ⟨oa, h4, _⟩ := hm b0 o0 hb0
        have := g.inj _ _ oa o l0 l h4 h2 hl0 hl he0
        cases hr : o0.isRo with
        | true => rfl
        | false => exact absurd this (h3 b0 (plt hb0) (by rw [hb0]; simp [wr, hr]))
    · rw [sOld _ (hlt i h1), ← s0 i h1] at hl
      exact OR_ren.2 ((OR_ren.1 (g1.obj i _ l (cOld i h1 h2 o1 h3) hl)).ext hext)
    · rw [sNew j h1] at hl
      exact OR_ren.2 ((OR_ren.1 (g1.obj _ _ l (cNew j h1 o1 h3) hl)).ext hext)
  · -- one block, one name
    have old : ∀ b o, (puts H (S.ups f nx)).get b = some o → b < nx → ∃ o, H.get b = some o := fun b o hb hlt => by
      cases hg : H.get b with
      | some o => exact ⟨o, rfl⟩
      | none => rw [hstep.dead b hlt hg] at hb; cases hb
    have mix : ∀ b j o1 o l l', b < nx → (puts H (S.ups f nx)).get b = some o → σ' b = some l → j < S.news.length → S.r j = some o1 → σ' (nx + j) = some l' → l.blk = l'.blk → False := by
      intro b j o1 o l l' hbn hb hl hj hr hl' he
      rw [sNew j hj] at hl'
      obtain ⟨oh, hh⟩ := old b o hb hbn
      rw [sOld b hbn] at hl
      have hltw := g.toSim.lt hh hl
      obtain ⟨b0, l0, o0, q1, q2, q3, q4⟩ := s1.own _ l' _ (cNew j hj o1 hr) hl' (by rw [← he]; exact hltw)
      rw [Sm.heap_get] at q1
      obtain ⟨oa, h4, h5, _⟩ := hm b0 o0 q1
      have hb0 := plt q1
      have hph := (ph1 j hj).1
      have hr0 : o0.isRo = false := by
        rcases q4 with q4 | q4
        · exact q4
        · simp only [φf] at q4; omega
      have hfb : f b0 = b := g.inj _ _ oa oh l0 l h4 hh q2 hl (by rw [q3, he])
      have hw0 : wr (S.p b0) = true := by rw [q1]; simp [wr, hr0]
      rw [← hfb, hOld b0 hb0 hw0, Option.map_eq_some_iff] at hb
      obtain ⟨o2, h6, _⟩ := hb
      have h7 := cOld b0 hb0 hw0 o2 h6
      have h8 : σ1 b0 = some l0 := by rw [s0 b0 hb0]; exact q2
      have := g1.inj _ _ _ _ l0 l' h7 (cNew j hj o1 hr) h8 hl' q3
      simp only [φf] at this; omega
    rcases kinds b o hb with ⟨h1, h2, h3⟩ | ⟨i, o1, h1, h2, rfl, h3, rfl⟩ | ⟨j, o1, h1, rfl, h3, rfl⟩
    · rcases kinds b' o' hb' with ⟨k1, k2, k3⟩ | ⟨i', o1', k1, k2, rfl, k3, rfl⟩ | ⟨j', o1', k1, rfl, k3, rfl⟩
      · rw [sOld _ h1] at hl; rw [sOld _ k1] at hl'
        exact g.inj _ _ _ _ l l' h2 k2 hl hl' he
      · obtain ⟨oh, hh⟩ := old _ _ hb' (hlt i' k1)
        rw [sOld _ h1] at hl; rw [sOld _ (hlt i' k1)] at hl'
        exact g.inj _ _ _ _ l l' h2 hh hl hl' he
      · exact (mix b j' o1' o l l' h1 hb hl k1 k3 hl' he).elim
    · rcases kinds b' o' hb' with ⟨k1, k2, k3⟩ | ⟨i', o1', k1, k2, rfl, k3, rfl⟩ | ⟨j', o1', k1, rfl, k3, rfl⟩
      · obtain ⟨oh, hh⟩ := old _ _ hb (hlt i h1)
        rw [sOld _ (hlt i h1)] at hl; rw [sOld _ k1] at hl'
        exact g.inj _ _ _ _ l l' hh k2 hl hl' he
      · obtain ⟨oh, hh⟩ := old _ _ hb (hlt i h1)
        obtain ⟨oh', hh'⟩ := old _ _ hb' (hlt i' k1)
        rw [sOld _ (hlt i h1)] at hl; rw [sOld _ (hlt i' k1)] at hl'
        exact g.inj _ _ _ _ l l' hh hh' hl hl' he
      · exact (mix (f i) j' o1' _ l l' (hlt i h1) hb hl k1 k3 hl' he).elim
    · rcases kinds b' o' hb' with ⟨k1, k2, k3⟩ | ⟨i', o1', k1, k2, rfl, k3, rfl⟩ | ⟨j', o1', k1, rfl, k3, rfl⟩
      · exact (mix b' j o1 o' l' l k1 hb' hl' h1 h3 hl he.symm).elim
      · exact (mix (f i') j o1 _ l' l (hlt i' k1) hb' hl' h1 h3 hl he.symm).elim
      · rw [sNew j h1] at hl; rw [sNew j' k1] at hl'
        have := g1.inj _ _ _ _ l l' (cNew j h1 o1 h3) (cNew j' k1 o1' k3) hl hl' he
        rw [ph3 j j' h1 k1 this]
  · simp only [σ']
    rw [if_neg (by omega), if_neg (by omega)]
theorem sm_ok {C D : Cx} (hC : C.Sound) {S : Sm} {φ : List Nat} {n : Nat} (h : smCheck S φ (callF C n S.k S.args S.heap S.n0) = true) (hP : D.P = C.P) : CallOK D (smCall S) := by
  intro k args H nx v H' nx' hk σ w xs hxs g
  unfold smCall at hk
  split at hk
  case isFalse => cases hk
  rename_i e
  subst e
  unfold applySm at hk
  cases hr : callF C n S.k S.args S.heap S.n0 with
  | none => rw [hr] at h; cases h
  | some r =>
    obtain ⟨v1, H1, n1⟩ := r
    rw [hr] at h
    have hr' := hr
    rw [callF_eq] at hr'
    generalize hfd : findL S.p H 3000 (pairsOfs S.args args []) (.nil, .nil) = ti at hk
    obtain ⟨t, inv⟩ := ti
    simp only at hk
    have hf : ∀ i, S.n0 ≤ i → σ (psiF t S.n0 nx i) = none := fun i hi => by
      unfold psiF
      rw [if_neg (by omega)]
      exact (g.fresh nx (Nat.le_refl _)).1
    obtain ⟨ha, hg, hgo⟩ := apply_ok h hf hk g
    subst ha
    have hx := call_ok hC n S.k S.args S.heap S.n0 v1 H1 n1 hr' (σ.via (psiF t S.n0 nx)) w xs (VRs_ren.1 hxs) hg
    rw [hP]
    refine ⟨hx.1, hx.2.mono ?_⟩
    rintro e w' ⟨x, σ1, rfl, h1, h2, h3⟩
    obtain ⟨σ', q1, q2, q3⟩ := hgo h1 h2 h3
    exact ⟨x, σ', rfl, q1, q2, q3⟩
def smTab : List Sm → CallF → CallF
  | [], Y => Y
  | S :: l, Y => fun k args H nx => match smCall S k args H nx with
    | some r => some r
    | none => smTab l Y k args H nx
theorem smTab_ok {D : Cx} : ∀ {l : List Sm} {Y : CallF}, (∀ S ∈ l, CallOK D (smCall S)) → CallOK D Y → CallOK D (smTab l Y)
  | [], Y, _, hY => hY
  | S :: l, Y, h, hY => fun k args H nx v H' nx' hk => by
    unfold smTab at hk
    split at hk
    · rename_i r hr
      injection hk with hk; subst hk
      exact h S (by simp) k args H nx v H' nx' hr
    · exact smTab_ok (fun S hS => h S (List.mem_cons_of_mem _ hS)) hY k args H nx v H' nx' hk
def outF (F : Tr Func) (ks : List Nat) : Tr Func := ks.foldl (fun T k => T.put k none) F
theorem outF_get {k : Nat} {fn : Func} : ∀ {ks : List Nat} {F : Tr Func}, (outF F ks).get k = some fn → F.get k = some fn
  | [], F, h => h
  | a :: ks, F, h => by
    have := outF_get (ks := ks) (F := F.put a none) h
    rw [Tr.get_put] at this
    split at this
    · cases this
    · exact this
def cxTab (C : Cx) (ks : List Nat) (l : List Sm) : Cx := { C with F := outF C.F ks, Y := smTab l C.Y }
theorem CallOK.cx {C D : Cx} (h : D.P = C.P) {call : CallF} (hc : CallOK C call) : CallOK D call := by
  intro k args H nx v H' nx' hk σ w xs hxs g
  rw [h]; exact hc k args H nx v H' nx' hk σ w xs hxs g
theorem tab_nil {D : Cx} : ∀ S ∈ ([] : List Sm), CallOK D (smCall S) := fun S h => by simp at h
theorem tab_cons {D : Cx} {S0 : Sm} {l : List Sm} (h : CallOK D (smCall S0)) (t : ∀ S ∈ l, CallOK D (smCall S)) : ∀ S ∈ S0 :: l, CallOK D (smCall S) := fun S hS => by
  rcases List.mem_cons.1 hS with rfl | hS
  · exact h
  · exact t S hS
theorem cxTab_sound {C : Cx} (hC : C.Sound) {ks : List Nat} {l : List Sm} (hl : ∀ S ∈ l, CallOK C (smCall S)) : (cxTab C ks l).Sound where
  types := hC.types
  funs := fun k fn h => hC.funs k fn (outF_get h)
  zs := hC.zs
  exts := hC.exts
  mixed := hC.mixed
  ys := CallOK.cx (C := C) (D := cxTab C ks l) rfl (smTab_ok hl hC.ys)
  codes := fun k fn c h hb => hC.codes k fn c (outF_get h) hb
end CI
