/- CI: maps: the operations. -/
import Derived.Test.YtdkicjlbfhmfkaaGreatDoorCma
set_option linter.unusedVariables false
set_option linter.unusedSimpArgs false
noncomputable section
namespace CI
open Go

variable {P : Program} {σ σ' : Sig} {H H' : Heap} {nx nx' : Nat} {w w' : World}

theorem perm_erase {α : Type} {l l' : List α} {i i' : Nat} {p : α} (hp : l'.Perm l) (h : l[i]? = some p) (h' : l'[i']? = some p) : (l'.eraseIdx i').Perm (l.eraseIdx i) :=
  ((((erase_perm h').symm.trans hp).trans (erase_perm h))).cons_inv
theorem perm_set {α : Type} {l l' : List α} {i i' : Nat} {p x : α} (hp : l'.Perm l) (h : l[i]? = some p) (h' : l'[i']? = some p) : (l'.set i' x).Perm (l.set i x) := by
  have h1 := (List.getElem?_eq_some_iff.1 h).1
  have h2 := (List.getElem?_eq_some_iff.1 h').1
  exact ((set_perm h2).trans ((perm_erase hp h h').cons x)).trans (set_perm h1).symm

/-- An order of keys, by which an abstract map is kept. -/
def lexBy (lt : Value → Value → Bool) : List Value → List Value → Bool
  | x :: xs, y :: ys => lt x y || (!lt y x && lexBy lt xs ys)
  | [], _ :: _ => true
  | _, _ => false
def valLt : Nat → Value → Value → Bool
  | _, .int _ a, .int _ b => decide (a < b)
  | _, .string a, .string b => Op.bytesLess a.data.toList b.data.toList
  | n + 1, .agg a, .agg b => lexBy (valLt n) a.toList b.toList
  | _, _, _ => false
def avLt (a b : AV) : Bool := match plain a, plain b with
  | some x, some y => valLt 8 x y
  | _, _ => false
def insS (p : AV × AV) : List (AV × AV) → List (AV × AV)
  | [] => [p]
  | q :: l => if avLt p.1 q.1 then p :: q :: l else q :: insS p l
theorem insS_perm (p : AV × AV) : ∀ l, (insS p l).Perm (p :: l)
  | [] => .refl _
  | q :: l => by
    simp only [insS]
    split
    · exact .refl _
    · exact ((insS_perm p l).cons q).trans (.swap p q l)

theorem Borns.push {L : List MapEntry} {c : Nat} (h : Borns L c) {e : MapEntry} (he : e.born = c) : Borns (L ++ [e]) (c + 1) := by
  refine ⟨?_, ?_⟩
  · rw [List.map_append, List.nodup_append]
    refine ⟨h.1, by simp, fun a ha b hb => ?_⟩
    obtain ⟨e', he', rfl⟩ := List.mem_map.1 ha
    simp at hb
    have := h.2 e' he'
    omega
  · intro e' he'
    rcases List.mem_append.1 he' with h1 | h1
    · have := h.2 e' h1; omega
    · simp at h1; subst h1; omega
theorem Borns.modify {L : List MapEntry} {c i : Nat} (h : Borns L c) {f : MapEntry → MapEntry} (hf : ∀ e, (f e).born = e.born) : Borns (L.modify i f) c := by
  have hm : (L.modify i f).map (·.born) = L.map (·.born) := by
    apply List.ext_getElem?
    intro j
    rw [List.getElem?_map, List.getElem?_map, List.getElem?_modify]
    cases L[j]? with
    | none => rfl
    | some e =>
      split
      · simp [hf]
      · simp
  refine ⟨by rw [hm]; exact h.1, fun e he => ?_⟩
  have : e.born ∈ (L.modify i f).map (·.born) := List.mem_map.2 ⟨e, he, rfl⟩
  rw [hm] at this
  obtain ⟨e', he', hb⟩ := List.mem_map.1 this
  rw [← hb]; exact h.2 e' he'
theorem Borns.erase {L : List MapEntry} {c i : Nat} (h : Borns L c) : Borns (L.eraseIdx i) c :=
  ⟨h.1.sublist ((List.eraseIdx_sublist L i).map _), fun e he => h.2 e (List.mem_of_mem_eraseIdx he)⟩

def entsOf (H : Heap) : AV → Option (List (AV × AV))
  | .lit (.map none) => some []
  | .map b => match H.get b with
    | some (.map es _) => some es
    | _ => none
  | _ => none

def lookupOp (P : Program) (T : Tr TInfo) (H : Heap) (t : TypeId) (m k : AV) (commaOk : Bool) : Option AV :=
  match T.get t with
  | some { desc := .map kt et, .. } =>
    (T.get kt).bind fun ki => (T.get et).bind fun ei => (plain k).bind fun kv => (entsOf H m).bind fun es => (plains (es.map (·.1))).bind fun ks =>
      (pureRun P (Instr.checkKey es.isEmpty 10000 kt kv)).bind fun _ => (findU P kt kv ks 0).bind fun r =>
        ((match r with
          | some i => (es[i]?).map fun e => (e.2, true)
          | none => ei.zero.map fun z => (abs z, false)) : Option (AV × Bool)).map fun q => if commaOk then .tuple [q.1, .lit (.bool q.2)] else q.1
  | _ => none

theorem Good.map_at (g : Good σ H nx w) {b : Nat} {es : List (AV × AV)} {ro : Bool} {l : Loc} (hb : H.get b = some (.map es ro)) (hl : σ b = some l) :
    ∃ E clock es', w.heap[l.blk]? = some (.map E clock) ∧ es'.Perm es ∧ MapR σ es' E.toList ∧ Borns E.toList clock := g.obj b _ l hb hl

theorem run_setObjM {r : Nat} {E : Array MapEntry} {c : Nat} {o : Obj} (h : w.heap[r]? = some (.map E c)) : (setObj r o).run P w = .ok () { w with heap := w.heap.setIfInBounds r o } := by
  simp [setObj, Sem.run, h]
theorem isEmpty_eq {es es' : List (AV × AV)} {E : Array MapEntry} (hp : es'.Perm es) (hm : MapR σ es' E.toList) : es.isEmpty = E.isEmpty := by
  have := hm.length
  rw [hp.length_eq] at this
  rw [Bool.eq_iff_iff]
  simp only [List.isEmpty_iff_length_eq_zero, Array.isEmpty_iff_size_eq_zero, ← Array.length_toList]
  omega

theorem lookupOp_out {T : Tr TInfo} (hT : TOK P T) (g : Good σ H nx w) {t : TypeId} {m k v : AV} {ok : Bool} {x y : Value} (hm : VR σ m x) (hk : VR σ k y)
    (h : lookupOp P T H t m k ok = some v) : Out P σ H nx w v H nx (Instr.lookup t x y ok) := by
  unfold lookupOp at h
  split at h
  · rename_i kt et _ _ _ _ _ hi
    simp only [Option.bind_eq_some_iff, Option.map_eq_some_iff] at h
    obtain ⟨ki, hki, ei, he, kv, hkv, es, hes, ks, hks, u, hu, r, hr, q, hq, rfl⟩ := h
    have hkvy := plain_eq hkv hk
    subst hkvy
    have F := (hT _ _ hi).under
    have hd := pureRun_under (hT _ _ hki).under
    have tail : ∀ (E : Array MapEntry) (es' : List (AV × AV)), es'.Perm es → MapR σ es' E.toList → Out P σ H nx w (if ok then .tuple [q.1, .lit (.bool q.2)] else q.1) H nx (do
        Instr.checkKey E.isEmpty 10000 kt y
        let (v, okk) ← match ← Instr.findKey kt y E.toList with
          | some (_, v) => pure (v, true)
          | none => pure (← zeroValue et, false)
        pure (if ok then .tuple #[v, .bool okk] else v)) := by
      intro E es' hp hE
      rw [isEmpty_eq hp hE] at hu
      refine Out.bind (pureRun_ok w hu) ?_
      have hf := find_perm hd hp hE hks hr
      have fin : ∀ (z : Value), VR σ q.1 z → VR σ (if ok then .tuple [q.1, .lit (.bool q.2)] else q.1) (if ok then .tuple #[z, .bool q.2] else z) := by
        intro z hz
        cases ok
        · exact hz
        · simp only [if_true, VR]
          exact ⟨[z, .bool q.2], rfl, by simp only [VRs]; exact ⟨_, _, rfl, hz, _, _, rfl, by simp [VR], rfl⟩⟩
      cases r with
      | none =>
        simp only [Option.map_eq_some_iff] at hq
        obtain ⟨z, hz, rfl⟩ := hq
        obtain ⟨info, i1, i2, i3, i4⟩ := (hT _ _ he).info
        refine Out.same g (x := if ok then .tuple #[z, .bool false] else z) ?_ (fin z (abs_VR σ z))
        rw [run_bind_ok (pureRun_ok w hf)]
        simp only
        rw [run_bind_ok (run_zero i1 (by rw [i4, hz]) w), run_bind_ok (run_pure' _ w)]
        rfl
      | some i =>
        simp only [Option.map_eq_some_iff] at hq
        obtain ⟨e, hei, rfl⟩ := hq
        obtain ⟨i', p, ce, p1, p2, c1, c2, c3, c4, c5⟩ := hf
        rw [hei] at p1; injection p1 with p1; subst p1
        refine Out.same g (x := if ok then .tuple #[ce.val, .bool true] else ce.val) ?_ (fin ce.val c3)
        rw [run_bind_ok (pureRun_ok w c5)]
        simp only
        rw [run_bind_ok (run_pure' _ w)]
        rfl
    unfold Instr.lookup
    refine Out.bind (run_under F w) ?_
    simp only
    unfold entsOf at hes
    split at hes
    · injection hes with hes; subst hes
      simp only [VR] at hm; subst hm
      exact Out.bind (a := #[]) rfl (tail #[] [] (.refl _) (by simp [MapR]))
    · rename_i b
      split at hes
      · rename_i es0 ro hb
        injection hes with hes; subst hes
        simp only [VR] at hm
        obtain ⟨l, hl, rfl⟩ := hm
        obtain ⟨E, clock, es', e1, e2, e3, _⟩ := g.map_at hb hl
        refine Out.bind (run_getObj e1) ?_
        exact Out.bind (a := E) rfl (tail E es' e2 e3)
      · cases hes
    · cases hes
  · cases h

def mapUpdateOp (P : Program) (T : Tr TInfo) (H : Heap) (t : TypeId) (m k v : AV) : Option Heap :=
  match T.get t, m with
  | some { desc := .map kt _, .. }, .map b =>
    match H.get b with
    | some (.map es false) =>
      (T.get kt).bind fun ki => (plain k).bind fun kv => (plains (es.map (·.1))).bind fun ks => (pureRun P (Instr.checkKey false 10000 kt kv)).bind fun _ => (findU P kt kv ks 0).bind fun r =>
        match r with
        | some i => (ks[i]?).bind fun old => (pureRun P (Instr.keyThatStays old kv)).map fun key => H.put b (some (.map (es.set i (abs key, v)) false))
        | none => some (H.put b (some (.map (insS (k, v) es) false)))
    | _ => none
  | _, _ => none

theorem map_step (g : Good σ H nx w) {b : Nat} {es : List (AV × AV)} {l : Loc} (hb : H.get b = some (.map es false)) (hl : σ b = some l) {E' : Array MapEntry} {c' : Nat} {es1 es2 : List (AV × AV)} (hp : es1.Perm es2) (hE' : MapR σ es1 E'.toList) (hB : Borns E'.toList c') :
    Step σ H nx w σ (H.put b (some (.map es2 false))) nx { w with heap := w.heap.setIfInBounds l.blk (.map E' c') } ∧
    Good σ (H.put b (some (.map es2 false))) nx { w with heap := w.heap.setIfInBounds l.blk (.map E' c') } := by
  have hlt : l.blk < w.heap.size := g.toSim.lt hb hl
  refine mod_step g hb rfl hl (by simp) (fun k hk => by simp [Array.getElem?_setIfInBounds, Ne.symm hk]) rfl rfl rfl ?_
  refine ⟨E', c', es1, ?_, hp, hE', hB⟩
  simp [Array.getElem?_setIfInBounds, hlt]

theorem mapUpdateOp_out {T : Tr TInfo} (hT : TOK P T) (g : Good σ H nx w) {t : TypeId} {m k v : AV} {x y z : Value} (hm : VR σ m x) (hk : VR σ k y) (hv : VR σ v z)
    (h : mapUpdateOp P T H t m k v = some H') : ∃ w', (Instr.mapUpdate t x y z).run P w = .ok () w' ∧ Step σ H nx w σ H' nx w' ∧ Good σ H' nx w' := by
  unfold mapUpdateOp at h
  split at h
  · rename_i kt et _ _ _ _ _ b hi
    split at h
    · rename_i es hb
      simp only [Option.bind_eq_some_iff] at h
      obtain ⟨ki, hki, kv, hkv, ks, hks, u, hu, r, hr, h⟩ := h
      have hkvy := plain_eq hkv hk
      subst hkvy
      have F := (hT _ _ hi).under
      have hd := pureRun_under (hT _ _ hki).under
      simp only [VR] at hm
      obtain ⟨l, hl, rfl⟩ := hm
      obtain ⟨E, clock, es', e1, e2, e3, e4⟩ := g.map_at hb hl
      have hf := find_perm hd e2 e3 hks hr
      unfold Instr.mapUpdate
      rw [run_bind_ok (run_under F w)]
      simp only
      rw [run_bind_ok (run_getObj e1)]
      simp only
      rw [run_bind_ok (pureRun_ok w hu)]
      cases r with
      | none =>
        simp only [Option.some.injEq] at h
        subst h
        rw [run_bind_ok (pureRun_ok w hf)]
        simp only
        refine ⟨_, run_setObjM e1, map_step g hb hl (es1 := es' ++ [(k, v)]) ?_ ?_ ?_⟩
        · exact (List.perm_append_singleton _ _).trans ((e2.cons _).trans (insS_perm _ _).symm)
        · rw [Array.toList_push]
          exact e3.snoc hk hv
        · rw [Array.toList_push]
          exact e4.push rfl
      | some i =>
        simp only [Option.bind_eq_some_iff, Option.map_eq_some_iff] at h
        obtain ⟨old, ho, key, hkey, rfl⟩ := h
        obtain ⟨i', p, ce, p1, p2, c1, c2, c3, c4, c5⟩ := hf
        rw [run_bind_ok (pureRun_ok w c5)]
        simp only
        obtain ⟨x2, hx2, hx3⟩ := plains_get hks (show (es.map (·.1))[i]? = some p.1 by rw [List.getElem?_map, p1]; rfl)
        rw [ho] at hx2; injection hx2 with hx2; subst hx2
        rw [c4] at hx3; injection hx3 with hx3; subst hx3
        have hoE : ((E[i']?).map (·.key)).getD y = ce.key := by
          rw [← Array.getElem?_toList, c1]; rfl
        simp only [hoE]
        rw [run_bind_ok (pureRun_ok w hkey)]
        refine ⟨_, run_setObjM e1, map_step g hb hl (es1 := es'.set i' (abs key, v)) (perm_set e2 p1 p2) ?_ ?_⟩
        · rw [Array.toList_modify]
          exact e3.put (List.getElem?_eq_some_iff.1 p2).1 fun e => ⟨abs_VR σ key, hv⟩
        · rw [Array.toList_modify]
          exact e4.modify fun e => rfl
    · cases h
  · cases h

def deleteOp (P : Program) (T : Tr TInfo) (H : Heap) (t : TypeId) (m k : AV) : Option Heap :=
  match T.get t, m with
  | some { desc := .map kt _, .. }, .map b =>
    match H.get b with
    | some (.map es false) =>
      (T.get kt).bind fun ki => (plain k).bind fun kv => (plains (es.map (·.1))).bind fun ks => (pureRun P (Instr.checkKey es.isEmpty 10000 kt kv)).bind fun _ => (findU P kt kv ks 0).map fun r =>
        match r with
        | some i => H.put b (some (.map (es.eraseIdx i) false))
        | none => H.put b (some (.map es false))
    | _ => none
  | _, _ => none

theorem deleteOp_out {T : Tr TInfo} (hT : TOK P T) (g : Good σ H nx w) {t t2 : TypeId} {ty : TypeId} {m k : AV} {x y : Value} (hm : VR σ m x) (hk : VR σ k y)
    (h : deleteOp P T H t m k = some H') : Out P σ H nx w (.tuple []) H' nx (Builtin.delete_ #[t, t2] ty #[x, y]) := by
  unfold deleteOp at h
  split at h
  · rename_i kt et _ _ _ _ _ b hi
    split at h
    · rename_i es hb
      simp only [Option.bind_eq_some_iff, Option.map_eq_some_iff] at h
      obtain ⟨ki, hki, kv, hkv, ks, hks, u, hu, r, hr, rfl⟩ := h
      have hkvy := plain_eq hkv hk
      subst hkvy
      have F := (hT _ _ hi).under
      have hd := pureRun_under (hT _ _ hki).under
      simp only [VR] at hm
      obtain ⟨l, hl, rfl⟩ := hm
      obtain ⟨E, clock, es', e1, e2, e3, e4⟩ := g.map_at hb hl
      have hf := find_perm hd e2 e3 hks hr
      rw [isEmpty_eq e2 e3] at hu
      cases r with
      | none =>
        obtain ⟨s1, s2⟩ := map_step g hb hl e2 e3 e4
        refine ⟨.tuple #[], _, σ, ?_, by simp only [VR]; exact ⟨[], rfl, rfl⟩, s1, s2⟩
        unfold Builtin.delete_
        simp only [List.getElem?_toArray, List.getElem?_cons_zero, List.getElem?_cons_succ]
        rw [run_bind_ok (run_under F w)]
        simp only
        rw [run_bind_ok (run_getObj e1)]
        simp only
        rw [run_bind_ok (pureRun_ok w hu), run_bind_ok (pureRun_ok w hf)]
        simp only
        rw [run_bind_ok (run_setObjM e1)]
        rfl
      | some i =>
        obtain ⟨i', p, ce, p1, p2, c1, c2, c3, c4, c5⟩ := hf
        obtain ⟨s1, s2⟩ := map_step g hb hl (E' := E.eraseIdxIfInBounds i') (c' := clock) (perm_erase e2 p1 p2) (by rw [Array.toList_eraseIdxIfInBounds]; exact e3.erase) (by rw [Array.toList_eraseIdxIfInBounds]; exact e4.erase)
        refine ⟨.tuple #[], _, σ, ?_, by simp only [VR]; exact ⟨[], rfl, rfl⟩, s1, s2⟩
        unfold Builtin.delete_
        simp only [List.getElem?_toArray, List.getElem?_cons_zero, List.getElem?_cons_succ]
        rw [run_bind_ok (run_under F w)]
        simp only
        rw [run_bind_ok (run_getObj e1)]
        simp only
        rw [run_bind_ok (pureRun_ok w hu), run_bind_ok (pureRun_ok w c5)]
        simp only
        rw [run_bind_ok (run_setObjM e1)]
        rfl
    · cases h
  · cases h
end CI
