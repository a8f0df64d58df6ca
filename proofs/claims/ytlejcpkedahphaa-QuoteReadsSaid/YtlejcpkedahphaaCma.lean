/- CI: maps: looking up, putting in, taking out. -/
import Derived.Test.YtlejcpkedahphaaCii
set_option linter.unusedVariables false
set_option linter.unusedSimpArgs false
namespace CI
open Go

variable {P : Program} {σ σ' : Sig} {H H' : Heap} {nx nx' : Nat} {w w' : World}

theorem pureRun_bind {α β : Type} {m : Sem α} {f : α → Sem β} : pureRun P (m >>= f) = (pureRun P m).bind fun a => pureRun P (f a) := by
  show pureRun P (Sem.bind m f) = _
  induction m with
  | pure b => rfl
  | program k ih => simp only [Sem.bind, pureRun]; exact ih P
  | mark s k ih => simp only [Sem.bind, pureRun]; exact ih
  | _ => rfl

/-- A map's entries, of which only the keys are known. -/
def keyed (ks : List Value) : List MapEntry := ks.map fun k => ⟨k, undef, 0⟩

def valAt (E : List MapEntry) (i : Nat) (p : Nat × Value) : Nat × Value := (p.1, ((E[p.1 - i]?).map (·.val)).getD undef)

theorem valAt_succ (e : MapEntry) (E : List MapEntry) (i : Nat) (p : Nat × Value) (h : i + 1 ≤ p.1) : valAt E (i + 1) p = valAt (e :: E) i p := by
  unfold valAt
  obtain ⟨j, hj⟩ : ∃ j, p.1 = i + 1 + j := ⟨p.1 - (i + 1), by omega⟩
  rw [hj, show i + 1 + j - (i + 1) = j by omega, show i + 1 + j - i = j + 1 by omega, List.getElem?_cons_succ]

theorem findAsking_keys {kt : TypeId} {k : Value} : ∀ (E : List MapEntry) (i : Nat) (r : Option (Nat × Value)), pureRun P (Instr.findAsking kt k (keyed (E.map (·.key))) i) = some r →
    pureRun P (Instr.findAsking kt k E i) = some (r.map (valAt E i)) ∧ ∀ p, r = some p → i ≤ p.1 ∧ p.1 < i + E.length
  | [], i, r, h => by
    simp only [List.map_nil, keyed, Instr.findAsking] at h ⊢
    simp only [show ∀ (α : Type) (a : α), (pure a : Sem α) = Sem.pure a from fun _ _ => rfl, pureRun, Option.some.injEq] at h ⊢
    subst h
    exact ⟨rfl, by simp⟩
  | e :: E, i, r, h => by
    simp only [List.map_cons, keyed, Instr.findAsking] at h ⊢
    rw [pureRun_bind] at h ⊢
    simp only [Option.bind_eq_some_iff] at h
    obtain ⟨b, hb, h⟩ := h
    rw [hb]
    simp only [Option.bind_some]
    cases b with
    | true =>
      simp only [if_true] at h ⊢
      simp only [show ∀ (α : Type) (a : α), (pure a : Sem α) = Sem.pure a from fun _ _ => rfl, pureRun, Option.some.injEq] at h ⊢
      subst h
      refine ⟨?_, fun p hp => ?_⟩
      · simp [valAt]
      · injection hp with hp; subst hp; simp
    | false =>
      simp only [Bool.false_eq_true, if_false] at h ⊢
      obtain ⟨h1, h2⟩ := findAsking_keys E (i + 1) r h
      refine ⟨?_, fun p hp => ?_⟩
      · rw [h1]
        cases r with
        | none => rfl
        | some p => simp only [Option.map_some]; rw [valAt_succ e E i p (h2 p rfl).1]
      · have := h2 p hp; simp only [List.length_cons]; omega

theorem findNow_keys {d : TypeDesc} {k : Value} : ∀ (E : List MapEntry) (i : Nat),
    (Instr.findNow d k (keyed (E.map (·.key))) i = none → Instr.findNow d k E i = none) ∧
    ∀ r, Instr.findNow d k (keyed (E.map (·.key))) i = some r →
      Instr.findNow d k E i = some (r.map (valAt E i)) ∧ ∀ p, r = some p → i ≤ p.1 ∧ p.1 < i + E.length
  | [], i => by
    simp only [List.map_nil, keyed, Instr.findNow]
    refine ⟨by simp, fun r h => ?_⟩
    injection h with h; subst h
    exact ⟨rfl, by simp⟩
  | e :: E, i => by
    obtain ⟨n1, n2⟩ := findNow_keys (d := d) (k := k) E (i + 1)
    simp only [List.map_cons, keyed, Instr.findNow]
    cases hs : Instr.sameNow d k e.key with
    | none => simp
    | some b =>
      cases b with
      | true =>
        simp only
        refine ⟨by simp, fun r h => ?_⟩
        injection h with h; subst h
        refine ⟨by simp [valAt], fun p hp => ?_⟩
        injection hp with hp; subst hp; simp
      | false =>
        simp only
        refine ⟨n1, fun r h => ?_⟩
        obtain ⟨h1, h2⟩ := n2 r h
        refine ⟨?_, fun p hp => ?_⟩
        · rw [h1]
          cases r with
          | none => rfl
          | some p => simp only [Option.map_some]; rw [valAt_succ e E i p (h2 p rfl).1]
        · have := h2 p hp; simp only [List.length_cons]; omega

theorem findKey_keys {kt : TypeId} {k : Value} {E : List MapEntry} {r : Option (Nat × Value)} (h : pureRun P (Instr.findKey kt k (keyed (E.map (·.key)))) = some r) :
    pureRun P (Instr.findKey kt k E) = some (r.map (valAt E 0)) ∧ ∀ p, r = some p → p.1 < E.length := by
  unfold Instr.findKey at h ⊢
  rw [pureRun_bind] at h ⊢
  simp only [Option.bind_eq_some_iff] at h
  obtain ⟨d, hd, h⟩ := h
  rw [hd]
  simp only [Option.bind_some]
  obtain ⟨n1, n2⟩ := findNow_keys (d := d) (k := k) E 0
  cases hn : Instr.findNow d k (keyed (E.map (·.key))) 0 with
  | some a =>
    rw [hn] at h
    simp only [show ∀ (α : Type) (a : α), (pure a : Sem α) = Sem.pure a from fun _ _ => rfl, pureRun, Option.some.injEq] at h
    subst h
    obtain ⟨h1, h2⟩ := n2 a hn
    rw [h1]
    refine ⟨rfl, fun p hp => ?_⟩
    have := h2 p hp; omega
  | none =>
    rw [hn] at h
    rw [n1 hn]
    simp only at h ⊢
    obtain ⟨h1, h2⟩ := findAsking_keys E 0 r h
    refine ⟨h1, fun p hp => ?_⟩
    have := h2 p hp; omega

theorem MapR.keys : ∀ {es : List (AV × AV)} {E : List MapEntry}, MapR σ es E → VRs σ (es.map (·.1)) (E.map (·.key))
  | [], _, h => by simp only [MapR] at h; subst h; simp [VRs]
  | (k, v) :: es, _, h => by
    simp only [MapR] at h
    obtain ⟨e, E', rfl, h1, h2, h3⟩ := h
    simp only [List.map_cons, VRs]
    exact ⟨_, _, rfl, h1, MapR.keys h3⟩
theorem MapR.at_ : ∀ {es : List (AV × AV)} {E : List MapEntry} {i : Nat} {p : AV × AV}, MapR σ es E → es[i]? = some p → ∃ e, E[i]? = some e ∧ VR σ p.1 e.key ∧ VR σ p.2 e.val
  | [], _, _, _, _, h => by simp at h
  | (k, v) :: es, _, 0, p, h, hp => by
    simp only [MapR] at h
    obtain ⟨e, E', rfl, h1, h2, h3⟩ := h
    simp only [List.getElem?_cons_zero, Option.some.injEq] at hp ⊢
    subst hp
    exact ⟨e, rfl, h1, h2⟩
  | (k, v) :: es, _, i + 1, p, h, hp => by
    simp only [MapR] at h
    obtain ⟨e, E', rfl, h1, h2, h3⟩ := h
    simp only [List.getElem?_cons_succ] at hp ⊢
    exact MapR.at_ h3 hp
theorem MapR.snoc : ∀ {es : List (AV × AV)} {E : List MapEntry} {k v : AV} {e : MapEntry}, MapR σ es E → VR σ k e.key → VR σ v e.val → MapR σ (es ++ [(k, v)]) (E ++ [e])
  | [], _, k, v, e, h, hk, hv => by simp only [MapR] at h; subst h; simp only [List.nil_append, MapR]; exact ⟨e, [], rfl, hk, hv, rfl⟩
  | (k', v') :: es, _, k, v, e, h, hk, hv => by
    simp only [MapR] at h
    obtain ⟨e', E', rfl, h1, h2, h3⟩ := h
    simp only [List.cons_append, MapR]
    exact ⟨e', _, rfl, h1, h2, MapR.snoc h3 hk hv⟩
theorem MapR.put : ∀ {es : List (AV × AV)} {E : List MapEntry} {i : Nat} {k v : AV} {f : MapEntry → MapEntry}, MapR σ es E → i < es.length → (∀ e, VR σ k (f e).key ∧ VR σ v (f e).val) →
    MapR σ (es.set i (k, v)) (E.modify i f)
  | [], _, _, _, _, _, _, hi, _ => by simp at hi
  | (k', v') :: es, _, 0, k, v, f, h, hi, hf => by
    simp only [MapR] at h
    obtain ⟨e', E', rfl, h1, h2, h3⟩ := h
    simp only [List.set_cons_zero, List.modify_zero_cons, MapR]
    exact ⟨_, _, rfl, (hf e').1, (hf e').2, h3⟩
  | (k', v') :: es, _, i + 1, k, v, f, h, hi, hf => by
    simp only [MapR] at h
    obtain ⟨e', E', rfl, h1, h2, h3⟩ := h
    simp only [List.set_cons_succ, List.modify_succ_cons, MapR]
    exact ⟨_, _, rfl, h1, h2, MapR.put h3 (by simpa using hi) hf⟩
theorem MapR.erase : ∀ {es : List (AV × AV)} {E : List MapEntry} {i : Nat}, MapR σ es E → MapR σ (es.eraseIdx i) (E.eraseIdx i)
  | [], _, i, h => by simp only [MapR] at h; subst h; simp [MapR]
  | (k', v') :: es, _, 0, h => by
    simp only [MapR] at h
    obtain ⟨e', E', rfl, h1, h2, h3⟩ := h
    simpa using h3
  | (k', v') :: es, _, i + 1, h => by
    simp only [MapR] at h
    obtain ⟨e', E', rfl, h1, h2, h3⟩ := h
    simp only [List.eraseIdx_cons_succ, MapR]
    exact ⟨_, _, rfl, h1, h2, MapR.erase h3⟩

/-- Where a key stands; no key bears an address. -/
def findA (P : Program) (kt : TypeId) (k : Value) (ks : List Value) : Option (Option Nat) := (pureRun P (Instr.findKey kt k (keyed ks))).map (·.map (·.1))

theorem findA_ok {kt : TypeId} {k : Value} {E : List MapEntry} {r : Option Nat} (h : findA P kt k (E.map (·.key)) = some r) (w : World) :
    (Instr.findKey kt k E).run P w = .ok (r.map fun i => (i, ((E[i]?).map (·.val)).getD undef)) w ∧ ∀ i, r = some i → i < E.length := by
  unfold findA at h
  simp only [Option.map_eq_some_iff] at h
  obtain ⟨q, hq, rfl⟩ := h
  obtain ⟨h1, h2⟩ := findKey_keys hq
  refine ⟨?_, fun i hi => ?_⟩
  · rw [pureRun_ok w h1]
    cases q <;> simp [valAt]
  · simp only [Option.map_eq_some_iff] at hi
    obtain ⟨p, hp, rfl⟩ := hi
    exact h2 p hp

def entsOf (H : Heap) : AV → Option (List (AV × AV))
  | .lit (.map none) => some []
  | .map b => match H.get b with
    | some (.map es _) => some es
    | _ => none
  | _ => none

def lookupOp (P : Program) (T : Tr TInfo) (H : Heap) (t : TypeId) (m k : AV) (commaOk : Bool) : Option AV :=
  match T.get t with
  | some { desc := .map kt et, .. } =>
    (T.get et).bind fun ei => (plain k).bind fun kv => (entsOf H m).bind fun es => (plains (es.map (·.1))).bind fun ks =>
      (pureRun P (Instr.checkKey es.isEmpty 10000 kt kv)).bind fun _ => (findA P kt kv ks).bind fun r =>
        ((match r with
          | some i => (es[i]?).map fun e => (e.2, true)
          | none => ei.zero.map fun z => (abs z, false)) : Option (AV × Bool)).map fun q => if commaOk then .tuple [q.1, .lit (.bool q.2)] else q.1
  | _ => none

theorem Good.map_at (g : Good σ H nx w) {b : Nat} {es : List (AV × AV)} {ro : Bool} {l : Loc} (hb : H.get b = some (.map es ro)) (hl : σ b = some l) :
    ∃ E clock, w.heap[l.blk]? = some (.map E clock) ∧ MapR σ es E.toList := g.obj b _ l hb hl

theorem run_setObjM {r : Nat} {E : Array MapEntry} {c : Nat} {o : Obj} (h : w.heap[r]? = some (.map E c)) : (setObj r o).run P w = .ok () { w with heap := w.heap.setIfInBounds r o } := by
  simp [setObj, Sem.run, h]

theorem lookupOp_out {T : Tr TInfo} (hT : TOK P T) (g : Good σ H nx w) {t : TypeId} {m k v : AV} {ok : Bool} {x y : Value} (hm : VR σ m x) (hk : VR σ k y)
    (h : lookupOp P T H t m k ok = some v) : Out P σ H nx w v H nx (Instr.lookup t x y ok) := by
  unfold lookupOp at h
  split at h
  · rename_i kt et _ _ _ _ _ hi
    simp only [Option.bind_eq_some_iff, Option.map_eq_some_iff] at h
    obtain ⟨ei, he, kv, hkv, es, hes, ks, hks, u, hu, r, hr, q, hq, rfl⟩ := h
    have hkvy := plain_eq hkv hk
    subst hkvy
    have F := (hT _ _ hi).under
    have tail : ∀ (E : Array MapEntry), MapR σ es E.toList → Out P σ H nx w (if ok then .tuple [q.1, .lit (.bool q.2)] else q.1) H nx (do
        Instr.checkKey E.isEmpty 10000 kt y
        let (v, okk) ← match ← Instr.findKey kt y E.toList with
          | some (_, v) => pure (v, true)
          | none => pure (← zeroValue et, false)
        pure (if ok then .tuple #[v, .bool okk] else v)) := by
      intro E hE
      have hemp : es.isEmpty = E.isEmpty := by
        have := hE.length
        rw [Bool.eq_iff_iff]
        simp only [List.isEmpty_iff_length_eq_zero, Array.isEmpty_iff_size_eq_zero, ← Array.length_toList]
        omega
      rw [hemp] at hu
      refine Out.bind (pureRun_ok w hu) ?_
      have hkeys := plains_eq hks hE.keys
      rw [← hkeys] at hr
      obtain ⟨f1, f2⟩ := findA_ok hr w
      have fin : ∀ (z : Value), VR σ q.1 z → VR σ (if ok then .tuple [q.1, .lit (.bool q.2)] else q.1) (if ok then .tuple #[z, .bool q.2] else z) := by
        intro z hz
        cases ok
        · exact hz
        · simp only [if_true, VR]
          exact ⟨[z, .bool q.2], rfl, by simp only [VRs]; exact ⟨_, _, rfl, hz, _, _, rfl, by simp [VR], rfl⟩⟩
      cases r with
      | none =>
        simp only [Option.map_eq_some_iff] at hq
        obtain ⟨z, hz, rfl⟩ := hq
        obtain ⟨info, i1, i2, i3, i4⟩ := (hT _ _ he).info
        simp only [Option.map_none] at f1
        refine Out.same g (x := if ok then .tuple #[z, .bool false] else z) ?_ (fin z (abs_VR σ z))
        rw [run_bind_ok f1]
        simp only
        rw [run_bind_ok (run_zero i1 (by rw [i4, hz]) w), run_bind_ok (run_pure' _ w)]
        rfl
      | some i =>
        simp only [Option.map_eq_some_iff] at hq
        obtain ⟨e, hei, rfl⟩ := hq
        obtain ⟨ce, c1, c2, c3⟩ := hE.at_ hei
        simp only [Option.map_some, c1, Option.getD_some] at f1
        refine Out.same g (x := if ok then .tuple #[ce.val, .bool true] else ce.val) ?_ (fin ce.val c3)
        rw [run_bind_ok f1]
        simp only
        rw [run_bind_ok (run_pure' _ w)]
        rfl
    unfold Instr.lookup
    refine Out.bind (run_under F w) ?_
    simp only
    unfold entsOf at hes
    split at hes
    · injection hes with hes; subst hes
      simp only [VR] at hm; subst hm
      exact Out.bind (a := #[]) rfl (tail #[] (by simp [MapR]))
    · rename_i b
      split at hes
      · rename_i es' ro hb
        injection hes with hes; subst hes
        simp only [VR] at hm
        obtain ⟨l, hl, rfl⟩ := hm
        obtain ⟨E, clock, e1, e2⟩ := g.map_at hb hl
        refine Out.bind (run_getObj e1) ?_
        exact Out.bind (a := E) rfl (tail E e2)
      · cases hes
    · cases hes
  · cases h

def mapUpdateOp (P : Program) (T : Tr TInfo) (H : Heap) (t : TypeId) (m k v : AV) : Option Heap :=
  match T.get t, m with
  | some { desc := .map kt _, .. }, .map b =>
    match H.get b with
    | some (.map es false) =>
      (plain k).bind fun kv => (plains (es.map (·.1))).bind fun ks => (pureRun P (Instr.checkKey false 10000 kt kv)).bind fun _ => (findA P kt kv ks).bind fun r =>
        match r with
        | some i => (ks[i]?).bind fun old => (pureRun P (Instr.keyThatStays old kv)).map fun key => H.put b (some (.map (es.set i (abs key, v)) false))
        | none => some (H.put b (some (.map (es ++ [(k, v)]) false)))
    | _ => none
  | _, _ => none

theorem mapUpdateOp_out {T : Tr TInfo} (hT : TOK P T) (g : Good σ H nx w) {t : TypeId} {m k v : AV} {x y z : Value} (hm : VR σ m x) (hk : VR σ k y) (hv : VR σ v z)
    (h : mapUpdateOp P T H t m k v = some H') : ∃ w', (Instr.mapUpdate t x y z).run P w = .ok () w' ∧ Step σ H nx w σ H' nx w' ∧ Good σ H' nx w' := by
  unfold mapUpdateOp at h
  split at h
  · rename_i kt et _ _ _ _ _ b hi
    split at h
    · rename_i es hb
      simp only [Option.bind_eq_some_iff] at h
      obtain ⟨kv, hkv, ks, hks, u, hu, r, hr, h⟩ := h
      have hkvy := plain_eq hkv hk
      subst hkvy
      have F := (hT _ _ hi).under
      simp only [VR] at hm
      obtain ⟨l, hl, rfl⟩ := hm
      obtain ⟨E, clock, e1, e2⟩ := g.map_at hb hl
      have hkeys := plains_eq hks e2.keys
      subst hkeys
      obtain ⟨f1, f2⟩ := findA_ok hr w
      have hlt : l.blk < w.heap.size := g.toSim.lt hb hl
      have fin : ∀ (E' : Array MapEntry) (c' : Nat) (es' : List (AV × AV)), MapR σ es' E'.toList →
          Step σ H nx w σ (H.put b (some (.map es' false))) nx { w with heap := w.heap.setIfInBounds l.blk (.map E' c') } ∧
          Good σ (H.put b (some (.map es' false))) nx { w with heap := w.heap.setIfInBounds l.blk (.map E' c') } := by
        intro E' c' es' hE'
        refine mod_step g hb rfl hl (by simp) (fun k hk => by simp [Array.getElem?_setIfInBounds, Ne.symm hk]) rfl rfl rfl ?_
        refine ⟨E', c', ?_, hE'⟩
        simp [Array.getElem?_setIfInBounds, hlt]
      unfold Instr.mapUpdate
      rw [run_bind_ok (run_under F w)]
      simp only
      rw [run_bind_ok (run_getObj e1)]
      simp only
      rw [run_bind_ok (pureRun_ok w hu), run_bind_ok f1]
      cases r with
      | none =>
        simp only [Option.map_none, Option.some.injEq] at h ⊢
        subst h
        refine ⟨_, run_setObjM e1, fin _ _ _ ?_⟩
        rw [Array.toList_push]
        exact e2.snoc hk hv
      | some i =>
        simp only [Option.map_some, Option.bind_eq_some_iff, Option.map_eq_some_iff] at h ⊢
        obtain ⟨old, ho, key, hkey, rfl⟩ := h
        have hoE : ((E[i]?).map (·.key)).getD y = old := by
          rw [← Array.getElem?_toList]
          rw [List.getElem?_map] at ho
          rw [ho]; rfl
        simp only [hoE]
        rw [run_bind_ok (pureRun_ok w hkey)]
        refine ⟨_, run_setObjM e1, fin _ _ _ ?_⟩
        rw [Array.toList_modify]
        refine e2.put ?_ fun e => ⟨abs_VR σ key, hv⟩
        have := f2 i rfl
        rw [← e2.length]; exact this
    · cases h
  · cases h

def deleteOp (P : Program) (T : Tr TInfo) (H : Heap) (t : TypeId) (m k : AV) : Option Heap :=
  match T.get t, m with
  | some { desc := .map kt _, .. }, .map b =>
    match H.get b with
    | some (.map es false) =>
      (plain k).bind fun kv => (plains (es.map (·.1))).bind fun ks => (pureRun P (Instr.checkKey es.isEmpty 10000 kt kv)).bind fun _ => (findA P kt kv ks).map fun r =>
        match r with
        | some i => H.put b (some (.map (es.eraseIdx i) false))
        | none => H.put b (some (.map es false))
    | _ => none
  | _, _ => none

theorem deleteOp_out {T : Tr TInfo} (hT : TOK P T) (g : Good σ H nx w) {t t2 : TypeId} {ty : TypeId} {m k : AV} {x y : Value} (hm : VR σ m x) (hk : VR σ k y)
    (h : deleteOp P T H t m k = some H') : Out P σ H nx w (.tuple []) H' nx (Builtin.delete_ #[t, t2] ty #[x, y]) := by
  unfold deleteOp at h
  split at h
  · rename_i kt et _ _ _ _ _ b hi
    split at h
    · rename_i es hb
      simp only [Option.bind_eq_some_iff, Option.map_eq_some_iff] at h
      obtain ⟨kv, hkv, ks, hks, u, hu, r, hr, rfl⟩ := h
      have hkvy := plain_eq hkv hk
      subst hkvy
      have F := (hT _ _ hi).under
      simp only [VR] at hm
      obtain ⟨l, hl, rfl⟩ := hm
      obtain ⟨E, clock, e1, e2⟩ := g.map_at hb hl
      have hkeys := plains_eq hks e2.keys
      subst hkeys
      obtain ⟨f1, f2⟩ := findA_ok hr w
      have hlt : l.blk < w.heap.size := g.toSim.lt hb hl
      have hemp : es.isEmpty = E.isEmpty := by
        have := e2.length
        rw [Bool.eq_iff_iff]
        simp only [List.isEmpty_iff_length_eq_zero, Array.isEmpty_iff_size_eq_zero, ← Array.length_toList]
        omega
      rw [hemp] at hu
      have fin : ∀ (E' : Array MapEntry) (c' : Nat) (es' : List (AV × AV)), MapR σ es' E'.toList →
          Step σ H nx w σ (H.put b (some (.map es' false))) nx { w with heap := w.heap.setIfInBounds l.blk (.map E' c') } ∧
          Good σ (H.put b (some (.map es' false))) nx { w with heap := w.heap.setIfInBounds l.blk (.map E' c') } := by
        intro E' c' es' hE'
        refine mod_step g hb rfl hl (by simp) (fun k hk => by simp [Array.getElem?_setIfInBounds, Ne.symm hk]) rfl rfl rfl ?_
        refine ⟨E', c', ?_, hE'⟩
        simp [Array.getElem?_setIfInBounds, hlt]
      have go : ∀ (E' : Array MapEntry) (c' : Nat) (es' : List (AV × AV)), MapR σ es' E'.toList →
          (Builtin.delete_ #[t, t2] ty #[.map (some l.blk), y]).run P w = .ok (.tuple #[]) { w with heap := w.heap.setIfInBounds l.blk (.map E' c') } →
          Out P σ H nx w (.tuple []) (H.put b (some (.map es' false))) nx (Builtin.delete_ #[t, t2] ty #[.map (some l.blk), y]) := by
        intro E' c' es' hE' hrun
        exact ⟨_, _, σ, hrun, by simp only [VR]; exact ⟨[], rfl, rfl⟩, fin _ _ _ hE'⟩
      cases r with
      | none =>
        refine go E clock es e2 ?_
        unfold Builtin.delete_
        simp only [List.getElem?_toArray, List.getElem?_cons_zero, List.getElem?_cons_succ]
        rw [run_bind_ok (run_under F w)]
        simp only
        rw [run_bind_ok (run_getObj e1)]
        simp only
        rw [run_bind_ok (pureRun_ok w hu), run_bind_ok f1]
        simp only [Option.map_some, Option.map_none]
        rw [run_bind_ok (run_setObjM e1)]
        rfl
      | some i =>
        refine go (E.eraseIdxIfInBounds i) clock _ ?_ ?_
        · rw [Array.toList_eraseIdxIfInBounds]
          exact e2.erase
        unfold Builtin.delete_
        simp only [List.getElem?_toArray, List.getElem?_cons_zero, List.getElem?_cons_succ]
        rw [run_bind_ok (run_under F w)]
        simp only
        rw [run_bind_ok (run_getObj e1)]
        simp only
        rw [run_bind_ok (pureRun_ok w hu), run_bind_ok f1]
        simp only [Option.map_some, Option.map_none]
        rw [run_bind_ok (run_setObjM e1)]
        rfl
    · cases h
  · cases h
end CI
