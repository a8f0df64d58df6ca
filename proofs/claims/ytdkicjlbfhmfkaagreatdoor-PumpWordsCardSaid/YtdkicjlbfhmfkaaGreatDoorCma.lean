/- CI: maps: looking up, putting in, taking out. -/
import Derived.Test.YtdkicjlbfhmfkaaGreatDoorCii
set_option linter.unusedVariables false
set_option linter.unusedSimpArgs false
noncomputable section
namespace CI
open Go

variable {P : Program} {σ σ' : Sig} {H H' : Heap} {nx nx' : Nat} {w w' : World}

theorem pureRun_bind {α β : Type} {m : Sem α} {f : α → Sem β} : pureRun P (m >>= f) = (pureRun P m).bind fun a => pureRun P (f a) := by
  show pureRun P (Sem.bind m f) = _
  induction m with
  | pure b => rfl
  | program k ih => simp only [Sem.bind, pureRun]; exact ih P
  | mark s k ih => simp only [Sem.bind, pureRun]; exact ih
  | _ => rfl
theorem pureRun_pure {α : Type} (a : α) : pureRun P (pure a : Sem α) = some a := rfl
theorem pureRun_under {t : TypeId} {d : TypeDesc} (h : P.underlying t = some d) : pureRun P (underlying t) = some d := by
  unfold Go.underlying
  simp only [Bind.bind, program, Sem.bind, pureRun]
  rw [h]
  rfl

/-- Are two keys the same? -/
def eqK (P : Program) (kt : TypeId) (k x : Value) : Option Bool := pureRun P (Op.equal kt k x)

theorem sameNow_eq {kt : TypeId} {d : TypeDesc} (hd : pureRun P (underlying kt) = some d) {x y : Value} {b : Bool} (h : Instr.sameNow d x y = some b) : eqK P kt x y = some b := by
  unfold eqK Op.equal
  unfold Instr.sameNow at h
  show pureRun P (Op.equalIn (9999 + 1) kt x y) = some b
  unfold Op.equalIn
  rw [pureRun_bind, hd]
  simp only [Option.bind_some]
  split at h
  · split at h
    · rename_i hk; subst hk; simp only [if_true]; injection h with h; subst h; rfl
    · cases h
  · injection h with h; subst h; rfl
  · injection h with h; subst h; rfl
  · cases h

/-- The one place of a key; none: it has none. -/
def findU (P : Program) (kt : TypeId) (k : Value) : List Value → Nat → Option (Option Nat)
  | [], _ => some none
  | x :: xs, i =>
    match eqK P kt k x, findU P kt k xs (i + 1) with
    | some false, r => r
    | some true, some none => some (some i)
    | _, _ => none

theorem findU_none {kt : TypeId} {k : Value} : ∀ {xs : List Value} {i : Nat}, findU P kt k xs i = some none → ∀ x ∈ xs, eqK P kt k x = some false
  | [], _, _ => by simp
  | x :: xs, i, h => by
    simp only [findU] at h
    split at h
    · rename_i he
      intro y hy
      rcases List.mem_cons.1 hy with rfl | hy
      · exact he
      · exact findU_none h y hy
    · cases h
    · cases h
theorem findU_some {kt : TypeId} {k : Value} : ∀ {xs : List Value} {i j : Nat}, findU P kt k xs i = some (some j) → ∃ n x, j = i + n ∧ xs[n]? = some x ∧ eqK P kt k x = some true ∧
    ∀ m y, xs[m]? = some y → m ≠ n → eqK P kt k y = some false
  | [], _, _, h => by simp [findU] at h
  | x :: xs, i, j, h => by
    simp only [findU] at h
    split at h
    · rename_i he
      obtain ⟨n, y, rfl, h1, h2, h3⟩ := findU_some h
      refine ⟨n + 1, y, by omega, by simpa using h1, h2, fun m z hm hne => ?_⟩
      cases m with
      | zero => simp at hm; subst hm; exact he
      | succ m => exact h3 m z (by simpa using hm) (by omega)
    · rename_i he hr
      injection h with h; injection h with h; subst h
      refine ⟨0, x, rfl, rfl, he, fun m z hm hne => ?_⟩
      cases m with
      | zero => exact absurd rfl hne
      | succ m => exact findU_none hr z (List.mem_of_getElem? (by simpa using hm))
    · cases h

/-- What findKey answers, by the keys' sameness. -/
theorem findAsking_of {kt : TypeId} {k : Value} : ∀ (E : List MapEntry) (i : Nat), (∀ e ∈ E, eqK P kt k e.key = some false) → pureRun P (Instr.findAsking kt k E i) = some none
  | [], i, _ => rfl
  | e :: E, i, h => by
    simp only [Instr.findAsking]
    rw [pureRun_bind]
    have := h e (by simp)
    unfold eqK at this
    rw [this]
    simp only [Option.bind_some, Bool.false_eq_true, if_false]
    exact findAsking_of E (i + 1) fun e he => h e (by simp [he])
theorem findAsking_at {kt : TypeId} {k : Value} : ∀ (E : List MapEntry) (i n : Nat) (e : MapEntry), E[n]? = some e → eqK P kt k e.key = some true → (∀ m e', E[m]? = some e' → m ≠ n → eqK P kt k e'.key = some false) →
    pureRun P (Instr.findAsking kt k E i) = some (some (i + n, e.val))
  | [], i, n, e, h, _, _ => by simp at h
  | e0 :: E, i, n, e, hn, he, h => by
    simp only [Instr.findAsking]
    rw [pureRun_bind]
    cases n with
    | zero =>
      simp at hn; subst hn
      unfold eqK at he
      rw [he]
      rfl
    | succ n =>
      have := h 0 e0 rfl (by omega)
      unfold eqK at this
      rw [this]
      simp only [Option.bind_some, Bool.false_eq_true, if_false]
      rw [findAsking_at E (i + 1) n e (by simpa using hn) he fun m e' hm hne => h (m + 1) e' (by simpa using hm) (by omega)]
      congr 3; omega
theorem findNow_of {kt : TypeId} {d : TypeDesc} (hd : pureRun P (underlying kt) = some d) {k : Value} : ∀ (E : List MapEntry) (i : Nat) (r : Option (Nat × Value)), Instr.findNow d k E i = some r →
    pureRun P (Instr.findAsking kt k E i) = some r
  | [], i, r, h => by simp only [Instr.findNow] at h; injection h with h; subst h; rfl
  | e :: E, i, r, h => by
    simp only [Instr.findNow] at h
    simp only [Instr.findAsking]
    rw [pureRun_bind]
    cases hs : Instr.sameNow d k e.key with
    | none => rw [hs] at h; cases h
    | some b =>
      rw [hs] at h
      have := sameNow_eq (P := P) hd hs
      unfold eqK at this
      rw [this]
      cases b with
      | true => simp only at h; injection h with h; subst h; rfl
      | false =>
        simp only at h
        simp only [Option.bind_some, Bool.false_eq_true, if_false]
        exact findNow_of hd E (i + 1) r h
theorem findKey_of {kt : TypeId} {d : TypeDesc} (hd : pureRun P (underlying kt) = some d) {k : Value} {E : List MapEntry} {r : Option (Nat × Value)} (h : pureRun P (Instr.findAsking kt k E) = some r) :
    pureRun P (Instr.findKey kt k E) = some r := by
  unfold Instr.findKey
  rw [pureRun_bind, hd]
  simp only [Option.bind_some]
  cases hn : Instr.findNow d k E 0 with
  | none => exact h
  | some a =>
    have := findNow_of hd E 0 a hn
    rw [h] at this; injection this with this; subst this
    rfl

theorem MapR.keys : ∀ {es : List (AV × AV)} {E : List MapEntry}, MapR σ es E → VRs σ (es.map (·.1)) (E.map (·.key))
  | [], _, h => by simp only [MapR] at h; subst h; simp [VRs]
  | (k, v) :: es, _, h => by
    simp only [MapR] at h
    obtain ⟨e, E', rfl, h1, h2, h3⟩ := h
    simp only [List.map_cons, VRs]
    exact ⟨_, _, rfl, h1, MapR.keys h3⟩
theorem MapR.at_ : ∀ {es : List (AV × AV)} {E : List MapEntry} {i : Nat} {p : AV × AV}, MapR σ es E → es[i]? = some p → ∃ e, E[i]? = some e ∧ VR σ p.1 e.key ∧ VR σ p.2 e.val
  | [], _, _, _, _, h => by simp at h
  | (k, v) :: es, _, 0, p, h, hp => by
    simp only [MapR] at h
    obtain ⟨e, E', rfl, h1, h2, h3⟩ := h
    simp only [List.getElem?_cons_zero, Option.some.injEq] at hp ⊢
    subst hp
    exact ⟨e, rfl, h1, h2⟩
  | (k, v) :: es, _, i + 1, p, h, hp => by
    simp only [MapR] at h
    obtain ⟨e, E', rfl, h1, h2, h3⟩ := h
    simp only [List.getElem?_cons_succ] at hp ⊢
    exact MapR.at_ h3 hp
theorem MapR.snoc : ∀ {es : List (AV × AV)} {E : List MapEntry} {k v : AV} {e : MapEntry}, MapR σ es E → VR σ k e.key → VR σ v e.val → MapR σ (es ++ [(k, v)]) (E ++ [e])
  | [], _, k, v, e, h, hk, hv => by simp only [MapR] at h; subst h; simp only [List.nil_append, MapR]; exact ⟨e, [], rfl, hk, hv, rfl⟩
  | (k', v') :: es, _, k, v, e, h, hk, hv => by
    simp only [MapR] at h
    obtain ⟨e', E', rfl, h1, h2, h3⟩ := h
    simp only [List.cons_append, MapR]
    exact ⟨e', _, rfl, h1, h2, MapR.snoc h3 hk hv⟩
theorem MapR.put : ∀ {es : List (AV × AV)} {E : List MapEntry} {i : Nat} {k v : AV} {f : MapEntry → MapEntry}, MapR σ es E → i < es.length → (∀ e, VR σ k (f e).key ∧ VR σ v (f e).val) →
    MapR σ (es.set i (k, v)) (E.modify i f)
  | [], _, _, _, _, _, _, hi, _ => by simp at hi
  | (k', v') :: es, _, 0, k, v, f, h, hi, hf => by
    simp only [MapR] at h
    obtain ⟨e', E', rfl, h1, h2, h3⟩ := h
    simp only [List.set_cons_zero, List.modify_zero_cons, MapR]
    exact ⟨_, _, rfl, (hf e').1, (hf e').2, h3⟩
  | (k', v') :: es, _, i + 1, k, v, f, h, hi, hf => by
    simp only [MapR] at h
    obtain ⟨e', E', rfl, h1, h2, h3⟩ := h
    simp only [List.set_cons_succ, List.modify_succ_cons, MapR]
    exact ⟨_, _, rfl, h1, h2, MapR.put h3 (by simpa using hi) hf⟩
theorem MapR.erase : ∀ {es : List (AV × AV)} {E : List MapEntry} {i : Nat}, MapR σ es E → MapR σ (es.eraseIdx i) (E.eraseIdx i)
  | [], _, i, h => by simp only [MapR] at h; subst h; simp [MapR]
  | (k', v') :: es, _, 0, h => by
    simp only [MapR] at h
    obtain ⟨e', E', rfl, h1, h2, h3⟩ := h
    simpa using h3
  | (k', v') :: es, _, i + 1, h => by
    simp only [MapR] at h
    obtain ⟨e', E', rfl, h1, h2, h3⟩ := h
    simp only [List.eraseIdx_cons_succ, MapR]
    exact ⟨_, _, rfl, h1, h2, MapR.erase h3⟩
theorem plains_get : ∀ {vs : List AV} {xs : List Value} {i : Nat} {v : AV}, plains vs = some xs → vs[i]? = some v → ∃ x, xs[i]? = some x ∧ plain v = some x
  | [], _, _, _, _, h => by simp at h
  | u :: vs, xs, i, v, hp, h => by
    simp only [plains, Option.bind_eq_some_iff, Option.map_eq_some_iff] at hp
    obtain ⟨y, h1, l, h2, rfl⟩ := hp
    cases i with
    | zero => simp at h; subst h; exact ⟨y, rfl, h1⟩
    | succ i =>
      obtain ⟨x, a, b⟩ := plains_get h2 (show vs[i]? = some v by simpa using h)
      exact ⟨x, by simpa using a, b⟩
theorem plains_get' : ∀ {vs : List AV} {xs : List Value} {i : Nat} {x : Value}, plains vs = some xs → xs[i]? = some x → ∃ v, vs[i]? = some v ∧ plain v = some x
  | [], xs, _, _, hp, h => by simp only [plains, Option.some.injEq] at hp; subst hp; simp at h
  | u :: vs, xs, i, x, hp, h => by
    simp only [plains, Option.bind_eq_some_iff, Option.map_eq_some_iff] at hp
    obtain ⟨y, h1, l, h2, rfl⟩ := hp
    cases i with
    | zero => simp at h; subst h; exact ⟨u, rfl, h1⟩
    | succ i =>
      obtain ⟨v, a, b⟩ := plains_get' h2 (show l[i]? = some x by simpa using h)
      exact ⟨v, by simpa using a, b⟩

theorem erase_perm {α : Type} : ∀ {l : List α} {i : Nat} {x : α}, l[i]? = some x → l.Perm (x :: l.eraseIdx i)
  | [], _, _, h => by simp at h
  | a :: l, 0, x, h => by simp at h; subst h; exact .refl _
  | a :: l, i + 1, x, h => by
    simp only [List.getElem?_cons_succ] at h
    simp only [List.eraseIdx_cons_succ]
    exact ((erase_perm h).cons a).trans (.swap x a _)
theorem set_perm {α : Type} : ∀ {l : List α} {i : Nat} {y : α}, i < l.length → (l.set i y).Perm (y :: l.eraseIdx i)
  | [], _, _, h => by simp at h
  | a :: l, 0, y, h => .refl _
  | a :: l, i + 1, y, h => by
    simp only [List.set_cons_succ, List.eraseIdx_cons_succ]
    exact ((set_perm (by simpa using h)).cons a).trans (.swap y a _)

theorem two_le_count {α : Type} [BEq α] [LawfulBEq α] {l : List α} {i j : Nat} {a : α} (hi : l[i]? = some a) (hj : l[j]? = some a) (h : i ≠ j) : 2 ≤ l.count a := by
  rw [(erase_perm hi).count_eq, List.count_cons_self]
  have : a ∈ l.eraseIdx i := by
    rw [List.mem_eraseIdx_iff_getElem?]
    exact ⟨j, Ne.symm h, hj⟩
  have := List.count_pos_iff.2 this
  omega
theorem count_one {α : Type} [BEq α] [LawfulBEq α] {l : List α} {i : Nat} {a : α} (hi : l[i]? = some a) (h : ∀ j, l[j]? = some a → j = i) : l.count a = 1 := by
  rw [(erase_perm hi).count_eq, List.count_cons_self]
  have : (l.eraseIdx i).count a = 0 := by
    rw [List.count_eq_zero, List.mem_eraseIdx_iff_getElem?]
    rintro ⟨j, hj, he⟩
    exact hj (h j he)
  omega
/-- Where a key stands in the model's map: at the entry that the abstract map has. -/
theorem find_perm {kt : TypeId} {d : TypeDesc} (hd : pureRun P (underlying kt) = some d) {k : Value} {es es' : List (AV × AV)} {E : List MapEntry} {ks : List Value} {r : Option Nat} (hp : es'.Perm es) (hm : MapR σ es' E)
    (hks : plains (es.map (·.1)) = some ks) (h : findU P kt k ks 0 = some r) :
    match r with
    | none => pureRun P (Instr.findKey kt k E) = some none
    | some i => ∃ i' p e, es[i]? = some p ∧ es'[i']? = some p ∧ E[i']? = some e ∧ VR σ p.1 e.key ∧ VR σ p.2 e.val ∧ plain p.1 = some e.key ∧ pureRun P (Instr.findKey kt k E) = some (some (i', e.val)) := by
  have key : ∀ (i' : Nat) (e : MapEntry), E[i']? = some e → ∃ (p : AV × AV) (i : Nat), es'[i']? = some p ∧ es[i]? = some p ∧ ks[i]? = some e.key ∧ VR σ p.1 e.key ∧ VR σ p.2 e.val ∧ plain p.1 = some e.key := by
    intro i' e he
    have hlen := hm.length
    have hlt : i' < es'.length := by
      have := (List.getElem?_eq_some_iff.1 he).1; omega
    have hp' := List.getElem?_eq_getElem hlt
    obtain ⟨e2, h1, h2, h3⟩ := hm.at_ hp'
    rw [he] at h1; injection h1 with h1; subst h1
    have hmem : es'[i'] ∈ es := hp.mem_iff.1 (List.getElem_mem hlt)
    obtain ⟨i, hi, hie⟩ := List.mem_iff_getElem.1 hmem
    have hi' : es[i]? = some es'[i'] := by rw [List.getElem?_eq_getElem hi, hie]
    obtain ⟨x, hx1, hx2⟩ := plains_get hks (show (es.map (·.1))[i]? = some es'[i'].1 by rw [List.getElem?_map, hi']; rfl)
    have := plain_eq hx2 h2
    subst this
    exact ⟨es'[i'], i, hp', hi', hx1, h2, h3, hx2⟩
  cases r with
  | none =>
    simp only
    refine findKey_of hd (findAsking_of E 0 fun e he => ?_)
    obtain ⟨i', hi', rfl⟩ := List.mem_iff_getElem.1 he
    obtain ⟨p, i, _, _, hk, _⟩ := key i' _ (List.getElem?_eq_getElem hi')
    exact findU_none h _ (List.mem_of_getElem? hk)
  | some i =>
    simp only
    obtain ⟨n, x, hn, h1, h2, h3⟩ := findU_some h
    simp only [Nat.zero_add] at hn; subst hn
    obtain ⟨kv, hkv, hpl⟩ := plains_get' hks h1
    rw [List.getElem?_map, Option.map_eq_some_iff] at hkv
    obtain ⟨p, hpi, rfl⟩ := hkv
    have hmem : p ∈ es' := hp.mem_iff.2 (List.mem_of_getElem? hpi)
    obtain ⟨i', hi', hie⟩ := List.mem_iff_getElem.1 hmem
    have hp' : es'[i']? = some p := by rw [List.getElem?_eq_getElem hi', hie]
    obtain ⟨e, he, hv1, hv2⟩ := hm.at_ hp'
    have hxe := plain_eq hpl hv1
    subst hxe
    -- how often the key stands there
    have hF : ∀ (m : Nat) (q : AV × AV), es[m]? = some q → (plain q.1).bind (eqK P kt k) = some (decide (m = i)) := by
      intro m q hq
      obtain ⟨y, hy1, hy2⟩ := plains_get hks (show (es.map (·.1))[m]? = some q.1 by rw [List.getElem?_map, hq]; rfl)
      rw [hy2]
      simp only [Option.bind_some]
      by_cases hmi : m = i
      · subst hmi
        rw [h1] at hy1; injection hy1 with hy1; subst hy1
        rw [h2]; simp
      · rw [h3 m y hy1 hmi]; simp [hmi]
    have c1 : (es.map fun q => (plain q.1).bind (eqK P kt k)).count (some true) = 1 := by
      refine count_one (l := es.map fun q => (plain q.1).bind (eqK P kt k)) (i := i) (a := some true) (by rw [List.getElem?_map, hpi, Option.map_some, hF i p hpi]; simp) fun j hj => ?_
      rw [List.getElem?_map, Option.map_eq_some_iff] at hj
      obtain ⟨q, hq, hq2⟩ := hj
      rw [hF j q hq] at hq2
      simpa using hq2
    have c2 : (es'.map fun q => (plain q.1).bind (eqK P kt k)).count (some true) = 1 := by
      rw [(hp.map fun q => (plain q.1).bind (eqK P kt k)).count_eq]; exact c1
    refine ⟨i', p, e, hpi, hp', he, hv1, hv2, hpl, findKey_of hd ?_⟩
    rw [findAsking_at (P := P) (kt := kt) (k := k) E 0 i' e he h2 ?_]
    · congr 3; omega
    · intro m e' hm' hne
      obtain ⟨p2, j, q1, q2, q3, _, _, q6⟩ := key m e' hm'
      have hb := hF j p2 q2
      rw [q6] at hb
      simp only [Option.bind_some] at hb
      by_cases hj : j = i
      · exfalso
        have hb' : (plain p2.1).bind (eqK P kt k) = some true := by rw [q6]; simp only [Option.bind_some, hb, hj]; simp
        have hpb : (plain p.1).bind (eqK P kt k) = some true := by rw [hpl]; exact h2
        have := two_le_count (a := some true) (l := es'.map fun q => (plain q.1).bind (eqK P kt k)) (i := m) (j := i') (by rw [List.getElem?_map, q1, Option.map_some, hb']) (by rw [List.getElem?_map, hp', Option.map_some, hpb]) hne
        omega
      · rw [hb]; simp [hj]
end CI
