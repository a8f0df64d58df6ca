/- CI: ranging over a map: the iterator, and a round's heap. -/
import Derived.Test.YtdkicjlbfhmfkaaGreatDoorCis
import Derived.Maps.RangeRun
set_option linter.unusedVariables false
set_option linter.unusedSimpArgs false
noncomputable section
namespace CI
open Go
open Go.ChangeMaps (setBlock)

structure It where
  it : Nat
  m : Nat
  es : List (AV × AV)
  ro : Bool
  cur : Option (AV × AV)
  rest : List (AV × AV)

/-- The heap that a round may use: neither the map nor the iterator is written. -/
def under (I : Option It) (H : Heap) : Heap := match I with
  | none => H
  | some i => (H.put i.m (some (.map i.es true))).put i.it (some (.iter true))
def back (I : Option It) (H : Heap) : Heap := match I with
  | none => H
  | some i => (H.put i.m (some (.map i.es i.ro))).put i.it (some (.iter false))

structure ItR (σ : Sig) (H : Heap) (w : World) (i : It) : Prop where
  hm : H.get i.m = some (.map i.es i.ro)
  hi : H.get i.it = some (.iter false)
  rel : ∃ (lm li : Loc) (E : Array MapEntry) (clock : Nat) (seen : Array Nat) (R : List (AV × AV)), σ i.m = some lm ∧ σ i.it = some li ∧ w.heap[lm.blk]? = some (.map E clock) ∧
    w.heap[li.blk]? = some (.mapIter (some lm.blk) clock seen clock) ∧ Borns E.toList clock ∧ R.Perm i.rest ∧ MapR σ R (leftOf E seen).toList ∧
    (∀ k v, i.cur = some (k, v) → ∃ e seen', e ∈ E.toList ∧ seen = Array.push seen' e.born ∧ VR σ k e.key ∧ VR σ v e.val)
def ItO (σ : Sig) (H : Heap) (w : World) : Option It → Prop
  | none => True
  | some i => ItR σ H w i

variable {P : Program} {σ σ' : Sig} {H H' Hw : Heap} {nx nx' : Nat} {w w' : World}

theorem ItR.ne {i : It} (h : ItR σ H w i) : i.m ≠ i.it := by
  intro e
  have h1 := h.hm
  rw [e, h.hi] at h1; cases h1
theorem under_get {i : It} (h : i.m ≠ i.it) (b : Nat) : (under (some i) H).get b = if b = i.it then some (.iter true) else if b = i.m then some (.map i.es true) else H.get b := by
  simp only [under, Tr.get_put]
theorem back_get {i : It} (h : i.m ≠ i.it) (b : Nat) : (back (some i) H).get b = if b = i.it then some (.iter false) else if b = i.m then some (.map i.es i.ro) else H.get b := by
  simp only [back, Tr.get_put]

theorem under_good {I : Option It} (g : Good σ H nx w) (h : ItO σ H w I) : Good σ (under I H) nx w := by
  cases I with
  | none => exact g
  | some i =>
    have hne := ItR.ne h
    have sub : ∀ b o, (under (some i) H).get b = some o → ∃ o', H.get b = some o' ∧ (∀ l, OR σ l o' w.heap[l.blk]? → OR σ l o w.heap[l.blk]?) ∧ (o.isRo = false → o' = o) := by
      intro b o hb
      rw [under_get hne] at hb
      split at hb
      · rename_i e; subst e; injection hb with hb; subst hb
        exact ⟨_, h.hi, fun l hl => hl, fun h => by cases h⟩
      · split at hb
        · rename_i e; subst e; injection hb with hb; subst hb
          exact ⟨_, h.hm, fun l hl => hl, fun h => by cases h⟩
        · exact ⟨o, hb, fun l hl => hl, fun _ => rfl⟩
    refine ⟨⟨⟨fun b o l hb hl => ?_, fun b b' o o' l l' hb hb' hl hl' he => ?_⟩, fun b hb => ⟨(g.fresh b hb).1, ?_⟩⟩, g.glb, fun b l o hb hl hr => ?_⟩
    · obtain ⟨o', h1, h2, _⟩ := sub b o hb
      exact h2 l (g.obj b o' l h1 hl)
    · obtain ⟨o1, h1, _⟩ := sub b o hb
      obtain ⟨o2, h2, _⟩ := sub b' o' hb'
      exact g.inj b b' o1 o2 l l' h1 h2 hl hl' he
    · cases hb' : (under (some i) H).get b with
      | none => rfl
      | some o =>
        obtain ⟨o', h1, _⟩ := sub b o hb'
        rw [(g.fresh b hb).2] at h1; cases h1
    · obtain ⟨o', h1, _, h3⟩ := sub b o hb
      have := h3 hr; subst this
      exact g.apart b l o' h1 hl hr

theorem step_back {I : Option It} (g : Good σ H nx w) (h : ItO σ H w I) (s : Step σ (under I H) nx w σ' Hw nx' w') (g' : Good σ' Hw nx' w') :
    Step σ H nx w σ' (back I Hw) nx' w' ∧ Good σ' (back I Hw) nx' w' ∧ ItO σ' (back I Hw) w' I := by
  cases I with
  | none => exact ⟨s, g', trivial⟩
  | some i =>
    have hne := ItR.ne h
    obtain ⟨lm, li, E, clock, seen, R, r1, r2, r3, r4, r5, r6, r7, r8⟩ := h.rel
    have um : (under (some i) H).get i.m = some (.map i.es true) := by rw [under_get hne, if_neg hne, if_pos rfl]
    have ui : (under (some i) H).get i.it = some (.iter true) := by rw [under_get hne, if_pos rfl]
    have wm := s.ro _ _ um rfl
    have wi := s.ro _ _ ui rfl
    have lt : ∀ b o, H.get b = some o → b < nx := fun b o hb => by
      rcases Nat.lt_or_ge b nx with h | h
      · exact h
      · rw [(g.fresh b h).2] at hb; cases hb
    have s1 : σ' i.m = some lm := by rw [s.old _ (lt _ _ h.hm)]; exact r1
    have s2 : σ' i.it = some li := by rw [s.old _ (lt _ _ h.hi)]; exact r2
    have u3 : ∀ b, b ≠ i.it → b ≠ i.m → (under (some i) H).get b = H.get b := fun b h1 h2 => by rw [under_get hne, if_neg h1, if_neg h2]
    have b3 : ∀ b, b ≠ i.it → b ≠ i.m → (back (some i) Hw).get b = Hw.get b := fun b h1 h2 => by rw [back_get hne, if_neg h1, if_neg h2]
    have bm : (back (some i) Hw).get i.m = some (.map i.es i.ro) := by rw [back_get hne, if_neg hne, if_pos rfl]
    have bi : (back (some i) Hw).get i.it = some (.iter false) := by rw [back_get hne, if_pos rfl]
    have hs : Step σ H nx w σ' (back (some i) Hw) nx' w' := by
      refine ⟨s.os, s.tape, s.output, s.size, s.grow, s.old, fun b o hb hr => ?_, fun b hb hn => ?_, fun b hb hn => ?_, fun k hk hh => ?_, fun b l o hb hl hlt => ?_⟩
      · by_cases e1 : b = i.it
        · subst e1; rw [h.hi] at hb; injection hb with hb; subst hb; cases hr
        · by_cases e2 : b = i.m
          · subst e2; rw [h.hm] at hb; injection hb with hb; subst hb; exact bm
          · rw [b3 b e1 e2]; exact s.ro b o (by rw [u3 b e1 e2]; exact hb) hr
      · have e1 : b ≠ i.it := by rintro rfl; rw [h.hi] at hn; cases hn
        have e2 : b ≠ i.m := by rintro rfl; rw [h.hm] at hn; cases hn
        rw [b3 b e1 e2]; exact s.dead b hb (by rw [u3 b e1 e2]; exact hn)
      · have e1 : b ≠ i.it := by rintro rfl; rw [r2] at hn; cases hn
        have e2 : b ≠ i.m := by rintro rfl; rw [r1] at hn; cases hn
        rw [b3 b e1 e2, s.unreal b hb hn, u3 b e1 e2]
      · refine s.frame k hk fun b l o hb hl he => ?_
        by_cases e1 : b = i.it
        · subst e1; rw [ui] at hb; injection hb with hb; subst hb; rfl
        · by_cases e2 : b = i.m
          · subst e2; rw [um] at hb; injection hb with hb; subst hb; rfl
          · exact hh b l o (by rw [← u3 b e1 e2]; exact hb) hl he
      · by_cases e1 : b = i.it
        · subst e1
          rw [s2] at hl; injection hl with hl; subst hl
          exact ⟨_, _, _, h.hi, r2, rfl, .inl rfl⟩
        · by_cases e2 : b = i.m
          · subst e2
            rw [s1] at hl; injection hl with hl; subst hl
            exact ⟨_, _, _, h.hm, r1, rfl, .inr rfl⟩
          · rw [b3 b e1 e2] at hb
            obtain ⟨b0, l0, o0, q1, q2, q3, q4⟩ := s.own b l o hb hl hlt
            have f1 : b0 ≠ i.it := by
              rintro rfl
              rw [ui] at q1; injection q1 with q1; subst q1
              rcases q4 with q4 | q4
              · cases q4
              · exact e1 q4.symm
            have f2 : b0 ≠ i.m := by
              rintro rfl
              rw [um] at q1; injection q1 with q1; subst q1
              rcases q4 with q4 | q4
              · cases q4
              · exact e2 q4.symm
            exact ⟨b0, l0, o0, by rw [← u3 b0 f1 f2]; exact q1, q2, q3, q4⟩
    have sub : ∀ b o, (back (some i) Hw).get b = some o → ∃ o', Hw.get b = some o' ∧ (∀ l, OR σ' l o' w'.heap[l.blk]? → OR σ' l o w'.heap[l.blk]?) := by
      intro b o hb
      by_cases e1 : b = i.it
      · subst e1; rw [bi] at hb; injection hb with hb; subst hb; exact ⟨_, wi, fun l hl => hl⟩
      · by_cases e2 : b = i.m
        · subst e2; rw [bm] at hb; injection hb with hb; subst hb; exact ⟨_, wm, fun l hl => hl⟩
        · rw [b3 b e1 e2] at hb; exact ⟨o, hb, fun l hl => hl⟩
    refine ⟨hs, g.up hs ⟨⟨fun b o l hb hl => ?_, fun b b' o o' l l' hb hb' hl hl' he => ?_⟩, fun b hb => ⟨(g'.fresh b hb).1, ?_⟩⟩, ⟨bm, bi, lm, li, E, clock, seen, R, s1, s2, ?_, ?_, r5, r6, r7.ext (Step.ext g hs), ?_⟩⟩
    · obtain ⟨o', h1, h2⟩ := sub b o hb
      exact h2 l (g'.obj b o' l h1 hl)
    · obtain ⟨o1, h1, _⟩ := sub b o hb
      obtain ⟨o2, h2, _⟩ := sub b' o' hb'
      exact g'.inj b b' o1 o2 l l' h1 h2 hl hl' he
    · cases hb' : (back (some i) Hw).get b with
      | none => rfl
      | some o =>
        obtain ⟨o', h1, _⟩ := sub b o hb'
        rw [(g'.fresh b hb).2] at h1; cases h1
    · rw [s.frame lm.blk (Array.getElem?_eq_some_iff.1 r3).1 fun b l o hb hl he => ?_]
      · exact r3
      · have gw := under_good g h
        have : b = i.m := gw.inj b i.m o _ l lm hb um hl r1 he
        subst this
        rw [um] at hb; injection hb with hb; subst hb; rfl
    · rw [s.frame li.blk (Array.getElem?_eq_some_iff.1 r4).1 fun b l o hb hl he => ?_]
      · exact r4
      · have gw := under_good g h
        have : b = i.it := gw.inj b i.it o _ l li hb ui hl r2 he
        subst this
        rw [ui] at hb; injection hb with hb; subst hb; rfl
    · intro k v hkv
      obtain ⟨e, seen', q1, q2, q3, q4⟩ := r8 k v hkv
      exact ⟨e, seen', q1, q2, q3.ext (Step.ext g hs), q4.ext (Step.ext g hs)⟩

/-! ### range, next, entry -/
def rangeA (T : Tr TInfo) (H : Heap) (nx : Nat) (t : TypeId) (x : AV) : Option (AV × Heap × Nat × Option It) :=
  match T.get t, x with
  | some { desc := .map _ _, .. }, .map m =>
    match H.get m with
    | some (.map es ro) => some (.ptr nx 0, H.put nx (some (.iter false)), nx + 1, some ⟨nx, m, es, ro, none, es⟩)
    | _ => none
  | _, _ => none
theorem rangeA_out {T : Tr TInfo} (hT : TOK P T) (g : Good σ H nx w) {t : TypeId} {x v : AV} {y : Value} {I : Option It} (hx : VR σ x y) (h : rangeA T H nx t x = some (v, H', nx', I)) :
    ∃ z w' σ', (Instr.range t y).run P w = .ok z w' ∧ VR σ' v z ∧ Step σ H nx w σ' H' nx' w' ∧ Good σ' H' nx' w' ∧ ItO σ' H' w' I := by
  unfold rangeA at h
  split at h
  · rename_i kt et _ _ _ _ _ m hi
    split at h
    · rename_i es ro hb
      simp only [Option.some.injEq, Prod.mk.injEq] at h
      obtain ⟨rfl, rfl, rfl, rfl⟩ := h
      simp only [VR] at hx
      obtain ⟨l, hl, rfl⟩ := hx
      obtain ⟨E, clock, es', e1, e2, e3, e4⟩ := g.obj m _ l hb hl
      have hmn : m < nx := by
        rcases Nat.lt_or_ge m nx with h | h
        · exact h
        · rw [(g.fresh m h).2] at hb; cases hb
      have hlt := g.toSim.lt hb hl
      have hal := alloc_step (w' := { w with heap := w.heap.push (.mapIter (some l.blk) clock #[] clock) }) g (o := .iter false) (O := .mapIter (some l.blk) clock #[] clock) (room := 0) rfl rfl rfl rfl ⟨_, _, _, _, rfl⟩
      refine ⟨.pointer (some ⟨w.heap.size, 0, none⟩), _, _, ?_, ?_, hal.1, hal.2, ?_⟩
      · unfold Instr.range
        rw [run_bind_ok (run_under (hT _ _ hi).under w)]
        simp only
        rw [run_bind_ok (run_getObj e1)]
        rfl
      · simp only [VR]
        exact ⟨_, Sig.upd_same _ _ _, rfl⟩
      · refine ⟨by rw [Tr.get_put_ne _ _ _ _ (by simp only; omega)]; exact hb, Tr.get_put_same _ _ _, l, _, E, clock, #[], es', by rw [Sig.upd_ne _ _ _ (by simp only; omega)]; exact hl, Sig.upd_same _ _ _, ?_, ?_, e4, e2, ?_, by simp⟩
        · rw [← e1]; simp [Array.getElem?_push, Nat.ne_of_lt hlt]
        · simp
        · have : leftOf E #[] = E := by simp [leftOf]
          rw [this]
          exact e3.ext (Sig.upd_ext _ _ _ (g.fresh nx (Nat.le_refl _)).1)
    · cases h
  · cases h

theorem filter_erase : ∀ {L : List MapEntry} {j : Nat} {e : MapEntry}, (L.map (·.born)).Nodup → L[j]? = some e → L.filter (fun x => x.born != e.born) = L.eraseIdx j
  | [], _, _, _, h => by simp at h
  | a :: L, 0, e, hn, h => by
    simp at h; subst h
    simp only [List.map_cons, List.nodup_cons] at hn
    simp only [List.eraseIdx_zero, List.tail_cons]
    rw [List.filter_cons_of_neg (by simp), List.filter_eq_self]
    intro x hx
    simp only [bne_iff_ne, ne_eq]
    intro e
    exact hn.1 (List.mem_map.2 ⟨x, hx, e⟩)
  | a :: L, j + 1, e, hn, h => by
    simp only [List.getElem?_cons_succ] at h
    simp only [List.map_cons, List.nodup_cons] at hn
    simp only [List.eraseIdx_cons_succ]
    have hne : a.born ≠ e.born := fun he => hn.1 (List.mem_map.2 ⟨e, List.mem_of_getElem? h, he.symm⟩)
    rw [List.filter_cons_of_pos (by simpa using hne), filter_erase hn.2 h]
theorem leftOf_push {E : Array MapEntry} {seen : Array Nat} {b : Nat} : (leftOf E (seen.push b)).toList = (leftOf E seen).toList.filter (fun x => x.born != b) := by
  unfold leftOf
  rw [Array.toList_filter, Array.toList_filter, List.filter_filter]
  congr 1
  funext x
  rw [Array.contains_push]
  cases h1 : seen.contains x.born <;> cases h2 : x.born == b <;> simp [bne, h1, h2]

def nextA (i : It) : List (AV × It) := i.rest.zipIdx.map fun (p, j) => (.tuple [.lit (.bool true), p.1, p.2], { i with cur := some p, rest := i.rest.eraseIdx j })
end CI
