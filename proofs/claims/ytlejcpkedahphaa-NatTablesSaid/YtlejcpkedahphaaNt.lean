/- A table of integers that came in, as the interpreter sees it. -/
import Derived.Test.YtlejcpkedahphaaNf
import Derived.Test.YtlejcpkedahphaaNk
import Derived.ChangeSlices
import Derived.Test.YtlejcpkedahphaaChecked
set_option linter.unusedVariables false
set_option linter.unusedSimpArgs false
namespace CI
open Go Go.Proofs
theorem intsB_of {w : World} {a : Option Addr} {len cap : Nat} {zs : List Int}
    (h : (a = none ∧ len = 0 ∧ cap = 0 ∧ zs = []) ∨ ∃ x, a = some x ∧ len ≤ cap ∧ cap ≤ maxLen ∧ zs.length = cap ∧ (∀ i, i < zs.length → w.cell? (x.add i) = some (.int .i64 (zs.getD i 0))) ∧ ∀ n ∈ zs, (Lit.int .i64 n).wf = true) :
    IntsB w.heap.size (absH w 1) (absC w 1 (.slice a len cap)) (zs.take len) := by
  refine ⟨ints_of h, ?_⟩
  cases a with
  | none =>
    rcases h with ⟨_, rfl, rfl, _⟩ | ⟨x, hx, _⟩
    · exact ⟨rfl, rfl⟩
    · cases hx
  | some x =>
    simp only [absC]
    split
    · rename_i C t fz hB
      have hlt : x.block < w.heap.size := by
        rcases Nat.lt_or_ge x.block w.heap.size with h | h
        · exact h
        · rw [Array.getElem?_eq_none h] at hB; cases hB
      split
      · exact ⟨by simp [AV.eqB], by simpa using hlt⟩
      · split
        · exact ⟨rfl, rfl⟩
        · rename_i h1 h2
          exfalso
          rcases ints_of (w := w) h with ⟨_, _, ⟨b, o, c, cs, t', ro, he, _⟩ | ⟨he | he, _⟩⟩ <;> simp only [absC, hB, if_neg h1, if_neg h2, reduceCtorEq] at he
          cases he
    · split
      · exact ⟨rfl, rfl⟩
      · rename_i hB h2
        exfalso
        rcases ints_of (w := w) h with ⟨_, _, ⟨b, o, c, cs, t', ro, he, _⟩ | ⟨he | he, _⟩⟩ <;> simp only [absC, if_neg h2] at he
        all_goals cases he
theorem choose_list {α : Type} {P : Nat → α → Prop} : ∀ n, (∀ i, i < n → ∃ x, P i x) → ∃ L : List α, L.length = n ∧ ∀ i l, L[i]? = some l → P i l
  | 0, _ => ⟨[], rfl, fun i l h => by simp at h⟩
  | n + 1, h => by
    obtain ⟨L, h1, h2⟩ := choose_list n fun i hi => h i (by omega)
    obtain ⟨x, hx⟩ := h n (by omega)
    refine ⟨L ++ [x], by simp [h1], fun i l hi => ?_⟩
    by_cases hlt : i < n
    · rw [List.getElem?_append_left (by omega)] at hi; exact h2 i l hi
    · rw [List.getElem?_append_right (by omega)] at hi
      have : i = n := by
        rcases Nat.lt_or_ge (i - L.length) 1 with h | h
        · omega
        · rw [List.getElem?_eq_none (by simpa using h)] at hi; cases hi
      subst this
      simp [h1] at hi; subst hi; exact hx
theorem cells_one {w : World} {base : Nat} {a : Addr} {cs : List Value} (h : w.cells? base a 1 = some cs) : ∃ v, cs = [v] ∧ w.cell? a = some v := by
  unfold World.cells? at h
  split at h
  · have e : a.add 0 = a := by simp [Addr.add]
    simp only [List.range_succ, List.range_zero, List.nil_append, List.mapM_cons, List.mapM_nil, e] at h
    cases hv : w.cell? a with
    | none => rw [hv] at h; simp at h
    | some v => rw [hv] at h; simp at h; exact ⟨v, h.symm, rfl⟩
  · cases h
theorem tab_of {w : World} {H : Type} {enc : TypeId × Value → H} {held : Bool} {a : Option Addr} {len cap fuel : Nat} {x : DataW H × List MemPlace}
    (h : DataW.trod enc Try.prog w 0 (fun _ => true) held fuel 31 [.slice a len cap] = some x) : ∃ L, Tab w.heap.size (absH w 1) (absC w 1 (.slice a len cap)) L := by
  rcases DataW.trod_slice Try.underlying31 h with ⟨hcs, _⟩ | ⟨b, l, c, elems, rest, n, _, hcs, _, _, hl, hm, hlen, hel, hsp, _⟩
  · simp only [List.cons.injEq, Value.slice.injEq, and_true] at hcs
    obtain ⟨rfl, rfl, rfl⟩ := hcs
    exact ⟨[], by simp, .inr ⟨.inr rfl, rfl⟩⟩
  · simp only [List.cons.injEq, Value.slice.injEq, and_true] at hcs
    obtain ⟨rfl, rfl, rfl⟩ := hcs
    have hc1 : Try.prog.cellsOf 22 = 1 := by kernel_rfl
    rw [hc1] at hel hsp
    simp only [Nat.mul_one] at hel hsp
    have helem : ∀ i, i < len → ∃ v, w.cell? (b.add i) = some v ∧ ∃ l, IntsB w.heap.size (absH w 1) (absC w 1 v) l := by
      intro i hi
      have h1 := hel i hi
      rw [List.getElem?_eq_getElem (by omega)] at h1
      simp only [Option.bind_eq_some_iff] at h1
      obtain ⟨cs, hcs, ht⟩ := h1
      obtain ⟨v, rfl, hv⟩ := cells_one hcs
      refine ⟨v, hv, ?_⟩
      rcases Go.ChangeShapes.open_ints Try.underlying22 Try.underlying3 (by kernel_rfl) ht with ⟨hcs, _⟩ | ⟨y, l, c, zs, hcs, _, hl, hm, hz, _, hcell, hwz⟩
      · simp only [List.cons.injEq, and_true] at hcs; subst hcs
        exact ⟨[], intsB_of (zs := []) (.inl ⟨rfl, rfl, rfl, rfl⟩)⟩
      · simp only [List.cons.injEq, and_true] at hcs; subst hcs
        exact ⟨_, intsB_of (.inr ⟨y, rfl, hl, hm, by simpa using hz, hcell, hwz⟩)⟩
    have hcap : ∀ i, i < cap → ∃ v, w.cell? (b.add i) = some v := by
      intro i hi
      by_cases hlt : i < len
      · obtain ⟨v, hv, _⟩ := helem i hlt; exact ⟨v, hv⟩
      · obtain ⟨h1, h2⟩ := hsp trivial
        have h3 := h2 (i - len) (by omega)
        rw [List.getElem?_eq_getElem (by omega), show len + (i - len) = i by omega] at h3
        simp only [Option.bind_eq_some_iff] at h3
        obtain ⟨cs, hcs, ht⟩ := h3
        obtain ⟨v, rfl, hv⟩ := cells_one hcs
        exact ⟨v, hv⟩
    obtain ⟨L, hL1, hL2⟩ := choose_list (P := fun i l => ∃ v, w.cell? (b.add i) = some v ∧ IntsB w.heap.size (absH w 1) (absC w 1 v) l) len
      (fun i hi => by obtain ⟨v, h1, l, h2⟩ := helem i hi; exact ⟨l, v, h1, h2⟩)
    have hb : L.length < 9223372036854775808 := by
      have e : maxLen = 9223372036854775807 := rfl
      omega
    refine ⟨L, hb, ?_⟩
    rcases Nat.eq_zero_or_pos len with h0 | hpos
    · subst h0
      have hL0 : L = [] := List.length_eq_zero_iff.1 hL1
      subst hL0
      simp only [absC]
      split
      · split
        · rename_i C t fz hB hcond
          have hlt : b.block < w.heap.size := by
            rcases Nat.lt_or_ge b.block w.heap.size with h | h
            · exact h
            · rw [Array.getElem?_eq_none h] at hB; cases hB
          refine .inl ⟨b.block, b.off, some cap, C.toList.map (absC w 1), t, true, by simp, hlt, ?_, by simp⟩
          rw [absH_get]; simp only [absO, hB]
        · exact .inr ⟨.inl (by simp), trivial⟩
      · exact .inr ⟨.inl (by simp), trivial⟩
    · obtain ⟨v0, h0⟩ := hcap 0 (by omega)
      have hx0 : b.add 0 = b := by simp [Addr.add]
      rw [hx0] at h0
      obtain ⟨C, t, fz, hB, hs0⟩ : ∃ C t fz, w.heap[b.block]? = some (.cells C t fz) ∧ b.spot = none := by
        unfold World.cell? at h0
        split at h0
        · rename_i C t fz hB
          refine ⟨C, t, fz, hB, ?_⟩
          cases hh : b.spot with
          | none => rfl
          | some _ => simp [hh] at h0
        · cases h0
      have hlt : b.block < w.heap.size := by
        rcases Nat.lt_or_ge b.block w.heap.size with h | h
        · exact h
        · rw [Array.getElem?_eq_none h] at hB; cases hB
      have hadd : ∀ i, b.add i = ⟨b.block, b.off + i, none⟩ := by
        intro i
        unfold Addr.add
        split
        · rename_i hi; subst hi; cases b; simp only at hs0; subst hs0; simp
        · rfl
      have hcell : ∀ i, w.cell? (b.add i) = C[b.off + i]? := by
        intro i
        rw [hadd]
        simp [World.cell?, hB]
      have hsz : b.off + (cap - 1) < C.size := by
        obtain ⟨v, hv⟩ := hcap (cap - 1) (by omega)
        rw [hcell] at hv
        rcases Nat.lt_or_ge (b.off + (cap - 1)) C.size with h | h
        · exact h
        · rw [Array.getElem?_eq_none h] at hv; cases hv
      simp only [absC, hB]
      rw [if_pos ⟨hs0, hl, by omega⟩]
      refine .inl ⟨b.block, b.off, some cap, C.toList.map (absC w 1), t, true, by rw [hL1], hlt, ?_, ?_⟩
      · rw [absH_get]; simp only [absO, hB]
      · intro i l hi
        obtain ⟨v, h1, h2⟩ := hL2 i l hi
        rw [hcell] at h1
        exact ⟨absC w 1 v, by rw [List.getElem?_map]; simp only [Array.getElem?_toList, h1, Option.map_some], h2⟩
end CI
