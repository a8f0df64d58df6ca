/- A slice of integers that came in, as the interpreter sees it. -/
import Derived.Test.YtlejcpkedahphaaCm
import Derived.Test.YtlejcpkedahphaaNe
set_option linter.unusedVariables false
set_option linter.unusedSimpArgs false
namespace CI
open Go
theorem absC_lit (w : World) (e : Nat) (k : IntKind) (n : Int) : absC w e (.int k n) = .lit (.int k n) := rfl
theorem ints_of {w : World} {a : Option Addr} {len cap : Nat} {zs : List Int}
    (h : (a = none ∧ len = 0 ∧ cap = 0 ∧ zs = []) ∨ ∃ x, a = some x ∧ len ≤ cap ∧ cap ≤ maxLen ∧ zs.length = cap ∧ (∀ i, i < zs.length → w.cell? (x.add i) = some (.int .i64 (zs.getD i 0))) ∧ ∀ n ∈ zs, (Lit.int .i64 n).wf = true) :
    Ints (absH w 1) (absC w 1 (.slice a len cap)) (zs.take len) := by
  rcases h with ⟨rfl, rfl, rfl, rfl⟩ | ⟨x, rfl, hl, hm, hz, hc, hw⟩
  · exact ⟨by simp, by simp, .inr ⟨.inr rfl, rfl⟩⟩
  · have hI : ∀ y ∈ zs.take len, I64 y := fun y hy => i64_of (hw y (List.mem_of_mem_take hy))
    have hlen : (zs.take len).length = len := by rw [List.length_take]; omega
    have hb : len < 9223372036854775808 := by
      have e : maxLen = 9223372036854775807 := rfl
      omega
    refine ⟨hI, by omega, ?_⟩
    rcases Nat.eq_zero_or_pos len with h0 | hpos
    · subst h0
      simp only [absC]
      split
      · split
        · rename_i C t fz hB hcond
          refine .inl ⟨x.block, x.off, some cap, C.toList.map (absC w 1), t, true, by simp, ?_, by simp⟩
          rw [absH_get]; simp only [absO, hB]
        · exact .inr ⟨.inl (by simp), by simp⟩
      · exact .inr ⟨.inl (by simp), by simp⟩
    · have h0 := hc 0 (by omega)
      have hx0 : x.add 0 = x := by simp [Addr.add]
      rw [hx0] at h0
      obtain ⟨C, t, fz, hB, hs0⟩ : ∃ C t fz, w.heap[x.block]? = some (.cells C t fz) ∧ x.spot = none := by
        unfold World.cell? at h0
        split at h0
        · rename_i C t fz hB
          refine ⟨C, t, fz, hB, ?_⟩
          cases hh : x.spot with
          | none => rfl
          | some _ => simp [hh] at h0
        · cases h0
      have hadd : ∀ i, x.add i = ⟨x.block, x.off + i, none⟩ := by
        intro i
        unfold Addr.add
        split
        · rename_i hi; subst hi; cases x; simp only at hs0; subst hs0; simp
        · rfl
      have hcell : ∀ i, i < zs.length → C[x.off + i]? = some (.int .i64 (zs.getD i 0)) := by
        intro i hi
        have := hc i hi
        rw [hadd] at this
        simpa [World.cell?, hB] using this
      have hsz : x.off + (cap - 1) < C.size := by
        have := hcell (cap - 1) (by omega)
        rcases Nat.lt_or_ge (x.off + (cap - 1)) C.size with h | h
        · exact h
        · rw [Array.getElem?_eq_none h] at this; cases this
      simp only [absC, hB]
      rw [if_pos ⟨hs0, hl, by omega⟩]
      refine .inl ⟨x.block, x.off, some cap, C.toList.map (absC w 1), t, true, by rw [hlen], ?_, ?_⟩
      · rw [absH_get]; simp only [absO, hB]
      · intro i y hi
        rw [List.getElem?_take] at hi
        split at hi
        · rename_i hlt
          have := hcell i (by omega)
          rw [List.getD_eq_getElem?_getD, hi, Option.getD_some] at this
          rw [List.getElem?_map]
          simp only [Array.getElem?_toList, this, Option.map_some, absC_lit]
        · cases hi
end CI
