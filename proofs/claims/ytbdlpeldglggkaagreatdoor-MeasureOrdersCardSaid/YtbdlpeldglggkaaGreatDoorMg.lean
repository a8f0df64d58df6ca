/- The row's slice as the interpreter sees it, and what its listed variable gives. -/
import Derived.Test.YtbdlpeldglggkaaGreatDoorCm
import Derived.Test.YtbdlpeldglggkaaGreatDoorMz
import Derived.Test.YtbdlpeldglggkaaGreatDoorRows
import Derived.Stop.LaidErr
import Derived.Lib.LaidTab
import Derived.MakeChecks
set_option linter.unusedVariables false
set_option linter.unusedSimpArgs false
namespace CI
open Go
theorem absC_lit (w : World) (e : Nat) (k : IntKind) (n : Int) : absC w e (.int k n) = .lit (.int k n) := rfl
theorem ints_of {w : World} {a : Option Addr} {len cap : Nat} {zs : List Int}
    (h : (a = none ∧ len = 0 ∧ cap = 0 ∧ zs = []) ∨ ∃ x, a = some x ∧ len ≤ cap ∧ cap ≤ maxLen ∧ zs.length = cap ∧ (∀ i, i < zs.length → w.cell? (x.add i) = some (.int .i64 (zs.getD i 0))) ∧ ∀ n ∈ zs, (Lit.int .i64 n).wf = true) :
    IB w.heap.size (absH w 1) (absC w 1 (.slice a len cap)) (zs.take len) := by
  rcases h with ⟨rfl, rfl, rfl, rfl⟩ | ⟨x, rfl, hl, hm, hz, hc, hw⟩
  · exact ⟨by simp, by simp, .inr ⟨.inr rfl, rfl⟩⟩
  · have hI : ∀ y ∈ zs.take len, I64 y := fun y hy => i64_of (hw y (List.mem_of_mem_take hy))
    have hlen : (zs.take len).length = len := by rw [List.length_take]; omega
    have hb : len < 9223372036854775808 := by
      have e : maxLen = 9223372036854775807 := rfl
      omega
    refine ⟨hI, by omega, ?_⟩
    rcases Nat.eq_zero_or_pos len with h0 | hpos
    · subst h0
      simp only [absC]
      split
      · split
        · rename_i C t fz hB hcond
          refine .inl ⟨x.block, x.off, some cap, C.toList.map (absC w 1), t, true, by simp, (Array.getElem?_eq_some_iff.1 hB).1, ?_, by simp⟩
          rw [absH_get]; simp only [absO, hB]
        · exact .inr ⟨.inl (by simp), by simp⟩
      · exact .inr ⟨.inl (by simp), by simp⟩
    · have h0 := hc 0 (by omega)
      have hx0 : x.add 0 = x := by simp [Addr.add]
      rw [hx0] at h0
      obtain ⟨C, t, fz, hB, hs0⟩ : ∃ C t fz, w.heap[x.block]? = some (.cells C t fz) ∧ x.spot = none := by
        unfold World.cell? at h0
        split at h0
        · rename_i C t fz hB
          refine ⟨C, t, fz, hB, ?_⟩
          cases hh : x.spot with
          | none => rfl
          | some _ => simp [hh] at h0
        · cases h0
      have hadd : ∀ i, x.add i = ⟨x.block, x.off + i, none⟩ := by
        intro i
        unfold Addr.add
        split
        · rename_i hi; subst hi; cases x; simp only at hs0; subst hs0; simp
        · rfl
      have hcell : ∀ i, i < zs.length → C[x.off + i]? = some (.int .i64 (zs.getD i 0)) := by
        intro i hi
        have := hc i hi
        rw [hadd] at this
        simpa [World.cell?, hB] using this
      have hsz : x.off + (cap - 1) < C.size := by
        have := hcell (cap - 1) (by omega)
        rcases Nat.lt_or_ge (x.off + (cap - 1)) C.size with h | h
        · exact h
        · rw [Array.getElem?_eq_none h] at this; cases this
      simp only [absC, hB]
      rw [if_pos ⟨hs0, hl, by omega⟩]
      refine .inl ⟨x.block, x.off, some cap, C.toList.map (absC w 1), t, true, by rw [hlen], (Array.getElem?_eq_some_iff.1 hB).1, ?_, ?_⟩
      · rw [absH_get]; simp only [absO, hB]
      · intro i y hi
        rw [List.getElem?_take] at hi
        split at hi
        · rename_i hlt
          have := hcell i (by omega)
          rw [List.getD_eq_getElem?_getD, hi, Option.getD_some] at this
          rw [List.getElem?_map]
          simp only [Array.getElem?_toList, this, Option.map_some, absC_lit, intA]
        · cases hi
end CI
namespace Go.Proofs.YtbdlpeldglggkaaGreatDoor.measureOrders
open Go.RowKit Go.ChangeShapes
theorem var_heap {P : Program} {W : World} {n : String} {g : Nat} {cs : Array Value} (hg : P.globalNamed n = some g) (h : W.var? P n = some cs) : ∃ t fz, W.heap[g]? = some (.cells cs t fz) := by
  unfold World.var? at h
  rw [hg] at h
  simp only [Option.bind_some] at h
  split at h
  · rename_i cs' t fz e
    injection h with h
    subst h
    exact ⟨t, fz, e⟩
  · cases h
def tab64 : List Int := [0, 1, 56, 2, 57, 49, 28, 3, 61, 58, 42, 50, 38, 29, 17, 4, 62, 47, 59, 36, 45, 43, 51, 22, 53, 39, 33, 30, 24, 18, 12, 5, 63, 55, 48, 27, 60, 41, 37, 16, 46, 35, 44, 21, 52, 32, 23, 11, 54, 26, 40, 15, 34, 20, 31, 10, 25, 14, 19, 9, 13, 8, 7, 6]
theorem gT : Tryz.prog.globalNamed "math/bits.deBruijn64tab" = some 3 := by kernel_rfl
theorem gTt : (Tryz.prog.globals[3]?).map (·.type) = some 206 := by kernel_rfl
theorem glb {W : World} (h : laidMetH Tryz.prog Rows.measureOrdersRow.laid W) : CI.Glb W := by
  rw [MakeChecks.laidMetH_plain _ _ _ (by kernel_rfl)] at h
  have hlaid : Rows.measureOrdersRow.laid = [("math/bits.deBruijn64tab", Lib.tabData .u8 tab64)] := by kernel_rfl
  rw [hlaid] at h
  have hT : Lib.TabIs Tryz.prog W "math/bits.deBruijn64tab" .u8 tab64 :=
    Lib.tabIs_of_head (n := 64) gT gTt Tryz.underlying206 Tryz.underlying5 (by kernel_rfl) (by kernel_rfl) h
  intro g q hq
  unfold CI.GL CI.GC at hq
  by_cases h3 : g = 3
  · subst h3
    rw [if_pos rfl] at hq
    injection hq with hq
    subst hq
    obtain ⟨t, fz, e⟩ := var_heap gT hT
    refine ⟨_, t, fz, e, ?_⟩
    have h1 : CI.gl3 = tab64.map fun z => Value.int .u8 z := by kernel_rfl
    rw [h1]
  · rw [if_neg h3] at hq
    have e1 : CI.GI g = false := rfl
    simp only [e1] at hq
    cases hq
end Go.Proofs.YtbdlpeldglggkaaGreatDoor.measureOrders
