/- The interpreter's first memory, out of the world: all that stands there, to be read only. -/
import Derived.Test.YtbdlpeldglggkaaGreatDoorCk
set_option linter.unusedVariables false
set_option linter.unusedSimpArgs false
noncomputable section
namespace CI
open Go

/-- A value of the world, as the interpreter sees it; e: how many cells an element of a slice takes. -/
def absC (w : World) (e : Nat) : Value → AV
  | .slice (some a) n c =>
    match w.heap[a.block]? with
    | some (.cells C _ _) => if a.spot = none ∧ n ≤ c ∧ a.off + c * e ≤ C.size then .slice a.block a.off n (some c) e else if n = 0 then .eslice else .lit (.slice (some a) n c)
    | _ => if n = 0 then .eslice else .lit (.slice (some a) n c)
  | v => .lit v
def absO (w : World) (e : Nat) (b : Nat) : Option AObj :=
  match w.heap[b]? with
  | some (.cells C t _) => some (.cells (C.toList.map (absC w e)) t true)
  | _ => none
def absS (w : World) : Sig := fun b =>
  match w.heap[b]? with
  | some (.cells C t _) => some ⟨b, C.size⟩
  | _ => none
def absH (w : World) (e : Nat) : Heap := (List.range w.heap.size).foldl (fun (T : Heap) b => T.put b (absO w e b)) Tr.nil
theorem fold_put {α : Type} (f : Nat → Option α) : ∀ (n : Nat) (j : Nat), ((List.range n).foldl (fun (T : Tr α) b => T.put b (f b)) Tr.nil).get j = if j < n then f j else none
  | 0, j => by simp [Tr.get_nil]
  | n + 1, j => by
    rw [List.range_succ, List.foldl_append, List.foldl_cons, List.foldl_nil, Tr.get_put, fold_put f n j]
    by_cases h : j = n
    · subst h; rw [if_pos rfl, if_pos (by omega)]
    · rw [if_neg h]
      by_cases h2 : j < n
      · rw [if_pos h2, if_pos (by omega)]
      · rw [if_neg h2, if_neg (by omega)]
theorem absH_get (w : World) (e j : Nat) : (absH w e).get j = absO w e j := by
  unfold absH
  rw [fold_put]
  split
  · rfl
  · rename_i h
    unfold absO
    rw [Array.getElem?_eq_none (by omega)]
theorem absC_VR (w : World) (e : Nat) (v : Value) : VR (absS w) (absC w e v) v := by
  unfold absC
  split
  · rename_i a n c
    split
    · rename_i C t fz hb
      split
      · rename_i hc
        obtain ⟨h0, h1, h2⟩ := hc
        simp only [VR]
        refine ⟨⟨a.block, C.size⟩, c, ?_, ?_, ?_⟩
        · simp only [absS, hb]
        · cases a; simp only at h0; subst h0; simp [Loc.base_eq]
        · exact ⟨h1, by simpa [Loc.base_eq] using h2, rfl⟩
      · split
        · rename_i hn; subst hn; simp only [VR]; exact ⟨_, _, rfl⟩
        · simp only [VR]
    · split
      · rename_i hn; subst hn; simp only [VR]; exact ⟨_, _, rfl⟩
      · simp only [VR]
  · simp only [VR]
theorem good_abs {w : World} (hg : Glb w) (e : Nat) : Good (absS w) (absH w e) w.heap.size w where
  obj := fun b o l hb hl => by
    rw [absH_get] at hb
    unfold absO at hb
    unfold absS at hl
    split at hb
    · rename_i C t fz hC
      rw [hC] at hl
      simp only [Option.some.injEq] at hl hb
      subst hl; subst hb
      refine ⟨C, fz, by rw [hC], rfl, by simp [Loc.base_eq], ?_, by simp⟩
      intro i v hv
      simp only [List.getElem?_map, Option.map_eq_some_iff] at hv
      obtain ⟨x, hx, rfl⟩ := hv
      refine ⟨x, ?_, absC_VR w e x⟩
      simpa [← Array.getElem?_toList, Loc.base_eq] using hx
    · cases hb
  inj := fun b b' o o' l l' hb hb' hl hl' h => by
    unfold absS at hl hl'
    split at hl <;> simp only [Option.some.injEq, reduceCtorEq] at hl
    split at hl' <;> simp only [Option.some.injEq, reduceCtorEq] at hl'
    subst hl; subst hl'; exact h
  fresh := fun b hb => by
    rw [absH_get]
    unfold absS absO
    rw [Array.getElem?_eq_none hb]
    exact ⟨rfl, rfl⟩
  glb := hg
  apart := fun b l o h _ hr => by
    rw [absH_get] at h
    unfold absO at h
    split at h
    · injection h with h; subst h; cases hr
    · cases h
theorem ro_abs (w : World) (e : Nat) : ∀ b o, (absH w e).get b = some o → o.isRo = true := fun b o h => by
  rw [absH_get] at h
  unfold absO at h
  split at h
  · injection h with h; subst h; rfl
  · cases h
end CI
