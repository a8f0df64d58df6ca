/- CI: pointers turned into unsafe.Pointer and back. -/
import Derived.Test.YtdkicjlbfhmfkaaGreatDoorCii
import Derived.Lib.Builder
set_option linter.unusedVariables false
set_option linter.unusedSimpArgs false
noncomputable section
namespace CI
open Go
variable {P : Program} {σ : Sig} {H : Heap} {nx : Nat} {w : World}

theorem rowAt_mono {fits : TypeId → Bool} {d : Nat} {e : TypeId} {c c' off n : Nat} (h : c ≤ c') (hr : rowAt P fits d e c off n = true) : rowAt P fits d e c' off n = true := by
  cases d with
  | zero => simp [rowAt] at hr
  | succ d =>
    simp only [rowAt] at hr ⊢
    split at hr
    · cases hr
    · rename_i hs
      rw [if_neg hs]
      simp only [Bool.or_eq_true, Bool.and_eq_true, decide_eq_true_eq, beq_iff_eq] at hr ⊢
      rcases hr with ⟨⟨h1, h2⟩, h3⟩ | ⟨h1, h2⟩
      · exact .inl ⟨⟨h1, by omega⟩, h3⟩
      · exact .inr ⟨by omega, h2⟩
theorem liesAt_mono : ∀ {d : Nat} {e u : TypeId} {c c' off n : Nat}, c ≤ c' → liesAt P d e c off u n = true → liesAt P d e c' off u n = true
  | 0, _, _, _, _, _, _, _, h => by simp [liesAt] at h
  | d + 1, e, u, c, c', off, n, h, hr => by
    simp only [liesAt, Bool.or_eq_true] at hr ⊢
    rcases hr with hr | hr
    · exact .inl (rowAt_mono h hr)
    · right
      split at hr
      · exact liesAt_mono h hr
      · cases hr

def convU (P : Program) (T : Tr TInfo) (H : Heap) (s d : TypeId) (x : AV) : Option AV :=
  match T.get s, T.get d, x with
  | some { desc := .pointer e, .. }, some { desc := .unsafePointer, .. }, .ptr b o =>
    match H.get b, T.get e with
    | some (.cells cs _ _), some ei => if ei.size ≠ 0 ∧ o < cs.length then some (.ptr b o) else none
    | _, _ => none
  | some { desc := .unsafePointer, .. }, some { desc := .pointer u, .. }, .ptr b o =>
    match H.get b, T.get u with
    | some (.cells cs t _), some _ => if liesAt P P.depth t (cs.length / P.cellsOf t) o u 1 = true then some (.ptr b o) else none
    | _, _ => none
  | _, _, _ => none

theorem convU_out {T : Tr TInfo} (hT : TOK P T) (g : Good σ H nx w) {s d : TypeId} {x v : AV} {xv : Value} (hx : VR σ x xv) (h : convU P T H s d x = some v) : Out P σ H nx w v H nx (convert s d xv) := by
  unfold convU at h
  split at h
  · rename_i e _ _ _ _ _ _ _ _ _ _ b o hs hd
    split at h
    · rename_i cs tb ro ei hb he
      split at h
      · rename_i hc
        injection h with h; subst h
        simp only [VR] at hx
        obtain ⟨l, hl, rfl⟩ := hx
        obtain ⟨C, fz, hC, hC1, hC2, hC3, _⟩ := g.obj b _ l hb hl
        obtain ⟨info, e1, e2, _⟩ := (hT e ei he).info
        refine ⟨_, w, σ, Lib.run_to_unsafe w _ (hT s _ hs).under (hT d _ hd).under e1 (by rw [e2]; exact hc.1) (e := tb) (cells := C.size) ?_ ?_, ?_, Step.refl, g⟩
        · simp [World.shape?, hC]
        · have := hc.2; simp only [Loc.base_eq] at hC2 ⊢; omega
        · simp only [VR]; exact ⟨l, hl, rfl⟩
      · cases h
    · cases h
  · rename_i u _ _ _ _ _ b o hs hd
    split at h
    · rename_i cs tb ro ei hb he
      split at h
      · rename_i hc
        injection h with h; subst h
        simp only [VR] at hx
        obtain ⟨l, hl, rfl⟩ := hx
        obtain ⟨C, fz, hC, hC1, hC2, hC3, _⟩ := g.obj b _ l hb hl
        obtain ⟨info, e1, e2, _⟩ := (hT _ ei he).info
        refine ⟨_, w, σ, Lib.run_from_unsafe w _ (hT s _ hs).under (hT d _ hd).under e1 (e := tb) (cells := C.size) ?_ ?_, ?_, Step.refl, g⟩
        · simp [World.shape?, hC]
        · simp only [Loc.base_eq, Nat.zero_add] at hC2 ⊢
          exact liesAt_mono (Nat.div_le_div_right (by omega)) hc
        · simp only [VR]; exact ⟨l, hl, rfl⟩
      · cases h
    · cases h
  · cases h

variable {H' : Heap} {nx' : Nat}
def convA (P : Program) (T : Tr TInfo) (H : Heap) (nx : Nat) (s d : TypeId) (x : AV) : Res :=
  match convOp P T H nx s d x with
  | some r => some r
  | none => (convU P T H s d x).map fun v => (v, H, nx)
theorem convA_out {T : Tr TInfo} (hT : TOK P T) (g : Good σ H nx w) {s d : TypeId} {x v : AV} {xv : Value} (hx : VR σ x xv) (h : convA P T H nx s d x = some (v, H', nx')) : Out P σ H nx w v H' nx' (convert s d xv) := by
  unfold convA at h
  split at h
  · rename_i r hr
    injection h with h; subst h
    exact convOp_out hT g hx hr
  · simp only [Option.map_eq_some_iff, Prod.mk.injEq] at h
    obtain ⟨u, hu, rfl, rfl, rfl⟩ := h
    exact convU_out hT g hx hu
end CI
