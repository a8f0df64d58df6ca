/- nat, walked: tables of numbers, and Matrix. -/
import Derived.Test.YtlejcpkedahphaaNg
set_option linter.unusedVariables false
set_option linter.unusedSimpArgs false
namespace CI
open Go
/-- What stood there stands there still. -/
def Fr (n : Nat) (H H' : Heap) : Prop := ∀ b, b < n → H'.get b = H.get b
theorem Fr.refl (n : Nat) (H : Heap) : Fr n H H := fun _ _ => rfl
theorem Fr.trans {n : Nat} {H H' H'' : Heap} (h : Fr n H H') (k : Fr n H' H'') : Fr n H H'' := fun b hb => (k b hb).trans (h b hb)
theorem Fr.put {n : Nat} {H H' : Heap} (h : Fr n H H') {b : Nat} (hb : n ≤ b) (o : Option AObj) : Fr n H (H'.put b o) := fun c hc => by
  rw [Tr.get_put_ne _ _ _ _ (by omega)]; exact h c hc
theorem AV.belowB_mono {n m : Nat} (h : n ≤ m) {v : AV} (hv : (match v with | .slice b _ _ _ _ => decide (b < n) | .eslice => true | .lit _ => true | _ => false) = true) : AV.belowB m v = true := by
  cases v <;> simp only [Bool.false_eq_true, decide_eq_true_eq] at hv <;> simp only [AV.belowB, decide_eq_true_eq]
  omega
/-- A slice of integers below a block. -/
def IntsB (n : Nat) (H : Heap) (s : AV) (l : List Int) : Prop :=
  Ints H s l ∧ AV.eqB s s = true ∧ (match s with | .slice b _ _ _ _ => decide (b < n) | .eslice => true | .lit _ => true | _ => false) = true
theorem IntsB.below {n m : Nat} {H : Heap} {s : AV} {l : List Int} (h : IntsB n H s l) (hm : n ≤ m) : AV.belowB m s = true := AV.belowB_mono hm h.2.2
theorem IntsB.fr {n : Nat} {H H' : Heap} {s : AV} {l : List Int} (h : IntsB n H s l) (f : Fr n H H') : IntsB n H' s l := by
  obtain ⟨⟨h1, h2, h3⟩, h4, h5⟩ := h
  refine ⟨⟨h1, h2, ?_⟩, h4, h5⟩
  rcases h3 with ⟨b, o, c, cs, t, ro, rfl, hb, hc⟩ | h3
  · simp only [decide_eq_true_eq] at h5
    exact .inl ⟨b, o, c, cs, t, ro, rfl, by rw [f b h5]; exact hb, hc⟩
  · exact .inr h3
theorem intsB_mk {n b o len : Nat} {c : Option Nat} {H : Heap} {l : List Int} (hb : b < n) (h : Ints H (.slice b o len c 1) l) : IntsB n H (.slice b o len c 1) l :=
  ⟨h, by simp [AV.eqB], by simpa using hb⟩
/-- A table: a slice of slices of integers. -/
def Tab (n : Nat) (H : Heap) (s : AV) (L : List (List Int)) : Prop :=
  L.length < 9223372036854775808 ∧ ((∃ b o c cs t ro, s = .slice b o L.length c 1 ∧ b < n ∧ H.get b = some (.cells cs t ro) ∧ ∀ (i : Nat) (l : List Int), L[i]? = some l → ∃ r, cs[o + i]? = some r ∧ IntsB n H r l) ∨ ((s = .eslice ∨ s = .lit (.slice none 0 0)) ∧ L = []))
theorem Tab.fr {n : Nat} {H H' : Heap} {s : AV} {L : List (List Int)} (h : Tab n H s L) (f : Fr n H H') : Tab n H' s L := by
  obtain ⟨h1, h2⟩ := h
  refine ⟨h1, ?_⟩
  rcases h2 with ⟨b, o, c, cs, t, ro, rfl, hb, hg, hc⟩ | h2
  · refine .inl ⟨b, o, c, cs, t, ro, rfl, hb, by rw [f b hb]; exact hg, fun i l hi => ?_⟩
    obtain ⟨r, hr, hl⟩ := hc i l hi
    exact ⟨r, hr, hl.fr f⟩
  · exact .inr h2
namespace Seat
variable {H : Heap} {nx nx' : Nat}
theorem T31 : cx.T.get 31 = some ti31 := by kernel_rfl
theorem tab_len {n : Nat} {s : AV} {L : List (List Int)} (h : Tab n H s L) {H' : Heap} : lenOp cx.T H' 31 s = some L.length := by
  unfold lenOp
  rw [T31]
  obtain ⟨_, ⟨b, o, c, cs, t, ro, rfl, _⟩ | ⟨rfl | rfl, rfl⟩⟩ := h <;> rfl
theorem load_at {T : Tr TInfo} {t : TypeId} {i : TInfo} (hT : T.get t = some i) (ha : i.agg = false) {b o : Nat} {cs : List AV} {t' : TypeId} {ro : Bool} {v : AV} (hb : H.get b = some (.cells cs t' ro)) (hc : cs[o]? = some v) :
    loadOp T H t (.ptr b o) = some v := by
  unfold loadOp
  simp only [hT, hb, ha]
  have : o < cs.length := (List.getElem?_eq_some_iff.1 hc).1
  rw [if_neg (by simp)]
  simp only [cut]
  rw [if_pos (by omega)]
  simp [hc]
theorem tab_at {n : Nat} {s : AV} {L : List (List Int)} (h : Tab n H s L) {i : Nat} {l : List Int} (hi : L[i]? = some l) : ∃ p r, indexAddrOp cx.T 31 s (.lit (.int .i64 i)) = some p ∧ loadOp cx.T H 22 p = some r ∧ IntsB n H r l := by
  have hlt : i < L.length := (List.getElem?_eq_some_iff.1 hi).1
  obtain ⟨_, ⟨b, o, c, cs, t, ro, rfl, hb, hg, hc⟩ | ⟨_, rfl⟩⟩ := h
  · obtain ⟨r, hr, hl⟩ := hc i l hi
    refine ⟨.ptr b (o + i), r, ?_, load_at T22 rfl hg hr, hl⟩
    unfold indexAddrOp
    simp only [T31, ti31, T22, ti22]
    rw [if_pos ⟨by omega, by omega, trivial⟩]
    simp
  · simp at hi
theorem zrow_rep (n : Nat) (z : AV) : zrow n [z] = List.replicate n z := by
  unfold zrow
  apply List.ext_getElem
  · simp
  · intro i h1 h2; simp [Nat.mod_one]
theorem ms31 {n : Nat} (h : n ≤ 1000) : makeSliceOp cx.T H nx 31 (.lit (.int .i64 n)) (.lit (.int .i64 n)) = some (.slice nx 0 n (some n) 1, H.put nx (some (.cells (List.replicate n (.lit (.slice none 0 0))) 22 false)), nx + 1) := by
  unfold makeSliceOp
  simp only [T31, ti31, T22, ti22]
  rw [if_pos ⟨by omega, by omega, by omega, by omega, by decide, by decide⟩, show cellsOf (abs (Value.slice none 0 0)) = [.lit (.slice none 0 0)] from rfl, zrow_rep]
  simp
theorem ms22 {n : Nat} (h : n ≤ 1000) : makeSliceOp cx.T H nx 22 (.lit (.int .i64 n)) (.lit (.int .i64 n)) = some (.slice nx 0 n (some n) 1, H.put nx (some (.cells (List.replicate n (.lit (.int .i64 0))) 3 false)), nx + 1) := by
  unfold makeSliceOp
  simp only [T22, ti22, T3, ti3]
  rw [if_pos ⟨by omega, by omega, by omega, by omega, by decide, by decide⟩, show cellsOf (abs (Value.int IntKind.i64 (Int.ofNat 0))) = [.lit (.int .i64 0)] from rfl, zrow_rep]
  simp
/-- Storing one cell. -/
theorem store_at {T : Tr TInfo} {t : TypeId} {i : TInfo} (hT : T.get t = some i) (hs : i.size = 1) {b o : Nat} {cs : List AV} {t' : TypeId} {v : AV} (hb : H.get b = some (.cells cs t' false)) (ho : o < cs.length) (hv : cellsOf v = [v]) (h1 : one v = true) :
    storeOp T H t (.ptr b o) v = some (H.put b (some (.cells (cs.set o v) t' false))) := by
  unfold storeOp
  simp only [hT, hb, hv, hs]
  rw [if_pos ⟨by simp, by simp; omega, by simp [h1]⟩]
  have : overA cs o [v] = cs.set o v := by
    apply List.ext_getElem?
    intro j
    rw [overA_get cs o [v] (by simp; omega), List.getElem?_set]
    by_cases hj : o = j
    · subst hj; simp [ho]
    · rw [if_neg (by simp; omega), if_neg hj]
  rw [this]
end Seat
end CI
