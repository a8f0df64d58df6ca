/- CI: a drawn region whose last operation waits for all others. -/
import Derived.Test.YtdkicjlbfhmfkaaGreatDoorCml
set_option linter.unusedVariables false
set_option linter.unusedSimpArgs false
noncomputable section
namespace CI
open Go

namespace DRun
variable {C : Cx} {call : CallF} {nt : Nat} {front : Array Oper} {s0 sN : St} {l : List DS}
variable {σ0 : Sig} {w0 : World} {S : Nat → Prop} {σ : Sig} {p : Nat} {a : Act} {w w' : World}

theorem wpOp_push {last : Oper} {Q : Exit → Act → World → Prop} {i : Nat} {o : Oper} (ho : front[i]? = some o) (hg : ∀ g b, o.guard = some (g, b) → g < front.size) {K : Act → World → Prop} {P : Program}
    (h : wpOp P front Q i K a w) : wpOp P (front.push last) Q i K a w := by
  have hi := (Array.getElem?_eq_some_iff.1 ho).1
  have ho' : (front.push last)[i]? = some o := by rw [Array.getElem?_push_lt hi, ← ho, Array.getElem?_eq_getElem hi]
  unfold wpOp at h ⊢
  rw [ho] at h; rw [ho']
  simp only at h ⊢
  have hw : Region.wanted o (yielded (front.push last) a.tmps) = Region.wanted o (yielded front a.tmps) := by
    unfold Region.wanted
    cases hgd : o.guard with
    | none => rfl
    | some gb =>
      obtain ⟨g, b⟩ := gb
      have := hg g b hgd
      simp only [yielded, Array.getElem?_push_lt this, Array.getElem?_eq_getElem this]
  rw [hw]; exact h

theorem any_last {last : Oper} (hC : C.OK) (hcall : CallOK C call) (D : DRun C call nt front s0 l sN) (g0 : Good σ0 s0.H s0.nx w0) (hs : Static (front.push last).toList)
    (hg : ∀ (i : Nat) (o : Oper), front[i]? = some o → ∀ g b, o.guard = some (g, b) → g < front.size) (hl : last.guard = none)
    (hdep : ∀ j, j < front.size → ((ancs (front.push last).toList []).getD front.size 0).testBit j = true) {Q : Exit → Act → World → Prop}
    (hq : ∀ σ' w' a', ActR σ' sN.env nt a' → Step σ0 s0.H s0.nx w0 σ' sN.H sN.nx w' → Good σ' sN.H sN.nx w' → last.wp C.P a' w' (fun a w => Q .normal a w) Q) :
    ∀ (fuel : Nat) (listed : Array Bool) (σ : Sig) (p : Nat) (a : Act) (w : World), listed.size = front.size + 1 → listed.getD front.size false = false → ((List.range (front.size + 1)).filter fun i => !listed.getD i true).length ≤ fuel →
      Inv C call nt front s0 l sN σ0 w0 (fun i => listed.getD i false = true) σ p a w → wpAny C.P .any (front.push last) Q fuel listed a w := by
  intro fuel
  have hlastat : (front.push last)[front.size]? = some last := by simp
  have hfr : ∀ i o, i < front.size → (front.push last)[i]? = some o → front[i]? = some o := fun i o hi h => by rw [Array.getElem?_push_lt hi] at h; rw [← h, Array.getElem?_eq_getElem hi]
  have hrd : ∀ (listed : Array Bool), listed.size = front.size + 1 → listed.getD front.size false = false → Region.ready .any (front.push last) listed ≠ [] := by
    intro listed hsz hn hr
    have hall : ∀ n, ∀ i, i < n → i < front.size + 1 → listed.getD i false = true := by
      intro n
      induction n with
      | zero => intro i h; omega
      | succ n ih =>
        intro i hi hs'
        by_cases h : listed.getD i false = true
        · exact h
        · exfalso
          have hlt : i < (front.push last).size := by simpa using hs'
          have ho : (front.push last)[i]? = some (front.push last)[i] := Array.getElem?_eq_getElem hlt
          have hm : i ∈ Region.ready .any (front.push last) listed := by
            rw [mem_ready]
            refine ⟨?_, _, ho, fun e he hb => ?_⟩
            · have hlt : i < listed.size := by omega
              simp only [Array.getD_eq_getD_getElem?, Array.getElem?_eq_getElem hlt, Option.getD_some] at h ⊢
              simpa using h
            · have := hs.edge i _ (by rw [Array.getElem?_toList]; exact ho) e (mem_bnds he hb)
              exact ih e.on (by omega) (by omega)
          rw [hr] at hm; cases hm
    have := hall (front.size + 1) front.size (by omega) (by omega)
    rw [hn] at this; cases this
  induction fuel with
  | zero =>
    intro listed σ p a w hsz hn hc V
    exfalso
    have : front.size ∈ (List.range (front.size + 1)).filter fun i => !listed.getD i true := by
      rw [List.mem_filter, List.mem_range]
      refine ⟨by omega, ?_⟩
      have hlt : front.size < listed.size := by omega
      simp only [Array.getD_eq_getD_getElem?, Array.getElem?_eq_getElem hlt, Option.getD_some] at hn ⊢
      simpa using hn
    have := List.length_pos_of_mem this
    omega
  | succ fuel ih =>
    intro listed σ p a w hsz hn hc V
    refine ⟨fun hr => absurd hr (hrd listed hsz hn), fun i hi => ?_⟩
    obtain ⟨h1, o, ho, hdp⟩ := mem_ready.1 hi
    have his : i < front.size + 1 := by have := (Array.getElem?_eq_some_iff.1 ho).1; simpa using this
    have hS : ¬ listed.getD i false = true := by
      have hlt : i < listed.size := by omega
      simp only [Array.getD_eq_getD_getElem?, Array.getElem?_eq_getElem hlt, Option.getD_some] at h1 ⊢
      simpa using h1
    by_cases hlt : i < front.size
    · have hof := hfr i o hlt ho
      refine wpOp_push hof (hg i o hof) (V.turn hC hcall D g0 hof hS (fun e he => hdp e (of_bnds he).1 (of_bnds he).2) fun σ' p' a' w' V' => ?_)
      refine ih (listed.setIfInBounds i true) σ' p' a' w' (by simpa using hsz) ?_ ?_ ?_
      · rw [getD_set_ne false (by omega)]; exact hn
      · have : ((List.range (front.size + 1)).filter fun j => !(listed.setIfInBounds i true).getD j true).length < ((List.range (front.size + 1)).filter fun j => !listed.getD j true).length := by
          rw [← List.countP_eq_length_filter, ← List.countP_eq_length_filter]
          have hmem : i ∈ List.range (front.size + 1) := List.mem_range.2 his
          obtain ⟨s, t, hst⟩ := List.append_of_mem hmem
          have hnd : (List.range (front.size + 1)).Nodup := List.nodup_range
          rw [hst] at hnd ⊢
          rw [List.nodup_append] at hnd
          have hns : ∀ x ∈ s, x ≠ i := fun x hx => hnd.2.2 x hx i (by simp)
          have hnt : ∀ x ∈ t, x ≠ i := fun x hx e => by
            subst e
            have := hnd.2.1
            rw [List.nodup_cons] at this
            exact this.1 hx
          have e1 : s.countP (fun j => !(listed.setIfInBounds i true).getD j true) = s.countP (fun j => !listed.getD j true) :=
            List.countP_congr fun x hx => by rw [getD_set_ne true (Ne.symm (hns x hx))]
          have e2 : t.countP (fun j => !(listed.setIfInBounds i true).getD j true) = t.countP (fun j => !listed.getD j true) :=
            List.countP_congr fun x hx => by rw [getD_set_ne true (Ne.symm (hnt x hx))]
          have e3 : (!(listed.setIfInBounds i true).getD i true) = false := by
            have hlt : i < listed.size := by omega
            simp [hlt]
          rw [List.countP_append, List.countP_append, List.countP_cons, List.countP_cons, e1, e2, e3, h1]
          simp
        omega
      · have heq : (fun j => (listed.setIfInBounds i true).getD j false = true) = plus (fun j => listed.getD j false = true) i := by
          funext j
          apply propext
          unfold plus
          by_cases e : j = i
          · subst e
            have hlt : j < listed.size := by omega
            simp [hlt]
          · rw [getD_set_ne false (Ne.symm e)]
            simp [e]
        rw [heq]
        exact V'
    · have hie : i = front.size := by omega
      subst hie
      rw [hlastat] at ho; injection ho with ho; subst ho
      have hall : ∀ j, j < front.size → listed.getD j false = true := by
        intro j hj
        refine anc_closed hs (S := fun j => listed.getD j false = true) (fun i o hSi ho e he => ?_) (front.size + 1) front.size last (by omega) (by rw [Array.getElem?_toList]; exact hlastat) (fun e he => hdp e (of_bnds he).1 (of_bnds he).2) j (hdep j hj)
        rcases Nat.lt_or_ge i front.size with h | h
        · exact V.down i o hSi (hfr i o h (by rw [← Array.getElem?_toList]; exact ho)) e he
        · exfalso
          have : i = front.size := by
            have := (List.getElem?_eq_some_iff.1 ho).1
            simp at this; omega
          subst this
          rw [hn] at hSi; cases hSi
      obtain ⟨k1, k2, k3⟩ := V.last D g0 hall
      unfold wpOp
      rw [hlastat]
      simp only
      have hw : Region.wanted last (yielded (front.push last) a.tmps) = true := by unfold Region.wanted; rw [hl]
      rw [if_pos hw]
      refine .inl (Oper.wp_mono (fun a w h => ?_) (hq σ w a k1 k2 k3))
      refine wpAny_done ?_ h _
      cases hr : Region.ready .any (front.push last) (listed.setIfInBounds front.size true) with
      | nil => rfl
      | cons i t =>
        exfalso
        have hm : i ∈ Region.ready .any (front.push last) (listed.setIfInBounds front.size true) := by rw [hr]; simp
        obtain ⟨q1, o, q2, _⟩ := mem_ready.1 hm
        have hi2 := (Array.getElem?_eq_some_iff.1 q2).1
        simp only [Array.size_push] at hi2
        by_cases e : i = front.size
        · subst e
          have hlt : front.size < listed.size := by omega
          simp [hlt] at q1
        · rw [getD_set_ne true (Ne.symm e)] at q1
          have := hall i (by omega)
          have hlt : i < listed.size := by omega
          simp only [Array.getD_eq_getD_getElem?, Array.getElem?_eq_getElem hlt, Option.getD_some] at this q1
          rw [this] at q1; cases q1
end DRun

def isRangeOp : Op → Bool
  | .range _ _ => true
  | _ => false
def guardBelow (n : Nat) (o : Oper) : Bool := match o.guard with
  | none => true
  | some (g, _) => decide (g < n)
def lastOK (ops : Array Oper) (o : Oper) : Bool :=
  isRangeOp o.op && o.guard.isNone && drawStatic ops.pop.toList && ((List.range ops.pop.size).all fun j => ((ancs ops.toList []).getD ops.pop.size 0).testBit j) && ops.pop.toList.all (guardBelow ops.pop.size)
/-- The region's front, and its last operation, if that one waits for all others. -/
def splitLast (ops : Array Oper) : Option (Array Oper × Oper) :=
  match ops.back? with
  | some o => if lastOK ops o then some (ops.pop, o) else none
  | none => none

theorem runLast_wp {C : Cx} (hC : C.OK) (hm : C.P.follows .mixedOrders = true) {call : CallF} (hcall : CallOK C call) {nt id : Nat} {ops front : Array Oper} {last : Oper} (hst : drawStatic ops.toList = true) (hsp : splitLast ops = some (front, last)) {s s' : St} {σ : Sig} {w : World} {a : Act}
    (h : runDraw C call nt front s = some s') (he : ActR σ s.env nt a) (g : Good σ s.H s.nx w) {Q : Exit → Act → World → Prop}
    (hq : ∀ σ' w' a', ActR σ' s'.env nt a' → Step σ s.H s.nx w σ' s'.H s'.nx w' → Good σ' s'.H s'.nx w' → last.wp C.P a' w' (fun a w => Q .normal a w) Q) : (Code.region id ops true).wp C.P Q a w := by
  unfold splitLast at hsp
  split at hsp
  case h_2 => cases hsp
  rename_i o hback
  split at hsp
  case isFalse => cases hsp
  rename_i hc
  simp only [Option.some.injEq, Prod.mk.injEq] at hsp
  obtain ⟨rfl, rfl⟩ := hsp
  simp only [lastOK, Bool.and_eq_true, List.all_eq_true, List.mem_range, Option.isNone_iff_eq_none] at hc
  obtain ⟨⟨⟨⟨_, c2⟩, c3⟩, c4⟩, c5⟩ := hc
  have hops : ops = ops.pop.push o := by
    rw [Array.back?_eq_getElem?] at hback
    have hlt := (Array.getElem?_eq_some_iff.1 hback)
    obtain ⟨h1, h2⟩ := hlt
    apply Array.ext
    · simp; omega
    · intro i hi1 hi2
      rcases Nat.lt_or_ge i (ops.size - 1) with h | h
      · rw [Array.getElem_push_lt (by simpa using h)]; simp
      · have : i = ops.size - 1 := by omega
        subst this
        rw [Array.getElem_push, dif_neg (by simp), h2]
  have hst' : Static (ops.pop.push o).toList := by rw [← hops]; exact static_of hst
  unfold runDraw at h
  split at h
  · cases h
  · rename_i l sN hrun
    simp only at h
    split at h
    · rename_i hall
      injection h with h; subst h
      have D : DRun C call nt ops.pop s l sN := by
        refine ⟨hrun, static_of c3, fun i o d ho hd hk => ?_⟩
        rw [List.all_eq_true] at hall
        have hm : ((o, d), i) ∈ (ops.pop.toList.zip l).zipIdx := by
          rw [List.mk_mem_zipIdx_iff_getElem?, List.getElem?_zip_eq_some]
          exact ⟨by rw [Array.getElem?_toList]; exact ho, hd⟩
        have := hall _ hm
        simp only [hk] at this
        exact this
      have V := D.first (w := { w with drawn := w.drawn + 1 }) g he rfl rfl rfl rfl
      refine wp_region_any hm ?_
      have key := D.any_last hC hcall g hst' (fun i o ho gd b hgd => ?_) c2 (by rw [← hops]; exact c4) hq ops.size (Array.replicate ops.size false) σ 0 a { w with drawn := w.drawn + 1 } ?_ ?_ ?_ ?_
      · rw [← hops] at key; exact key
      · have hmem : o ∈ ops.pop.toList := by rw [Array.mem_toList_iff]; exact Array.mem_of_getElem? ho
        have := c5 o hmem
        simpa [guardBelow, hgd] using this
      · have : ops.size = (ops.pop.push o).size := by rw [← hops]
        rw [Array.size_push] at this
        simpa using this
      · have : ops.size = (ops.pop.push o).size := by rw [← hops]
        rw [Array.size_push] at this
        simp only [Array.getD_eq_getD_getElem?]
        cases hi : (Array.replicate ops.size false)[ops.pop.size]? with
        | none => rfl
        | some b =>
          have := (Array.getElem?_eq_some_iff.1 hi).2
          simp at this
          simp [← this]
      · have : ops.size = (ops.pop.push o).size := by rw [← hops]
        rw [Array.size_push] at this
        rw [← this]
        exact Nat.le_trans (List.length_filter_le _ _) (by simp)
      · have heq : (fun i => (Array.replicate ops.size false).getD i false = true) = fun _ => False := by
          funext i
          apply propext
          simp only [Array.getD_eq_getD_getElem?]
          cases hi : (Array.replicate ops.size false)[i]? with
          | none => simp
          | some b =>
            have := (Array.getElem?_eq_some_iff.1 hi).2
            simp at this
            simp [← this]
        rw [heq]
        exact V
    · cases h
end CI
