/- CI: slices.Sorted(maps.Keys(m)), the keys ints, by the Shelf's contract. -/
import Derived.Test.YtdkicjlbfhmfkaaGreatDoorCvt
import Derived.Shelf.SlIterI.Nil
import Derived.Maps.OwnSet
set_option linter.unusedVariables false
set_option linter.unusedSimpArgs false
noncomputable section
namespace CI
open Go Go.RowKit

/-! ### sorting -/
def ins (x : Int) : List Int → List Int
  | [] => [x]
  | y :: l => if x ≤ y then x :: y :: l else y :: ins x l
def isort : List Int → List Int
  | [] => []
  | x :: l => ins x (isort l)
theorem ins_perm (x : Int) : ∀ l : List Int, (ins x l).Perm (x :: l)
  | [] => List.Perm.refl _
  | y :: l => by
    unfold ins
    split
    · exact List.Perm.refl _
    · exact ((ins_perm x l).cons y).trans (List.Perm.swap x y l)
theorem isort_perm : ∀ l : List Int, (isort l).Perm l
  | [] => List.Perm.refl _
  | x :: l => (ins_perm x (isort l)).trans ((isort_perm l).cons x)
theorem ins_sorted (x : Int) : ∀ l : List Int, l.Pairwise (· ≤ ·) → (ins x l).Pairwise (· ≤ ·)
  | [], _ => by simp [ins]
  | y :: l, h => by
    rw [List.pairwise_cons] at h
    unfold ins
    split
    · rename_i hxy
      refine List.pairwise_cons.2 ⟨fun z hz => ?_, List.pairwise_cons.2 h⟩
      rcases List.mem_cons.1 hz with rfl | hz
      · exact hxy
      · exact Int.le_trans hxy (h.1 z hz)
    · rename_i hxy
      refine List.pairwise_cons.2 ⟨fun z hz => ?_, ins_sorted x l h.2⟩
      have := (ins_perm x l).mem_iff.1 hz
      rcases List.mem_cons.1 this with rfl | hz
      · omega
      · exact h.1 z hz
theorem isort_sorted : ∀ l : List Int, (isort l).Pairwise (· ≤ ·)
  | [] => List.Pairwise.nil
  | x :: l => ins_sorted x _ (isort_sorted l)
theorem merge_isort {ss ks : List Int} (h : ss.Perm ks) : (ss.mergeSort fun x y => decide (x ≤ y)) = isort ks := by
  have tr : ∀ a b c : Int, decide (a ≤ b) = true → decide (b ≤ c) = true → decide (a ≤ c) = true := fun a b c h1 h2 => by simp only [decide_eq_true_eq] at *; exact Int.le_trans h1 h2
  have to : ∀ a b : Int, (decide (a ≤ b) || decide (b ≤ a)) = true := fun a b => by simp only [Bool.or_eq_true, decide_eq_true_eq]; exact Int.le_total a b
  refine List.Perm.eq_of_pairwise (le := fun a b => a ≤ b) (fun a b _ _ h1 h2 => Int.le_antisymm h1 h2) ?_ (isort_sorted ks) (((List.mergeSort_perm ss _).trans h).trans (isort_perm ks).symm)
  exact (List.pairwise_mergeSort tr to ss).imp fun hh => by simpa using hh

/-! ### the keys -/
def kI : AV → Int
  | .lit (.int .i64 x) => x
  | _ => 0
def okI : AV → Bool
  | .lit (.int .i64 x) => decide (-9223372036854775808 ≤ x ∧ x ≤ 9223372036854775807)
  | _ => false
def memB (x : Int) : List Int → Bool
  | [] => false
  | y :: l => if x = y then true else memB x l
def nodupB : List Int → Bool
  | [] => true
  | x :: l => !memB x l && nodupB l
theorem memB_iff (x : Int) : ∀ l, memB x l = true ↔ x ∈ l
  | [] => by simp [memB]
  | y :: l => by
    unfold memB
    split
    · rename_i h; simp [h]
    · rename_i h; rw [memB_iff x l]; simp [h]
theorem nodupB_nodup : ∀ l, nodupB l = true → l.Nodup
  | [], _ => List.nodup_nil
  | x :: l, h => by
    simp only [nodupB, Bool.and_eq_true, Bool.not_eq_true'] at h
    refine List.nodup_cons.2 ⟨fun hm => ?_, nodupB_nodup l h.2⟩
    rw [(memB_iff x l).2 hm] at h
    exact absurd h.1 (by simp)
theorem okI_eq {v : AV} (h : okI v = true) : v = .lit (.int .i64 (kI v)) ∧ -9223372036854775808 ≤ kI v ∧ kI v ≤ 9223372036854775807 := by
  unfold okI at h
  split at h
  · rename_i x
    simp only [decide_eq_true_eq] at h
    exact ⟨rfl, h⟩
  · cases h
theorem mapR_keys {σ : Sig} : ∀ {es : List (AV × AV)} {E : List MapEntry}, MapR σ es E → (∀ p ∈ es, okI p.1 = true) → E.map (·.key) = es.map fun p => encZ (kI p.1)
  | [], E, h, _ => by simp only [MapR] at h; subst h; rfl
  | (k, v) :: es, E, h, ho => by
    simp only [MapR] at h
    obtain ⟨e, E', rfl, h1, _, h3⟩ := h
    have hk : k = .lit (.int .i64 (kI k)) ∧ _ := okI_eq (v := k) (ho (k, v) List.mem_cons_self)
    rw [hk.1] at h1
    simp only [VR] at h1
    rw [List.map_cons, List.map_cons, mapR_keys h3 (fun p hp => ho p (List.mem_cons_of_mem _ hp)), h1]

/-- What the contract of slices.Sorted at maps.Keys says. -/
structure SortFact (P : Program) (kt : TypeId) (f g : Nat) : Prop where
  under : P.underlying kt = some (.int .i64)
  enter : ∀ xs w, (callFunc f xs).run P w = .ok (.enter f xs) w
  keys : ∀ (c b nn : Nat) (D0 : DataW Unit) (R : Value → Option (DataW Unit × List MemPlace)) (w : World), c < w.heap.size → w.cell? ⟨c, 0, none⟩ = some (.map (some b)) → w.ownsMap P kt R b nn D0 → Maps.size D0 ≤ 1000000 →
    Calls P f #[.func (.func g) #[] #[.pointer (some ⟨c, 0, none⟩)]] w fun e w' => ∃ (v : Value) (ss : List Int), e = .returned v ∧ ss.Perm (intKeys D0) ∧
      w'.ownsRow w.heap.size kt 1 v ss.length ((ss.mergeSort (fun x y => decide (x ≤ y))).map encZ) ∧ (v = .slice none 0 0 ↔ ss = []) ∧ Below w.heap.size w w'
  nokeys : ∀ (c : Nat) (w : World), c < w.heap.size → w.cell? ⟨c, 0, none⟩ = some (.map none) →
    Calls P f #[.func (.func g) #[] #[.pointer (some ⟨c, 0, none⟩)]] w fun e w' => e = .returned (.slice none 0 0) ∧ Below w.heap.size w w'

def sortY (kt : TypeId) (g : Nat) (args : List AV) (H : Heap) (nx : Nat) : Option (AV × Heap × Nat) :=
  match args with
  | [.func (.func k) [] [.ptr c 0]] =>
    if k = g then
      match H.get c with
      | some (.cells [.map m] _ _) =>
        match H.get m with
        | some (.map es _) =>
          if (es.all fun p => okI p.1) = true ∧ nodupB (es.map fun p => kI p.1) = true ∧ es.length ≤ 1000000 then
            match es with
            | [] => some (.lit (.slice none 0 0), H, nx)
            | _ => some (.slice nx 0 es.length none 1, H.put nx (some (.cells ((isort (es.map fun p => kI p.1)).map fun n => .lit (.int .i64 n)) kt false)), nx + 1)
          else none
        | _ => none
      | some (.cells [.lit (.map none)] _ _) => some (.lit (.slice none 0 0), H, nx)
      | _ => none
    else none
  | _ => none

theorem wf_i64 {x : Int} (h : -9223372036854775808 ≤ x ∧ x ≤ 9223372036854775807) : (Lit.int .i64 x).wf = true := by
  have e1 : IntKind.i64.min = -9223372036854775808 := by decide
  have e2 : IntKind.i64.max = 9223372036854775807 := by decide
  show (decide (IntKind.i64.min ≤ x) && decide (x ≤ IntKind.i64.max)) = true
  rw [e1, e2]
  simpa using h

theorem sortY_ok {P : Program} {kt : TypeId} {f g : Nat} (F : SortFact P kt f g) {args : List AV} {H H' : Heap} {nx nx' : Nat} {v : AV} (h : sortY kt g args H nx = some (v, H', nx')) (σ : Sig) (w : World) (xs : List Value) (hx : VRs σ args xs) (gd : Good σ H nx w) :
    (callFunc f xs.toArray).run P w = .ok (.enter f xs.toArray) w ∧ Calls P f xs.toArray w (RetPost σ H nx w v H' nx') := by
  refine ⟨F.enter _ _, ?_⟩
  unfold sortY at h
  split at h
  rotate_left
  · cases h
  rename_i k c
  split at h
  rotate_left
  · cases h
  rename_i hk; subst hk
  simp only [VRs, VR] at hx
  obtain ⟨x, ys, rfl, ⟨fs', cs', rfl, rfl, y, ys', rfl, ⟨lc, hlc, rfl⟩, rfl⟩, rfl⟩ := hx
  have hp : (⟨lc.blk, lc.base + 0, none⟩ : Addr) = ⟨lc.blk, 0, none⟩ := by simp [Loc.base_eq]
  rw [hp]
  have same : ∀ w' : World, Below w.heap.size w w' → RetPost σ H nx w (.lit (.slice none 0 0)) H nx (.returned (.slice none 0 0)) w' :=
    fun w' hb => ⟨_, σ, rfl, by simp only [VR], Step.below hb, gd.below hb⟩
  split at h
  · rename_i m t ro hc
    obtain ⟨C, fz, hC, hsz, hlen, hcs, _⟩ := gd.obj c _ lc hc hlc
    obtain ⟨xv, hx0, hxv⟩ := hcs 0 (.map m) rfl
    simp only [VR] at hxv
    obtain ⟨lm, hlm, rfl⟩ := hxv
    have hcell : w.cell? ⟨lc.blk, 0, none⟩ = some (.map (some lm.blk)) := by
      rw [cell_at hC]; simpa [Loc.base_eq] using hx0
    have hlt : lc.blk < w.heap.size := (Array.getElem?_eq_some_iff.1 hC).1
    split at h
    · rename_i es ro2 hm
      split at h
      · rename_i hcond
        obtain ⟨hall, hnd, hles⟩ := hcond
        obtain ⟨E, clock, es', hE, hperm, hR, hborn⟩ := gd.obj m _ lm hm hlm
        have hok : ∀ p ∈ es', okI p.1 = true := fun p hp => List.all_eq_true.1 hall p (hperm.mem_iff.1 hp)
        have hkeys := mapR_keys hR hok
        have hnd' : (es'.map fun p => kI p.1).Nodup := (hperm.map _).nodup_iff.2 (nodupB_nodup _ hnd)
        have hEl : E.size = es.length := by
          have := congrArg List.length hkeys
          simp only [List.length_map, Array.length_toList] at this
          rw [this, hperm.length_eq]
        have hst : MapKept.Stamped E clock := by
          refine ⟨hborn.2, hborn.1, ?_⟩
          rw [hkeys]
          have : (es'.map fun p => encZ (kI p.1)) = (es'.map fun p => kI p.1).map encZ := by simp
          rw [this]
          exact List.Pairwise.map _ (fun a b hab e => hab (encZ_inj e)) hnd'
        have hrd : ∀ e ∈ E.toList, ∃ n : Int, (n = n) ∧ e.key = encZ n ∧ WideElems.rd P kt (fun _ => some ((.nil : DataW Unit), [])) e = some (.int .i64 n, .nil) := by
          intro e he
          have : e.key ∈ E.toList.map (·.key) := List.mem_map_of_mem he
          rw [hkeys, List.mem_map] at this
          obtain ⟨p, hp, hpe⟩ := this
          have hb := okI_eq (hok p hp)
          refine ⟨kI p.1, rfl, hpe.symm, ?_⟩
          obtain ⟨key, val, born⟩ := e
          simp only at hpe
          subst hpe
          exact WideElems.rd_mk (R := fun _ => some ((.nil : DataW Unit), [])) (Maps.keyOf_int_mk F.under (wf_i64 hb.2)) rfl
        have hown : w.ownsMap P kt (fun _ => some ((.nil : DataW Unit), [])) lm.blk E.size (.map ((E.toList.map (WideElems.rg P kt fun _ => some ((.nil : DataW Unit), []))).foldr DataW.insert [])) :=
          ⟨E, clock, hE, ⟨by have : maxLen = 9223372036854775807 := rfl; omega, hst, fun e he => let ⟨n, _, _, h⟩ := hrd e he; ⟨_, h⟩⟩, Nat.le_refl _, rfl⟩
        have hsize : Maps.size (.map ((E.toList.map (WideElems.rg P kt fun _ => some ((.nil : DataW Unit), []))).foldr DataW.insert [])) ≤ 1000000 := by
          rw [Maps.size_eq, (WideShapes.sorted_perm _).length_eq]
          simp; omega
        have hik : (intKeys (.map ((E.toList.map (WideElems.rg P kt fun _ => some ((.nil : DataW Unit), []))).foldr DataW.insert []))).Perm (es.map fun p => kI p.1) := by
          have h1 : (intKeys (.map ((E.toList.map (WideElems.rg P kt fun _ => some ((.nil : DataW Unit), []))).foldr DataW.insert []))).Perm ((E.toList.map (WideElems.rg P kt fun _ => some ((.nil : DataW Unit), []))).map fun p => Go.intOf p.1) :=
            (WideShapes.sorted_perm _).map _
          refine h1.trans ?_
          have h2 : ((E.toList.map (WideElems.rg P kt fun _ => some ((.nil : DataW Unit), []))).map fun p => Go.intOf p.1) = es'.map fun p => kI p.1 := by
            rw [List.map_map]
            have h3 : E.toList.map ((fun p : Lit × DataW Unit => Go.intOf p.1) ∘ WideElems.rg P kt fun _ => some ((.nil : DataW Unit), [])) = E.toList.map fun e => (match e.key with | .int .i64 n => n | _ => 0) := by
              refine List.map_congr_left fun e he => ?_
              obtain ⟨n, _, hke, hre⟩ := hrd e he
              simp only [Function.comp, WideElems.rg_of hre, hke, Go.intOf, encZ]
            rw [h3]
            have h4 : (E.toList.map fun e => (match e.key with | .int .i64 n => n | _ => (0 : Int))) = (E.toList.map (·.key)).map fun k => (match k with | .int .i64 n => n | _ => (0 : Int)) := by rw [List.map_map]; rfl
            rw [h4, hkeys, List.map_map]
            rfl
          rw [h2]
          exact hperm.map _
        refine (F.keys lc.blk lm.blk E.size _ _ w hlt hcell hown hsize).mono ?_
        rintro e w' ⟨rv, ss, rfl, hss, hrow, hnil, hb⟩
        have hsp := hss.trans hik
        have hms := merge_isort hsp
        have hsl : ss.length = es.length := by rw [hsp.length_eq]; simp
        rw [hms, hsl] at hrow
        split at h
        · simp only [Option.some.injEq, Prod.mk.injEq] at h
          obtain ⟨rfl, rfl, rfl⟩ := h
          obtain rfl : rv = .slice none 0 0 := hnil.2 (List.eq_nil_of_length_eq_zero (by simpa using hsl))
          exact same w' hb
        · rename_i hne
          simp only [Option.some.injEq, Prod.mk.injEq] at h
          obtain ⟨rfl, rfl, rfl⟩ := h
          have hpos : 0 < es.length := List.length_pos_iff.2 (fun e => hne e)
          rcases hrow.2 with ⟨_, hz⟩ | ⟨gb, cap, cur, rfl, hbase, hgb, r1, r2, r3, r4⟩
          · omega
          · have hil : (isort (es.map fun p => kI p.1)).length = es.length := by rw [(isort_perm _).length_eq]; simp
            have hs := fresh_step gd hb (N := gb) (o := .cells ((isort (es.map fun p => kI p.1)).map fun n => .lit (.int .i64 n)) kt false) (room := cap) hbase
              ⟨cur, (0, 0), hgb, by simpa using r3, by simp only [Loc.base_eq, List.length_map, hil]; omega, fun i v hi => ?_, fun _ i _ => by simp⟩
            · refine ⟨_, _, rfl, ?_, hs.1, hs.2⟩
              simp only [VR]
              exact ⟨_, cap, Sig.upd_same _ _ _, by simp [Loc.base_eq], r1, by simp [Loc.base_eq], by simp [Loc.base_eq]⟩
            · rw [List.getElem?_map, Option.map_eq_some_iff] at hi
              obtain ⟨n, hn, rfl⟩ := hi
              have hin : i < es.length := by rw [← hil]; exact (List.getElem?_eq_some_iff.1 hn).1
              refine ⟨.int .i64 n, ?_, by simp only [VR]⟩
              have h1 : (cur.toList.take (es.length * 1))[i]? = some (encZ n) := by
                rw [r4, List.getElem?_map, hn]; rfl
              rw [List.getElem?_take_of_lt (by omega)] at h1
              simpa [Loc.base_eq] using h1
      · cases h
    · cases h
  · rename_i t ro hc
    simp only [Option.some.injEq, Prod.mk.injEq] at h
    obtain ⟨rfl, rfl, rfl⟩ := h
    obtain ⟨C, fz, hC, hsz, hlen, hcs, _⟩ := gd.obj c _ lc hc hlc
    obtain ⟨xv, hx0, hxv⟩ := hcs 0 (.lit (.map none)) rfl
    simp only [VR] at hxv
    subst hxv
    have hcell : w.cell? ⟨lc.blk, 0, none⟩ = some (.map none) := by
      rw [cell_at hC]; simpa [Loc.base_eq] using hx0
    refine (F.nokeys lc.blk w (Array.getElem?_eq_some_iff.1 hC).1 hcell).mono ?_
    rintro e w' ⟨rfl, hb⟩
    exact same w' hb
  · cases h
end CI
