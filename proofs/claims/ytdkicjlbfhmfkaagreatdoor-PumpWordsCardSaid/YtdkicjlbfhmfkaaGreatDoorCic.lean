/- CI, part c: cells read, written and made. -/
import Derived.Test.YtdkicjlbfhmfkaaGreatDoorCib
import Derived.Laws.World
set_option linter.unusedVariables false
noncomputable section
namespace CI
open Go

variable {P : Program} {σ σ' : Sig} {H H' : Heap} {nx nx' : Nat} {w w' : World}

theorem run_bind_ok {α β : Type} {m : Sem α} {f : α → Sem β} {a : α} : ∀ {w w' : World}, m.run P w = .ok a w' → (m >>= f).run P w = (f a).run P w' := by
  intro w w' h
  show (Sem.bind m f).run P w = _
  induction m generalizing w with
  | pure b => simp only [Sem.run, Result.ok.injEq] at h; obtain ⟨rfl, rfl⟩ := h; rfl
  | load md ad k ih =>
    simp only [Sem.bind, Sem.run] at h ⊢
    split at h
    · exact ih _ h
    · split at h
      · exact ih _ h
      · cases h
  | store md ad v k ih =>
    cases v with
    | agg _ => simp [Sem.run] at h
    | tuple _ => simp [Sem.run] at h
    | _ =>
      simp only [Sem.bind, Sem.run] at h ⊢
      split at h
      · split at h
        · cases h
        · rename_i hfz; rw [if_neg hfz]; exact ih h
      · split at h
        · exact ih h
        · cases h
  | new o k ih => simp only [Sem.bind, Sem.run] at h ⊢; exact ih _ h
  | shape r k ih => simp only [Sem.bind, Sem.run] at h ⊢; exact ih _ h
  | freeze ad n k ih => simp only [Sem.bind, Sem.run] at h ⊢; exact ih h
  | frozen ad k ih => simp only [Sem.bind, Sem.run] at h ⊢; exact ih _ h
  | getObj r k ih =>
    simp only [Sem.bind, Sem.run] at h ⊢
    split at h
    · cases h
    · exact ih _ h
    · cases h
  | setObj r o k ih =>
    simp only [Sem.bind, Sem.run] at h ⊢
    split at h
    · cases h
    · exact ih h
    · cases h
  | choose q k ih =>
    simp only [Sem.bind, Sem.run] at h ⊢
    split at h
    · rw [if_pos ‹_›]; exact ih _ h
    · rw [if_neg ‹_›]; exact ih _ h
  | sys c k ih => simp only [Sem.bind, Sem.run] at h ⊢; exact ih _ h
  | program k ih => simp only [Sem.bind, Sem.run] at h ⊢; exact ih _ h
  | mark m k ih => simp only [Sem.bind, Sem.run] at h ⊢; exact ih h
  | halt hh => simp [Sem.run] at h

@[simp] theorem run_pure' {α : Type} (a : α) (w : World) : (pure a : Sem α).run P w = .ok a w := rfl

theorem add_addr (a : Addr) (n : Nat) (h : a.spot = none) : a.add n = ⟨a.block, a.off + n, none⟩ := by
  unfold Addr.add
  split
  · subst_vars; cases a; simp at h; simp [h]
  · rfl

theorem cell_at {k i : Nat} {C : Array Value} {t : TypeId} {fz : Nat × Nat} (h : w.heap[k]? = some (.cells C t fz)) : w.cell? ⟨k, i, none⟩ = C[i]? := by
  simp [World.cell?, h]
theorem frozen_at {k i : Nat} {C : Array Value} {t : TypeId} {fz : Nat × Nat} (h : w.heap[k]? = some (.cells C t fz)) (hf : ¬ (fz.1 ≤ i ∧ i < fz.2)) : w.frozen? ⟨k, i, none⟩ = false := by
  simp only [World.frozen?, h]
  simpa using hf

/-- Reading a row of cells. -/
theorem run_loadCellsFrom (a : Addr) (ha : a.spot = none) : ∀ (n i : Nat) (acc : Array Value) (xs : List Value), xs.length = n →
    (∀ (j : Nat) (x : Value), xs[j]? = some x → w.cell? ⟨a.block, a.off + i + j, none⟩ = some x) →
    (loadCellsFrom a i n acc).run P w = .ok (acc ++ xs.toArray) w
  | 0, i, acc, xs, hl, _ => by
    have : xs = [] := List.eq_nil_of_length_eq_zero hl
    subst this
    simp [loadCellsFrom]
  | n + 1, i, acc, [], hl, _ => by simp at hl
  | n + 1, i, acc, x :: xs, hl, h => by
    have h0 := h 0 x rfl
    simp only [loadCellsFrom]
    have hload : (load (a.add i)).run P w = .ok x w := by
      rw [add_addr a i ha]
      simp only [load, Sem.run]
      simp only [Nat.add_zero] at h0
      rw [h0]
    rw [run_bind_ok hload]
    rw [run_loadCellsFrom a ha n (i + 1) (acc.push x) xs (by simpa using hl) (fun j y hj => by
      have := h (j + 1) y (by simpa using hj)
      rwa [show a.off + i + (j + 1) = a.off + (i + 1) + j from by omega] at this)]
    simp
theorem run_loadCells (a : Addr) (ha : a.spot = none) (n : Nat) (xs : List Value) (hl : xs.length = n)
    (h : ∀ (j : Nat) (x : Value), xs[j]? = some x → w.cell? ⟨a.block, a.off + j, none⟩ = some x) :
    (loadCells a n).run P w = .ok xs.toArray w := by
  unfold loadCells
  rw [run_loadCellsFrom a ha n 0 #[] xs hl (by simpa using h)]
  simp

def oneV : Value → Bool
  | .agg _ => false
  | .tuple _ => false
  | _ => true

theorem run_store (a : Addr) (x : Value) (hx : oneV x = true) {y : Value} (hc : w.cell? a = some y) (hf : w.frozen? a = false) :
    (store a x).run P w = .ok () (w.setCell a x) := by
  cases x <;> first
    | (simp [oneV] at hx; done)
    | (simp only [store, Sem.run, hc, hf]; rfl)

theorem heap_setCell {k i : Nat} {C : Array Value} {t : TypeId} {fz : Nat × Nat} {x : Value} (h : w.heap[k]? = some (.cells C t fz)) :
    (w.setCell ⟨k, i, none⟩ x).heap[k]? = some (.cells (C.setIfInBounds i x) t fz) := by
  simp [World.setCell, Array.getElem?_modify, h]
theorem heap_setCell_ne {k i j : Nat} {x : Value} (h : j ≠ k) : (w.setCell ⟨k, i, none⟩ x).heap[j]? = w.heap[j]? := by
  simp only [World.setCell, Array.getElem?_modify]
  rw [if_neg (fun e => h e.symm)]

/-- Cells from a place on, overwritten. -/
def over (C : List Value) : Nat → List Value → List Value
  | _, [] => C
  | i, x :: xs => over (C.set i x) (i + 1) xs
theorem over_length : ∀ (xs : List Value) (C : List Value) (i : Nat), (over C i xs).length = C.length
  | [], _, _ => rfl
  | x :: xs, C, i => by simp [over, over_length xs]
theorem over_get : ∀ (xs : List Value) (C : List Value) (i j : Nat), i + xs.length ≤ C.length →
    (over C i xs)[j]? = if i ≤ j ∧ j < i + xs.length then xs[j - i]? else C[j]?
  | [], C, i, j, _ => by simp [over]; intro h1 h2; omega
  | x :: xs, C, i, j, h => by
    have h' : i + (xs.length + 1) ≤ C.length := by simpa using h
    simp only [over]
    rw [over_get xs (C.set i x) (i + 1) j (by rw [List.length_set]; omega)]
    by_cases h1 : i + 1 ≤ j ∧ j < i + 1 + xs.length
    · rw [if_pos h1, if_pos (by simp <;> omega)]
      rw [show j - i = (j - (i + 1)) + 1 from by omega]; simp
    · rw [if_neg h1, List.getElem?_set]
      by_cases e : i = j
      · subst e
        rw [if_pos rfl, if_pos (by omega), if_pos (by simp)]; simp
      · rw [if_neg e, if_neg (by simp <;> omega)]

theorem run_storeCells (a : Addr) (ha : a.spot = none) : ∀ (xs : List Value) (i : Nat) (w : World) (C : Array Value) (t : TypeId) (fz : Nat × Nat),
    w.heap[a.block]? = some (.cells C t fz) → a.off + i + xs.length ≤ C.size → (∀ x ∈ xs, oneV x = true) → (∀ j, j < C.size → ¬ (fz.1 ≤ j ∧ j < fz.2)) →
    ∃ w', (storeCells a xs i).run P w = .ok () w' ∧ w'.heap[a.block]? = some (.cells (over C.toList (a.off + i) xs).toArray t fz) ∧
      (∀ k, k ≠ a.block → w'.heap[k]? = w.heap[k]?) ∧ w'.heap.size = w.heap.size ∧ w'.os = w.os ∧ w'.tape = w.tape ∧ w'.output = w.output
  | [], i, w, C, t, fz, hw, _, _, _ => ⟨w, by simp [storeCells], by simp [over, hw], fun _ _ => rfl, rfl, rfl, rfl, rfl⟩
  | x :: xs, i, w, C, t, fz, hw, hl, h1, hf => by
    simp only [List.length_cons] at hl
    have hc : w.cell? ⟨a.block, a.off + i, none⟩ = C[a.off + i]? := cell_at hw
    have hlt : a.off + i < C.size := by omega
    rw [Array.getElem?_eq_getElem hlt] at hc
    have hs := run_store (P := P) ⟨a.block, a.off + i, none⟩ x (h1 x (by simp)) hc (frozen_at hw (hf _ hlt))
    obtain ⟨w', hr, hh, ho, hz, e1, e2, e3⟩ := run_storeCells a ha xs (i + 1) (w.setCell ⟨a.block, a.off + i, none⟩ x) (C.setIfInBounds (a.off + i) x) t fz
      (heap_setCell hw) (by simp <;> omega) (fun y hy => h1 y (by simp [hy])) (fun j hj => hf j (by simpa using hj))
    refine ⟨w', ?_, ?_, ?_, ?_, by rw [e1]; rfl, by rw [e2]; rfl, by rw [e3]; rfl⟩
    · simp only [storeCells]
      rw [add_addr a i ha, run_bind_ok hs]
      exact hr
    · rw [hh]
      simp only [over, Array.toList_setIfInBounds, Nat.add_assoc]
    · intro k hk
      rw [ho k hk, heap_setCell_ne hk]
    · rw [hz]; simp [World.setCell]

/-! ### what a computation comes to -/
def Out (P : Program) (σ : Sig) (H : Heap) (nx : Nat) (w : World) (v : AV) (H' : Heap) (nx' : Nat) (m : Sem Value) : Prop :=
  ∃ x w' σ', m.run P w = .ok x w' ∧ VR σ' v x ∧ Step σ H nx w σ' H' nx' w' ∧ Good σ' H' nx' w'

theorem Out.same (g : Good σ H nx w) {m : Sem Value} {x : Value} {v : AV} (hr : m.run P w = .ok x w) (hv : VR σ v x) : Out P σ H nx w v H nx m :=
  ⟨x, w, σ, hr, hv, Step.refl, g⟩
theorem Out.pure (g : Good σ H nx w) {x : Value} {v : AV} (hv : VR σ v x) : Out P σ H nx w v H nx (pure x) := Out.same g rfl hv
theorem Out.bind {α : Type} {m : Sem α} {f : α → Sem Value} {a : α} {v : AV} (hr : m.run P w = .ok a w) (h : Out P σ H nx w v H' nx' (f a)) :
    Out P σ H nx w v H' nx' (m >>= f) := by
  obtain ⟨x, w', σ', h1, h2⟩ := h
  exact ⟨x, w', σ', by rw [run_bind_ok hr]; exact h1, h2⟩

theorem newRow_out (g : Good σ H nx w) (t : TypeId) (cs : List AV) (C : List Value) (h : VRs σ cs C) (ro : Bool) :
    ∃ w' σ', (newRow t C.toArray).run P w = .ok ⟨w.heap.size, 0, none⟩ w' ∧ σ' nx = some ⟨w.heap.size, C.length⟩ ∧
      Step σ H nx w σ' (H.put nx (some (.cells cs t ro))) (nx + 1) w' ∧ Good σ' (H.put nx (some (.cells cs t ro))) (nx + 1) w' := by
  have := alloc_step (w' := { w with heap := w.heap.push (.cells C.toArray t) }) g (o := .cells cs t ro) (O := .cells C.toArray t) (room := C.length) rfl rfl rfl rfl
    ⟨C.toArray, (0, 0), rfl, by simp, by simp [h.length, Loc.base_eq], fun i v hi => by
      obtain ⟨x, hx, hv⟩ := h.get? hi
      exact ⟨x, by simpa [Loc.base_eq] using hx, hv⟩, fun _ i _ => by simp⟩
  exact ⟨_, _, rfl, Sig.upd_same _ _ _, this.1, this.2⟩

def cellsOf : AV → List AV
  | .agg cs => cs
  | .lit v => v.cells.toList.map .lit
  | v => [v]
theorem cellsOf_VRs {v : AV} {x : Value} (h : VR σ v x) : VRs σ (cellsOf v) x.cells.toList := by
  cases v with
  | agg cs => simp only [VR] at h; obtain ⟨cs', rfl, h⟩ := h; simpa [cellsOf, Value.cells] using h
  | lit v => simp only [VR] at h; subst h; exact VRs.lits _
  | ptr b o => 
    have h' := h
    simp only [VR] at h; obtain ⟨l, _, rfl⟩ := h
    simp only [cellsOf, Value.cells, VRs]; exact ⟨_, [], rfl, h', rfl⟩
  | slice b o n c e => 
    have h' := h
    simp only [VR] at h; obtain ⟨l, _, _, rfl, _⟩ := h
    simp only [cellsOf, Value.cells, VRs]; exact ⟨_, [], rfl, h', rfl⟩
  | eslice => 
    have h' := h
    simp only [VR] at h; obtain ⟨_, _, rfl⟩ := h
    simp only [cellsOf, Value.cells, VRs]; exact ⟨_, [], rfl, h', rfl⟩
  | map b => 
    have h' := h
    simp only [VR] at h; obtain ⟨l, _, rfl⟩ := h
    simp only [cellsOf, Value.cells, VRs]; exact ⟨_, [], rfl, h', rfl⟩
  | func fn fs cs => 
    have h' := h
    simp only [VR] at h; obtain ⟨_, _, rfl, _⟩ := h
    simp only [cellsOf, Value.cells, VRs]; exact ⟨_, [], rfl, h', rfl⟩
  | iface t v => 
    have h' := h
    simp only [VR] at h; obtain ⟨_, rfl, _⟩ := h
    simp only [cellsOf, Value.cells, VRs]; exact ⟨_, [], rfl, h', rfl⟩
  | tuple vs => 
    have h' := h
    simp only [VR] at h; obtain ⟨_, rfl, _⟩ := h
    simp only [cellsOf, Value.cells, VRs]; exact ⟨_, [], rfl, h', rfl⟩

def one : AV → Bool
  | .agg _ => false
  | .tuple _ => false
  | .lit v => oneV v
  | _ => true
theorem one_VR {v : AV} {x : Value} (h : VR σ v x) (ho : one v = true) : oneV x = true := by
  cases v with
  | agg cs => simp [one] at ho
  | tuple cs => simp [one] at ho
  | lit v => simp only [VR] at h; subst h; exact ho
  | ptr b o => simp only [VR] at h; obtain ⟨l, _, rfl⟩ := h; rfl
  | slice b o n c e => simp only [VR] at h; obtain ⟨l, _, _, rfl, _⟩ := h; rfl
  | eslice => simp only [VR] at h; obtain ⟨_, _, rfl⟩ := h; rfl
  | map b => simp only [VR] at h; obtain ⟨l, _, rfl⟩ := h; rfl
  | func fn fs cs => simp only [VR] at h; obtain ⟨_, _, rfl, _⟩ := h; rfl
  | iface t v => simp only [VR] at h; obtain ⟨_, rfl, _⟩ := h; rfl
theorem one_VRs {vs : List AV} {xs : List Value} (h : VRs σ vs xs) (ho : vs.all one = true) : ∀ x ∈ xs, oneV x = true := by
  induction vs generalizing xs with
  | nil => simp only [VRs] at h; subst h; simp
  | cons v vs ih =>
    simp only [VRs] at h
    obtain ⟨y, ys, rfl, h1, h2⟩ := h
    simp only [List.all_cons, Bool.and_eq_true] at ho
    intro x hx
    rcases List.mem_cons.1 hx with rfl | hx
    · exact one_VR h1 ho.1
    · exact ih h2 ho.2 x hx

/-- Some cells of a block, from a place on. -/
def cut (cs : List AV) (o n : Nat) : Option (List AV) := if o + n ≤ cs.length then some ((cs.drop o).take n) else none

/-- What the cells of a live block hold. -/
theorem Sim.cells (s : Sim σ H w) {b : Nat} {cs : List AV} {t : TypeId} {ro : Bool} {l : Loc} (hb : H.get b = some (.cells cs t ro)) (hl : σ b = some l) {o n : Nat} {vs : List AV}
    (hc : cut cs o n = some vs) : ∃ xs, VRs σ vs xs ∧ xs.length = n ∧ ∀ (j : Nat) (x : Value), xs[j]? = some x → w.cell? ⟨l.blk, l.base + o + j, none⟩ = some x := by
  obtain ⟨C, fz, e, h1, h2, h3, h4⟩ := s.obj b _ l hb hl
  unfold cut at hc
  split at hc
  · rename_i hle
    injection hc with hc
    refine ⟨((C.toList.drop (l.base + o)).take n), ?_, ?_, ?_⟩
    · subst hc
      refine VRs.of_get (by simp <;> omega) fun i v hi => ?_
      rw [List.getElem?_take] at hi ⊢
      split at hi
      · rename_i hin
        rw [if_pos hin]
        rw [List.getElem?_drop] at hi ⊢
        obtain ⟨x, hx, hv⟩ := h3 _ _ hi
        exact ⟨x, by rw [← hx, ← Array.getElem?_toList, Nat.add_assoc], hv⟩
      · cases hi
    · simp <;> omega
    · intro j x hj
      rw [List.getElem?_take] at hj
      split at hj
      · rw [List.getElem?_drop, Array.getElem?_toList] at hj
        rw [cell_at e]; exact hj
      · cases hj
  · cases hc

/-- Cells overwritten, of abstract values. -/
def overA (cs : List AV) (o : Nat) (vs : List AV) : List AV := cs.take o ++ vs ++ cs.drop (o + vs.length)
theorem overA_length (cs : List AV) (o : Nat) (vs : List AV) (h : o + vs.length ≤ cs.length) : (overA cs o vs).length = cs.length := by
  simp [overA]; omega
theorem overA_get (cs : List AV) (o : Nat) (vs : List AV) (h : o + vs.length ≤ cs.length) (j : Nat) :
    (overA cs o vs)[j]? = if o ≤ j ∧ j < o + vs.length then vs[j - o]? else cs[j]? := by
  unfold overA
  by_cases h1 : j < o
  · rw [if_neg (by omega), List.append_assoc, List.getElem?_append_left (by simp <;> omega), List.getElem?_take, if_pos h1]
  · by_cases h2 : j < o + vs.length
    · rw [if_pos (by omega), List.append_assoc, List.getElem?_append_right (by simp <;> omega), List.getElem?_append_left (by simp <;> omega)]
      congr 1; simp <;> omega
    · rw [if_neg (by omega), List.getElem?_append_right (by simp <;> omega), List.getElem?_drop]
      congr 1; simp <;> omega

/-- A store of some cells. -/
theorem store_out (g : Good σ H nx w) {b : Nat} {cs : List AV} {t : TypeId} {l : Loc} (hb : H.get b = some (.cells cs t false)) (hl : σ b = some l) {o : Nat} {vs : List AV} {xs : List Value}
    (hv : VRs σ vs xs) (hle : o + vs.length ≤ cs.length) (ho : vs.all one = true) :
    ∃ w', (storeCells ⟨l.blk, l.base + o, none⟩ xs).run P w = .ok () w' ∧
      Step σ H nx w σ (H.put b (some (.cells (overA cs o vs) t false))) nx w' ∧ Good σ (H.put b (some (.cells (overA cs o vs) t false))) nx w' := by
  obtain ⟨C, fz, e, h1, h2, h3, h4⟩ := g.obj b _ l hb hl
  have hlen := hv.length
  obtain ⟨w', hr, hh, hoth, hz, e1, e2, e3⟩ := run_storeCells (P := P) ⟨l.blk, l.base + o, none⟩ rfl xs 0 w C t fz e (by simp <;> omega) (one_VRs hv ho) (fun j hj => h4 rfl j (by omega))
  have := mod_step (w' := w') g hb (o' := .cells (overA cs o vs) t false) rfl hl hz (fun k hk => hoth k hk) e1 e2 e3 (by
    refine ⟨_, fz, hh, by simp [over_length, h1], by rw [overA_length _ _ _ hle]; exact h2, fun i v hi => ?_, fun _ => h4 rfl⟩
    rw [overA_get _ _ _ hle] at hi
    rw [List.getElem?_toArray, over_get _ _ _ _ (by simp <;> omega)]
    split at hi
    · rename_i hin
      obtain ⟨x, hx, hvx⟩ := hv.get? hi
      exact ⟨x, by rw [if_pos (by simp <;> omega)]; rw [← hx]; congr 1; simp <;> omega, hvx⟩
    · obtain ⟨x, hx, hvx⟩ := h3 _ _ hi
      exact ⟨x, by rw [if_neg (by simp <;> omega), Array.getElem?_toList]; exact hx, hvx⟩)
  exact ⟨w', hr, this.1, this.2⟩
end CI
