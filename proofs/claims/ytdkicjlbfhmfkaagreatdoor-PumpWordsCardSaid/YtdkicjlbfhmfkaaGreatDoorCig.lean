/- CI, part g: slices cut and appended to; lengths; conversions between strings and bytes. -/
import Derived.Test.YtdkicjlbfhmfkaaGreatDoorCif
set_option linter.unusedVariables false
set_option linter.unusedSimpArgs false
noncomputable section
namespace CI
open Go

variable {P : Program} {σ σ' : Sig} {H H' : Heap} {nx nx' : Nat} {w w' : World}

theorem next_le {need cap : Nat} (h : cap < need) : Builtin.nextslicecap need cap ≤ 2 * need + 1000 := by
  unfold Builtin.nextslicecap
  split
  · omega
  · split
    · omega
    · simp only [Builtin.growBy]
      repeat' split
      all_goals omega

/-- The cells that are appended, and how many elements they make. -/
def srcCells (H : Heap) (sz : Nat) : AV → Option (Nat × List AV)
  | .lit (.slice none n _) => if n = 0 then some (0, []) else none
  | .lit (.string s) => if sz = 1 then some (s.size, s.data.toList.map fun b => .lit (.int .u8 b.toNat)) else none
  | .eslice => some (0, [])
  | .slice b o n _ esz =>
    match H.get b with
    | some (.cells cs _ _) => if esz = sz then (cut cs o (n * sz)).map fun l => (n, l) else none
    | _ => none
  | _ => none
theorem srcCells_run (s : Sim σ H w) {sz : Nat} {a : AV} {x : Value} {m : Nat} {vs : List AV} (ha : VR σ a x) (h : srcCells H sz a = some (m, vs)) :
    (Builtin.lenOf x).run P w = .ok m w ∧ ∃ xs, (Builtin.firstCells sz m x).run P w = .ok xs.toArray w ∧ VRs σ vs xs ∧ xs.length = m * sz := by
  unfold srcCells at h
  split at h
  · rename_i n c
    split at h
    · rename_i hn
      simp only [VR] at ha; subst ha; subst hn
      injection h with h; injection h with h1 h2; subst h1; subst h2
      exact ⟨rfl, [], rfl, by simp [VRs], by simp⟩
    · cases h
  · rename_i st
    split at h
    · rename_i hn
      simp only [VR] at ha; subst ha; subst hn
      injection h with h; injection h with h1 h2; subst h1; subst h2
      refine ⟨rfl, st.data.toList.map fun b => .int .u8 b.toNat, ?_, ?_, ?_⟩
      · simp [Builtin.firstCells]
        rw [← Array.toList_map, Array.toArray_toList]
      · have := VRs.lits (σ := σ) (st.data.toList.map fun b => Value.int .u8 b.toNat)
        rw [List.map_map] at this
        exact this
      · simp
    · cases h
  · injection h with h; injection h with h1 h2; subst h1; subst h2
    simp only [VR] at ha
    obtain ⟨p, c, rfl⟩ := ha
    refine ⟨rfl, [], ?_, by simp [VRs], by simp⟩
    simp [Builtin.firstCells, loadCells, loadCellsFrom]
  · rename_i b o n c esz
    split at h
    · rename_i cs t ro hb
      split at h
      · subst_vars
        simp only [Option.map_eq_some_iff, Prod.mk.injEq] at h
        obtain ⟨l', hcut, rfl, rfl⟩ := h
        simp only [VR] at ha
        obtain ⟨l, c', hl, rfl, hs⟩ := ha
        obtain ⟨xs, h1, h2, h3⟩ := s.cells hb hl hcut
        refine ⟨rfl, xs, ?_, h1, h2⟩
        simp only [Builtin.firstCells]
        exact run_loadCells ⟨l.blk, l.base + o, none⟩ rfl _ xs h2 h3
      · cases h
    · cases h
  · cases h

def isIntD : TypeDesc → Bool
  | .int _ => true
  | _ => false

/-- The model's append, where there is room. -/
theorem run_append_fits {t1 t2 ty : TypeId} {e : TypeId} {d2 : TypeDesc} {einfo : TypeInfo} (h1 : P.underlying t1 = some (.slice e)) (h2 : P.underlying t2 = some d2) (h2i : isIntD d2 = false)
    (he : P.info? e = some einfo) {base : Option Addr} {n c m : Nat} {x : Value} {xs : List Value} (hl : (Builtin.lenOf x).run P w = .ok m w)
    (hx : (Builtin.firstCells einfo.size m x).run P w = .ok xs.toArray w) (hfit : n + m ≤ c) {w' : World}
    (hst : ∀ a, base = some a → (storeCells (a.add (n * einfo.size)) xs).run P w = .ok () w') (hno : base = none → w' = w) :
    (Builtin.append_ #[t1, t2] ty #[.slice base n c, x]).run P w = .ok (.slice base (n + m) c) w' := by
  unfold Builtin.append_
  simp only [List.getElem?_toArray, List.getElem?_cons_zero, List.getElem?_cons_succ]
  rw [run_bind_ok (run_under h1 w)]
  simp only
  rw [run_bind_ok (run_sizeOf he w)]
  rw [run_bind_ok (run_under h2 w), run_bind_ok (a := false) (w' := w) (by cases d2 <;> first | rfl | (simp [isIntD] at h2i))]
  rw [if_neg (by simp), run_bind_ok hl, if_pos hfit, run_bind_ok (a := xs.toArray) (w' := w) (by rw [if_pos (by simp)]; exact hx)]
  cases base with
  | none =>
    simp only
    have := hno rfl
    subst this
    rfl
  | some a =>
    simp only
    rw [run_bind_ok (hst a rfl)]
    rfl

theorem run_askRoom (n : Nat) (w : World) : (askRoom n).run P w = .ok () w := by
  unfold askRoom
  split
  · simp [mark, Sem.run]
  · rfl
theorem zeroCells_size (zero : Array Value) (n : Nat) : (Builtin.zeroCells zero n).size = n * zero.size := by simp [Builtin.zeroCells]

/-- The model's append, where there is no room. -/
theorem run_append_moves {t1 t2 ty : TypeId} {e : TypeId} {d2 : TypeDesc} {einfo : TypeInfo} {z : Value} (h1 : P.underlying t1 = some (.slice e)) (h2 : P.underlying t2 = some d2) (h2i : isIntD d2 = false)
    (he : P.info? e = some einfo) (hz : einfo.zero = some z) {base : Option Addr} {n c m : Nat} {x : Value} {xs ys : List Value} (hl : (Builtin.lenOf x).run P w = .ok m w)
    (hx : (Builtin.firstCells einfo.size m x).run P { w with drawn := w.drawn + 1 } = .ok xs.toArray { w with drawn := w.drawn + 1 }) (hnofit : c < n + m) (hlim : (2 * (n + m) + 1000) * einfo.bytes ≤ 140737488355328) (h0 : 0 < einfo.bytes)
    (hy : (Builtin.firstCells einfo.size n (.slice base n c)).run P { w with drawn := w.drawn + 1 } = .ok ys.toArray { w with drawn := w.drawn + 1 }) :
    ∃ k w', n + m ≤ k ∧ (Builtin.append_ #[t1, t2] ty #[.slice base n c, x]).run P w = .ok (.slice (some ⟨w.heap.size, 0, none⟩) (n + m) k) w' ∧
      w'.heap = w.heap.push (.cells (ys ++ xs ++ (Builtin.zeroCells z.cells (k - (n + m))).toList).toArray e) ∧ w'.os = w.os ∧ w'.tape = w.tape ∧ w'.output = w.output := by
  have hk := next_le hnofit
  have hbig : Builtin.nextslicecap (n + m) c * einfo.bytes ≤ 140737488355328 := Nat.le_trans (Nat.mul_le_mul_right _ hk) hlim
  have hsmall : n + m ≤ 140737488355328 := by
    have : (n + m) * 1 ≤ (2 * (n + m) + 1000) * einfo.bytes := Nat.mul_le_mul (by omega) h0
    omega
  refine ⟨(n + m) + (w.tape w.drawn (.appendCap (n + m) c e)) % (2 ^ 63 - (n + m)), { w with drawn := w.drawn + 1, heap := w.heap.push (.cells (ys ++ xs ++ (Builtin.zeroCells z.cells ((n + m) + (w.tape w.drawn (.appendCap (n + m) c e)) % (2 ^ 63 - (n + m)) - (n + m))).toList).toArray e) }, by omega, ?_, rfl, rfl, rfl, rfl⟩
  unfold Builtin.append_
  simp only [List.getElem?_toArray, List.getElem?_cons_zero, List.getElem?_cons_succ]
  rw [run_bind_ok (run_under h1 w)]
  simp only
  rw [run_bind_ok (run_sizeOf he w)]
  rw [run_bind_ok (run_under h2 w), run_bind_ok (a := false) (w' := w) (by cases d2 <;> first | rfl | (simp [isIntD] at h2i))]
  rw [if_neg (by simp), run_bind_ok hl, if_neg (by omega), run_bind_ok (run_tinfo he w), if_neg (by
    rintro ⟨_, hb | hb⟩
    · cases hb
    · omega), run_bind_ok (run_tinfo he w), if_neg (by omega)]
  rw [run_bind_ok (a := (n + m) + (w.tape w.drawn (.appendCap (n + m) c e)) % (2 ^ 63 - (n + m))) (w' := { w with drawn := w.drawn + 1 }) (by
    simp [choose, Sem.run, Question.forced, Question.cut])]
  rw [run_bind_ok (run_tinfo he _), run_bind_ok (run_askRoom _ _), run_bind_ok hy]
  rw [run_bind_ok (a := xs.toArray) (w' := { w with drawn := w.drawn + 1 }) (by rw [if_pos (by simp)]; exact hx)]
  rw [run_bind_ok (run_zero he hz _)]
  rw [run_bind_ok (a := (⟨w.heap.size, 0, none⟩ : Addr)) (w' := { w with drawn := w.drawn + 1, heap := w.heap.push (.cells (ys ++ xs ++ (Builtin.zeroCells z.cells ((n + m) + (w.tape w.drawn (.appendCap (n + m) c e)) % (2 ^ 63 - (n + m)) - (n + m))).toList).toArray e) }) (by
    simp only [newRow]
    rw [run_bind_ok (a := w.heap.size) (w' := { w with drawn := w.drawn + 1, heap := w.heap.push (.cells (ys ++ xs ++ (Builtin.zeroCells z.cells ((n + m) + (w.tape w.drawn (.appendCap (n + m) c e)) % (2 ^ 63 - (n + m)) - (n + m))).toList).toArray e) })]
    · rfl
    · rw [show ∀ Z : Array Value, ys.toArray ++ xs.toArray ++ Z = (ys ++ xs ++ Z.toList).toArray from fun Z => by simp]
      rfl)]
  rfl

/-! ### append -/
def appLim (n m bs : Nat) : Bool := decide ((2 * (n + m) + 1000) * bs ≤ 140737488355328 ∧ 0 < bs)

def appendOp (T : Tr TInfo) (H : Heap) (nx : Nat) (t1 : TypeId) (s : AV) (t2 : TypeId) (x : AV) : Res :=
  match T.get t1 with
  | some { desc := .slice e, .. } =>
    match T.get e, T.get t2 with
    | some { size := sz, bytes := bs, zero := some _, .. }, some xi =>
      if isIntD xi.desc then none else
      match srcCells H sz x with
      | none => none
      | some (m, new) =>
        match s with
        | .lit (.slice none 0 0) =>
          if m = 0 then some (s, H, nx) else if appLim 0 m bs then some (.slice nx 0 m none sz, H.put nx (some (.cells new e false)), nx + 1) else none
        | .slice b o n c esz =>
          if m = 0 then some (s, H, nx) else
          if esz ≠ sz ∨ sz = 0 then none else
          match H.get b with
          | some (.cells cs tb ro) =>
            let inplace : Res :=
              if o + (n + m) * sz ≤ cs.length ∧ ro = false ∧ new.all one = true then some (.slice b o (n + m) c sz, H.put b (some (.cells (overA cs (o + n * sz) new) tb ro)), nx) else none
            match c with
            | some k =>
              if n + m ≤ k then inplace else
              match cut cs o (n * sz) with
              | some old => if appLim n m bs then some (.slice nx 0 (n + m) none sz, H.put nx (some (.cells (old ++ new) e false)), nx + 1) else none
              | none => none
            | none =>
              if o + (n + m) * sz ≤ cs.length then inplace else
              match cut cs o (n * sz) with
              | some old => if appLim n m bs ∧ ro = false ∧ tb = e ∧ new.all one = true ∧ o = 0 then some (.slice nx 0 (n + m) none sz, (H.put b none).put nx (some (.cells (old ++ new) e false)), nx + 1) else none
              | none => none
          | _ => none
        | _ => none
    | _, _ => none
  | _ => none

theorem Out.draw_alloc (g : Good σ H nx w) {cs : List AV} {C : List Value} {rest : List Value} {e : TypeId} {n k sz : Nat} (hC : VRs σ cs C) (hsz : C.length = n * sz) (hk : n ≤ k) (hr : rest.length = (k - n) * sz)
    (hw : w'.heap = w.heap.push (.cells (C ++ rest).toArray e)) (h1 : w'.os = w.os) (h2 : w'.tape = w.tape) (h3 : w'.output = w.output) :
    ∃ σ', VR σ' (.slice nx 0 n none sz) (.slice (some ⟨w.heap.size, 0, none⟩) n k) ∧ Step σ H nx w σ' (H.put nx (some (.cells cs e false))) (nx + 1) w' ∧ Good σ' (H.put nx (some (.cells cs e false))) (nx + 1) w' := by
  have hl := hC.length
  have ht : (C ++ rest).length = k * sz := by
    rw [List.length_append, hsz, hr, ← Nat.add_mul]; congr 1; omega
  have := alloc_step (w' := w') g (o := .cells cs e false) (O := .cells (C ++ rest).toArray e) (room := k * sz) hw h1 h2 h3
    ⟨(C ++ rest).toArray, (0, 0), rfl, by simpa using ht, by
      simp only [Nat.zero_add, Loc.base_eq]; rw [← hl, ← ht]; simp, fun i v hi => by
      obtain ⟨x, hx, hv⟩ := hC.get? hi
      exact ⟨x, by
        have hlt : i < C.length := by
          rcases Nat.lt_or_ge i C.length with h | h
          · exact h
          · rw [List.getElem?_eq_none h] at hx; cases hx
        simpa [List.getElem?_append_left hlt, Loc.base_eq] using hx, hv⟩, fun _ i _ => by simp⟩
  refine ⟨_, ?_, this.1, this.2⟩
  simp only [VR]
  exact ⟨_, k, Sig.upd_same _ _ _, rfl, hk, by simp [Loc.base_eq], by simp [Loc.base_eq]⟩

theorem appendOp_out {T : Tr TInfo} (hT : TOK P T) (g : Good σ H nx w) {t1 t2 ty : TypeId} {s x v : AV} {sv xv : Value} (hs : VR σ s sv) (hx : VR σ x xv)
    (h : appendOp T H nx t1 s t2 x = some (v, H', nx')) : Out P σ H nx w v H' nx' (Builtin.append_ #[t1, t2] ty #[sv, xv]) := by
  unfold appendOp at h
  split at h
  rotate_left
  · cases h
  rename_i e sz1 by1 ag1 ze1 ps1 h1
  split at h
  rotate_left
  · cases h
  rename_i d sz bs ag z ps xi he h2
  split at h
  · cases h
  rename_i hint
  have hint' : isIntD xi.desc = false := by simpa using hint
  have F1 := (hT _ _ h1).under
  have F2 := (hT _ _ h2).under
  obtain ⟨info, e1, e2, e3, e4⟩ := (hT _ _ he).info
  have hzs := (hT _ _ he).zsize
  simp only at e2 e3 e4 hzs F1
  have hzsz : z.cells.size = sz := hzs z rfl
  split at h
  · cases h
  rename_i m new hsrc
  have gd : Good σ H nx { w with drawn := w.drawn + 1 } := g.draw rfl
  obtain ⟨hl, xs, hxs, hnew, hlen⟩ := srcCells_run (P := P) g.toSim hx hsrc
  obtain ⟨_, xs1, hxs1, hnew1, hlen1⟩ := srcCells_run (P := P) gd.toSim hx hsrc
  have lim : ∀ n, appLim n m bs = true → (2 * (n + m) + 1000) * info.bytes ≤ 140737488355328 ∧ 0 < info.bytes := fun n hh => by
    rw [e3]; simpa [appLim] using hh
  split at h
  · -- nil
    simp only [VR] at hs
    subst hs
    split at h
    · rename_i hm
      subst hm
      simp only [Option.some.injEq, Prod.mk.injEq] at h
      obtain ⟨rfl, rfl, rfl⟩ := h
      exact Out.same g (run_append_fits F1 F2 hint' e1 hl (by rw [e2]; exact hxs) (Nat.le_refl _) (fun a ha => by cases ha) (fun _ => rfl)) (by simp [VR])
    · rename_i hm
      split at h
      · rename_i hlim
        simp only [Option.some.injEq, Prod.mk.injEq] at h
        obtain ⟨rfl, rfl, rfl⟩ := h
        obtain ⟨k, w', hk, hr, hw, q1, q2, q3⟩ := run_append_moves (ty := ty) (ys := []) F1 F2 hint' e1 e4 hl (by rw [e2]; exact hxs1) (c := 0) (n := 0) (base := none) (by omega) (lim 0 hlim).1 (lim 0 hlim).2 rfl
        simp only [Nat.zero_add, List.nil_append] at hk hr hw
        obtain ⟨σ', r1, r2, r3⟩ := Out.draw_alloc g hnew1 hlen1 hk (by rw [Array.length_toList, zeroCells_size, hzsz]) hw q1 q2 q3
        exact ⟨_, w', σ', hr, r1, r2, r3⟩
      · cases h
  · rename_i b o n c esz
    have hs0 := hs
    simp only [VR] at hs
    obtain ⟨l, c', hlb, rfl, hok1, hok2, hok3⟩ := hs
    split at h
    · rename_i hm
      subst hm
      simp only [Option.some.injEq, Prod.mk.injEq] at h
      obtain ⟨rfl, rfl, rfl⟩ := h
      have hx0 : xs = [] := List.eq_nil_of_length_eq_zero (by simpa using hlen)
      subst hx0
      exact Out.same g (run_append_fits F1 F2 hint' e1 hl (by rw [e2]; exact hxs) hok1 (fun a ha => by simp [storeCells]) (fun _ => rfl)) (by simpa using hs0)
    rename_i hm
    split at h
    · cases h
    rename_i hesz
    obtain ⟨rfl, hsz0⟩ : esz = sz ∧ sz ≠ 0 := by
      constructor
      · rcases Decidable.em (esz = sz) with hh | hh
        · exact hh
        · exact absurd (.inl hh) hesz
      · exact fun hh => hesz (.inr hh)
    split at h
    rotate_left
    · cases h
    rename_i cs tb ro hb
    simp only at h
    -- in place
    have inplace : ∀ {v H' nx'}, (if o + (n + m) * esz ≤ cs.length ∧ ro = false ∧ new.all one = true then some (AV.slice b o (n + m) c esz, H.put b (some (.cells (overA cs (o + n * esz) new) tb ro)), nx) else none) = some (v, H', nx') →
        n + m ≤ c' → Out P σ H nx w v H' nx' (Builtin.append_ #[t1, t2] ty #[.slice (some ⟨l.blk, l.base + o, none⟩) n c', xv]) := by
      intro v H' nx' hh hfit
      split at hh
      · rename_i hc
        obtain ⟨c1, rfl, c3⟩ := hc
        simp only [Option.some.injEq, Prod.mk.injEq] at hh
        obtain ⟨rfl, rfl, rfl⟩ := hh
        have hnl := hnew.length
        obtain ⟨w', hst, s1, s2⟩ := store_out (P := P) g hb hlb (o := o + n * esz) hnew (by rw [← hnl, hlen, Nat.add_assoc, ← Nat.add_mul]; exact c1) c3
        refine ⟨_, w', σ, run_append_fits F1 F2 hint' e1 hl (by rw [e2]; exact hxs) hfit (fun a ha => ?_) (fun hh => by cases hh), ?_, s1, s2⟩
        · injection ha with ha; subst ha
          rw [add_addr _ _ rfl, e2, Nat.add_assoc]
          exact hst
        · simp only [VR]
          exact ⟨l, c', hlb, rfl, hfit, hok2, hok3⟩
      · cases hh
    -- moved
    obtain ⟨C, fz, hCe, hC1, hC2, hC3, hC4⟩ := g.obj b _ l hb hlb
    have moves : ∀ {old : List AV}, cut cs o (n * esz) = some old → appLim n m bs = true → c' < n + m →
        ∃ k w' σ', (Builtin.append_ #[t1, t2] ty #[.slice (some ⟨l.blk, l.base + o, none⟩) n c', xv]).run P w = .ok (.slice (some ⟨w.heap.size, 0, none⟩) (n + m) k) w' ∧
          VR σ' (.slice nx 0 (n + m) none esz) (.slice (some ⟨w.heap.size, 0, none⟩) (n + m) k) ∧ Step σ H nx w σ' (H.put nx (some (.cells (old ++ new) e false))) (nx + 1) w' ∧
          Good σ' (H.put nx (some (.cells (old ++ new) e false))) (nx + 1) w' := by
      intro old hcut hlim hno
      obtain ⟨ys, hy1, hy2, hy3⟩ := gd.toSim.cells hb hlb hcut
      obtain ⟨k, w', hk, hr, hw, q1, q2, q3⟩ := run_append_moves (ty := ty) (ys := ys) (n := n) (c := c') (base := some ⟨l.blk, l.base + o, none⟩) F1 F2 hint' e1 e4 hl (by rw [e2]; exact hxs1) hno (lim n hlim).1 (lim n hlim).2
        (by simp only [Builtin.firstCells]; rw [e2]; exact run_loadCells ⟨l.blk, l.base + o, none⟩ rfl _ ys hy2 hy3)
      obtain ⟨σ', r1, r2, r3⟩ := Out.draw_alloc g (hy1.append hnew1) (n := n + m) (by rw [List.length_append, hy2, hlen1, ← Nat.add_mul]) hk (by rw [Array.length_toList, zeroCells_size, hzsz]) hw q1 q2 q3
      exact ⟨k, w', σ', hr, r1, r2, r3⟩
    split at h
    · rename_i k
      simp only at hok3
      subst hok3
      split at h
      · rename_i hfit
        exact inplace h hfit
      · rename_i hfit
        split at h
        · rename_i old hcut
          split at h
          · rename_i hlim
            simp only [Option.some.injEq, Prod.mk.injEq] at h
            obtain ⟨rfl, rfl, rfl⟩ := h
            obtain ⟨k, w', σ', hr, r1, r2, r3⟩ := moves hcut hlim (by omega)
            exact ⟨_, w', σ', hr, r1, r2, r3⟩
          · cases h
        · cases h
    · simp only at hok3
      split at h
      · rename_i hfit
        refine inplace h ?_
        have : (n + m) * esz ≤ c' * esz := by omega
        exact Nat.le_of_mul_le_mul_right this (by omega)
      · rename_i hfit
        split at h
        · rename_i old hcut
          split at h
          · rename_i hc
            obtain ⟨hlim, rfl, rfl, hone, rfl⟩ := hc
            simp only [Option.some.injEq, Prod.mk.injEq] at h
            obtain ⟨rfl, rfl, rfl⟩ := h
            obtain ⟨k1, k2⟩ := kill_step g hb rfl hlb
            by_cases hfit' : n + m ≤ c'
            · -- it had room: the new name takes the memory over
              have hnl := hnew.length
              have hroom : (n + m) * esz ≤ c' * esz := Nat.mul_le_mul_right _ hfit'
              rw [Nat.add_mul] at hroom
              obtain ⟨w', hr, hh, hoth, hz, q1, q2, q3⟩ := run_storeCells (P := P) ⟨l.blk, l.base + 0 + n * esz, none⟩ rfl xs 0 w C tb fz hCe (by simp <;> omega) (one_VRs hnew hone) (fun j hj => hC4 rfl j (by omega))
              simp only [Nat.add_zero] at hh
              have hcutl : 0 + n * esz ≤ cs.length ∧ old = (cs.drop 0).take (n * esz) := by
                unfold cut at hcut
                split at hcut
                · injection hcut with hcut; exact ⟨‹_›, hcut.symm⟩
                · cases hcut
              obtain ⟨hco, rfl⟩ := hcutl
              have hol : ((cs.drop 0).take (n * esz)).length = n * esz := by simp <;> omega
              have tk := take_step (w' := w') (l' := ⟨l.blk, l.room⟩) (o' := .cells ((cs.drop 0).take (n * esz) ++ new) tb false) g hb rfl hlb rfl hz (fun k hk => hoth k hk) q1 q2 q3 (by
                refine ⟨_, fz, hh, by simp [over_length, hC1], by rw [List.length_append, hol]; simp only [Loc.base_eq]; simp only [Loc.base_eq] at hC2 hok2 hroom; omega, fun i v hi => ?_, fun _ => hC4 rfl⟩
                simp only [Loc.base_eq, Nat.zero_add]
                rw [List.getElem?_toArray, over_get _ _ _ _ (by simp <;> omega)]
                by_cases hin : i < n * esz
                · rw [List.getElem?_append_left (by rw [hol]; exact hin), List.getElem?_take, if_pos hin, List.getElem?_drop] at hi
                  rw [if_neg (by (try simp only [Loc.base_eq]); omega), Array.getElem?_toList]
                  obtain ⟨x, hx, hv⟩ := hC3 _ _ hi
                  exact ⟨x, by rw [← hx]; first | (congr 1; done) | (congr 1; omega) | (congr 1; simp only [Loc.base_eq]; omega), hv⟩
                · rw [List.getElem?_append_right (by rw [hol]; omega), hol] at hi
                  obtain ⟨x, hx, hv⟩ := hnew.get? hi
                  have hlt : i - n * esz < xs.length := by
                    rcases Nat.lt_or_ge (i - n * esz) xs.length with h | h
                    · exact h
                    · rw [List.getElem?_eq_none h] at hx; cases hx
                  exact ⟨x, by rw [if_pos (by (try simp only [Loc.base_eq]); omega), ← hx] <;> first | (congr 1; done) | (congr 1; omega) | (congr 1; simp only [Loc.base_eq]; omega), hv⟩)
              refine ⟨_, w', _, run_append_fits F1 F2 hint' e1 hl (by rw [e2]; exact hxs) hfit' (fun a ha => ?_) (fun hh => by cases hh), ?_, tk.1, tk.2⟩
              · injection ha with ha; subst ha
                rw [add_addr _ _ rfl, e2]
                exact hr
              · simp only [VR]
                exact ⟨_, c', Sig.upd_same _ _ _, rfl, hfit', by simpa using hok2, by simpa using hok3⟩
            · -- it had none
              obtain ⟨ys, hy1, hy2, hy3⟩ := gd.toSim.cells hb hlb hcut
              obtain ⟨k, w', hk, hr, hw, q1, q2, q3⟩ := run_append_moves (ty := ty) (ys := ys) (n := n) (c := c') (base := some ⟨l.blk, l.base + 0, none⟩) F1 F2 hint' e1 e4 hl (by rw [e2]; exact hxs1) (by omega) (lim n hlim).1 (lim n hlim).2
                (by simp only [Builtin.firstCells]; rw [e2]; exact run_loadCells ⟨l.blk, l.base + 0, none⟩ rfl _ ys hy2 hy3)
              obtain ⟨σ', r1, r2, r3⟩ := Out.draw_alloc k2 (hy1.append hnew1) (n := n + m) (by rw [List.length_append, hy2, hlen1, ← Nat.add_mul]) hk (by rw [Array.length_toList, zeroCells_size, hzsz]) hw q1 q2 q3
              exact ⟨_, w', σ', hr, r1, Step.trans g k1 r2, r3⟩
          · cases h
        · cases h
  · cases h
end CI
