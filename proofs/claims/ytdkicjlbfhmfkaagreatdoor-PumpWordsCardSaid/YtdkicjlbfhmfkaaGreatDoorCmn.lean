/- CI: a function that ranges over a map: whatever the order, it comes to the same. -/
import Derived.Test.YtdkicjlbfhmfkaaGreatDoorCmm
set_option linter.unusedVariables false
set_option linter.unusedSimpArgs false
noncomputable section
namespace CI
open Go

def pairsB : List (AV × AV) → List (AV × AV) → Bool
  | [], [] => true
  | a :: l, b :: r => AV.eqB a.1 b.1 && AV.eqB a.2 b.2 && pairsB l r
  | _, _ => false
theorem pairsB_ok : ∀ {a b : List (AV × AV)}, pairsB a b = true → a = b
  | [], [], _ => rfl
  | [], _ :: _, h => by simp [pairsB] at h
  | _ :: _, [], h => by simp [pairsB] at h
  | (a1, a2) :: l, (b1, b2) :: r, h => by
    simp only [pairsB, Bool.and_eq_true] at h
    rw [AV.eqB_ok h.1.1, AV.eqB_ok h.1.2, pairsB_ok h.2]
def eqO : AObj → AObj → Bool
  | .cells a t r, .cells b t' r' => AV.eqBs a b && decide (t = t') && decide (r = r')
  | .map a r, .map b r' => pairsB a b && decide (r = r')
  | .iter r, .iter r' => decide (r = r')
  | .nit r, .nit r' => decide (r = r')
  | _, _ => false
theorem eqO_ok {a b : AObj} (h : eqO a b = true) : a = b := by
  unfold eqO at h
  split at h
  · simp only [Bool.and_eq_true, decide_eq_true_eq] at h
    rw [AV.eqBs_ok h.1.1, h.1.2, h.2]
  · simp only [Bool.and_eq_true, decide_eq_true_eq] at h
    rw [pairsB_ok h.1, h.2]
  · simp only [decide_eq_true_eq] at h; rw [h]
  · simp only [decide_eq_true_eq] at h; rw [h]
  · cases h
def eqOO : Option AObj → Option AObj → Bool
  | none, none => true
  | some a, some b => eqO a b
  | _, _ => false
theorem eqOO_ok {a b : Option AObj} (h : eqOO a b = true) : a = b := by
  unfold eqOO at h
  split at h
  · rfl
  · rw [eqO_ok h]
  · cases h

def restrictH (n : Nat) (f : Nat → Option AObj) : Heap := (List.range n).foldl (fun (T : Heap) b => T.put b (f b)) .nil
theorem restrict_get (f : Nat → Option AObj) : ∀ (n j : Nat), (restrictH n f).get j = if j < n then f j else none
  | 0, j => by simp [restrictH, Tr.get_nil]
  | n + 1, j => by
    have ih := restrict_get f n j
    unfold restrictH at ih ⊢
    rw [List.range_succ, List.foldl_append, List.foldl_cons, List.foldl_nil, Tr.get_put, ih]
    by_cases h : j = n
    · subst h; rw [if_pos rfl, if_pos (by omega)]
    · rw [if_neg h]
      by_cases h2 : j < n
      · rw [if_pos h2, if_pos (by omega)]
      · rw [if_neg h2, if_neg (by omega)]

def agree (H1 : Heap) (rest : List Ret) (b : Nat) : Bool := rest.all fun r => eqOO (H1.get b) (r.2.1.get b)
def maxNx (l : List Ret) : Nat := l.foldl (fun n r => max n r.2.2) 0
theorem foldl_max_ge : ∀ (l : List Ret) (n : Nat), n ≤ l.foldl (fun n r => max n r.2.2) n
  | [], n => Nat.le_refl _
  | r :: l, n => Nat.le_trans (Nat.le_max_left _ _) (foldl_max_ge l (max n r.2.2))
theorem foldl_max_mem : ∀ (l : List Ret) (n : Nat) (r : Ret), r ∈ l → r.2.2 ≤ l.foldl (fun n r => max n r.2.2) n
  | [], _, _, h => by simp at h
  | a :: l, n, r, h => by
    rcases List.mem_cons.1 h with rfl | h
    · exact Nat.le_trans (Nat.le_max_right n _) (foldl_max_ge l _)
    · exact foldl_max_mem l _ r h
theorem maxNx_mem {l : List Ret} {r : Ret} (h : r ∈ l) : r.2.2 ≤ maxNx l := foldl_max_mem l 0 r h
def merge (nx0 : Nat) : List Ret → Option Ret
  | [] => none
  | [r] => some r
  | r1 :: rest =>
    if rest.all (fun r => AV.eqB r1.1 r.1) && (List.range nx0).all (agree r1.2.1 rest) then
      some (r1.1, restrictH (maxNx (r1 :: rest)) (fun b => if agree r1.2.1 rest b then r1.2.1.get b else none), maxNx (r1 :: rest))
    else none

theorem merge_ok {nx0 : Nat} {outs : List Ret} {v v' : AV} {H H' : Heap} {nx nx' : Nat} (hm : (v, H, nx) ∈ outs) (h : merge nx0 outs = some (v', H', nx')) (hlt : nx0 ≤ nx) :
    v' = v ∧ nx ≤ nx' ∧ (∀ b o, H'.get b = some o → H.get b = some o) ∧ (∀ b, b < nx0 → H'.get b = H.get b) := by
  unfold merge at h
  split at h
  · cases h
  · rename_i r
    simp only [List.mem_singleton] at hm
    subst hm
    simp only [Option.some.injEq, Prod.mk.injEq] at h
    obtain ⟨rfl, rfl, rfl⟩ := h
    exact ⟨rfl, Nat.le_refl _, fun _ _ h => h, fun _ _ => rfl⟩
  · rename_i r1 rest _
    split at h
    · rename_i hc
      simp only [Bool.and_eq_true, List.all_eq_true] at hc
      simp only [Option.some.injEq, Prod.mk.injEq] at h
      obtain ⟨rfl, rfl, rfl⟩ := h
      have hmx := maxNx_mem hm
      have key : r1.1 = v ∧ ∀ b, agree r1.2.1 rest b = true → r1.2.1.get b = H.get b := by
        rcases List.mem_cons.1 hm with he | hm
        · subst he
          exact ⟨rfl, fun _ _ => rfl⟩
        · have h1 := hc.1 _ hm
          refine ⟨AV.eqB_ok h1, fun b hb => ?_⟩
          unfold agree at hb
          rw [List.all_eq_true] at hb
          exact eqOO_ok (hb _ hm)
      obtain ⟨k1, k3⟩ := key
      refine ⟨k1, hmx, fun b o hb => ?_, fun b hb => ?_⟩
      · rw [restrict_get] at hb
        split at hb
        · split at hb
          · rename_i ha; rw [← k3 b ha]; exact hb
          · cases hb
        · cases hb
      · simp only at hmx
        rw [restrict_get, if_pos (by omega)]
        have := hc.2 b (List.mem_range.2 hb)
        rw [if_pos this, k3 b this]
    · cases h

def outsOf (C : Cx) (rs : List ResultVar) : OutL → Option (List Ret)
  | [] => some []
  | (ex, s, _) :: L =>
    match ex with
    | .exit _ => none
    | _ => (resA C s rs).bind fun v => (outsOf C rs L).map fun l => (v, s.H, s.nx) :: l
theorem outsOf_mem {C : Cx} {rs : List ResultVar} : ∀ {L : OutL} {l : List Ret}, outsOf C rs L = some l → ∀ {ex : Ex} {s : St} {I : Option It}, (ex, s, I) ∈ L → (ex = .normal ∨ ex = .ret) ∧ ∃ v, resA C s rs = some v ∧ (v, s.H, s.nx) ∈ l
  | [], _, _, _, _, _, hm => by simp at hm
  | (e0, s0, I0) :: L, l, h, ex, s, I, hm => by
    have base : (e0 = .normal ∨ e0 = .ret) ∧ ∃ v l', resA C s0 rs = some v ∧ outsOf C rs L = some l' ∧ l = (v, s0.H, s0.nx) :: l' := by
      cases e0 with
      | exit i => simp [outsOf] at h
      | normal =>
        simp only [outsOf, Option.bind_eq_some_iff, Option.map_eq_some_iff] at h
        obtain ⟨v, h1, l', h2, rfl⟩ := h
        exact ⟨.inl rfl, v, l', h1, h2, rfl⟩
      | ret =>
        simp only [outsOf, Option.bind_eq_some_iff, Option.map_eq_some_iff] at h
        obtain ⟨v, h1, l', h2, rfl⟩ := h
        exact ⟨.inr rfl, v, l', h1, h2, rfl⟩
    obtain ⟨b1, v, l', b2, b3, rfl⟩ := base
    rcases List.mem_cons.1 hm with he | hm
    · simp only [Prod.mk.injEq] at he
      obtain ⟨rfl, rfl, rfl⟩ := he
      exact ⟨b1, v, b2, by simp⟩
    · obtain ⟨c1, u, c2, c3⟩ := outsOf_mem b3 hm
      exact ⟨c1, u, c2, List.mem_cons_of_mem _ c3⟩

/-- What may come of a function, whatever the orders. -/
def outsL (C : Cx) (call : CallF) (callM : CallM) (n : Nat) (F : Nat → Option Func) : CallM := fun k args H nx =>
  match F k with
  | none => none
  | some fn =>
    match fn.body with
    | none => none
    | some body =>
      if args.length ≤ fn.ntmps then
        (execL C call callM n fn.ntmps body ⟨argEnv args, H, nx⟩ none).bind fun L => outsOf C fn.results.toList L
      else none
def callL (C : Cx) (call : CallF) (callM : CallM) (n : Nat) (F : Nat → Option Func) : CallF := fun k args H nx => (outsL C call callM n F k args H nx).bind (merge nx)

/-- Less is known of the heap behind. -/
theorem step_less {σ σ' : Sig} {H H1 H2 : Heap} {nx nx' nx2 : Nat} {w w' : World} (g : Good σ H nx w) (s : Step σ H nx w σ' H1 nx' w') (g' : Good σ' H1 nx' w') (h1 : ∀ b o, H2.get b = some o → H1.get b = some o) (h2 : ∀ b, b < nx → H2.get b = H1.get b) (hn : nx' ≤ nx2) :
    Step σ H nx w σ' H2 nx2 w' ∧ Good σ' H2 nx2 w' := by
  have lt : ∀ b o, H.get b = some o → b < nx := fun b o hb => by
    rcases Nat.lt_or_ge b nx with h | h
    · exact h
    · rw [(g.fresh b h).2] at hb; cases hb
  have hs : Step σ H nx w σ' H2 nx2 w' := ⟨s.os, s.tape, s.output, s.size, Nat.le_trans s.grow hn, s.old, fun b o hb hr => by rw [h2 b (lt b o hb)]; exact s.ro b o hb hr, fun b hb hn => by rw [h2 b hb]; exact s.dead b hb hn,
    fun b hb hn => by rw [h2 b hb]; exact s.unreal b hb hn, s.frame, fun b l o hb hl hlt => s.own b l o (h1 b o hb) hl hlt⟩
  refine ⟨hs, g.up hs ⟨⟨fun b o l hb hl => g'.obj b o l (h1 b o hb) hl, fun b b' o o' l l' hb hb' hl hl' he => g'.inj b b' o o' l l' (h1 b o hb) (h1 b' o' hb') hl hl' he⟩, fun b hb => ⟨(g'.fresh b (Nat.le_trans hn hb)).1, ?_⟩⟩⟩
  cases hb' : H2.get b with
  | none => rfl
  | some o =>
    have := h1 b o hb'
    rw [(g'.fresh b (Nat.le_trans hn hb)).2] at this; cases this

theorem outsL_ok {C : Cx} (hC : C.Sound) {call : CallF} (hcall : CallOK C call) {callM : CallM} (hM : CallMOK C callM) {n : Nat} {F : Nat → Option Func}
    (hF : ∀ k fn, F k = some fn → C.P.funcs[k]? = some fn ∧ (fn.name == "runtime.NumGoroutine") = false ∧ ∀ c, fn.body = some c → codeOK c = true) : CallMOK C (outsL C call callM n F) := by
  intro k args H nx outs h σ w xs hxs g
  unfold outsL at h
  split at h
  · cases h
  · rename_i fn hfn
    split at h
    · cases h
    · rename_i body hbody
      obtain ⟨hf, hname, hok⟩ := hF k fn hfn
      have hok := hok body hbody
      split at h
      · rename_i hle
        have hact := argEnv_R hxs hle
        simp only [Option.bind_eq_some_iff] at h
        obtain ⟨L, hL, ho⟩ := h
        constructor
        · unfold callFunc
          rw [run_bind_ok (a := C.P) (w' := w) rfl]
          simp only [hf]
          rw [if_neg (by rw [hname]; simp), if_neg (by simp [hbody])]
          rfl
        · refine calls_of_wp hf hbody ?_
          refine wp_mono (execL_ok hC hcall hM n _ _ _ _ _ hL hok σ w _ hact g trivial) ?_
          rintro e a' w' ⟨ex, s', I', hm, he, σ', h1, h2, h3, _⟩
          obtain ⟨hor, u, hu, hin⟩ := outsOf_mem ho hm
          obtain ⟨x, hx1, hx2⟩ := resA_run hC.toOK h3 h1 hu
          rcases hor with rfl | rfl <;> subst he <;> exact ⟨h1.defers, x, hx1, u, s'.H, s'.nx, hin, x, σ', rfl, hx2, h2, h3⟩
      · cases h
theorem callL_ok {C : Cx} (hC : C.Sound) {call : CallF} (hcall : CallOK C call) {callM : CallM} (hM : CallMOK C callM) {n : Nat} {F : Nat → Option Func}
    (hF : ∀ k fn, F k = some fn → C.P.funcs[k]? = some fn ∧ (fn.name == "runtime.NumGoroutine") = false ∧ ∀ c, fn.body = some c → codeOK c = true) : CallOK C (callL C call callM n F) := by
  intro k args H nx v H' nx' h σ w xs hxs g
  unfold callL at h
  simp only [Option.bind_eq_some_iff] at h
  obtain ⟨outs, ho, hmg⟩ := h
  obtain ⟨h1, h2⟩ := outsL_ok hC hcall hM hF k args H nx outs ho σ w xs hxs g
  refine ⟨h1, h2.mono ?_⟩
  rintro e w' ⟨u, H1, n1, hin, x, σ', rfl, r1, r2, r3⟩
  obtain ⟨rfl, k2, k3, k4⟩ := merge_ok hin hmg r2.grow
  obtain ⟨q1, q2⟩ := step_less g r2 r3 k3 k4 k2
  exact ⟨x, σ', rfl, r1, q1, q2⟩
end CI
