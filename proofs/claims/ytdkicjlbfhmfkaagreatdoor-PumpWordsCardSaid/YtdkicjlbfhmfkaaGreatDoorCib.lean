/- CI, part b: the abstract heap and how the model's memory bears it. -/
import Derived.Test.YtdkicjlbfhmfkaaGreatDoorCia
import Derived.Test.YtdkicjlbfhmfkaaGreatDoorCgl
set_option linter.unusedVariables false
noncomputable section
namespace CI
open Go

inductive AObj where
  | cells (cs : List AV) (t : TypeId) (ro : Bool)
  | map (es : List (AV × AV)) (ro : Bool)
  /-- An iterator over a map. -/
  | iter (ro : Bool)
  /-- An iterator over no map. -/
  | nit (ro : Bool)
  deriving Inhabited

abbrev Heap := Tr AObj

def AObj.isRo : AObj → Bool
  | .cells _ _ ro => ro
  | .map _ ro => ro
  | .iter ro => ro
  | .nit ro => ro

def MapR (σ : Sig) : List (AV × AV) → List MapEntry → Prop
  | [], E => E = []
  | (k, v) :: es, E => ∃ e E', E = e :: E' ∧ VR σ k e.key ∧ VR σ v e.val ∧ MapR σ es E'

/-- A map's entries bear their times of birth, each its own, all in the past. -/
def Borns (L : List MapEntry) (clock : Nat) : Prop := (L.map (·.born)).Nodup ∧ ∀ e ∈ L, e.born < clock
theorem Borns.nil : Borns [] 0 := ⟨by simp, by simp⟩
def OR (σ : Sig) (l : Loc) : AObj → Option Obj → Prop
  | .cells cs t ro, ob => ∃ (C : Array Value) (fz : Nat × Nat), ob = some (.cells C t fz) ∧ C.size = l.room ∧ l.base + cs.length ≤ l.room ∧
      (∀ (i : Nat) (v : AV), cs[i]? = some v → ∃ x, C[l.base + i]? = some x ∧ VR σ v x) ∧ (ro = false → ∀ i, i < l.room → ¬ (fz.1 ≤ i ∧ i < fz.2))
  | .map es _, ob => ∃ (E : Array MapEntry) (clock : Nat) (es' : List (AV × AV)), ob = some (.map E clock) ∧ es'.Perm es ∧ MapR σ es' E.toList ∧ Borns E.toList clock
  | .iter _, ob => ∃ m s sn c, ob = some (.mapIter m s sn c)
  | .nit _, ob => ∃ s sn c, ob = some (.mapIter none s sn c)

theorem MapR.ext {σ σ' : Sig} (h : Ext σ σ') : ∀ {es : List (AV × AV)} {E : List MapEntry}, MapR σ es E → MapR σ' es E
  | [], _, hm => by simpa [MapR] using hm
  | (k, v) :: es, _, hm => by
    simp only [MapR] at hm ⊢
    obtain ⟨e, E', he, h1, h2, h3⟩ := hm
    exact ⟨e, E', he, h1.ext h, h2.ext h, MapR.ext h h3⟩
theorem OR.ext {σ σ' : Sig} (h : Ext σ σ') {l : Loc} {o : AObj} {ob : Option Obj} (ho : OR σ l o ob) : OR σ' l o ob := by
  cases o with
  | cells cs t ro =>
    obtain ⟨C, fz, e, h1, h2, h3, h4⟩ := ho
    exact ⟨C, fz, e, h1, h2, fun i v hi => let ⟨x, hx, hv⟩ := h3 i v hi; ⟨x, hx, hv.ext h⟩, h4⟩
  | map es ro =>
    obtain ⟨E, c, es', e, hp, h1, h2⟩ := ho
    exact ⟨E, c, es', e, hp, h1.ext h, h2⟩
  | iter ro => exact ho
  | nit ro => exact ho
theorem OR.isSome {σ : Sig} {l : Loc} {o : AObj} {ob : Option Obj} (ho : OR σ l o ob) : ob ≠ none := by
  cases o with
  | cells cs t ro => obtain ⟨C, fz, e, _⟩ := ho; rw [e]; simp
  | map es ro => obtain ⟨E, c, _, e, _⟩ := ho; rw [e]; simp
  | iter ro => obtain ⟨m, s, sn, c, e⟩ := ho; rw [e]; simp
  | nit ro => obtain ⟨s, sn, c, e⟩ := ho; rw [e]; simp

structure Sim (σ : Sig) (H : Heap) (w : World) : Prop where
  obj : ∀ b o l, H.get b = some o → σ b = some l → OR σ l o w.heap[l.blk]?
  inj : ∀ b b' o o' l l', H.get b = some o → H.get b' = some o' → σ b = some l → σ b' = some l' → l.blk = l'.blk → b = b'

/-- The listed variables hold what they are listed with. -/
def Glb (w : World) : Prop := ∀ g q, GL g = some q → ∃ cs t fz, w.heap[g]? = some (.cells cs t fz) ∧ q cs.toList
structure Good0 (σ : Sig) (H : Heap) (nx : Nat) (w : World) : Prop extends Sim σ H w where
  fresh : ∀ b, nx ≤ b → σ b = none ∧ H.get b = none
structure Good (σ : Sig) (H : Heap) (nx : Nat) (w : World) : Prop extends Good0 σ H nx w where
  glb : Glb w
  apart : ∀ b l o, H.get b = some o → σ b = some l → o.isRo = false → GL l.blk = none

theorem Glb.lt {w : World} (h : Glb w) {g : Nat} {q : List Value → Prop} (hg : GL g = some q) : g < w.heap.size := by
  obtain ⟨cs, t, fz, e, _⟩ := h g q hg
  exact (Array.getElem?_eq_some_iff.1 e).1
theorem glb_of {σ0 : Sig} {H0 : Heap} {nx0 : Nat} {w0 w : World} (g : Good σ0 H0 nx0 w0)
    (hf : ∀ k, k < w0.heap.size → (∀ b l o, H0.get b = some o → σ0 b = some l → l.blk = k → o.isRo = true) → w.heap[k]? = w0.heap[k]?) : Glb w := by
  intro k q hk
  obtain ⟨cs, t, fz, e, hq⟩ := g.glb k q hk
  refine ⟨cs, t, fz, ?_, hq⟩
  rw [hf k (g.glb.lt hk) fun b l o hb hl he => ?_]
  · exact e
  · cases hr : o.isRo with
    | true => rfl
    | false =>
      have := g.apart b l o hb hl hr
      rw [he, hk] at this; cases this
theorem apart_of {σ0 σ : Sig} {H0 : Heap} {nx0 : Nat} {w0 : World} {K : Nat → Option AObj} (g : Good σ0 H0 nx0 w0) (hro : ∀ b o, H0.get b = some o → o.isRo = true → K b = some o)
    (hown : ∀ b l' o, K b = some o → σ b = some l' → l'.blk < w0.heap.size → ∃ b0 l0 o0, H0.get b0 = some o0 ∧ σ0 b0 = some l0 ∧ l0.blk = l'.blk ∧ (o0.isRo = false ∨ b0 = b)) :
    ∀ b l o, K b = some o → σ b = some l → o.isRo = false → GL l.blk = none := by
  intro b l o hb hl hr
  cases hg : GL l.blk with
  | none => rfl
  | some cs =>
    have hlt := g.glb.lt hg
    obtain ⟨b0, l0, o0, h1, h2, h3, h4⟩ := hown b l o hb hl hlt
    cases hr0 : o0.isRo with
    | false =>
      have := g.apart b0 l0 o0 h1 h2 hr0
      rw [h3, hg] at this; cases this
    | true =>
      rcases h4 with h4 | h4
      · rw [hr0] at h4; cases h4
      · subst h4
        have := hro b0 o0 h1 hr0
        rw [hb] at this; injection this with this; subst this
        rw [hr] at hr0; cases hr0

theorem Sim.lt {σ : Sig} {H : Heap} {w : World} (s : Sim σ H w) {b : Nat} {o : AObj} {l : Loc} (hb : H.get b = some o) (hl : σ b = some l) : l.blk < w.heap.size := by
  have := (s.obj b o l hb hl).isSome
  rcases Nat.lt_or_ge l.blk w.heap.size with h | h
  · exact h
  · exact absurd (Array.getElem?_eq_none h) this

/-- What a step of the run leaves. -/
structure Step (σ : Sig) (H : Heap) (nx : Nat) (w : World) (σ' : Sig) (H' : Heap) (nx' : Nat) (w' : World) : Prop where
  os : w'.os = w.os
  tape : w'.tape = w.tape
  output : w'.output = w.output
  size : w.heap.size ≤ w'.heap.size
  grow : nx ≤ nx'
  old : ∀ b, b < nx → σ' b = σ b
  ro : ∀ b o, H.get b = some o → o.isRo = true → H'.get b = some o
  dead : ∀ b, b < nx → H.get b = none → H'.get b = none
  unreal : ∀ b, b < nx → σ b = none → H'.get b = H.get b
  frame : ∀ k, k < w.heap.size → (∀ b l o, H.get b = some o → σ b = some l → l.blk = k → o.isRo = true) → w'.heap[k]? = w.heap[k]?
  own : ∀ b l o, H'.get b = some o → σ' b = some l → l.blk < w.heap.size →
    ∃ b0 l0 o0, H.get b0 = some o0 ∧ σ b0 = some l0 ∧ l0.blk = l.blk ∧ (o0.isRo = false ∨ b0 = b)

variable {σ σ' σ'' : Sig} {H H' H'' : Heap} {nx nx' nx'' : Nat} {w w' w'' : World}

theorem Step.ext (g : Good σ H nx w) (s : Step σ H nx w σ' H' nx' w') : Ext σ σ' := fun b l h => by
  rcases Nat.lt_or_ge b nx with hb | hb
  · rw [s.old b hb, h]
  · rw [(g.fresh b hb).1] at h; cases h

theorem Step.refl_draw (hh : w'.heap = w.heap) (h1 : w'.os = w.os) (h2 : w'.tape = w.tape) (h3 : w'.output = w.output) : Step σ H nx w σ H nx w' where
  os := h1
  tape := h2
  output := h3
  size := by rw [hh]; exact Nat.le_refl _
  grow := Nat.le_refl _
  old := fun _ _ => rfl
  ro := fun _ _ h _ => h
  dead := fun _ _ h => h
  unreal := fun _ _ _ => rfl
  frame := fun k _ _ => by rw [hh]
  own := fun b l o hb hl _ => ⟨b, l, o, hb, hl, rfl, .inr rfl⟩
theorem Step.refl : Step σ H nx w σ H nx w := Step.refl_draw rfl rfl rfl rfl
theorem Good.draw (g : Good σ H nx w) (hh : w'.heap = w.heap) : Good σ H nx w' where
  obj := by rw [hh]; exact g.obj
  inj := g.inj
  fresh := g.fresh
  glb := by unfold Glb; rw [hh]; exact g.glb
  apart := g.apart
theorem Good.up (g : Good σ H nx w) (s : Step σ H nx w σ' H' nx' w') (h : Good0 σ' H' nx' w') : Good σ' H' nx' w' where
  toGood0 := h
  glb := glb_of g s.frame
  apart := apart_of g s.ro s.own

theorem Step.trans (g : Good σ H nx w) (a : Step σ H nx w σ' H' nx' w') (b : Step σ' H' nx' w' σ'' H'' nx'' w'') : Step σ H nx w σ'' H'' nx'' w'' where
  os := b.os.trans a.os
  tape := b.tape.trans a.tape
  output := b.output.trans a.output
  size := Nat.le_trans a.size b.size
  grow := Nat.le_trans a.grow b.grow
  old := fun i hi => (b.old i (by have := a.grow; omega)).trans (a.old i hi)
  ro := fun i o h hr => b.ro i o (a.ro i o h hr) hr
  dead := fun i hi h => b.dead i (by have := a.grow; omega) (a.dead i hi h)
  unreal := fun i hi h => (b.unreal i (by have := a.grow; omega) ((a.old i hi).trans h)).trans (a.unreal i hi h)
  frame := fun k hk h => by
    rw [b.frame k (Nat.lt_of_lt_of_le hk a.size) ?_]
    · exact a.frame k hk h
    · intro i l o hi hl he
      obtain ⟨b0, l0, o0, h0, hl0, he0, hd⟩ := a.own i l o hi hl (by omega)
      have hro := h b0 l0 o0 h0 hl0 (by omega)
      rcases hd with hd | hd
      · rw [hro] at hd; cases hd
      · subst hd
        have := a.ro b0 o0 h0 hro
        rw [hi] at this; injection this with this; subst this; exact hro
  own := fun i l o hi hl hlt => by
    obtain ⟨b1, l1, o1, h1, hl1, he1, hd1⟩ := b.own i l o hi hl (Nat.lt_of_lt_of_le hlt a.size)
    obtain ⟨b0, l0, o0, h0, hl0, he0, hd0⟩ := a.own b1 l1 o1 h1 hl1 (by omega)
    refine ⟨b0, l0, o0, h0, hl0, by omega, ?_⟩
    rcases hd1 with hd1 | hd1
    · rcases hd0 with hd0 | hd0
      · exact .inl hd0
      · subst hd0
        cases hr : o0.isRo with
        | false => exact .inl rfl
        | true =>
          have := a.ro b0 o0 h0 hr
          rw [h1] at this; injection this with this; subst this
          rw [hr] at hd1; cases hd1
    · subst hd1
      exact hd0

def Sig.upd (σ : Sig) (b : Nat) (l : Loc) : Sig := fun i => if i = b then some l else σ i
theorem Sig.upd_same (σ : Sig) (b : Nat) (l : Loc) : σ.upd b l b = some l := by simp [Sig.upd]
theorem Sig.upd_ne (σ : Sig) (b : Nat) (l : Loc) {i : Nat} (h : i ≠ b) : σ.upd b l i = σ i := by simp [Sig.upd, h]
theorem Sig.upd_ext (σ : Sig) (b : Nat) (l : Loc) (h : σ b = none) : Ext σ (σ.upd b l) := fun i k e => by
  rw [Sig.upd_ne]; exact e
  rintro rfl; rw [h] at e; cases e

/-- A new block. -/
theorem alloc_step0 (g : Good σ H nx w) {o : AObj} {O : Obj} {room : Nat} (hw : w'.heap = w.heap.push O) (h1 : w'.os = w.os) (h2 : w'.tape = w.tape)
    (h3 : w'.output = w.output) (hO : OR σ ⟨w.heap.size, room⟩ o (some O)) :
    Step σ H nx w (σ.upd nx ⟨w.heap.size, room⟩) (H.put nx (some o)) (nx + 1) w' ∧ Good0 (σ.upd nx ⟨w.heap.size, room⟩) (H.put nx (some o)) (nx + 1) w' := by
  have hfr := g.fresh nx (Nat.le_refl _)
  have hext := Sig.upd_ext σ nx ⟨w.heap.size, room⟩ hfr.1
  have hgetlt : ∀ k, k < w.heap.size → w'.heap[k]? = w.heap[k]? := fun k hk => by rw [hw, Array.getElem?_push, if_neg (by omega)]
  refine ⟨?_, ?_⟩
  · refine ⟨h1, h2, h3, by rw [hw]; simp, by omega, fun b hb => Sig.upd_ne _ _ _ (by omega), ?_, ?_, ?_, fun k hk _ => hgetlt k hk, ?_⟩
    · intro b o' hb hr
      rw [Tr.get_put_ne _ _ _ _ (by rintro rfl; rw [hfr.2] at hb; cases hb)]; exact hb
    · intro b hb h; rw [Tr.get_put_ne _ _ _ _ (by omega)]; exact h
    · intro b hb _; rw [Tr.get_put_ne _ _ _ _ (by omega)]
    · intro b l o' hb hl hlt
      by_cases e : b = nx
      · subst e; rw [Sig.upd_same] at hl; injection hl with hl; subst hl; simp at hlt
      · rw [Tr.get_put_ne _ _ _ _ e] at hb; rw [Sig.upd_ne _ _ _ e] at hl
        exact ⟨b, l, o', hb, hl, rfl, .inr rfl⟩
  · refine ⟨⟨?_, ?_⟩, ?_⟩
    · intro b o' l hb hl
      by_cases e : b = nx
      · subst e
        rw [Tr.get_put_same] at hb; injection hb with hb; subst hb
        rw [Sig.upd_same] at hl; injection hl with hl; subst hl
        simp only [hw, Array.getElem?_push_size]
        exact hO.ext hext
      · rw [Tr.get_put_ne _ _ _ _ e] at hb; rw [Sig.upd_ne _ _ _ e] at hl
        rw [hgetlt _ (g.lt hb hl)]
        exact (g.obj b o' l hb hl).ext hext
    · intro b b' o1 o2 l1 l2 hb hb' hl hl' he
      by_cases e : b = nx
      · subst e
        by_cases e' : b' = b
        · exact e'.symm
        · rw [Tr.get_put_ne _ _ _ _ e'] at hb'; rw [Sig.upd_ne _ _ _ e'] at hl'
          rw [Sig.upd_same] at hl; injection hl with hl; subst hl
          have := g.lt hb' hl'
          simp at he; omega
      · rw [Tr.get_put_ne _ _ _ _ e] at hb; rw [Sig.upd_ne _ _ _ e] at hl
        by_cases e' : b' = nx
        · subst e'
          rw [Sig.upd_same] at hl'; injection hl' with hl'; subst hl'
          have := g.lt hb hl
          simp at he; omega
        · rw [Tr.get_put_ne _ _ _ _ e'] at hb'; rw [Sig.upd_ne _ _ _ e'] at hl'
          exact g.inj b b' o1 o2 l1 l2 hb hb' hl hl' he
    · intro b hb
      rw [Tr.get_put_ne _ _ _ _ (by omega), Sig.upd_ne _ _ _ (by omega)]
      exact g.fresh b (by omega)

theorem alloc_step (g : Good σ H nx w) {o : AObj} {O : Obj} {room : Nat} (hw : w'.heap = w.heap.push O) (h1 : w'.os = w.os) (h2 : w'.tape = w.tape)
    (h3 : w'.output = w.output) (hO : OR σ ⟨w.heap.size, room⟩ o (some O)) :
    Step σ H nx w (σ.upd nx ⟨w.heap.size, room⟩) (H.put nx (some o)) (nx + 1) w' ∧ Good (σ.upd nx ⟨w.heap.size, room⟩) (H.put nx (some o)) (nx + 1) w' :=
  have h := alloc_step0 g hw h1 h2 h3 hO
  ⟨h.1, g.up h.1 h.2⟩

/-- A block that is not read-only is written. -/
theorem mod_step0 (g : Good σ H nx w) {b : Nat} {o o' : AObj} {l : Loc} (hb : H.get b = some o) (hro : o.isRo = false) (hl : σ b = some l)
    (hsz : w'.heap.size = w.heap.size) (hoth : ∀ k, k ≠ l.blk → w'.heap[k]? = w.heap[k]?) (h1 : w'.os = w.os) (h2 : w'.tape = w.tape)
    (h3 : w'.output = w.output) (hO : OR σ l o' w'.heap[l.blk]?) :
    Step σ H nx w σ (H.put b (some o')) nx w' ∧ Good0 σ (H.put b (some o')) nx w' := by
  refine ⟨⟨h1, h2, h3, by omega, Nat.le_refl _, fun _ _ => rfl, ?_, ?_, ?_, ?_, ?_⟩, ⟨⟨?_, ?_⟩, ?_⟩⟩
  · intro i oi hi hr
    rw [Tr.get_put_ne _ _ _ _ (by rintro rfl; rw [hb] at hi; injection hi with hi; subst hi; rw [hro] at hr; cases hr)]; exact hi
  · intro i _ hi
    rw [Tr.get_put_ne _ _ _ _ (by rintro rfl; rw [hb] at hi; cases hi)]; exact hi
  · intro i _ hi
    rw [Tr.get_put_ne _ _ _ _ (by rintro rfl; rw [hl] at hi; cases hi)]
  · intro k _ h
    refine hoth k ?_
    rintro rfl
    have := h b l o hb hl rfl
    rw [hro] at this; cases this
  · intro i li oi hi hli _
    by_cases e : i = b
    · subst e
      rw [hl] at hli; injection hli with hli; subst hli
      exact ⟨i, l, o, hb, hl, rfl, .inr rfl⟩
    · rw [Tr.get_put_ne _ _ _ _ e] at hi
      exact ⟨i, li, oi, hi, hli, rfl, .inr rfl⟩
  · intro i oi li hi hli
    by_cases e : i = b
    · subst e
      rw [hl] at hli; injection hli with hli; subst hli
      rw [Tr.get_put_same] at hi; injection hi with hi; subst hi
      exact hO
    · rw [Tr.get_put_ne _ _ _ _ e] at hi
      rw [hoth _ (fun he => e (g.inj i b oi o li l hi hb hli hl he))]
      exact g.obj i oi li hi hli
  · intro i j oi oj li lj hi hj hli hlj he
    have fi : ∃ o, H.get i = some o := by
      by_cases e : i = b
      · subst e; exact ⟨o, hb⟩
      · rw [Tr.get_put_ne _ _ _ _ e] at hi; exact ⟨_, hi⟩
    have fj : ∃ o, H.get j = some o := by
      by_cases e : j = b
      · subst e; exact ⟨o, hb⟩
      · rw [Tr.get_put_ne _ _ _ _ e] at hj; exact ⟨_, hj⟩
    obtain ⟨_, fi⟩ := fi; obtain ⟨_, fj⟩ := fj
    exact g.inj i j _ _ li lj fi fj hli hlj he
  · intro i hi
    have := g.fresh i hi
    rw [Tr.get_put_ne _ _ _ _ (by rintro rfl; rw [hb] at this; cases this.2)]
    exact this

theorem mod_step (g : Good σ H nx w) {b : Nat} {o o' : AObj} {l : Loc} (hb : H.get b = some o) (hro : o.isRo = false) (hl : σ b = some l)
    (hsz : w'.heap.size = w.heap.size) (hoth : ∀ k, k ≠ l.blk → w'.heap[k]? = w.heap[k]?) (h1 : w'.os = w.os) (h2 : w'.tape = w.tape)
    (h3 : w'.output = w.output) (hO : OR σ l o' w'.heap[l.blk]?) :
    Step σ H nx w σ (H.put b (some o')) nx w' ∧ Good σ (H.put b (some o')) nx w' :=
  have h := mod_step0 g hb hro hl hsz hoth h1 h2 h3 hO
  ⟨h.1, g.up h.1 h.2⟩

/-- A block that nobody will look at any more. -/
theorem kill_step0 (g : Good σ H nx w) {b : Nat} {o : AObj} {l : Loc} (hb : H.get b = some o) (hro : o.isRo = false) (hl : σ b = some l) :
    Step σ H nx w σ (H.put b none) nx w ∧ Good0 σ (H.put b none) nx w := by
  have sub : ∀ i oi, (H.put b none).get i = some oi → H.get i = some oi ∧ i ≠ b := fun i oi h => by
    by_cases e : i = b
    · subst e; rw [Tr.get_put_same] at h; cases h
    · rw [Tr.get_put_ne _ _ _ _ e] at h; exact ⟨h, e⟩
  refine ⟨⟨rfl, rfl, rfl, Nat.le_refl _, Nat.le_refl _, fun _ _ => rfl, ?_, ?_, ?_, fun _ _ _ => rfl, ?_⟩, ⟨⟨?_, ?_⟩, ?_⟩⟩
  · intro i oi hi hr
    rw [Tr.get_put_ne _ _ _ _ (by rintro rfl; rw [hb] at hi; injection hi with hi; subst hi; rw [hro] at hr; cases hr)]; exact hi
  · intro i _ hi
    by_cases e : i = b
    · subst e; rw [Tr.get_put_same]
    · rw [Tr.get_put_ne _ _ _ _ e]; exact hi
  · intro i _ hi
    rw [Tr.get_put_ne _ _ _ _ (by rintro rfl; rw [hl] at hi; cases hi)]
  · intro i li oi hi hli _
    exact ⟨i, li, oi, (sub i oi hi).1, hli, rfl, .inr rfl⟩
  · intro i oi li hi hli
    exact g.obj i oi li (sub i oi hi).1 hli
  · intro i j oi oj li lj hi hj hli hlj he
    exact g.inj i j oi oj li lj (sub i oi hi).1 (sub j oj hj).1 hli hlj he
  · intro i hi
    refine ⟨(g.fresh i hi).1, ?_⟩
    by_cases e : i = b
    · subst e; rw [Tr.get_put_same]
    · rw [Tr.get_put_ne _ _ _ _ e]; exact (g.fresh i hi).2

theorem kill_step (g : Good σ H nx w) {b : Nat} {o : AObj} {l : Loc} (hb : H.get b = some o) (hro : o.isRo = false) (hl : σ b = some l) :
    Step σ H nx w σ (H.put b none) nx w ∧ Good σ (H.put b none) nx w :=
  have h := kill_step0 g hb hro hl
  ⟨h.1, g.up h.1 h.2⟩

/-- A new name takes over the memory of a block that nobody will look at any more. -/
theorem take_step0 (g : Good σ H nx w) {b : Nat} {o o' : AObj} {l l' : Loc} (hb : H.get b = some o) (hro : o.isRo = false) (hl : σ b = some l)
    (hbk : l'.blk = l.blk) (hsz : w'.heap.size = w.heap.size) (hoth : ∀ k, k ≠ l.blk → w'.heap[k]? = w.heap[k]?) (h1 : w'.os = w.os) (h2 : w'.tape = w.tape)
    (h3 : w'.output = w.output) (hO : OR σ l' o' w'.heap[l.blk]?) :
    Step σ H nx w (σ.upd nx l') ((H.put b none).put nx (some o')) (nx + 1) w' ∧ Good0 (σ.upd nx l') ((H.put b none).put nx (some o')) (nx + 1) w' := by
  have hfr := g.fresh nx (Nat.le_refl _)
  have hext := Sig.upd_ext σ nx l' hfr.1
  have hbn : b < nx := by
    rcases Nat.lt_or_ge b nx with h | h
    · exact h
    · rw [(g.fresh b h).2] at hb; cases hb
  have sub : ∀ i oi, ((H.put b none).put nx (some o')).get i = some oi → i ≠ nx → H.get i = some oi ∧ i ≠ b := fun i oi h hi => by
    rw [Tr.get_put_ne _ _ _ _ hi] at h
    by_cases e : i = b
    · subst e; rw [Tr.get_put_same] at h; cases h
    · rw [Tr.get_put_ne _ _ _ _ e] at h; exact ⟨h, e⟩
  refine ⟨⟨h1, h2, h3, by omega, by omega, fun i hi => Sig.upd_ne _ _ _ (by omega), ?_, ?_, ?_, ?_, ?_⟩, ⟨⟨?_, ?_⟩, ?_⟩⟩
  · intro i oi hi hr
    rw [Tr.get_put_ne _ _ _ _ (by rintro rfl; rw [hfr.2] at hi; cases hi), Tr.get_put_ne _ _ _ _ (by rintro rfl; rw [hb] at hi; injection hi with hi; subst hi; rw [hro] at hr; cases hr)]
    exact hi
  · intro i hlt hi
    rw [Tr.get_put_ne _ _ _ _ (by omega)]
    by_cases e : i = b
    · subst e; rw [Tr.get_put_same]
    · rw [Tr.get_put_ne _ _ _ _ e]; exact hi
  · intro i hlt hi
    rw [Tr.get_put_ne _ _ _ _ (by omega), Tr.get_put_ne _ _ _ _ (by rintro rfl; rw [hl] at hi; cases hi)]
  · intro k _ h
    refine hoth k ?_
    rintro rfl
    have := h b l o hb hl rfl
    rw [hro] at this; cases this
  · intro i li oi hi hli hlt
    by_cases e : i = nx
    · subst e
      rw [Sig.upd_same] at hli; injection hli with hli; subst hli
      exact ⟨b, l, o, hb, hl, hbk.symm, .inl hro⟩
    · rw [Sig.upd_ne _ _ _ e] at hli
      exact ⟨i, li, oi, (sub i oi hi e).1, hli, rfl, .inr rfl⟩
  · intro i oi li hi hli
    by_cases e : i = nx
    · subst e
      rw [Sig.upd_same] at hli; injection hli with hli; subst hli
      rw [Tr.get_put_same] at hi; injection hi with hi; subst hi
      rw [hbk]; exact hO.ext hext
    · rw [Sig.upd_ne _ _ _ e] at hli
      obtain ⟨hi', hib⟩ := sub i oi hi e
      rw [hoth _ (fun he => hib (g.inj i b oi o li l hi' hb hli hl he))]
      exact (g.obj i oi li hi' hli).ext hext
  · intro i j oi oj li lj hi hj hli hlj he
    by_cases ei : i = nx
    · subst ei
      by_cases ej : j = i
      · exact ej.symm
      · rw [Sig.upd_same] at hli; injection hli with hli; subst hli
        rw [Sig.upd_ne _ _ _ ej] at hlj
        obtain ⟨hj', hjb⟩ := sub j oj hj ej
        exact absurd (g.inj j b oj o lj l hj' hb hlj hl (by omega)) hjb
    · rw [Sig.upd_ne _ _ _ ei] at hli
      obtain ⟨hi', hib⟩ := sub i oi hi ei
      by_cases ej : j = nx
      · subst ej
        rw [Sig.upd_same] at hlj; injection hlj with hlj; subst hlj
        exact absurd (g.inj i b oi o li l hi' hb hli hl (by omega)) hib
      · rw [Sig.upd_ne _ _ _ ej] at hlj
        exact g.inj i j oi oj li lj hi' (sub j oj hj ej).1 hli hlj he
  · intro i hi
    refine ⟨by rw [Sig.upd_ne _ _ _ (by omega)]; exact (g.fresh i (by omega)).1, ?_⟩
    rw [Tr.get_put_ne _ _ _ _ (by omega), Tr.get_put_ne _ _ _ _ (by omega)]
    exact (g.fresh i (by omega)).2
theorem take_step (g : Good σ H nx w) {b : Nat} {o o' : AObj} {l l' : Loc} (hb : H.get b = some o) (hro : o.isRo = false) (hl : σ b = some l)
    (hbk : l'.blk = l.blk) (hsz : w'.heap.size = w.heap.size) (hoth : ∀ k, k ≠ l.blk → w'.heap[k]? = w.heap[k]?) (h1 : w'.os = w.os) (h2 : w'.tape = w.tape)
    (h3 : w'.output = w.output) (hO : OR σ l' o' w'.heap[l.blk]?) :
    Step σ H nx w (σ.upd nx l') ((H.put b none).put nx (some o')) (nx + 1) w' ∧ Good (σ.upd nx l') ((H.put b none).put nx (some o')) (nx + 1) w' :=
  have h := take_step0 g hb hro hl hbk hsz hoth h1 h2 h3 hO
  ⟨h.1, g.up h.1 h.2⟩

end CI
