/- CI: a call's run, told once, serves wherever the memory that it reads looks alike: blocks may bear other names, and what is not reached is not looked at. -/
import Derived.Test.YtdkicjlbfhmfkaaGreatDoorCmn
import Derived.Test.YtdkicjlbfhmfkaaGreatDoorCfa
set_option linter.unusedVariables false
set_option linter.unusedSimpArgs false
noncomputable section
namespace CI
open Go

/-! ### other names -/
mutual
def AV.ren (f : Nat → Nat) : AV → AV
  | .lit v => .lit v
  | .ptr b o => .ptr (f b) o
  | .slice b o n c e => .slice (f b) o n c e
  | .eslice => .eslice
  | .map b => .map (f b)
  | .func fn a b => .func fn (AV.rens f a) (AV.rens f b)
  | .iface t v => .iface t (AV.ren f v)
  | .agg a => .agg (AV.rens f a)
  | .tuple a => .tuple (AV.rens f a)
def AV.rens (f : Nat → Nat) : List AV → List AV
  | [] => []
  | a :: as => AV.ren f a :: AV.rens f as
end
theorem AV.rens_get (f : Nat → Nat) : ∀ (l : List AV) (i : Nat), (AV.rens f l)[i]? = (l[i]?).map (AV.ren f)
  | [], i => by simp [AV.rens]
  | a :: l, 0 => by simp [AV.rens]
  | a :: l, i + 1 => by simp [AV.rens, AV.rens_get f l i]
theorem AV.rens_length (f : Nat → Nat) : ∀ (l : List AV), (AV.rens f l).length = l.length
  | [] => rfl
  | a :: l => by simp [AV.rens, AV.rens_length f l]
def Sig.via (σ : Sig) (f : Nat → Nat) : Sig := fun b => σ (f b)
mutual
theorem VR_ren {σ : Sig} {f : Nat → Nat} : ∀ {v : AV} {x : Value}, VR σ (AV.ren f v) x ↔ VR (σ.via f) v x
  | .lit _, _ => by simp only [AV.ren, VR]
  | .ptr _ _, _ => by simp only [AV.ren, VR, Sig.via]
  | .slice .., _ => by simp only [AV.ren, VR, Sig.via]
  | .eslice, _ => by simp only [AV.ren, VR]
  | .map _, _ => by simp only [AV.ren, VR, Sig.via]
  | .func .., _ => by simp only [AV.ren, VR, VRs_ren]
  | .iface .., _ => by simp only [AV.ren, VR, VR_ren]
  | .agg _, _ => by simp only [AV.ren, VR, VRs_ren]
  | .tuple _, _ => by simp only [AV.ren, VR, VRs_ren]
theorem VRs_ren {σ : Sig} {f : Nat → Nat} : ∀ {v : List AV} {x : List Value}, VRs σ (AV.rens f v) x ↔ VRs (σ.via f) v x
  | [], _ => by simp only [AV.rens, VRs]
  | v :: vs, _ => by simp only [AV.rens, VRs, VR_ren, VRs_ren]
end
mutual
/-- Two renamings in turn. -/
theorem AV.ren_ren {f g h : Nat → Nat} {n : Nat} (hf : ∀ j, f j < n → h j = g (f j)) : ∀ {v : AV}, AV.belowB n (AV.ren f v) = true → AV.ren h v = AV.ren g (AV.ren f v)
  | .lit _, _ => rfl
  | .ptr _ _, hb => by
    simp only [AV.ren, AV.belowB, decide_eq_true_eq] at hb
    simp only [AV.ren, hf _ hb]
  | .slice .., hb => by
    simp only [AV.ren, AV.belowB, decide_eq_true_eq] at hb
    simp only [AV.ren, hf _ hb]
  | .eslice, _ => rfl
  | .map _, hb => by
    simp only [AV.ren, AV.belowB, decide_eq_true_eq] at hb
    simp only [AV.ren, hf _ hb]
  | .func _ a b, hb => by
    simp only [AV.ren, AV.belowB, Bool.and_eq_true] at hb
    simp only [AV.ren, AV.rens_rens hf hb.1, AV.rens_rens hf hb.2]
  | .iface _ v, hb => by
    simp only [AV.ren, AV.belowB] at hb
    simp only [AV.ren, AV.ren_ren hf hb]
  | .agg a, hb => by
    simp only [AV.ren, AV.belowB] at hb
    simp only [AV.ren, AV.rens_rens hf hb]
  | .tuple a, hb => by
    simp only [AV.ren, AV.belowB] at hb
    simp only [AV.ren, AV.rens_rens hf hb]
theorem AV.rens_rens {f g h : Nat → Nat} {n : Nat} (hf : ∀ j, f j < n → h j = g (f j)) : ∀ {v : List AV}, AV.belowBs n (AV.rens f v) = true → AV.rens h v = AV.rens g (AV.rens f v)
  | [], _ => rfl
  | v :: vs, hb => by
    simp only [AV.rens, AV.belowBs, Bool.and_eq_true] at hb
    simp only [AV.rens, AV.ren_ren hf hb.1, AV.rens_rens hf hb.2]
end

def renE (f : Nat → Nat) (p : AV × AV) : AV × AV := (AV.ren f p.1, AV.ren f p.2)
def renO (f : Nat → Nat) : AObj → AObj
  | .cells cs t ro => .cells (AV.rens f cs) t ro
  | .map es ro => .map (es.map (renE f)) ro
  | .iter ro => .iter ro
  | .nit ro => .nit ro
theorem renO_isRo (f : Nat → Nat) (o : AObj) : (renO f o).isRo = o.isRo := by cases o <;> rfl
theorem MapR_ren {σ : Sig} {f : Nat → Nat} : ∀ {es : List (AV × AV)} {E : List MapEntry}, MapR σ (es.map (renE f)) E ↔ MapR (σ.via f) es E
  | [], _ => by simp only [List.map_nil, MapR]
  | (k, v) :: es, _ => by simp only [List.map_cons, renE, MapR, VR_ren, MapR_ren]
theorem perm_map_back {α β : Type} {f : α → β} {l l' : List β} (h : l.Perm l') : ∀ es : List α, l' = es.map f → ∃ es2 : List α, es2.Perm es ∧ l = es2.map f := by
  induction h with
  | nil => intro es h; exact ⟨es, .refl _, h⟩
  | cons x h ih =>
    intro es he
    cases es with
    | nil => simp at he
    | cons e es =>
      simp only [List.map_cons, List.cons.injEq] at he
      obtain ⟨es', h1, h2⟩ := ih es he.2
      exact ⟨e :: es', h1.cons e, by simp [he.1, h2]⟩
  | swap x y l =>
    intro es he
    match es, he with
    | [], he => simp at he
    | [e], he => simp at he
    | e1 :: e2 :: es, he =>
      simp only [List.map_cons, List.cons.injEq] at he
      exact ⟨e2 :: e1 :: es, .swap _ _ _, by simp [he.1, he.2.1, he.2.2]⟩
  | trans h1 h2 ih1 ih2 =>
    intro es he
    obtain ⟨es2, q1, q2⟩ := ih2 es he
    obtain ⟨es1, r1, r2⟩ := ih1 es2 q2
    exact ⟨es1, r1.trans q1, r2⟩
theorem OR_ren {σ : Sig} {f : Nat → Nat} {l : Loc} {o : AObj} {ob : Option Obj} : OR σ l (renO f o) ob ↔ OR (σ.via f) l o ob := by
  cases o with
  | cells cs t ro =>
    simp only [renO, OR, AV.rens_length]
    constructor
    · rintro ⟨C, fz, e, h1, h2, h3, h4⟩
      refine ⟨C, fz, e, h1, h2, fun i v hi => ?_, h4⟩
      obtain ⟨x, hx, hv⟩ := h3 i (AV.ren f v) (by rw [AV.rens_get, hi]; rfl)
      exact ⟨x, hx, VR_ren.1 hv⟩
    · rintro ⟨C, fz, e, h1, h2, h3, h4⟩
      refine ⟨C, fz, e, h1, h2, fun i v hi => ?_, h4⟩
      rw [AV.rens_get] at hi
      simp only [Option.map_eq_some_iff] at hi
      obtain ⟨u, hu, rfl⟩ := hi
      obtain ⟨x, hx, hv⟩ := h3 i u hu
      exact ⟨x, hx, VR_ren.2 hv⟩
  | map es ro =>
    simp only [renO, OR]
    constructor
    · rintro ⟨E, c, es', e, hp, h1, h2⟩
      obtain ⟨es2, q1, rfl⟩ := perm_map_back hp es rfl
      exact ⟨E, c, es2, e, q1, MapR_ren.1 h1, h2⟩
    · rintro ⟨E, c, es', e, hp, h1, h2⟩
      exact ⟨E, c, es'.map (renE f), e, hp.map _, MapR_ren.2 h1, h2⟩
  | iter ro => simp only [renO, OR]
  | nit ro => simp only [renO, OR]
def belowE (n : Nat) : List (AV × AV) → Bool
  | [] => true
  | p :: l => AV.belowB n p.1 && AV.belowB n p.2 && belowE n l
def belowO (n : Nat) : AObj → Bool
  | .cells cs _ _ => AV.belowBs n cs
  | .map es _ => belowE n es
  | .iter _ => true
  | .nit _ => true
theorem renE_renE {f g h : Nat → Nat} {n : Nat} (hf : ∀ j, f j < n → h j = g (f j)) : ∀ {es : List (AV × AV)}, belowE n (es.map (renE f)) = true → es.map (renE h) = (es.map (renE f)).map (renE g)
  | [], _ => rfl
  | p :: l, hb => by
    simp only [List.map_cons, renE, belowE, Bool.and_eq_true] at hb
    have := renE_renE hf hb.2
    simp only [List.map_cons]
    rw [this]
    simp only [renE, AV.ren_ren hf hb.1.1, AV.ren_ren hf hb.1.2]
theorem renO_renO {f g h : Nat → Nat} {n : Nat} (hf : ∀ j, f j < n → h j = g (f j)) {o : AObj} (hb : belowO n (renO f o) = true) : renO h o = renO g (renO f o) := by
  cases o with
  | cells cs t ro => simp only [renO, belowO] at hb ⊢; rw [AV.rens_rens hf hb]
  | map es ro => simp only [renO, belowO] at hb ⊢; rw [renE_renE hf hb]
  | iter ro => rfl
  | nit ro => rfl

/-! ### a call's run, told -/
structure Sm where
  k : Nat
  args : List AV
  pre : List (Option AObj)
  v : AV
  post : List (Option AObj)
  news : List (Option AObj)

def Sm.n0 (S : Sm) : Nat := S.pre.length
def Sm.p (S : Sm) (i : Nat) : Option AObj := (S.pre[i]?).join
def Sm.q (S : Sm) (i : Nat) : Option AObj := (S.post[i]?).join
def Sm.r (S : Sm) (i : Nat) : Option AObj := (S.news[i]?).join
def Sm.heap (S : Sm) : Heap := restrictH S.n0 S.p
theorem Sm.heap_get (S : Sm) (b : Nat) : S.heap.get b = S.p b := by
  unfold Sm.heap
  rw [restrict_get]
  split
  · rfl
  · unfold Sm.p
    rw [List.getElem?_eq_none (by unfold Sm.n0 at *; omega)]
    rfl
/-- What a run wrote: an entry that is there, and may be written. -/
def wr : Option AObj → Bool
  | some o => !o.isRo
  | none => false

def up1 : List Nat → Bool
  | [] => true
  | [_] => true
  | a :: b :: l => decide (a < b) && up1 (b :: l)
theorem up1_lt : ∀ {l : List Nat}, up1 l = true → ∀ (i j a b : Nat), i < j → l[i]? = some a → l[j]? = some b → a < b
  | [], _, i, j, a, b, _, h, _ => by simp at h
  | [x], _, i, j, a, b, hij, h, h2 => by
    cases j with
    | zero => omega
    | succ j => simp at h2
  | x :: y :: l, h, i, j, a, b, hij, h1, h2 => by
    simp only [up1, Bool.and_eq_true, decide_eq_true_eq] at h
    cases j with
    | zero => omega
    | succ j =>
      simp only [List.getElem?_cons_succ] at h2
      cases i with
      | succ i =>
        simp only [List.getElem?_cons_succ] at h1
        exact up1_lt h.2 i j a b (by omega) h1 h2
      | zero =>
        simp only [List.getElem?_cons_zero, Option.some.injEq] at h1; subst h1
        cases j with
        | zero => simp only [List.getElem?_cons_zero, Option.some.injEq] at h2; subst h2; exact h.1
        | succ j => exact Nat.lt_trans h.1 (up1_lt h.2 0 (j + 1) y b (by omega) (by simp) h2)

def okO (f : Nat → Nat) (a : Option AObj) : Option AObj → Bool
  | none => true
  | some o => eqOO a (some (renO f o))
def okQ (f : Nat → Nat) (a : Option AObj) : Option AObj → Bool
  | none => a.isNone
  | some o => eqOO a (some (renO f o))
def phiF (n0 n1 : Nat) (φ : List Nat) (i : Nat) : Nat := if i < n0 then i else (φ[i - n0]?).getD n1
/-- A run is as it is told. -/
def smCheck (S : Sm) (φ : List Nat) : Option (AV × Heap × Nat) → Bool
  | none => false
  | some (v, H, n) =>
    AV.eqB v (AV.ren (phiF S.n0 n φ) S.v) && decide (S.news.length = φ.length) && up1 φ && φ.all (fun b => decide (S.n0 ≤ b) && decide (b < n)) &&
    (List.range S.n0).all (fun i => match S.p i with
      | none => true
      | some o => belowO S.n0 o && (o.isRo || okQ (phiF S.n0 n φ) (H.get i) (S.q i))) &&
    (List.range S.news.length).all (fun j => okO (phiF S.n0 n φ) (H.get (phiF S.n0 n φ (S.n0 + j))) (S.r j))

def puts (H : Heap) (U : List (Nat × Option AObj)) : Heap := U.foldl (fun T p => T.put p.1 p.2) H
theorem puts_not (b : Nat) : ∀ (U : List (Nat × Option AObj)) (H : Heap), (∀ p ∈ U, p.1 ≠ b) → (puts H U).get b = H.get b
  | [], H, _ => rfl
  | p :: U, H, h => by
    show (puts (H.put p.1 p.2) U).get b = _
    rw [puts_not b U _ fun q hq => h q (List.mem_cons_of_mem _ hq), Tr.get_put_ne _ _ _ _ (Ne.symm (h p (by simp)))]
theorem puts_mem (b : Nat) (x : Option AObj) : ∀ (U : List (Nat × Option AObj)) (H : Heap), (∀ p ∈ U, p.1 = b → p.2 = x) → (b, x) ∈ U → (puts H U).get b = x
  | [], H, _, hm => by simp at hm
  | p :: U, H, h, hm => by
    show (puts (H.put p.1 p.2) U).get b = _
    by_cases hin : ∃ q ∈ U, q.1 = b
    · obtain ⟨q, hq, he⟩ := hin
      have := h q (List.mem_cons_of_mem _ hq) he
      refine puts_mem b x U _ (fun q hq => h q (List.mem_cons_of_mem _ hq)) ?_
      rw [← he, ← this]; exact hq
    · rw [puts_not b U _ fun q hq he => hin ⟨q, hq, he⟩]
      rcases List.mem_cons.1 hm with he | hm
      · subst he; rw [Tr.get_put_same]
      · exact absurd ⟨_, hm, rfl⟩ hin

/-! ### where does it serve? -/
mutual
def pairsOf : AV → AV → List (Nat × Nat) → List (Nat × Nat)
  | .ptr b _, .ptr b' _, acc => (b, b') :: acc
  | .slice b _ _ _ _, .slice b' _ _ _ _, acc => (b, b') :: acc
  | .map b, .map b', acc => (b, b') :: acc
  | .func _ a c, .func _ a' c', acc => pairsOfs a a' (pairsOfs c c' acc)
  | .iface _ v, .iface _ v', acc => pairsOf v v' acc
  | .agg a, .agg a', acc => pairsOfs a a' acc
  | .tuple a, .tuple a', acc => pairsOfs a a' acc
  | _, _, acc => acc
def pairsOfs : List AV → List AV → List (Nat × Nat) → List (Nat × Nat)
  | a :: as, b :: bs, acc => pairsOf a b (pairsOfs as bs acc)
  | _, _, acc => acc
end
def pairsE : List (AV × AV) → List (AV × AV) → List (Nat × Nat) → List (Nat × Nat)
  | p :: l, q :: r, acc => pairsOf p.1 q.1 (pairsOf p.2 q.2 (pairsE l r acc))
  | _, _, acc => acc
def pairsO : Option AObj → Option AObj → List (Nat × Nat) → List (Nat × Nat)
  | some (.cells a _ _), some (.cells b _ _), acc => pairsOfs a b acc
  | some (.map a _), some (.map b _), acc => pairsE a b acc
  | _, _, acc => acc
def findL (p : Nat → Option AObj) (H : Heap) (n : Nat) : List (Nat × Nat) → Tr Nat × Tr Nat → Tr Nat × Tr Nat :=
  @Nat.rec (fun _ => List (Nat × Nat) → Tr Nat × Tr Nat → Tr Nat × Tr Nat) (fun _ t => t) (fun _ ih l t => match l with
    | [] => t
    | (b, b') :: l => match t.1.get b with
      | some _ => ih l t
      | none => ih (pairsO (p b) (H.get b') l) (t.1.put b (some b'), t.2.put b' (some b))) n
def asRo : AObj → AObj
  | .cells cs t _ => .cells cs t true
  | .map es _ => .map es true
  | .iter _ => .iter true
  | .nit _ => .nit true
def matchO (f : Nat → Nat) : Option AObj → Option AObj → Bool
  | none, _ => true
  | some o, some a => if o.isRo then eqO (asRo a) (renO f o) else eqO a (renO f o)
  | some _, none => false
def newF (f : Nat → Nat) (n0 nx : Nat) (i : Nat) : Nat := if i < n0 then f i else nx + (i - n0)
def Sm.ups (S : Sm) (f : Nat → Nat) (nx : Nat) : List (Nat × Option AObj) :=
  ((List.range S.n0).filter fun i => wr (S.p i)).map (fun i => (f i, (S.q i).map (renO (newF f S.n0 nx)))) ++
  (List.range S.news.length).map (fun j => (nx + j, (S.r j).map (renO (newF f S.n0 nx))))
def Sm.fits (S : Sm) (f : Nat → Nat) (inv : Tr Nat) (args : List AV) (H : Heap) (nx : Nat) : Bool :=
  AV.eqBs args (AV.rens f S.args) && (List.range S.n0).all fun i => decide (f i < nx) && (match inv.get (f i) with | some j => decide (j = i) | none => false) && matchO f (S.p i) (H.get (f i))
def applyAt (S : Sm) (f : Nat → Nat) (inv : Tr Nat) (args : List AV) (H : Heap) (nx : Nat) : Option (AV × Heap × Nat) :=
  if S.fits f inv args H nx then some (AV.ren (newF f S.n0 nx) S.v, puts H (S.ups f nx), nx + S.news.length) else none
def psiF (t : Tr Nat) (n0 nx : Nat) (i : Nat) : Nat := if i < n0 then (t.get i).getD nx else nx
def applySm (S : Sm) (args : List AV) (H : Heap) (nx : Nat) : Option (AV × Heap × Nat) :=
  match findL S.p H 3000 (pairsOfs S.args args []) (.nil, .nil) with
  | (t, inv) => applyAt S (psiF t S.n0 nx) inv args H nx
def smCall (S : Sm) : CallF := fun k args H nx => if k = S.k then applySm S args H nx else none

variable {σ : Sig} {H : Heap} {nx : Nat} {w : World}

theorem apply_ok {S : Sm} {φ : List Nat} {v1 : AV} {H1 : Heap} {n1 : Nat} (hc : smCheck S φ (some (v1, H1, n1)) = true) {f : Nat → Nat} {inv : Tr Nat} {args : List AV} {v : AV} {H' : Heap} {nx' : Nat}
    (hf : ∀ i, S.n0 ≤ i → σ (f i) = none) (ha : applyAt S f inv args H nx = some (v, H', nx')) (g : Good σ H nx w) :
    args = AV.rens f S.args ∧ Good (σ.via f) S.heap S.n0 w ∧
    ∀ {σ1 : Sig} {w' : World} {x : Value}, VR σ1 v1 x → Step (σ.via f) S.heap S.n0 w σ1 H1 n1 w' → Good σ1 H1 n1 w' → ∃ σ', VR σ' v x ∧ Step σ H nx w σ' H' nx' w' ∧ Good σ' H' nx' w' := by
  unfold applyAt at ha
  split at ha
  case isFalse => cases ha
  rename_i hfit
  simp only [Option.some.injEq, Prod.mk.injEq] at ha
  obtain ⟨rfl, rfl, rfl⟩ := ha
  simp only [Sm.fits, Bool.and_eq_true, List.all_eq_true, List.mem_range, decide_eq_true_eq] at hfit
  obtain ⟨hargs, hall⟩ := hfit
  have hlt : ∀ i, i < S.n0 → f i < nx := fun i hi => (hall i hi).1.1
  have hinj : ∀ i j, i < S.n0 → j < S.n0 → f i = f j → i = j := by
    intro i j hi hj he
    have h1 := (hall i hi).1.2
    have h2 := (hall j hj).1.2
    rw [he] at h1
    cases hg : inv.get (f j) with
    | none => rw [hg] at h2; simp at h2
    | some m => rw [hg] at h1 h2; simp only [decide_eq_true_eq] at h1 h2; omega
  have plt : ∀ {i o}, S.p i = some o → i < S.n0 := by
    intro i o h
    rcases Nat.lt_or_ge i S.n0 with h' | h'
    · exact h'
    · unfold Sm.p at h; rw [List.getElem?_eq_none h'] at h; cases h
  have hm : ∀ i o, S.p i = some o → ∃ oa, H.get (f i) = some oa ∧ (o.isRo = false → oa = renO f o) ∧ (o.isRo = true → asRo oa = renO f o) := by
    intro i o hp
    have := (hall i (plt hp)).2
    rw [hp] at this
    cases hg : H.get (f i) with
    | none => rw [hg] at this; simp [matchO] at this
    | some oa =>
      rw [hg] at this
      simp only [matchO] at this
      refine ⟨oa, rfl, fun hr => ?_, fun hr => ?_⟩
      · rw [if_neg (by rw [hr]; simp)] at this; exact eqO_ok this
      · rw [if_pos hr] at this; exact eqO_ok this
  have hmro : ∀ i o oa, S.p i = some o → H.get (f i) = some oa → oa.isRo = true → o.isRo = true := by
    intro i o oa hp hg hr
    obtain ⟨oa', h1, h2, _⟩ := hm i o hp
    rw [hg] at h1; injection h1 with h1; subst h1
    cases ho : o.isRo with
    | true => rfl
    | false => rw [h2 ho, renO_isRo, ho] at hr; cases hr
  have orRo : ∀ {σ : Sig} {l : Loc} {o : AObj} {ob : Option Obj}, OR σ l o ob → OR σ l (asRo o) ob := by
    intro σ l o ob h
    cases o with
    | cells cs t ro => obtain ⟨C, fz, e, h1, h2, h3, h4⟩ := h; exact ⟨C, fz, e, h1, h2, h3, fun h => by cases h⟩
    | map es ro => exact h
    | iter ro => exact h
    | nit ro => exact h
  have hgood : Good (σ.via f) S.heap S.n0 w := by
    refine ⟨⟨⟨fun b o l hb hl => ?_, fun b b' o o' l l' hb hb' hl hl' he => ?_⟩, fun b hb => ⟨hf b hb, ?_⟩⟩, g.glb, fun b l o hb hl hr => ?_⟩
    · rw [Sm.heap_get] at hb
      obtain ⟨oa, h1, h2, h3⟩ := hm b o hb
      have := g.obj (f b) oa l h1 hl
      refine OR_ren.1 ?_
      cases hr : o.isRo with
      | false => rw [← h2 hr]; exact this
      | true => rw [← h3 hr]; exact orRo this
    · rw [Sm.heap_get] at hb hb'
      obtain ⟨oa, h1, _⟩ := hm b o hb
      obtain ⟨oa', h1', _⟩ := hm b' o' hb'
      exact hinj b b' (plt hb) (plt hb') (g.inj _ _ oa oa' l l' h1 h1' hl hl' he)
    · rw [Sm.heap_get]
      cases hp : S.p b with
      | none => rfl
      | some o => have := plt hp; omega
    · rw [Sm.heap_get] at hb
      obtain ⟨oa, h1, h2, _⟩ := hm b o hb
      exact g.apart (f b) l oa h1 hl (by rw [h2 hr, renO_isRo, hr])
  refine ⟨AV.eqBs_ok hargs, hgood, fun {σ1 w' x} hv s1 g1 => ?_⟩
  simp only [smCheck, Bool.and_eq_true, List.all_eq_true, List.mem_range, decide_eq_true_eq] at hc
  obtain ⟨⟨⟨⟨⟨c1, c2⟩, c3⟩, c4⟩, c5⟩, c6⟩ := hc
  have c1 := AV.eqB_ok c1
  have hn1 := s1.grow
  -- the names
  have ph0 : ∀ i, i < S.n0 → phiF S.n0 n1 φ i = i := fun i hi => by unfold phiF; rw [if_pos hi]
  have ph1 : ∀ j, j < S.news.length → S.n0 ≤ phiF S.n0 n1 φ (S.n0 + j) ∧ phiF S.n0 n1 φ (S.n0 + j) < n1 := by
    intro j hj
    unfold phiF
    rw [if_neg (by omega), show S.n0 + j - S.n0 = j from by omega, List.getElem?_eq_getElem (by omega)]
    exact c4 _ (List.getElem_mem _)
  have ph2 : ∀ i, S.n0 ≤ i → S.n0 ≤ phiF S.n0 n1 φ i := by
    intro i hi
    rcases Nat.lt_or_ge (i - S.n0) S.news.length with h | h
    · have := (ph1 (i - S.n0) h).1
      rwa [show S.n0 + (i - S.n0) = i from by omega] at this
    · unfold phiF
      rw [if_neg (by omega), List.getElem?_eq_none (by omega)]
      simpa using hn1
  have ph3 : ∀ j j', j < S.news.length → j' < S.news.length → phiF S.n0 n1 φ (S.n0 + j) = phiF S.n0 n1 φ (S.n0 + j') → j = j' := by
    intro j j' hj hj' he
    unfold phiF at he
    rw [if_neg (by omega), if_neg (by omega), show S.n0 + j - S.n0 = j from by omega, show S.n0 + j' - S.n0 = j' from by omega, List.getElem?_eq_getElem (by omega), List.getElem?_eq_getElem (by omega)] at he
    simp only [Option.getD_some] at he
    rcases Nat.lt_trichotomy j j' with h | h | h
    · have := up1_lt c3 j j' _ _ h (List.getElem?_eq_getElem (by omega)) (List.getElem?_eq_getElem (by omega)); omega
    · exact h
    · have := up1_lt c3 j' j _ _ h (List.getElem?_eq_getElem (by omega)) (List.getElem?_eq_getElem (by omega)); omega
  let φf := phiF S.n0 n1 φ
  let gf := newF f S.n0 nx
  let σ' : Sig := fun b => if b < nx then σ b else if b < nx + S.news.length then σ1 (φf (S.n0 + (b - nx))) else none
  have sOld : ∀ b, b < nx → σ' b = σ b := fun b hb => by simp only [σ', if_pos hb]
  have sNew : ∀ j, j < S.news.length → σ' (nx + j) = σ1 (φf (S.n0 + j)) := fun j hj => by
    simp only [σ']
    rw [if_neg (by omega), if_pos (by omega), show nx + j - nx = j from by omega]
  have s0 : ∀ i, i < S.n0 → σ1 i = σ (f i) := fun i hi => s1.old i hi
  have hext : Ext (σ1.via φf) (σ'.via gf) := by
    intro i l hl
    simp only [Sig.via] at hl ⊢
    rcases Nat.lt_or_ge i S.n0 with hi | hi
    · have e1 : φf i = i := ph0 i hi
      have e2 : gf i = f i := by simp only [gf, newF, if_pos hi]
      rw [e1, s0 i hi] at hl
      rw [e2, sOld _ (hlt i hi)]; exact hl
    · rcases Nat.lt_or_ge (i - S.n0) S.news.length with h | h
      · have e2 : gf i = nx + (i - S.n0) := by simp only [gf, newF]; rw [if_neg (by omega)]
        rw [e2, sNew _ h, show S.n0 + (i - S.n0) = i from by omega]; exact hl
      · exfalso
        have : φf i = n1 := by
          simp only [φf, phiF]
          rw [if_neg (by omega), List.getElem?_eq_none (by omega)]; rfl
        rw [this, (g1.fresh n1 (Nat.le_refl _)).1] at hl; cases hl
  have hextσ : Ext σ σ' := fun b l h => by
    rcases Nat.lt_or_ge b nx with hb | hb
    · rw [sOld b hb]; exact h
    · rw [(g.fresh b hb).1] at h; cases h
  -- the updates
  have lt : ∀ b o, H.get b = some o → b < nx := fun b o hb => by
    rcases Nat.lt_or_ge b nx with h | h
    · exact h
    · rw [(g.fresh b h).2] at hb; cases hb
  have uMem : ∀ q, q ∈ S.ups f nx → (∃ i, i < S.n0 ∧ wr (S.p i) = true ∧ q = (f i, (S.q i).map (renO gf))) ∨ ∃ j, j < S.news.length ∧ q = (nx + j, (S.r j).map (renO gf)) := by
    intro q hq
    simp only [Sm.ups, List.mem_append, List.mem_map, List.mem_filter, List.mem_range] at hq
    rcases hq with ⟨i, ⟨h1, h2⟩, rfl⟩ | ⟨j, h1, rfl⟩
    · exact .inl ⟨i, h1, h2, rfl⟩
    · exact .inr ⟨j, h1, rfl⟩
  have hOld : ∀ i, i < S.n0 → wr (S.p i) = true → (puts H (S.ups f nx)).get (f i) = (S.q i).map (renO gf) := by
    intro i hi hw
    refine puts_mem _ _ _ _ (fun q hq he => ?_) ?_
    · rcases uMem q hq with ⟨i', h1, h2, rfl⟩ | ⟨j, h1, rfl⟩
      · have := hinj i' i h1 hi he
        subst this; rfl
      · have := hlt i hi
        simp only at he; omega
    · simp only [Sm.ups, List.mem_append, List.mem_map, List.mem_filter, List.mem_range]
      exact .inl ⟨i, ⟨hi, hw⟩, rfl⟩
  have hNew : ∀ j, j < S.news.length → (puts H (S.ups f nx)).get (nx + j) = (S.r j).map (renO gf) := by
    intro j hj
    refine puts_mem _ _ _ _ (fun q hq he => ?_) ?_
    · rcases uMem q hq with ⟨i', h1, h2, rfl⟩ | ⟨j', h1, rfl⟩
      · have := hlt i' h1
        simp only at he; omega
      · simp only at he
        have : j' = j := by omega
        subst this; rfl
    · simp only [Sm.ups, List.mem_append, List.mem_map, List.mem_filter, List.mem_range]
      exact .inr ⟨j, hj, rfl⟩
  have hOther : ∀ b, b < nx → (∀ i, i < S.n0 → wr (S.p i) = true → f i ≠ b) → (puts H (S.ups f nx)).get b = H.get b := by
    intro b hb hn
    refine puts_not b _ _ fun q hq => ?_
    rcases uMem q hq with ⟨i', h1, h2, rfl⟩ | ⟨j', h1, rfl⟩
    · exact hn i' h1 h2
    · simp only; omega
  have hFar : ∀ b, nx + S.news.length ≤ b → (puts H (S.ups f nx)).get b = none := by
    intro b hb
    rw [puts_not b _ _ fun q hq => ?_, (g.fresh b (by omega)).2]
    rcases uMem q hq with ⟨i', h1, h2, rfl⟩ | ⟨j', h1, rfl⟩
    · have := hlt i' h1; simp only; omega
    · simp only; omega
  have wrp : ∀ i, wr (S.p i) = true → ∃ o, S.p i = some o ∧ o.isRo = false := by
    intro i h
    cases hp : S.p i with
    | none => rw [hp] at h; simp [wr] at h
    | some o => rw [hp] at h; simp only [wr, Bool.not_eq_true'] at h; exact ⟨o, rfl, h⟩
  have cOld : ∀ i, i < S.n0 → wr (S.p i) = true → ∀ o1, S.q i = some o1 → H1.get i = some (renO φf o1) := by
    intro i hi hw o1 hq
    obtain ⟨o, hp, hr⟩ := wrp i hw
    have := c5 i hi
    rw [hp] at this
    simp only [hr, Bool.false_or, hq, okQ, Bool.and_eq_true] at this
    exact eqOO_ok this.2
  have cNew : ∀ j, j < S.news.length → ∀ o1, S.r j = some o1 → H1.get (φf (S.n0 + j)) = some (renO φf o1) := by
    intro j hj o1 hq
    have := c6 j hj
    rw [hq] at this
    simp only [okO] at this
    exact eqOO_ok this
  have kinds : ∀ b o, (puts H (S.ups f nx)).get b = some o → (b < nx ∧ H.get b = some o ∧ ∀ i, i < S.n0 → wr (S.p i) = true → f i ≠ b) ∨
      (∃ i o1, i < S.n0 ∧ wr (S.p i) = true ∧ b = f i ∧ S.q i = some o1 ∧ o = renO gf o1) ∨ ∃ j o1, j < S.news.length ∧ b = nx + j ∧ S.r j = some o1 ∧ o = renO gf o1 := by
    intro b o hb
    rcases Nat.lt_or_ge b nx with h | h
    · by_cases hk : ∃ i, i < S.n0 ∧ wr (S.p i) = true ∧ f i = b
      · obtain ⟨i, h1, h2, rfl⟩ := hk
        rw [hOld i h1 h2, Option.map_eq_some_iff] at hb
        obtain ⟨o1, h3, h4⟩ := hb
        exact .inr (.inl ⟨i, o1, h1, h2, rfl, h3, h4.symm⟩)
      · have hn : ∀ i, i < S.n0 → wr (S.p i) = true → f i ≠ b := fun i h1 h2 h3 => hk ⟨i, h1, h2, h3⟩
        rw [hOther b h hn] at hb
        exact .inl ⟨h, hb, hn⟩
    · rcases Nat.lt_or_ge b (nx + S.news.length) with h2 | h2
      · have he : b = nx + (b - nx) := by omega
        rw [he, hNew (b - nx) (by omega), Option.map_eq_some_iff] at hb
        obtain ⟨o1, h3, h4⟩ := hb
        exact .inr (.inr ⟨b - nx, o1, by omega, he, h3, h4.symm⟩)
      · rw [hFar b h2] at hb; cases hb
  have hstep : Step σ H nx w σ' (puts H (S.ups f nx)) (nx + S.news.length) w' := by
    refine ⟨s1.os, s1.tape, s1.output, s1.size, by omega, sOld, fun b o hb hr => ?_, fun b hb hn => ?_, fun b hb hn => ?_, fun k hk hh => ?_, fun b l o hb hl hlt' => ?_⟩
    · rw [hOther b (lt b o hb) fun i hi hw he => ?_]
      · exact hb
      · obtain ⟨o', hp, hr'⟩ := wrp i hw
        rw [hmro i o' o hp (by rw [he]; exact hb) hr] at hr'; cases hr'
    · rw [hOther b hb fun i hi hw he => ?_]
      · exact hn
      · obtain ⟨o', hp, hr'⟩ := wrp i hw
        obtain ⟨oa, h1, _⟩ := hm i o' hp
        rw [he, hn] at h1; cases h1
    · by_cases hk : ∃ i, i < S.n0 ∧ wr (S.p i) = true ∧ f i = b
      · obtain ⟨i, h1, h2, rfl⟩ := hk
        obtain ⟨o, hp, hr⟩ := wrp i h2
        obtain ⟨oa, h3, h4, _⟩ := hm i o hp
        have hu := s1.unreal i h1 hn
        rw [Sm.heap_get, hp] at hu
        rw [hOld i h1 h2, h3, h4 hr]
        have c5' := c5 i h1
        rw [hp] at c5'
        simp only [Bool.and_eq_true] at c5'
        cases hq : S.q i with
        | none =>
          have := c5'.2
          simp only [hr, Bool.false_or, hq, okQ] at this
          rw [hu] at this; cases this
        | some o1 =>
          have := cOld i h1 h2 o1 hq
          rw [hu] at this
          injection this with this
          simp only [Option.map_some, Option.some.injEq]
          have hb1 := c5'.1
          rw [this] at hb1 ⊢
          refine renO_renO (n := S.n0) (fun j hj => ?_) hb1
          have hj' : j < S.n0 := by
            rcases Nat.lt_or_ge j S.n0 with h | h
            · exact h
            · have := ph2 j h; simp only [φf] at hj; omega
          have e1 : φf j = j := ph0 j hj'
          rw [e1]
          simp only [gf, newF, if_pos hj']
      · exact hOther b hb fun i h1 h2 h3 => hk ⟨i, h1, h2, h3⟩
    · refine s1.frame k hk fun b l o hb hl he => ?_
      rw [Sm.heap_get] at hb
      obtain ⟨oa, h1, _⟩ := hm b o hb
      exact hmro b o oa hb h1 (hh (f b) l oa h1 hl he)
    · rcases kinds b o hb with ⟨h1, h2, _⟩ | ⟨i, o1, h1, h2, rfl, h3, rfl⟩ | ⟨j, o1, h1, rfl, h3, rfl⟩
      · rw [sOld b h1] at hl
        exact ⟨b, l, o, h2, hl, rfl, .inr rfl⟩
      · rw [sOld _ (hlt i h1)] at hl
        obtain ⟨o', hp, hr'⟩ := wrp i h2
        obtain ⟨oa, h4, _⟩ := hm i o' hp
        exact ⟨f i, l, oa, h4, hl, rfl, .inr rfl⟩
      · rw [sNew j h1] at hl
        obtain ⟨b0, l0, o0, q1, q2, q3, q4⟩ := s1.own _ l _ (cNew j h1 o1 h3) hl hlt'
        rw [Sm.heap_get] at q1
        obtain ⟨oa, h4, h5, _⟩ := hm b0 o0 q1
        have hr0 : o0.isRo = false := by
          rcases q4 with q4 | q4
          · exact q4
          · have := plt q1
            have := (ph1 j h1).1
            simp only [φf] at q4; omega
        exact ⟨f b0, l0, oa, h4, q2, q3, .inl (by rw [h5 hr0, renO_isRo, hr0])⟩
  refine ⟨σ', ?_, hstep, g.up hstep ⟨⟨fun b o l hb hl => ?_, fun b b' o o' l l' hb hb' hl hl' he => ?_⟩, fun b hb => ⟨?_, hFar b hb⟩⟩⟩
  · rw [c1] at hv
    exact VR_ren.2 ((VR_ren.1 hv).ext hext)
  · rcases kinds b o hb with ⟨h1, h2, h3⟩ | ⟨i, o1, h1, h2, rfl, h3, rfl⟩ | ⟨j, o1, h1, rfl, h3, rfl⟩
    · rw [sOld b h1] at hl
      rw [s1.frame l.blk (g.toSim.lt h2 hl) fun b0 l0 o0 hb0 hl0 he0 => ?_]
      · exact (g.obj b o l h2 hl).ext hextσ
      · rw [Sm.heap_get] at hb0
        obtain ⟨oa, h4, _⟩ := hm b0 o0 hb0
        have := g.inj _ _ oa o l0 l h4 h2 hl0 hl he0
        cases hr : o0.isRo with
        | true => rfl
        | false => exact absurd this (h3 b0 (plt hb0) (by rw [hb0]; simp [wr, hr]))
    · rw [sOld _ (hlt i h1), ← s0 i h1] at hl
      exact OR_ren.2 ((OR_ren.1 (g1.obj i _ l (cOld i h1 h2 o1 h3) hl)).ext hext)
    · rw [sNew j h1] at hl
      exact OR_ren.2 ((OR_ren.1 (g1.obj _ _ l (cNew j h1 o1 h3) hl)).ext hext)
  · -- one block, one name
    have old : ∀ b o, (puts H (S.ups f nx)).get b = some o → b < nx → ∃ o, H.get b = some o := fun b o hb hlt => by
      cases hg : H.get b with
      | some o => exact ⟨o, rfl⟩
      | none => rw [hstep.dead b hlt hg] at hb; cases hb
    have mix : ∀ b j o1 o l l', b < nx → (puts H (S.ups f nx)).get b = some o → σ' b = some l → j < S.news.length → S.r j = some o1 → σ' (nx + j) = some l' → l.blk = l'.blk → False := by
      intro b j o1 o l l' hbn hb hl hj hr hl' he
      rw [sNew j hj] at hl'
      obtain ⟨oh, hh⟩ := old b o hb hbn
      rw [sOld b hbn] at hl
      have hltw := g.toSim.lt hh hl
      obtain ⟨b0, l0, o0, q1, q2, q3, q4⟩ := s1.own _ l' _ (cNew j hj o1 hr) hl' (by rw [← he]; exact hltw)
      rw [Sm.heap_get] at q1
      obtain ⟨oa, h4, h5, _⟩ := hm b0 o0 q1
      have hb0 := plt q1
      have hph := (ph1 j hj).1
      have hr0 : o0.isRo = false := by
        rcases q4 with q4 | q4
        · exact q4
        · simp only [φf] at q4; omega
      have hfb : f b0 = b := g.inj _ _ oa oh l0 l h4 hh q2 hl (by rw [q3, he])
      have hw0 : wr (S.p b0) = true := by rw [q1]; simp [wr, hr0]
      rw [← hfb, hOld b0 hb0 hw0, Option.map_eq_some_iff] at hb
      obtain ⟨o2, h6, _⟩ := hb
      have h7 := cOld b0 hb0 hw0 o2 h6
      have h8 : σ1 b0 = some l0 := by rw [s0 b0 hb0]; exact q2
      have := g1.inj _ _ _ _ l0 l' h7 (cNew j hj o1 hr) h8 hl' q3
      simp only [φf] at this; omega
    rcases kinds b o hb with ⟨h1, h2, h3⟩ | ⟨i, o1, h1, h2, rfl, h3, rfl⟩ | ⟨j, o1, h1, rfl, h3, rfl⟩
    · rcases kinds b' o' hb' with ⟨k1, k2, k3⟩ | ⟨i', o1', k1, k2, rfl, k3, rfl⟩ | ⟨j', o1', k1, rfl, k3, rfl⟩
      · rw [sOld _ h1] at hl; rw [sOld _ k1] at hl'
        exact g.inj _ _ _ _ l l' h2 k2 hl hl' he
      · obtain ⟨oh, hh⟩ := old _ _ hb' (hlt i' k1)
        rw [sOld _ h1] at hl; rw [sOld _ (hlt i' k1)] at hl'
        exact g.inj _ _ _ _ l l' h2 hh hl hl' he
      · exact (mix b j' o1' o l l' h1 hb hl k1 k3 hl' he).elim
    · rcases kinds b' o' hb' with ⟨k1, k2, k3⟩ | ⟨i', o1', k1, k2, rfl, k3, rfl⟩ | ⟨j', o1', k1, rfl, k3, rfl⟩
      · obtain ⟨oh, hh⟩ := old _ _ hb (hlt i h1)
        rw [sOld _ (hlt i h1)] at hl; rw [sOld _ k1] at hl'
        exact g.inj _ _ _ _ l l' hh k2 hl hl' he
      · obtain ⟨oh, hh⟩ := old _ _ hb (hlt i h1)
        obtain ⟨oh', hh'⟩ := old _ _ hb' (hlt i' k1)
        rw [sOld _ (hlt i h1)] at hl; rw [sOld _ (hlt i' k1)] at hl'
        exact g.inj _ _ _ _ l l' hh hh' hl hl' he
      · exact (mix (f i) j' o1' _ l l' (hlt i h1) hb hl k1 k3 hl' he).elim
    · rcases kinds b' o' hb' with ⟨k1, k2, k3⟩ | ⟨i', o1', k1, k2, rfl, k3, rfl⟩ | ⟨j', o1', k1, rfl, k3, rfl⟩
      · exact (mix b' j o1 o' l' l k1 hb' hl' h1 h3 hl he.symm).elim
      · exact (mix (f i') j o1 _ l' l (hlt i' k1) hb' hl' h1 h3 hl he.symm).elim
      · rw [sNew j h1] at hl; rw [sNew j' k1] at hl'
        have := g1.inj _ _ _ _ l l' (cNew j h1 o1 h3) (cNew j' k1 o1' k3) hl hl' he
        rw [ph3 j j' h1 k1 this]
  · simp only [σ']
    rw [if_neg (by omega), if_neg (by omega)]

/-- A told run serves wherever it fits. -/
theorem sm_ok {C D : Cx} (hC : C.Sound) {S : Sm} {φ : List Nat} {n : Nat} (h : smCheck S φ (callF C n S.k S.args S.heap S.n0) = true) (hP : D.P = C.P) : CallOK D (smCall S) := by
  intro k args H nx v H' nx' hk σ w xs hxs g
  unfold smCall at hk
  split at hk
  case isFalse => cases hk
  rename_i e
  subst e
  unfold applySm at hk
  cases hr : callF C n S.k S.args S.heap S.n0 with
  | none => rw [hr] at h; cases h
  | some r =>
    obtain ⟨v1, H1, n1⟩ := r
    rw [hr] at h
    have hr' := hr
    rw [callF_eq] at hr'
    generalize hfd : findL S.p H 3000 (pairsOfs S.args args []) (.nil, .nil) = ti at hk
    obtain ⟨t, inv⟩ := ti
    simp only at hk
    have hf : ∀ i, S.n0 ≤ i → σ (psiF t S.n0 nx i) = none := fun i hi => by
      unfold psiF
      rw [if_neg (by omega)]
      exact (g.fresh nx (Nat.le_refl _)).1
    obtain ⟨ha, hg, hgo⟩ := apply_ok h hf hk g
    subst ha
    have hx := call_ok hC n S.k S.args S.heap S.n0 v1 H1 n1 hr' (σ.via (psiF t S.n0 nx)) w xs (VRs_ren.1 hxs) hg
    rw [hP]
    refine ⟨hx.1, hx.2.mono ?_⟩
    rintro e w' ⟨x, σ1, rfl, h1, h2, h3⟩
    obtain ⟨σ', q1, q2, q3⟩ := hgo h1 h2 h3
    exact ⟨x, σ', rfl, q1, q2, q3⟩

/-- A table of told runs ahead of what functions answer else. -/
def smTab : List Sm → CallF → CallF
  | [], Y => Y
  | S :: l, Y => fun k args H nx => match smCall S k args H nx with
    | some r => some r
    | none => smTab l Y k args H nx
theorem smTab_ok {D : Cx} : ∀ {l : List Sm} {Y : CallF}, (∀ S ∈ l, CallOK D (smCall S)) → CallOK D Y → CallOK D (smTab l Y)
  | [], Y, _, hY => hY
  | S :: l, Y, h, hY => fun k args H nx v H' nx' hk => by
    unfold smTab at hk
    split at hk
    · rename_i r hr
      injection hk with hk; subst hk
      exact h S (by simp) k args H nx v H' nx' hr
    · exact smTab_ok (fun S hS => h S (List.mem_cons_of_mem _ hS)) hY k args H nx v H' nx' hk
/-- The functions that are left out. -/
def outF (F : Tr Func) (ks : List Nat) : Tr Func := ks.foldl (fun T k => T.put k none) F
theorem outF_get {k : Nat} {fn : Func} : ∀ {ks : List Nat} {F : Tr Func}, (outF F ks).get k = some fn → F.get k = some fn
  | [], F, h => h
  | a :: ks, F, h => by
    have := outF_get (ks := ks) (F := F.put a none) h
    rw [Tr.get_put] at this
    split at this
    · cases this
    · exact this
def cxTab (C : Cx) (ks : List Nat) (l : List Sm) : Cx := { C with F := outF C.F ks, Y := smTab l C.Y }
theorem CallOK.cx {C D : Cx} (h : D.P = C.P) {call : CallF} (hc : CallOK C call) : CallOK D call := by
  intro k args H nx v H' nx' hk σ w xs hxs g
  rw [h]; exact hc k args H nx v H' nx' hk σ w xs hxs g
theorem tab_nil {D : Cx} : ∀ S ∈ ([] : List Sm), CallOK D (smCall S) := fun S h => by simp at h
theorem tab_cons {D : Cx} {S0 : Sm} {l : List Sm} (h : CallOK D (smCall S0)) (t : ∀ S ∈ l, CallOK D (smCall S)) : ∀ S ∈ S0 :: l, CallOK D (smCall S) := fun S hS => by
  rcases List.mem_cons.1 hS with rfl | hS
  · exact h
  · exact t S hS
theorem cxTab_sound {C : Cx} (hC : C.Sound) {ks : List Nat} {l : List Sm} (hl : ∀ S ∈ l, CallOK C (smCall S)) : (cxTab C ks l).Sound where
  types := hC.types
  funs := fun k fn h => hC.funs k fn (outF_get h)
  zs := hC.zs
  exts := hC.exts
  mixed := hC.mixed
  ys := CallOK.cx (C := C) (D := cxTab C ks l) rfl (smTab_ok hl hC.ys)
  codes := fun k fn c h hb => hC.codes k fn c (outF_get h) hb
end CI
