/- CI, part x: running without counting steps. -/
import Derived.Test.YtdkicjlbfhmfkaaGreatDoorCis
set_option linter.unusedVariables false
set_option linter.unusedSimpArgs false
noncomputable section
namespace CI
open Go

abbrev RunF := Nat → Code → St → Option (Ex × St)

/-- From some step on. -/
def Evt (p : Nat → Prop) : Prop := ∃ n, ∀ m, n ≤ m → p m
theorem Evt.of {p : Nat → Prop} (h : ∀ m, p m) : Evt p := ⟨0, fun m _ => h m⟩
theorem Evt.and {p q : Nat → Prop} : Evt p → Evt q → Evt fun m => p m ∧ q m
  | ⟨a, ha⟩, ⟨b, hb⟩ => ⟨max a b, fun m hm => ⟨ha m (by omega), hb m (by omega)⟩⟩
theorem Evt.mono {p q : Nat → Prop} (h : ∀ m, p m → q m) : Evt p → Evt q
  | ⟨a, ha⟩ => ⟨a, fun m hm => h m (ha m hm)⟩

def LimR (fam : Nat → RunF) (g : RunF) : Prop := ∀ nt c s r, g nt c s = some r → Evt fun m => fam m nt c s = some r
def LimC (fam : Nat → CallF) (g : CallF) : Prop := ∀ k args H nx r, g k args H nx = some r → Evt fun m => fam m k args H nx = some r

variable {C : Cx}

theorem lim_callS {fam : Nat → RunF} {g : RunF} (h : LimR fam g) : LimC (fun m => callS C (fam m)) (callS C g) := by
  intro k args H nx r hr
  simp only [callS] at hr ⊢
  split at hr
  · exact .of fun _ => hr
  · rename_i fn hf
    split at hr
    · cases hr
    · rename_i body hb
      split at hr
      · rename_i hl
        simp only [if_pos hl]
        split at hr
        · rename_i s' hs
          exact (h _ _ _ _ hs).mono fun m e => by rw [e]; exact hr
        · rename_i s' hs
          exact (h _ _ _ _ hs).mono fun m e => by rw [e]; exact hr
        · cases hr
      · cases hr

theorem lim_callA {fam : Nat → CallF} {g : CallF} (h : LimC fam g) {ρ : Operand → AV} {c : Call} {H : Heap} {nx : Nat} {r : AV × Heap × Nat}
    (hr : callA C g ρ c H nx = some r) : Evt fun m => callA C (fam m) ρ c H nx = some r := by
  simp only [callA] at hr ⊢
  split at hr
  · split at hr
    · split at hr
      · exact .of fun m => hr
      · split at hr
        · exact .of fun m => hr
        · exact (h _ _ _ _ _ hr).mono fun m e => e
    · cases hr
  · cases hr

theorem lim_stepA {fam : Nat → CallF} {g : CallF} (h : LimC fam g) {ρ : Operand → AV} {o : Op} {H : Heap} {nx : Nat} {r : AV × Heap × Nat}
    (hr : stepA C g ρ o H nx = some r) : Evt fun m => stepA C (fam m) ρ o H nx = some r := by
  cases o with
  | call c =>
    simp only [stepA] at hr ⊢
    split at hr
    · rename_i hc
      exact (lim_callA h hr).mono fun m e => by rw [if_pos hc]; exact e
    · rename_i hc
      exact .of fun _ => by rw [if_neg hc]; exact hr
  | _ => exact .of fun _ => hr

theorem lim_runOps {fam : Nat → CallF} {g : CallF} (h : LimC fam g) {nt : Nat} {ops : Array Oper} : ∀ {l : List Oper} {s s' : St},
    runOps C g nt ops l s = some s' → Evt fun m => runOps C (fam m) nt ops l s = some s'
  | [], s, s', hr => .of fun _ => hr
  | o :: rest, s, s', hr => by
    simp only [runOps] at hr ⊢
    split at hr
    · rename_i hw
      simp only [if_pos hw]
      split at hr
      · rename_i v H' nx' hs
        split at hr
        · rename_i env' he
          exact ((lim_stepA h hs).and (lim_runOps h hr)).mono fun m ⟨e1, e2⟩ => by simp only [e1, he]; exact e2
        · cases hr
      · cases hr
    · rename_i hw
      simp only [if_neg hw]
      split at hr
      · rename_i env' he
        exact (lim_runOps h hr)
      · cases hr

theorem lim_tx1 {fam : Nat → CallF} {g : CallF} (h : LimC fam g) {ops : Array Oper} {o : Oper} {s : St} {r : K × AV × Heap × Nat}
    (hr : tx1 C g ops o s = some r) : Evt fun m => tx1 C (fam m) ops o s = some r := by
  unfold tx1 at hr ⊢
  by_cases hw : wantedA ops o s.env = true
  · simp only [if_pos hw] at hr ⊢
    by_cases hi : isEff o.op = true
    · simp only [if_pos hi] at hr ⊢
      split at hr
      · rename_i v H' nx' hs
        exact (lim_stepA h hs).mono fun m e => by rw [e]; exact hr
      · cases hr
    · simp only [if_neg hi] at hr ⊢
      exact .of fun _ => hr
  · simp only [if_neg hw] at hr ⊢
    exact .of fun _ => hr

theorem lim_txRun {fam : Nat → CallF} {g : CallF} (h : LimC fam g) {nt : Nat} {ops : Array Oper} : ∀ {l : List Oper} {s : St} {r : List DS × St},
    txRun C g nt ops l s = some r → Evt fun m => txRun C (fam m) nt ops l s = some r
  | [], s, s', hr => .of fun _ => hr
  | o :: rest, s, r, hr => by
    simp only [txRun] at hr ⊢
    split at hr
    · cases hr
    · rename_i k v H' nx' hs
      split at hr
      · cases hr
      · rename_i env' he
        split at hr
        · cases hr
        · rename_i l sN hl
          exact ((lim_tx1 h hs).and (lim_txRun h hl)).mono fun m ⟨e1, e2⟩ => by simp only [e1, he, e2]; exact hr

theorem lim_runDraw {fam : Nat → CallF} {g : CallF} (h : LimC fam g) {nt : Nat} {ops : Array Oper} {s s' : St}
    (hr : runDraw C g nt ops s = some s') : Evt fun m => runDraw C (fam m) nt ops s = some s' := by
  unfold runDraw at hr ⊢
  split at hr
  · cases hr
  · rename_i l sN hl
    exact (lim_txRun h hl).mono fun m e => by rw [e]; exact hr

theorem lim_execS {fam : Nat → RunF} {g : RunF} (h : LimR fam g) : LimR (fun m => execS C (fam m)) (execS C g) := by
  intro nt c s r hr
  unfold execS at hr ⊢
  split at hr
  · exact .of fun _ => hr
  · exact .of fun _ => hr
  · simp only [Option.map_eq_some_iff] at hr
    obtain ⟨s', hs, rfl⟩ := hr
    exact (lim_runOps (lim_callS h) hs).mono fun m e => by simp only [e, Option.map_some]
  · simp only [Option.map_eq_some_iff] at hr
    obtain ⟨s', hs, rfl⟩ := hr
    exact (lim_runDraw (lim_callS h) hs).mono fun m e => by simp only [e, Option.map_some]
  · rename_i a b
    split at hr
    · rename_i s' hs
      exact ((h _ _ _ _ hs).and (h _ _ _ _ hr)).mono fun m ⟨e1, e2⟩ => by simp only [e1, e2]
    · rename_i hn
      exact (h _ _ _ _ hr).mono fun m e => by
        simp only [e]
        split
        · rename_i s' hs; exact absurd (hr.trans hs) (by intro e; exact hn s' e)
        · rfl
  · split at hr
    · rename_i hx
      exact (h _ _ _ _ hr).mono fun m e => by simp only [hx, e]
    · rename_i hx
      exact (h _ _ _ _ hr).mono fun m e => by simp only [hx, e]
    · cases hr
  · rename_i id b
    split at hr
    · rename_i i s' hs
      exact (h _ _ _ _ hs).mono fun m e => by simp only [e]; exact hr
    · rename_i hn
      exact (h _ _ _ _ hr).mono fun m e => by
        simp only [e]
        split
        · rename_i i s' hs; exact absurd (hr.trans hs) (by intro e; exact hn i s' e)
        · rfl
  · rename_i b
    split at hr
    · rename_i s' hs
      exact ((h _ _ _ _ hs).and (h _ _ _ _ hr)).mono fun m ⟨e1, e2⟩ => by simp only [e1, e2]
    · rename_i hn
      exact (h _ _ _ _ hr).mono fun m e => by
        simp only [e]
        split
        · rename_i s' hs; exact absurd (hr.trans hs) (by intro e; exact hn s' e)
        · rfl
  · exact .of fun _ => hr
  · exact .of fun _ => hr
  · cases hr

/-- More steps, the same end. -/
theorem exec_mono1 : ∀ (n : Nat) (nt : Nat) (c : Code) (s : St) (r : Ex × St), exec C n nt c s = some r → exec C (n + 1) nt c s = some r
  | 0, nt, c, s, r, h => by simp [exec] at h
  | n + 1, nt, c, s, r, h => by
    have hl : LimR (fun _ => exec C (n + 1)) (exec C n) := fun nt c s r h => .of fun _ => exec_mono1 n nt c s r h
    obtain ⟨k, hk⟩ := lim_execS (C := C) hl nt c s r h
    exact hk k (Nat.le_refl _)
theorem exec_mono {n m : Nat} (hnm : n ≤ m) {nt : Nat} {c : Code} {s : St} {r : Ex × St} (h : exec C n nt c s = some r) : exec C m nt c s = some r := by
  induction hnm with
  | refl => exact h
  | step _ ih => exact exec_mono1 _ _ _ _ _ ih

open Classical in
/-- The end of a piece of code, if it has one. -/
noncomputable def Ev (C : Cx) : RunF := fun nt c s => if h : ∃ r n, exec C n nt c s = some r then some h.choose else none
theorem Ev_some {nt : Nat} {c : Code} {s : St} {r : Ex × St} : Ev C nt c s = some r ↔ ∃ n, exec C n nt c s = some r := by
  unfold Ev
  constructor
  · intro h
    split at h
    · rename_i hx
      injection h with h; subst h
      exact hx.choose_spec
    · cases h
  · rintro ⟨n, h⟩
    have hx : ∃ r n, exec C n nt c s = some r := ⟨r, n, h⟩
    rw [dif_pos hx]
    obtain ⟨n', h'⟩ := hx.choose_spec
    have e1 := exec_mono (Nat.le_max_left n n') h
    have e2 := exec_mono (Nat.le_max_right n n') h'
    rw [e1] at e2
    exact e2.symm
theorem lim_Ev : LimR (exec C) (Ev C) := fun nt c s r h => by
  obtain ⟨n, hn⟩ := Ev_some.1 h
  exact ⟨n, fun m hm => exec_mono hm hn⟩
theorem Ev_eq (nt : Nat) (c : Code) (s : St) : Ev C nt c s = execS C (Ev C) nt c s := by
  have h1 : ∀ r, execS C (Ev C) nt c s = some r → Ev C nt c s = some r := by
    intro r h
    obtain ⟨n, hn⟩ := lim_execS lim_Ev nt c s r h
    exact Ev_some.2 ⟨n + 1, hn n (Nat.le_refl _)⟩
  have h2 : ∀ r, Ev C nt c s = some r → execS C (Ev C) nt c s = some r := by
    intro r h
    obtain ⟨n, hn⟩ := Ev_some.1 h
    cases n with
    | zero => simp [exec] at hn
    | succ n =>
      have hl : LimR (fun _ => Ev C) (exec C n) := fun nt c s r h => .of fun _ => Ev_some.2 ⟨n, h⟩
      obtain ⟨k, hk⟩ := lim_execS hl nt c s r hn
      exact hk k (Nat.le_refl _)
  cases h : execS C (Ev C) nt c s with
  | some r => exact h1 r h
  | none =>
    cases h' : Ev C nt c s with
    | none => rfl
    | some r => rw [h2 r h'] at h; cases h

/-- A call, if it ends. -/
noncomputable def Cl (C : Cx) : CallF := callS C (Ev C)
theorem Cl_of {n k : Nat} {args : List AV} {H : Heap} {nx : Nat} {r : AV × Heap × Nat} (h : callN C n k args H nx = some r) : Cl C k args H nx = some r := by
  have hl : LimR (fun _ => Ev C) (exec C n) := fun nt c s r h => .of fun _ => Ev_some.2 ⟨n, h⟩
  obtain ⟨m, hm⟩ := lim_callS hl k args H nx r h
  exact hm m (Nat.le_refl _)
theorem Cl_to {k : Nat} {args : List AV} {H : Heap} {nx : Nat} {r : AV × Heap × Nat} (h : Cl C k args H nx = some r) : ∃ n, callN C n k args H nx = some r := by
  obtain ⟨m, hm⟩ := lim_callS lim_Ev k args H nx r h
  exact ⟨m, hm m (Nat.le_refl _)⟩
/-- THE MODEL DOES WHAT THE INTERPRETER SAYS. -/
theorem Cl_ok (hC : C.Sound) : CallOK C (Cl C) := fun k args H nx v H' nx' h => by
  obtain ⟨n, hn⟩ := Cl_to h
  exact call_ok hC n k args H nx v H' nx' hn
end CI
