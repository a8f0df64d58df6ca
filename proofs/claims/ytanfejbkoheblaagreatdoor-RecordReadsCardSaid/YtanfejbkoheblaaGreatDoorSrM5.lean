/- Parts of the proof: Ra Rl Ceq. -/
import Derived.Test.YtanfejbkoheblaaGreatDoorSrM4
import Derived.Test.YtanfejbkoheblaaGreatDoorSrM0
import Derived.Laws.StructEq
set_option linter.unusedVariables false
set_option linter.unusedSimpArgs false
namespace CI
open Go
namespace Rcd
open Quo Spl
abbrev W := List UInt8
structure Rec where
  err : Int
  at_ : Int
  kind : Int
  degree : Int
  most : Int
  x : W
  y : W
  z : W
  stops : Bool
  places : Int
  live : Int
  pairs : Int
  triples : Int
  vectors : Int
  deriving DecidableEq
def Rec.zero : Rec := ⟨0, 0, 0, 0, 0, [], [], [], false, 0, 0, 0, 0, 0⟩
def wVerdict : W := [118, 101, 114, 100, 105, 99, 116]
def wFlat : W := [102, 108, 97, 116]
def wSteep : W := [115, 116, 101, 101, 112]
def wWild : W := [119, 105, 108, 100]
def wUnknown : W := [117, 110, 107, 110, 111, 119, 110]
def wYes : W := [121, 101, 115]
def wNo : W := [110, 111]
def kindW (k : Int) : W := if k = 0 then wFlat else if k = 1 then wSteep else if k = 2 then wWild else if k = 3 then wUnknown else []
def kindQ (w : W) : Int × Bool := if w = wUnknown then (3, true) else if w = wFlat then (0, true) else if w = wSteep then (1, true) else if w = wWild then (2, true) else (0, false)
def flagW (b : Bool) : W := if b then wYes else wNo
def Rec.nums (r : Rec) : List Int := [r.err, r.at_, r.degree, r.most, r.places, r.live, r.pairs, r.triples, r.vectors]
structure Rec.ok (r : Rec) : Prop where
  n : ∀ n ∈ r.nums, -9223372036854775808 ≤ n ∧ n ≤ 9223372036854775807
  k : -9223372036854775808 ≤ r.kind ∧ r.kind ≤ 9223372036854775807
def Rec.told (r : Rec) : Prop := (∀ n ∈ r.nums, 0 ≤ n) ∧ r.err ≤ 10 ∧ 0 ≤ r.kind ∧ r.kind ≤ 3
instance (r : Rec) : Decidable r.told := inferInstanceAs (Decidable (_ ∧ _))
def num (n : Int) : W := Lib.itoa n
def lineW (r : Rec) : List W :=
  [wVerdict, num r.err, num r.at_, kindW r.kind, num r.degree, num r.most, writeW r.x, writeW r.y, writeW r.z, flagW r.stops, num r.places, num r.live, num r.pairs, num r.triples, num r.vectors]
abbrev Q := List W × Bool
def nextQ : Q → W × Q
  | ([], _) => ([], ([], true))
  | (s :: l, b) => (s, (l, b))
def isQ (s : W) (q : Q) : Q := ((nextQ q).2.1, decide ((nextQ q).1 ≠ s) || (nextQ q).2.2)
def numQ (q : Q) : Int × Q := ((Seat.parseQ (nextQ q).1).1, ((nextQ q).2.1, (nextQ q).2.2 || decide ((Seat.parseQ (nextQ q).1).2 ≠ 0) || decide ((Seat.parseQ (nextQ q).1).1 < 0)))
def bytesQ (q : Q) : W × Q := ((readI (nextQ q).1).1, ((nextQ q).2.1, (nextQ q).2.2 || decide ((readI (nextQ q).1).2.2 ≠ 0)))
def flagQ (q : Q) : Bool × Q := (decide ((nextQ q).1 = wYes), ((nextQ q).2.1, (nextQ q).2.2 || (decide ((nextQ q).1 ≠ wYes) && decide ((nextQ q).1 ≠ wNo))))
def kindS (q : Q) : Int × Q := ((kindQ (nextQ q).1).1, ((nextQ q).2.1, (nextQ q).2.2 || !(kindQ (nextQ q).1).2))
def doneQ (q : Q) : Bool := !q.2 && decide (q.1.length = 0)
structure Run (ws : List W) where
  q0 : Q
  q1 : Int × Q
  q2 : Int × Q
  q3 : Int × Q
  q4 : Int × Q
  q5 : Int × Q
  q6 : W × Q
  q7 : W × Q
  q8 : W × Q
  q9 : Bool × Q
  q10 : Int × Q
  q11 : Int × Q
  q12 : Int × Q
  q13 : Int × Q
  q14 : Int × Q
  e0 : q0 = isQ wVerdict (ws, false)
  e1 : q1 = numQ q0
  e2 : q2 = numQ q1.2
  e3 : q3 = kindS q2.2
  e4 : q4 = numQ q3.2
  e5 : q5 = numQ q4.2
  e6 : q6 = bytesQ q5.2
  e7 : q7 = bytesQ q6.2
  e8 : q8 = bytesQ q7.2
  e9 : q9 = flagQ q8.2
  e10 : q10 = numQ q9.2
  e11 : q11 = numQ q10.2
  e12 : q12 = numQ q11.2
  e13 : q13 = numQ q12.2
  e14 : q14 = numQ q13.2
def run (ws : List W) : Run ws := ⟨_, _, _, _, _, _, _, _, _, _, _, _, _, _, _, rfl, rfl, rfl, rfl, rfl, rfl, rfl, rfl, rfl, rfl, rfl, rfl, rfl, rfl, rfl⟩
def Run.rcd {ws : List W} (u : Run ws) : Rec := ⟨u.q1.1, u.q2.1, u.q3.1, u.q4.1, u.q5.1, u.q6.1, u.q7.1, u.q8.1, u.q9.1, u.q10.1, u.q11.1, u.q12.1, u.q13.1, u.q14.1⟩
def readR (l : W) : Option Rec := if doneQ (run (spl l)).q14.2 = true ∧ (run (spl l)).rcd.told then some (run (spl l)).rcd else none
theorem next_good {q : Q} {s : W} {q' : Q} (h : nextQ q = (s, q')) (hb : q'.2 = false) : q.1 = s :: q'.1 ∧ q.2 = false := by
  obtain ⟨l, b⟩ := q
  cases l with
  | nil => simp only [nextQ, Prod.mk.injEq] at h; obtain ⟨_, rfl⟩ := h; cases hb
  | cons a l => simp only [nextQ, Prod.mk.injEq] at h; obtain ⟨rfl, rfl⟩ := h; exact ⟨rfl, hb⟩
theorem is_good {s : W} {q q' : Q} (h : q' = isQ s q) (hb : q'.2 = false) : q.1 = s :: q'.1 ∧ q.2 = false := by
  subst h
  simp only [isQ, Bool.or_eq_false_iff, decide_eq_false_iff_not, ne_eq, Decidable.not_not] at hb ⊢
  obtain ⟨h1, h2⟩ := hb
  have := next_good (q := q) (s := (nextQ q).1) (q' := (nextQ q).2) rfl h2
  rw [h1] at this
  exact this
theorem num_back {w : W} (h1 : (Seat.parseQ w).2 = 0) : num (Seat.parseQ w).1 = w ∧ -9223372036854775808 ≤ (Seat.parseQ w).1 ∧ (Seat.parseQ w).1 ≤ 9223372036854775807 := by
  unfold Seat.parseQ at h1 ⊢
  cases h : Lib.atoiAll w with
  | ok m =>
    rw [h] at h1
    simp only at h1 ⊢
    by_cases he : Lib.itoa m = w
    · rw [if_pos he]
      exact ⟨he, Seat.ok_range h⟩
    · rw [if_neg he] at h1; simp at h1
  | _ => rw [h] at h1; simp at h1
theorem numQ_good {q : Q} {n : Int × Q} (h : n = numQ q) (hb : n.2.2 = false) : q.1 = num n.1 :: n.2.1 ∧ q.2 = false ∧ 0 ≤ n.1 ∧ n.1 ≤ 9223372036854775807 := by
  subst h
  simp only [numQ, Bool.or_eq_false_iff, decide_eq_false_iff_not, ne_eq, Decidable.not_not, Int.not_lt] at hb ⊢
  obtain ⟨⟨h1, h2⟩, h3⟩ := hb
  obtain ⟨g1, g2⟩ := next_good (q := q) (s := (nextQ q).1) (q' := (nextQ q).2) rfl h1
  obtain ⟨b1, b2, b3⟩ := num_back h2
  exact ⟨by rw [b1]; exact g1, g2, h3, b3⟩
theorem bytesQ_good {q : Q} {n : W × Q} (h : n = bytesQ q) (hb : n.2.2 = false) : q.1 = writeW n.1 :: n.2.1 ∧ q.2 = false := by
  subst h
  simp only [bytesQ, Bool.or_eq_false_iff, decide_eq_false_iff_not, ne_eq, Decidable.not_not] at hb ⊢
  obtain ⟨h1, h2⟩ := hb
  obtain ⟨g1, g2⟩ := next_good (q := q) (s := (nextQ q).1) (q' := (nextQ q).2) rfl h1
  rcases readI_cases (nextQ q).1 with ⟨k, h3, _⟩ | ⟨s, h3, h4⟩
  · rw [h3] at h2; cases h2
  · rw [h3]
    refine ⟨?_, g2⟩
    rw [h4]; exact g1
theorem flagQ_good {q : Q} {n : Bool × Q} (h : n = flagQ q) (hb : n.2.2 = false) : q.1 = flagW n.1 :: n.2.1 ∧ q.2 = false := by
  subst h
  simp only [flagQ, Bool.or_eq_false_iff, Bool.and_eq_false_iff, decide_eq_false_iff_not, ne_eq, Decidable.not_not] at hb ⊢
  obtain ⟨h1, h2⟩ := hb
  obtain ⟨g1, g2⟩ := next_good (q := q) (s := (nextQ q).1) (q' := (nextQ q).2) rfl h1
  refine ⟨?_, g2⟩
  rw [g1]
  rcases h2 with h2 | h2
  · simp [flagW, h2]
  · have hne : ¬ wNo = wYes := by decide
    simp [flagW, h2, hne]
theorem kindW_Q {w : W} (h : (kindQ w).2 = true) : kindW (kindQ w).1 = w ∧ 0 ≤ (kindQ w).1 ∧ (kindQ w).1 ≤ 3 := by
  unfold kindQ at h ⊢
  by_cases h1 : w = wUnknown
  · rw [if_pos h1]; exact ⟨h1.symm, by decide, by decide⟩
  · rw [if_neg h1] at h ⊢
    by_cases h2 : w = wFlat
    · rw [if_pos h2]; exact ⟨h2.symm, by decide, by decide⟩
    · rw [if_neg h2] at h ⊢
      by_cases h3 : w = wSteep
      · rw [if_pos h3]; exact ⟨h3.symm, by decide, by decide⟩
      · rw [if_neg h3] at h ⊢
        by_cases h4 : w = wWild
        · rw [if_pos h4]; exact ⟨h4.symm, by decide, by decide⟩
        · rw [if_neg h4] at h; cases h
theorem kindS_good {q : Q} {n : Int × Q} (h : n = kindS q) (hb : n.2.2 = false) : q.1 = kindW n.1 :: n.2.1 ∧ q.2 = false ∧ 0 ≤ n.1 ∧ n.1 ≤ 3 := by
  subst h
  simp only [kindS, Bool.or_eq_false_iff, Bool.not_eq_false'] at hb ⊢
  obtain ⟨h1, h2⟩ := hb
  obtain ⟨g1, g2⟩ := next_good (q := q) (s := (nextQ q).1) (q' := (nextQ q).2) rfl h1
  obtain ⟨k1, k2, k3⟩ := kindW_Q h2
  exact ⟨by rw [k1]; exact g1, g2, k2, k3⟩
theorem run_back {ws : List W} (u : Run ws) (h : doneQ u.q14.2 = true) : ws = lineW u.rcd ∧ u.rcd.ok ∧ (∀ n ∈ u.rcd.nums, 0 ≤ n) ∧ 0 ≤ u.rcd.kind ∧ u.rcd.kind ≤ 3 := by
  simp only [doneQ, Bool.and_eq_true, Bool.not_eq_true', decide_eq_true_eq, List.length_eq_zero_iff] at h
  obtain ⟨hb, hl⟩ := h
  obtain ⟨w14, b13, p14, r14⟩ := numQ_good u.e14 hb
  obtain ⟨w13, b12, p13, r13⟩ := numQ_good u.e13 b13
  obtain ⟨w12, b11, p12, r12⟩ := numQ_good u.e12 b12
  obtain ⟨w11, b10, p11, r11⟩ := numQ_good u.e11 b11
  obtain ⟨w10, b9, p10, r10⟩ := numQ_good u.e10 b10
  obtain ⟨w9, b8⟩ := flagQ_good u.e9 b9
  obtain ⟨w8, b7⟩ := bytesQ_good u.e8 b8
  obtain ⟨w7, b6⟩ := bytesQ_good u.e7 b7
  obtain ⟨w6, b5⟩ := bytesQ_good u.e6 b6
  obtain ⟨w5, b4, p5, r5⟩ := numQ_good u.e5 b5
  obtain ⟨w4, b3, p4, r4⟩ := numQ_good u.e4 b4
  obtain ⟨w3, b2, p3, r3⟩ := kindS_good u.e3 b3
  obtain ⟨w2, b1, p2, r2⟩ := numQ_good u.e2 b2
  obtain ⟨w1, b0, p1, r1⟩ := numQ_good u.e1 b1
  obtain ⟨w0, _⟩ := is_good u.e0 b0
  simp only at w0
  refine ⟨?_, ⟨?_, ?_⟩, ?_, p3, r3⟩
  · rw [w1, w2, w3, w4, w5, w6, w7, w8, w9, w10, w11, w12, w13, w14, hl] at w0
    exact w0
  · intro n hn
    simp only [Rec.nums, Run.rcd, List.mem_cons, List.not_mem_nil, or_false] at hn
    rcases hn with rfl | rfl | rfl | rfl | rfl | rfl | rfl | rfl | rfl <;> constructor <;> omega
  · show _ ≤ u.q3.1 ∧ u.q3.1 ≤ _
    omega
  · intro n hn
    simp only [Rec.nums, Run.rcd, List.mem_cons, List.not_mem_nil, or_false] at hn
    rcases hn with rfl | rfl | rfl | rfl | rfl | rfl | rfl | rfl | rfl <;> assumption
theorem readR_back {l : W} {r : Rec} (h : readR l = some r) : joi (lineW r) = l ∧ r.told ∧ r.ok := by
  unfold readR at h
  split at h
  · rename_i hc
    injection h with h; subst h
    obtain ⟨h1, h2, _⟩ := run_back (run (spl l)) hc.1
    exact ⟨by rw [← h1]; exact spl_joi l, hc.2, h2⟩
  · cases h
end Rcd
end CI
namespace CI
open Go
namespace Rcd
open Quo Spl
structure Ent where
  pat : W
  mode : Int
  rcd : Rec
  deriving DecidableEq
def right (m : Int) : Prop := 0 ≤ m ∧ m ≤ 3
instance (m : Int) : Decidable (right m) := inferInstanceAs (Decidable (_ ∧ _))
def Ent.good (e : Ent) : Prop := e.rcd.told ∧ e.rcd.ok ∧ right e.mode
end Rcd
end CI
namespace CI
open Go
theorem pureRun_bi {α β : Type} (P : Program) (m : Sem α) (f : α → Sem β) : pureRun P (m >>= f) = (pureRun P m).bind fun a => pureRun P (f a) := by
  show pureRun P (m.bind f) = _
  induction m with
  | pure a => rfl
  | program k ih => simp only [Sem.bind, pureRun]; exact ih P
  | mark x k ih => simp only [Sem.bind, pureRun]; exact ih
  | _ => simp [Sem.bind, pureRun]
theorem pureRun_pu {α : Type} (P : Program) (a : α) : pureRun P (pure a : Sem α) = some a := rfl
theorem pureRun_it {α : Type} (P : Program) (c : Prop) [Decidable c] (x y : Sem α) : pureRun P (if c then x else y) = if c then pureRun P x else pureRun P y := by split <;> rfl
theorem pureRun_pr (P : Program) : pureRun P Go.program = some P := rfl
variable {P : Program}
theorem pr_under {t : TypeId} {d : TypeDesc} (h : P.underlying t = some d) : pureRun P (underlying t) = some d := by
  unfold underlying
  simp only [pureRun_bi, pureRun_pr, Option.bind_some, h]
  rfl
theorem pr_struct (d : Nat) (t : TypeId) (xs ys : Array Value) (ht : P.underlying t = some (.struct (P.fieldsOf t))) (hp : P.stoodInHeld t = false) :
    pureRun P (Op.equalIn (d + 1) t (.agg xs) (.agg ys)) = pureRun P (Op.eqFields d xs ys (P.fieldsOf t).toList) := by
  simp only [Op.equalIn, pureRun_bi, pr_under ht, Option.bind_some, pureRun_pr, hp, Bool.false_eq_true, if_false]
  rw [← Array.forIn_toList]
  generalize (P.fieldsOf t).toList = fs
  clear ht
  induction fs with
  | nil => rfl
  | cons f fs ih =>
    simp only [List.forIn_cons, Op.eqFields, pureRun_bi, pureRun_it]
    split
    · cases pureRun P (part f.type xs f.offset) with
      | none => rfl
      | some a =>
        simp only [Option.bind_some]
        cases pureRun P (part f.type ys f.offset) with
        | none => rfl
        | some b =>
          simp only [Option.bind_some]
          cases pureRun P (Op.equalIn d f.type a b) with
          | none => rfl
          | some r =>
            cases r
            · rfl
            · simp only [Option.bind_some, Bool.not_true, Bool.false_eq_true, if_false, pureRun_pu]
              exact ih
    · simp only [pureRun_pu, Option.bind_some]
      exact ih
def PartsSelf (P : Program) (d : Nat) (xs : Array Value) : List Field → Prop
  | [] => True
  | f :: fs => (∃ v, pureRun P (part f.type xs f.offset) = some v ∧ pureRun P (Op.equalIn d f.type v v) = some true) ∧ PartsSelf P d xs fs
theorem eqFields_self (d : Nat) (xs : Array Value) : ∀ fs, PartsSelf P d xs fs → pureRun P (Op.eqFields d xs xs fs) = some true
  | [], _ => rfl
  | f :: fs, h => by
    obtain ⟨⟨v, h1, h2⟩, h3⟩ := h
    have ih := eqFields_self d xs fs h3
    unfold Op.eqFields
    rw [pureRun_it]
    split
    · simp only [pureRun_bi, h1, h2, Option.bind_some, Bool.not_true, Bool.false_eq_true, if_false]
      exact ih
    · exact ih
theorem struct_self (d : Nat) (t : TypeId) (xs : Array Value) (ht : P.underlying t = some (.struct (P.fieldsOf t))) (hp : P.stoodInHeld t = false) (h : PartsSelf P d xs (P.fieldsOf t).toList) :
    pureRun P (Op.equalIn (d + 1) t (.agg xs) (.agg xs)) = some true := by
  rw [pr_struct d t xs xs ht hp]
  exact eqFields_self d xs _ h
end CI
