/- Parts of the proof: Bu Ra Rl Ceq. -/
import Derived.Lib.AtoiAllCases
import Derived.Lib.ItoaNum
import Derived.Test.YtanfejbkoheblaaGreatDoorSwM4
import Derived.Test.YtanfejbkoheblaaGreatDoorSwM0
import Derived.Laws.StructEq
set_option linter.unusedVariables false
set_option linter.unusedSimpArgs false
namespace CI
open Go
namespace Dgs
open Lib
theorem parse_app : ∀ (l r : List UInt8) (acc a : Nat), parseUint10 acc l = .ok a → parseUint10 acc (l ++ r) = parseUint10 a r
  | [], r, acc, a, h => by
    simp only [parseUint10] at h
    injection h with h
    subst h; rfl
  | c :: l, r, acc, a, h => by
    simp only [parseUint10, List.cons_append] at h ⊢
    split at h
    · rename_i h1
      rw [if_pos h1]
      split at h
      · cases h
      · rename_i h2
        rw [if_neg h2]
        split at h
        · cases h
        · rename_i h3
          rw [if_neg h3]
          exact parse_app l r _ a h
    · cases h
theorem toNat_dig {u : Nat} (h : u < 10) : (UInt8.ofNat (48 + u)).toNat = 48 + u := by
  rw [UInt8.toNat_ofNat']
  omega
theorem parse_dec (u : Nat) : u < 18446744073709551616 → parseUint10 0 (decDigits u) = .ok u := by
  induction u using Nat.strongRecOn with
  | _ u ih =>
    intro hu
    by_cases h : u < 10
    · rw [decDigits, dif_pos h]
      simp only [parseUint10, toNat_dig h]
      rw [if_pos (by omega), if_neg (by omega), if_neg (by omega)]
      congr 1; omega
    · have h1 := ih (u / 10) (by omega) (by omega)
      rw [decDigits, dif_neg h, parse_app _ _ _ _ h1]
      simp only [parseUint10, toNat_dig (show u % 10 < 10 by omega)]
      rw [if_pos (by omega), if_neg (by omega), if_neg (by omega)]
      congr 1; omega
theorem dec_dig (u : Nat) : ∀ c, c ∈ decDigits u → 48 ≤ c.toNat ∧ c.toNat ≤ 57 := by
  induction u using Nat.strongRecOn with
  | _ u ih =>
    intro c hc
    by_cases h : u < 10
    · rw [decDigits, dif_pos h, List.mem_singleton] at hc
      subst hc
      rw [toNat_dig h]; omega
    · rw [decDigits, dif_neg h, List.mem_append, List.mem_singleton] at hc
      rcases hc with hc | hc
      · exact ih (u / 10) (by omega) c hc
      · subst hc
        rw [toNat_dig (by omega)]; omega
theorem dec_ne (u : Nat) : decDigits u ≠ [] := by
  by_cases h : u < 10
  · rw [decDigits, dif_pos h]; simp
  · rw [decDigits, dif_neg h]; simp
theorem parse_mag (u : Nat) (hu : u < 18446744073709551616) : parseMag (decDigits u) = .ok u := by
  unfold parseMag
  rw [if_neg (dec_ne u), parse_dec u hu]
theorem atoi_itoa (n : Int) (hn : -9223372036854775808 ≤ n ∧ n ≤ 9223372036854775807) : atoiAll (itoa n) = .ok n := by
  unfold itoa
  by_cases h : n < 0
  · rw [if_pos h, atoiAll_minus, parse_mag _ (by omega)]
    simp only [signed]
    rw [if_neg (by omega)]
    congr 1; omega
  · rw [if_neg h]
    have hm := parse_mag n.toNat (by omega)
    have hd := dec_dig n.toNat
    cases e : decDigits n.toNat with
    | nil => exact absurd e (dec_ne _)
    | cons c r =>
      rw [e] at hm hd
      have hc := hd c List.mem_cons_self
      rw [atoiAll_plain c r (by omega) (by omega), hm]
      simp only [signless]
      rw [if_neg (by omega)]
      congr 1; omega
theorem ofNat_toNat (c : UInt8) : UInt8.ofNat c.toNat = c := by simp
end Dgs
namespace Seat
def parseQ (w : List UInt8) : Int × Int := match Lib.atoiAll w with
  | .ok m => if Lib.itoa m = w then (m, 0) else (0, 4)
  | _ => (0, 4)
theorem ok_range {l : List UInt8} {m : Int} (h : Lib.atoiAll l = .ok m) : -9223372036854775808 ≤ m ∧ m ≤ 9223372036854775807 := by
  unfold Lib.atoiAll at h
  split at h
  · cases h
  · simp only at h
    split at h
    · cases h
    · cases h
    · split at h
      · cases h
      · split at h
        · cases h
        · injection h with h
          subst h
          split <;> omega
end Seat
end CI
namespace CI
open Go
namespace Rcd
open Quo Spl
abbrev W := List UInt8
structure Rec where
  err : Int
  at_ : Int
  kind : Int
  degree : Int
  most : Int
  x : W
  y : W
  z : W
  stops : Bool
  places : Int
  live : Int
  pairs : Int
  triples : Int
  vectors : Int
  deriving DecidableEq
def Rec.zero : Rec := ⟨0, 0, 0, 0, 0, [], [], [], false, 0, 0, 0, 0, 0⟩
def wVerdict : W := [118, 101, 114, 100, 105, 99, 116]
def wFlat : W := [102, 108, 97, 116]
def wSteep : W := [115, 116, 101, 101, 112]
def wWild : W := [119, 105, 108, 100]
def wUnknown : W := [117, 110, 107, 110, 111, 119, 110]
def wYes : W := [121, 101, 115]
def wNo : W := [110, 111]
def kindW (k : Int) : W := if k = 0 then wFlat else if k = 1 then wSteep else if k = 2 then wWild else if k = 3 then wUnknown else []
def kindQ (w : W) : Int × Bool := if w = wUnknown then (3, true) else if w = wFlat then (0, true) else if w = wSteep then (1, true) else if w = wWild then (2, true) else (0, false)
def flagW (b : Bool) : W := if b then wYes else wNo
def Rec.nums (r : Rec) : List Int := [r.err, r.at_, r.degree, r.most, r.places, r.live, r.pairs, r.triples, r.vectors]
structure Rec.ok (r : Rec) : Prop where
  n : ∀ n ∈ r.nums, -9223372036854775808 ≤ n ∧ n ≤ 9223372036854775807
  k : -9223372036854775808 ≤ r.kind ∧ r.kind ≤ 9223372036854775807
def Rec.told (r : Rec) : Prop := (∀ n ∈ r.nums, 0 ≤ n) ∧ r.err ≤ 10 ∧ 0 ≤ r.kind ∧ r.kind ≤ 3
instance (r : Rec) : Decidable r.told := inferInstanceAs (Decidable (_ ∧ _))
def num (n : Int) : W := Lib.itoa n
def lineW (r : Rec) : List W :=
  [wVerdict, num r.err, num r.at_, kindW r.kind, num r.degree, num r.most, writeW r.x, writeW r.y, writeW r.z, flagW r.stops, num r.places, num r.live, num r.pairs, num r.triples, num r.vectors]
abbrev Q := List W × Bool
def nextQ : Q → W × Q
  | ([], _) => ([], ([], true))
  | (s :: l, b) => (s, (l, b))
def isQ (s : W) (q : Q) : Q := ((nextQ q).2.1, decide ((nextQ q).1 ≠ s) || (nextQ q).2.2)
def numQ (q : Q) : Int × Q := ((Seat.parseQ (nextQ q).1).1, ((nextQ q).2.1, (nextQ q).2.2 || decide ((Seat.parseQ (nextQ q).1).2 ≠ 0) || decide ((Seat.parseQ (nextQ q).1).1 < 0)))
def bytesQ (q : Q) : W × Q := ((readI (nextQ q).1).1, ((nextQ q).2.1, (nextQ q).2.2 || decide ((readI (nextQ q).1).2.2 ≠ 0)))
def flagQ (q : Q) : Bool × Q := (decide ((nextQ q).1 = wYes), ((nextQ q).2.1, (nextQ q).2.2 || (decide ((nextQ q).1 ≠ wYes) && decide ((nextQ q).1 ≠ wNo))))
def kindS (q : Q) : Int × Q := ((kindQ (nextQ q).1).1, ((nextQ q).2.1, (nextQ q).2.2 || !(kindQ (nextQ q).1).2))
def doneQ (q : Q) : Bool := !q.2 && decide (q.1.length = 0)
structure Run (ws : List W) where
  q0 : Q
  q1 : Int × Q
  q2 : Int × Q
  q3 : Int × Q
  q4 : Int × Q
  q5 : Int × Q
  q6 : W × Q
  q7 : W × Q
  q8 : W × Q
  q9 : Bool × Q
  q10 : Int × Q
  q11 : Int × Q
  q12 : Int × Q
  q13 : Int × Q
  q14 : Int × Q
  e0 : q0 = isQ wVerdict (ws, false)
  e1 : q1 = numQ q0
  e2 : q2 = numQ q1.2
  e3 : q3 = kindS q2.2
  e4 : q4 = numQ q3.2
  e5 : q5 = numQ q4.2
  e6 : q6 = bytesQ q5.2
  e7 : q7 = bytesQ q6.2
  e8 : q8 = bytesQ q7.2
  e9 : q9 = flagQ q8.2
  e10 : q10 = numQ q9.2
  e11 : q11 = numQ q10.2
  e12 : q12 = numQ q11.2
  e13 : q13 = numQ q12.2
  e14 : q14 = numQ q13.2
def run (ws : List W) : Run ws := ⟨_, _, _, _, _, _, _, _, _, _, _, _, _, _, _, rfl, rfl, rfl, rfl, rfl, rfl, rfl, rfl, rfl, rfl, rfl, rfl, rfl, rfl, rfl⟩
def Run.rcd {ws : List W} (u : Run ws) : Rec := ⟨u.q1.1, u.q2.1, u.q3.1, u.q4.1, u.q5.1, u.q6.1, u.q7.1, u.q8.1, u.q9.1, u.q10.1, u.q11.1, u.q12.1, u.q13.1, u.q14.1⟩
def readR (l : W) : Option Rec := if doneQ (run (spl l)).q14.2 = true ∧ (run (spl l)).rcd.told then some (run (spl l)).rcd else none
theorem numQ_num {n : Int} (h : 0 ≤ n ∧ n ≤ 9223372036854775807) (l : List W) : numQ (num n :: l, false) = (n, (l, false)) := by
  have hp : Seat.parseQ (num n) = (n, 0) := by
    unfold Seat.parseQ num
    rw [Dgs.atoi_itoa n ⟨by omega, h.2⟩]
    simp
  simp only [numQ, nextQ, hp]
  simp
  omega
theorem bytesQ_write (s : W) (l : List W) : bytesQ (writeW s :: l, false) = (s, (l, false)) := by
  simp [bytesQ, nextQ, readI_write]
theorem flagQ_flag (b : Bool) (l : List W) : flagQ (flagW b :: l, false) = (b, (l, false)) := by
  cases b <;> simp [flagQ, nextQ, flagW, wYes, wNo]
theorem kindS_kind {k : Int} (h : 0 ≤ k ∧ k ≤ 3) (l : List W) : kindS (kindW k :: l, false) = (k, (l, false)) := by
  have h2 : k = 0 ∨ k = 1 ∨ k = 2 ∨ k = 3 := by omega
  rcases h2 with rfl | rfl | rfl | rfl <;> rfl
theorem run_line {r : Rec} (ho : r.ok) (ht : r.told) (u : Run (lineW r)) : u.rcd = r ∧ doneQ u.q14.2 = true := by
  have hn : ∀ n ∈ r.nums, 0 ≤ n ∧ n ≤ 9223372036854775807 := fun n h => ⟨ht.1 n h, (ho.n n h).2⟩
  simp only [Rec.nums, List.mem_cons, List.not_mem_nil, or_false, forall_eq_or_imp, forall_eq] at hn
  obtain ⟨n1, n2, n3, n4, n5, n6, n7, n8, n9⟩ := hn
  obtain ⟨q0, q1, q2, q3, q4, q5, q6, q7, q8, q9, q10, q11, q12, q13, q14, e0, e1, e2, e3, e4, e5, e6, e7, e8, e9, e10, e11, e12, e13, e14⟩ := u
  have f0 : isQ wVerdict (lineW r, false) = ((lineW r).tail, false) := by simp [isQ, nextQ, lineW]
  rw [f0] at e0; subst e0
  rw [show (lineW r).tail = num r.err :: (lineW r).tail.tail from rfl, numQ_num n1] at e1; subst e1
  simp only at e2
  rw [show (lineW r).tail.tail = num r.at_ :: (lineW r).tail.tail.tail from rfl, numQ_num n2] at e2; subst e2
  simp only at e3
  rw [show (lineW r).tail.tail.tail = kindW r.kind :: (lineW r).drop 4 from rfl, kindS_kind ⟨ht.2.2.1, ht.2.2.2⟩] at e3; subst e3
  simp only at e4
  rw [show (lineW r).drop 4 = num r.degree :: (lineW r).drop 5 from rfl, numQ_num n3] at e4; subst e4
  simp only at e5
  rw [show (lineW r).drop 5 = num r.most :: (lineW r).drop 6 from rfl, numQ_num n4] at e5; subst e5
  simp only at e6
  rw [show (lineW r).drop 6 = writeW r.x :: (lineW r).drop 7 from rfl, bytesQ_write] at e6; subst e6
  simp only at e7
  rw [show (lineW r).drop 7 = writeW r.y :: (lineW r).drop 8 from rfl, bytesQ_write] at e7; subst e7
  simp only at e8
  rw [show (lineW r).drop 8 = writeW r.z :: (lineW r).drop 9 from rfl, bytesQ_write] at e8; subst e8
  simp only at e9
  rw [show (lineW r).drop 9 = flagW r.stops :: (lineW r).drop 10 from rfl, flagQ_flag] at e9; subst e9
  simp only at e10
  rw [show (lineW r).drop 10 = num r.places :: (lineW r).drop 11 from rfl, numQ_num n5] at e10; subst e10
  simp only at e11
  rw [show (lineW r).drop 11 = num r.live :: (lineW r).drop 12 from rfl, numQ_num n6] at e11; subst e11
  simp only at e12
  rw [show (lineW r).drop 12 = num r.pairs :: (lineW r).drop 13 from rfl, numQ_num n7] at e12; subst e12
  simp only at e13
  rw [show (lineW r).drop 13 = num r.triples :: (lineW r).drop 14 from rfl, numQ_num n8] at e13; subst e13
  simp only at e14
  rw [show (lineW r).drop 14 = num r.vectors :: [] from rfl, numQ_num n9] at e14; subst e14
  exact ⟨rfl, rfl⟩
theorem free_num (n : Int) : (32 : UInt8) ∉ num n := by
  unfold num Lib.itoa
  have hd : ∀ u : Nat, (32 : UInt8) ∉ Lib.decDigits u := fun u h => by
    have := Dgs.dec_dig u 32 h
    simp at this
  split
  · intro h
    rcases List.mem_cons.1 h with h | h
    · cases h
    · exact hd _ h
  · exact hd _
theorem free_one (b : UInt8) : (32 : UInt8) ∉ oneW b := by
  have h : ∀ b : Fin 256, (32 : UInt8) ∉ oneN b.val := by decide +kernel
  exact h ⟨b.toNat, b.toNat_lt⟩
theorem free_write (s : W) : (32 : UInt8) ∉ writeW s := by
  unfold writeW
  split
  · decide
  · intro h
    obtain ⟨b, _, h2⟩ := List.mem_flatMap.1 h
    exact free_one b h2
theorem free_kind (k : Int) : (32 : UInt8) ∉ kindW k := by
  unfold kindW
  split
  · decide
  · split
    · decide
    · split
      · decide
      · split <;> decide
theorem free_flag (b : Bool) : (32 : UInt8) ∉ flagW b := by cases b <;> decide
theorem free_line (r : Rec) : ∀ w ∈ lineW r, (32 : UInt8) ∉ w := by
  intro w h
  simp only [lineW, List.mem_cons, List.not_mem_nil, or_false] at h
  rcases h with rfl | rfl | rfl | rfl | rfl | rfl | rfl | rfl | rfl | rfl | rfl | rfl | rfl | rfl | rfl <;> first | exact free_num _ | exact free_kind _ | exact free_write _ | exact free_flag _ | decide
theorem spl_one {w : W} (h : (32 : UInt8) ∉ w) : spl w = [w] := by
  induction w with
  | nil => rfl
  | cons b r ih =>
    simp only [List.mem_cons, not_or] at h
    unfold spl
    rw [if_neg (fun e => h.1 e.symm), ih h.2]
    rfl
theorem spl_app {w : W} (h : (32 : UInt8) ∉ w) (l : W) : spl (w ++ 32 :: l) = w :: spl l := by
  induction w with
  | nil => show spl (32 :: l) = _; rw [spl, if_pos rfl]
  | cons b r ih =>
    simp only [List.mem_cons, not_or] at h
    show spl (b :: (r ++ 32 :: l)) = _
    rw [spl, if_neg (fun e => h.1 e.symm), ih h.2]
    rfl
theorem joi_spl : ∀ (ws : List W), ws ≠ [] → (∀ w ∈ ws, (32 : UInt8) ∉ w) → spl (joi ws) = ws
  | [], h, _ => absurd rfl h
  | [w], _, h => by
    simp only [joi, joiT, List.append_nil]
    exact spl_one (h w (List.mem_cons_self ..))
  | w :: v :: ws, _, h => by
    have ih := joi_spl (v :: ws) (by simp) (fun u hu => h u (List.mem_cons_of_mem _ hu))
    simp only [joi, joiT] at ih ⊢
    rw [spl_app (h w (List.mem_cons_self ..)), ih]
theorem spl_line (r : Rec) : spl (joi (lineW r)) = lineW r := joi_spl _ (by simp [lineW]) (free_line r)
theorem readR_line {r : Rec} (ho : r.ok) (ht : r.told) : readR (joi (lineW r)) = some r := by
  obtain ⟨ws, hws⟩ : ∃ ws, ws = spl (joi (lineW r)) := ⟨_, rfl⟩
  have h2 : ws = lineW r := by rw [hws, spl_line]
  have key : ∀ (ws : List W) (u : Run ws), ws = lineW r → u.rcd = r ∧ doneQ u.q14.2 = true := by
    rintro ws u rfl
    exact run_line ho ht u
  obtain ⟨k1, k2⟩ := key _ (run (spl (joi (lineW r)))) (spl_line r)
  unfold readR
  rw [if_pos ⟨k2, by rw [k1]; exact ht⟩, k1]
end Rcd
end CI
namespace CI
open Go
namespace Rcd
open Quo Spl
structure Ent where
  pat : W
  mode : Int
  rcd : Rec
  deriving DecidableEq
def right (m : Int) : Prop := 0 ≤ m ∧ m ≤ 3
instance (m : Int) : Decidable (right m) := inferInstanceAs (Decidable (_ ∧ _))
def Ent.good (e : Ent) : Prop := e.rcd.told ∧ e.rcd.ok ∧ right e.mode
end Rcd
end CI
namespace CI
open Go
theorem pureRun_bi {α β : Type} (P : Program) (m : Sem α) (f : α → Sem β) : pureRun P (m >>= f) = (pureRun P m).bind fun a => pureRun P (f a) := by
  show pureRun P (m.bind f) = _
  induction m with
  | pure a => rfl
  | program k ih => simp only [Sem.bind, pureRun]; exact ih P
  | mark x k ih => simp only [Sem.bind, pureRun]; exact ih
  | _ => simp [Sem.bind, pureRun]
theorem pureRun_pu {α : Type} (P : Program) (a : α) : pureRun P (pure a : Sem α) = some a := rfl
theorem pureRun_it {α : Type} (P : Program) (c : Prop) [Decidable c] (x y : Sem α) : pureRun P (if c then x else y) = if c then pureRun P x else pureRun P y := by split <;> rfl
theorem pureRun_pr (P : Program) : pureRun P Go.program = some P := rfl
variable {P : Program}
theorem pr_under {t : TypeId} {d : TypeDesc} (h : P.underlying t = some d) : pureRun P (underlying t) = some d := by
  unfold underlying
  simp only [pureRun_bi, pureRun_pr, Option.bind_some, h]
  rfl
theorem pr_struct (d : Nat) (t : TypeId) (xs ys : Array Value) (ht : P.underlying t = some (.struct (P.fieldsOf t))) (hp : P.stoodInHeld t = false) :
    pureRun P (Op.equalIn (d + 1) t (.agg xs) (.agg ys)) = pureRun P (Op.eqFields d xs ys (P.fieldsOf t).toList) := by
  simp only [Op.equalIn, pureRun_bi, pr_under ht, Option.bind_some, pureRun_pr, hp, Bool.false_eq_true, if_false]
  rw [← Array.forIn_toList]
  generalize (P.fieldsOf t).toList = fs
  clear ht
  induction fs with
  | nil => rfl
  | cons f fs ih =>
    simp only [List.forIn_cons, Op.eqFields, pureRun_bi, pureRun_it]
    split
    · cases pureRun P (part f.type xs f.offset) with
      | none => rfl
      | some a =>
        simp only [Option.bind_some]
        cases pureRun P (part f.type ys f.offset) with
        | none => rfl
        | some b =>
          simp only [Option.bind_some]
          cases pureRun P (Op.equalIn d f.type a b) with
          | none => rfl
          | some r =>
            cases r
            · rfl
            · simp only [Option.bind_some, Bool.not_true, Bool.false_eq_true, if_false, pureRun_pu]
              exact ih
    · simp only [pureRun_pu, Option.bind_some]
      exact ih
def PartsSelf (P : Program) (d : Nat) (xs : Array Value) : List Field → Prop
  | [] => True
  | f :: fs => (∃ v, pureRun P (part f.type xs f.offset) = some v ∧ pureRun P (Op.equalIn d f.type v v) = some true) ∧ PartsSelf P d xs fs
theorem eqFields_self (d : Nat) (xs : Array Value) : ∀ fs, PartsSelf P d xs fs → pureRun P (Op.eqFields d xs xs fs) = some true
  | [], _ => rfl
  | f :: fs, h => by
    obtain ⟨⟨v, h1, h2⟩, h3⟩ := h
    have ih := eqFields_self d xs fs h3
    unfold Op.eqFields
    rw [pureRun_it]
    split
    · simp only [pureRun_bi, h1, h2, Option.bind_some, Bool.not_true, Bool.false_eq_true, if_false]
      exact ih
    · exact ih
theorem struct_self (d : Nat) (t : TypeId) (xs : Array Value) (ht : P.underlying t = some (.struct (P.fieldsOf t))) (hp : P.stoodInHeld t = false) (h : PartsSelf P d xs (P.fieldsOf t).toList) :
    pureRun P (Op.equalIn (d + 1) t (.agg xs) (.agg xs)) = some true := by
  rw [pr_struct d t xs xs ht hp]
  exact eqFields_self d xs _ h
end CI
