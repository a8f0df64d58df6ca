/- The plain law of words: what tells a byte, and what is read of it. -/
import Derived.Calls
set_option linter.unusedVariables false
set_option linter.unusedSimpArgs false
namespace CI
namespace Quo
def hexC (n : Nat) : UInt8 := UInt8.ofNat (if n < 10 then 48 + n else 87 + n)
def plainN (n : Nat) : Bool := decide (32 < n) && decide (n < 127) && decide (n ≠ 92)
def oneN (n : Nat) : List UInt8 := if n = 92 then [92, 92] else if 32 < n ∧ n < 127 then [UInt8.ofNat n] else [92, 120, hexC (n / 16), hexC (n % 16)]
def oneW (b : UInt8) : List UInt8 := oneN b.toNat
def writeW (s : List UInt8) : List UInt8 := if s = [] then [92, 101] else s.flatMap oneW
def unhex (b : UInt8) : Option Nat := if 48 ≤ b.toNat ∧ b.toNat ≤ 57 then some (b.toNat - 48) else if 97 ≤ b.toNat ∧ b.toNat ≤ 102 then some (b.toNat - 87) else none
def codesB (hi : Nat) : Bool := (List.range 16).any fun lo => !plainN (16 * hi + lo) && decide (16 * hi + lo ≠ 92)
/-- What one step reads: a byte and how far, or how far it comes. -/
def stepR : List UInt8 → Except Nat (UInt8 × Nat)
  | [] => .error 0
  | b :: r =>
    if b.toNat = 92 then
      match r with
      | [] => .error 1
      | c :: r2 =>
        if c.toNat = 92 then .ok (92, 2) else
        if c.toNat = 120 then
          match r2 with
          | [] => .error 2
          | h :: r3 =>
            match unhex h with
            | none => .error 2
            | some hi =>
              if codesB hi = true then
                match r3 with
                | [] => .error 3
                | l :: _ =>
                  match unhex l with
                  | none => .error 3
                  | some lo => if plainN (16 * hi + lo) = true ∨ 16 * hi + lo = 92 then .error 3 else .ok (UInt8.ofNat (16 * hi + lo), 4)
              else .error 2
        else .error 1
    else if plainN b.toNat = true then .ok (b, 1) else .error 0
/-- All that is read, from a place on. -/
def readW : Nat → List UInt8 → Nat → List UInt8 → Except Nat (List UInt8)
  | 0, _, at_, acc => .ok acc
  | n + 1, w, at_, acc =>
    if w.length ≤ at_ then .ok acc else
    match stepR (w.drop at_) with
    | .error k => .error (at_ + k)
    | .ok (b, k) => readW n w (at_ + k) (acc ++ [b])
theorem unhex_hexC : ∀ n : Fin 16, unhex (hexC n.val) = some n.val := by decide
theorem plainN_ok (n : Nat) (h : n < 256) : plainN n = true ↔ 32 < n ∧ n < 127 ∧ n ≠ 92 := by
  simp only [plainN, Bool.and_eq_true, decide_eq_true_eq]
  omega
theorem stepR_one (b : UInt8) (r : List UInt8) : stepR (oneW b ++ r) = .ok (b, (oneW b).length) := by
  have hb : b.toNat < 256 := b.toNat_lt
  unfold oneW oneN
  by_cases h1 : b.toNat = 92
  · rw [if_pos h1]
    have : b = 92 := UInt8.toNat_inj.1 (by rw [h1]; rfl)
    subst this
    rfl
  · rw [if_neg h1]
    by_cases h2 : 32 < b.toNat ∧ b.toNat < 127
    · rw [if_pos h2]
      simp only [UInt8.ofNat_toNat, List.cons_append, List.nil_append, stepR, if_neg h1]
      rw [if_pos ((plainN_ok _ hb).2 ⟨h2.1, h2.2, h1⟩)]
      rfl
    · rw [if_neg h2]
      have u1 := unhex_hexC ⟨b.toNat / 16, by omega⟩
      have u2 := unhex_hexC ⟨b.toNat % 16, by omega⟩
      simp only at u1 u2
      have e : 16 * (b.toNat / 16) + b.toNat % 16 = b.toNat := by omega
      have hnp : plainN b.toNat = false := by
        rw [← Bool.not_eq_true, plainN_ok _ hb]
        rintro ⟨h3, h4, _⟩; exact h2 ⟨h3, h4⟩
      have hc : codesB (b.toNat / 16) = true := by
        unfold codesB
        rw [List.any_eq_true]
        refine ⟨b.toNat % 16, by simp only [List.mem_range]; omega, ?_⟩
        rw [e, hnp]
        simpa using h1
      simp only [List.cons_append, List.nil_append, stepR]
      rw [if_pos (by decide), if_neg (by decide), if_pos (by decide), u1]
      simp only [hc, if_true, u2, e, hnp, Bool.false_eq_true, false_or]
      rw [if_neg h1]
      simp
theorem oneW_pos (b : UInt8) : 1 ≤ (oneW b).length := by
  unfold oneW oneN
  split
  · simp
  · split <;> simp
theorem oneW_le (b : UInt8) : (oneW b).length ≤ 4 := by
  unfold oneW oneN
  split
  · simp
  · split <;> simp
/-- What was written is read. -/
theorem readW_write : ∀ (s pre : List UInt8) (acc : List UInt8) (n : Nat), s.length < n → readW n (pre ++ s.flatMap oneW) pre.length acc = .ok (acc ++ s)
  | [], pre, acc, n + 1, h => by simp [readW]
  | b :: s, pre, acc, n + 1, h => by
    have h1 := oneW_pos b
    simp only [readW]
    rw [if_neg (by simp; omega)]
    rw [List.drop_left, List.flatMap_cons, stepR_one]
    simp only
    have := readW_write s (pre ++ oneW b) (acc ++ [b]) n (by simp at h; omega)
    rw [List.append_assoc, List.length_append] at this
    rw [this]
    simp
end Quo
end CI
