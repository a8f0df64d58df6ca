/- Numbers as texts: the plain law. -/
import Derived.Lib.AtoiAllCases
import Derived.Lib.ItoaNum
set_option linter.unusedVariables false
set_option linter.unusedSimpArgs false
namespace CI
open Go
namespace Dgs
open Lib
theorem parse_app : ∀ (l r : List UInt8) (acc a : Nat), parseUint10 acc l = .ok a → parseUint10 acc (l ++ r) = parseUint10 a r
  | [], r, acc, a, h => by
    simp only [parseUint10] at h
    injection h with h
    subst h; rfl
  | c :: l, r, acc, a, h => by
    simp only [parseUint10, List.cons_append] at h ⊢
    split at h
    · rename_i h1
      rw [if_pos h1]
      split at h
      · cases h
      · rename_i h2
        rw [if_neg h2]
        split at h
        · cases h
        · rename_i h3
          rw [if_neg h3]
          exact parse_app l r _ a h
    · cases h
theorem toNat_dig {u : Nat} (h : u < 10) : (UInt8.ofNat (48 + u)).toNat = 48 + u := by
  rw [UInt8.toNat_ofNat']
  omega
theorem parse_dec (u : Nat) : u < 18446744073709551616 → parseUint10 0 (decDigits u) = .ok u := by
  induction u using Nat.strongRecOn with
  | _ u ih =>
    intro hu
    by_cases h : u < 10
    · rw [decDigits, dif_pos h]
      simp only [parseUint10, toNat_dig h]
      rw [if_pos (by omega), if_neg (by omega), if_neg (by omega)]
      congr 1; omega
    · have h1 := ih (u / 10) (by omega) (by omega)
      rw [decDigits, dif_neg h, parse_app _ _ _ _ h1]
      simp only [parseUint10, toNat_dig (show u % 10 < 10 by omega)]
      rw [if_pos (by omega), if_neg (by omega), if_neg (by omega)]
      congr 1; omega
theorem dec_dig (u : Nat) : ∀ c, c ∈ decDigits u → 48 ≤ c.toNat ∧ c.toNat ≤ 57 := by
  induction u using Nat.strongRecOn with
  | _ u ih =>
    intro c hc
    by_cases h : u < 10
    · rw [decDigits, dif_pos h, List.mem_singleton] at hc
      subst hc
      rw [toNat_dig h]; omega
    · rw [decDigits, dif_neg h, List.mem_append, List.mem_singleton] at hc
      rcases hc with hc | hc
      · exact ih (u / 10) (by omega) c hc
      · subst hc
        rw [toNat_dig (by omega)]; omega
theorem dec_ne (u : Nat) : decDigits u ≠ [] := by
  by_cases h : u < 10
  · rw [decDigits, dif_pos h]; simp
  · rw [decDigits, dif_neg h]; simp
theorem parse_mag (u : Nat) (hu : u < 18446744073709551616) : parseMag (decDigits u) = .ok u := by
  unfold parseMag
  rw [if_neg (dec_ne u), parse_dec u hu]
theorem atoi_itoa (n : Int) (hn : -9223372036854775808 ≤ n ∧ n ≤ 9223372036854775807) : atoiAll (itoa n) = .ok n := by
  unfold itoa
  by_cases h : n < 0
  · rw [if_pos h, atoiAll_minus, parse_mag _ (by omega)]
    simp only [signed]
    rw [if_neg (by omega)]
    congr 1; omega
  · rw [if_neg h]
    have hm := parse_mag n.toNat (by omega)
    have hd := dec_dig n.toNat
    cases e : decDigits n.toNat with
    | nil => exact absurd e (dec_ne _)
    | cons c r =>
      rw [e] at hm hd
      have hc := hd c List.mem_cons_self
      rw [atoiAll_plain c r (by omega) (by omega), hm]
      simp only [signless]
      rw [if_neg (by omega)]
      congr 1; omega
/-- A byte that may stand in a number's text. -/
def okc (w : List UInt8) (i : Nat) : Prop := (48 ≤ (w.getD i 0).toNat ∧ (w.getD i 0).toNat ≤ 57) ∨ (i = 0 ∧ (w.getD i 0).toNat = 45 ∧ 1 < w.length)
def digs (w : List UInt8) (i : Nat) : Prop := 0 < w.length ∧ ∀ j, j < i → okc w j
theorem itoa_digs (n : Int) : digs (itoa n) (itoa n).length := by
  unfold itoa
  by_cases h : n < 0
  · rw [if_pos h]
    have hl := List.length_pos_iff.2 (dec_ne n.natAbs)
    refine ⟨by simp, fun j hj => ?_⟩
    cases j with
    | zero => exact .inr ⟨rfl, rfl, by simp only [List.length_cons]; omega⟩
    | succ j =>
      refine .inl ?_
      have hj' : j < (decDigits n.natAbs).length := by simpa using hj
      rw [List.getD_cons_succ, List.getD_eq_getElem?_getD, List.getElem?_eq_getElem hj', Option.getD_some]
      exact dec_dig _ _ (List.getElem_mem hj')
  · rw [if_neg h]
    refine ⟨List.length_pos_iff.2 (dec_ne _), fun j hj => .inl ?_⟩
    rw [List.getD_eq_getElem?_getD, List.getElem?_eq_getElem hj, Option.getD_some]
    exact dec_dig _ _ (List.getElem_mem hj)
theorem parse_ex : ∀ (l : List UInt8) (acc k : Nat), (∀ c, c ∈ l → 48 ≤ c.toNat ∧ c.toNat ≤ 57) → acc < 10 ^ k → l.length + k ≤ 18 → ∃ u, parseUint10 acc l = .ok u ∧ u < 1000000000000000000
  | [], acc, k, _, ha, hk => ⟨acc, rfl, by
      have : 10 ^ k ≤ 10 ^ 18 := Nat.pow_le_pow_right (by omega) (by simpa using hk)
      omega⟩
  | c :: l, acc, k, hd, ha, hk => by
    have hc := hd c List.mem_cons_self
    rw [List.length_cons] at hk
    have h17 : 10 ^ k ≤ 10 ^ 17 := Nat.pow_le_pow_right (by omega) (by omega)
    simp only [parseUint10]
    rw [if_pos hc, if_neg (by omega), if_neg (by omega)]
    refine parse_ex l _ (k + 1) (fun c h => hd c (List.mem_cons_of_mem _ h)) ?_ (by omega)
    rw [Nat.pow_succ]; omega
theorem ofNat_toNat (c : UInt8) : UInt8.ofNat c.toNat = c := by simp
theorem dec_parse : ∀ (l : List UInt8) (acc u : Nat), 1 ≤ acc → parseUint10 acc l = .ok u → decDigits u = decDigits acc ++ l
  | [], acc, u, _, h => by
    simp only [parseUint10] at h
    injection h with h
    subst h; simp
  | c :: l, acc, u, ha, h => by
    simp only [parseUint10] at h
    split at h
    · rename_i hc
      split at h
      · cases h
      · split at h
        · cases h
        · have h1 := dec_parse l _ u (by omega) h
          rw [h1]
          conv => lhs; rw [decDigits, dif_neg (by omega)]
          have e1 : (acc * 10 + (c.toNat - 48)) / 10 = acc := by omega
          have e2 : 48 + (acc * 10 + (c.toNat - 48)) % 10 = c.toNat := by omega
          rw [e1, e2, ofNat_toNat, List.append_assoc]
          rfl
    · cases h
theorem digs_back {w : List UInt8} (hd : digs w w.length) (hl : w.length < 18) (h1 : 49 ≤ (w.getD 0 0).toNat) : ∃ m : Int, atoiAll w = .ok m ∧ itoa m = w := by
  obtain ⟨h0, hd⟩ := hd
  cases w with
  | nil => simp at h0
  | cons c r =>
    have hc0 : (c :: r).getD 0 0 = c := rfl
    rw [hc0] at h1
    have hall : ∀ b, b ∈ c :: r → 48 ≤ b.toNat ∧ b.toNat ≤ 57 := by
      intro b hb
      obtain ⟨j, hj, rfl⟩ := List.getElem_of_mem hb
      have := hd j hj
      unfold okc at this
      rw [List.getD_eq_getElem?_getD, List.getElem?_eq_getElem hj, Option.getD_some] at this
      rcases this with h | ⟨rfl, h, _⟩
      · exact h
      · simp only [List.getElem_cons_zero] at h
        omega
    have hc := hall c List.mem_cons_self
    obtain ⟨u, hu, hb⟩ := parse_ex (c :: r) 0 0 hall (by simp) (by omega)
    have hu2 := hu
    simp only [parseUint10] at hu2
    rw [if_pos hc, if_neg (by omega), if_neg (by omega)] at hu2
    have hdec := dec_parse r _ u (by omega) hu2
    refine ⟨(u : Int), ?_, ?_⟩
    · rw [atoiAll_plain c r (by omega) (by omega)]
      unfold parseMag
      rw [if_neg (by simp), hu]
      simp only [signless]
      rw [if_neg (by omega)]
    · unfold itoa
      rw [if_neg (by omega), Int.toNat_natCast, hdec]
      rw [decDigits, dif_pos (by omega), show 48 + (0 * 10 + (c.toNat - 48)) = c.toNat by omega, ofNat_toNat]
      rfl
end Dgs
end CI
