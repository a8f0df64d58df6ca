/- The plain law of a line's words: split at blanks, joined again. -/
import Derived.Lib.Bytealg
set_option linter.unusedVariables false
set_option linter.unusedSimpArgs false
namespace CI
open Go
namespace Spl
/-- A line's words. -/
def spl : List UInt8 → List (List UInt8)
  | [] => [[]]
  | b :: r => if b = 32 then [] :: spl r else (b :: (spl r).headD []) :: (spl r).tail
/-- What is written behind the first word. -/
def joiT : List (List UInt8) → List UInt8
  | [] => []
  | x :: xs => 32 :: (x ++ joiT xs)
def joi : List (List UInt8) → List UInt8
  | [] => []
  | x :: xs => x ++ joiT xs
theorem spl_ne (l : List UInt8) : spl l ≠ [] := by
  cases l with
  | nil => simp [spl]
  | cons b r => unfold spl; split <;> simp
theorem spl_len (l : List UInt8) : (spl l).length = l.count 32 + 1 := by
  induction l with
  | nil => rfl
  | cons b r ih =>
    unfold spl
    split
    · rename_i h
      subst h
      simp [ih]
    · rename_i h
      rw [List.length_cons, List.length_tail, ih, List.count_cons]
      simp [h]
theorem spl_joi (l : List UInt8) : joi (spl l) = l := by
  induction l with
  | nil => rfl
  | cons b r ih =>
    have hn := spl_ne r
    unfold spl
    split
    · rename_i h
      subst h
      revert ih hn
      cases spl r with
      | nil => intro _ h; exact absurd rfl h
      | cons x xs => intro ih _; simp only [joi] at ih; simp only [joi, joiT, List.nil_append, ih]
    · revert ih hn
      cases spl r with
      | nil => intro _ h; exact absurd rfl h
      | cons x xs => intro ih _; simp only [joi] at ih; simp only [joi, List.headD_cons, List.tail_cons, List.cons_append, ih]
theorem spl_free (l : List UInt8) : ∀ w, w ∈ spl l → (32 : UInt8) ∉ w := by
  induction l with
  | nil => intro w h; simp [spl] at h; subst h; simp
  | cons b r ih =>
    have hn := spl_ne r
    intro w h
    unfold spl at h
    split at h
    · rcases List.mem_cons.1 h with rfl | h
      · simp
      · exact ih w h
    · rename_i hb
      revert ih hn h
      cases spl r with
      | nil => intro _ h; exact absurd rfl h
      | cons x xs =>
        intro ih _ h
        rcases List.mem_cons.1 h with rfl | h
        · simp only [List.headD_cons, List.mem_cons, not_or]
          exact ⟨fun e => hb e.symm, ih x (List.mem_cons_self ..)⟩
        · exact ih w (List.mem_cons_of_mem _ h)
theorem ix_none {l : List UInt8} (h : Lib.indexByte l 32 = -1) : spl l = [l] := by
  induction l with
  | nil => rfl
  | cons b r ih =>
    unfold Lib.indexByte at h
    split at h
    · cases h
    · rename_i hb
      split at h
      · rename_i h2
        have hb' : b ≠ 32 := by simpa using hb
        unfold spl
        rw [if_neg hb', ih (by simpa using h2)]
        rfl
      · have := Lib.indexByte_ge r 32
        omega
theorem ix_some {l : List UInt8} {m : Nat} (h : Lib.indexByte l 32 = m) : m < l.length ∧ spl l = l.take m :: spl (l.drop (m + 1)) := by
  induction l generalizing m with
  | nil => simp [Lib.indexByte] at h
  | cons b r ih =>
    unfold Lib.indexByte at h
    split at h
    · rename_i hb
      obtain rfl : m = 0 := by omega
      have hb' : b = 32 := by simpa using hb
      refine ⟨by simp, ?_⟩
      conv => lhs; unfold spl
      rw [if_pos hb']
      simp
    · rename_i hb
      have hb' : b ≠ 32 := by simpa using hb
      split at h
      · omega
      · have := Lib.indexByte_ge r 32
        rename_i h2
        have h2' : Lib.indexByte r 32 ≠ -1 := by simpa using h2
        obtain ⟨k, rfl⟩ : ∃ k, m = k + 1 := ⟨m - 1, by omega⟩
        obtain ⟨i1, i2⟩ := ih (m := k) (by omega)
        refine ⟨by simp; omega, ?_⟩
        conv => lhs; unfold spl
        rw [if_neg hb', i2]
        simp
theorem ix_count {l : List UInt8} {m : Nat} (h : Lib.indexByte l 32 = m) : l.count 32 = (l.drop (m + 1)).count 32 + 1 := by
  have h1 := spl_len l
  rw [(ix_some h).2, List.length_cons, spl_len] at h1
  omega
theorem ix_free {l : List UInt8} (h : Lib.indexByte l 32 = -1) : l.count 32 = 0 := by
  have h1 := spl_len l
  rw [ix_none h] at h1
  simp at h1
  simpa using h1
theorem joiT_len (xs : List (List UInt8)) : (joiT xs).length = (xs.map List.length).sum + xs.length := by
  induction xs with
  | nil => rfl
  | cons x xs ih => simp [joiT, ih]; omega
theorem joi_len (xs : List (List UInt8)) : (joi xs).length = (xs.map List.length).sum + (xs.length - 1) := by
  cases xs with
  | nil => rfl
  | cons x xs => simp [joi, joiT_len]; omega
theorem joiT_app (xs ys : List (List UInt8)) : joiT (xs ++ ys) = joiT xs ++ joiT ys := by
  induction xs with
  | nil => rfl
  | cons x xs ih => simp [joiT, ih]
end Spl
end CI
