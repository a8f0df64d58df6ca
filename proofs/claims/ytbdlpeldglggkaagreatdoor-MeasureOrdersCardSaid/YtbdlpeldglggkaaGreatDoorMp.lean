/- Differences of a series: the plain law. -/
set_option linter.unusedVariables false
set_option linter.unusedSimpArgs false
namespace CI
namespace Dif
/-- A series' differences at a step. -/
def D (s : Nat) (l : List Int) : List Int := (List.range (l.length - s)).map fun j => l.getD (j + s) 0 - l.getD j 0
def Dn (s : Nat) (l : List Int) : Nat → List Int
  | 0 => l
  | t + 1 => D s (Dn s l t)
theorem D_len (s : Nat) (l : List Int) : (D s l).length = l.length - s := by simp [D]
theorem Dn_len (s : Nat) (l : List Int) : ∀ t, (Dn s l t).length = l.length - t * s
  | 0 => by simp [Dn]
  | t + 1 => by
    rw [Dn, D_len, Dn_len s l t, Nat.succ_mul]
    omega
theorem getD_lt {l : List Int} {j : Nat} (h : j < l.length) : l.getD j 0 = l[j] := by rw [List.getD_eq_getElem?_getD, List.getElem?_eq_getElem h, Option.getD_some]
theorem D_get {s : Nat} {l : List Int} {j : Nat} (h : j < l.length - s) : (D s l).getD j 0 = l.getD (j + s) 0 - l.getD j 0 := by
  rw [getD_lt (by rw [D_len]; exact h)]
  simp [D]
/-- A binomial number with its sign. -/
def c : Nat → Nat → Int
  | _, 0 => 1
  | 0, _ + 1 => 0
  | t + 1, k + 1 => c t (k + 1) - c t k
theorem c_zero : ∀ (t k : Nat), t < k → c t k = 0
  | _, 0, h => by omega
  | 0, k + 1, _ => rfl
  | t + 1, k + 1, h => by
    rw [c, c_zero t (k + 1) (by omega), c_zero t k (by omega)]
    rfl
theorem c_step : ∀ t : Fin 10, ∀ k : Fin 10, k.val ≤ t.val → Int.tdiv (-(c t.val k.val) * ((t.val : Int) - k.val)) (k.val + 1) = c t.val (k.val + 1) := by decide
theorem c_abs : ∀ t : Fin 10, ∀ k : Fin 11, (c t.val k.val).natAbs ≤ 200 := by decide
def psum (f : Nat → Int) (s t j : Nat) : Nat → Int
  | 0 => 0
  | n + 1 => psum f s t j n + c t n * f (j + (t - n) * s)
theorem psum_step (f : Nat → Int) (s t j : Nat) : ∀ n, n ≤ t + 1 → psum f s (t + 1) j (n + 1) = psum f s t (j + s) (n + 1) - psum f s t j n
  | 0, _ => by
    simp only [psum]
    have e : j + (t + 1 - 0) * s = j + s + (t - 0) * s := by
      rw [Nat.sub_zero, Nat.sub_zero, Nat.succ_mul]; omega
    rw [e]
    cases t <;> simp [c]
  | n + 1, h => by
    rw [psum, psum_step f s t j n (by omega)]
    have e1 : t + 1 - (n + 1) = t - n := by omega
    rw [e1, psum.eq_2 f s t (j + s) (n + 1), psum.eq_2 f s t j n]
    have e2 : c (t + 1) (n + 1) = c t (n + 1) - c t n := rfl
    rw [e2]
    by_cases hn : n = t
    · subst hn
      rw [c_zero n (n + 1) (by omega)]
      have e4 : (0 - c n n) * f (j + (n - n) * s) = -(c n n * f (j + (n - n) * s)) := by rw [Int.zero_sub, Int.neg_mul]
      rw [e4]; omega
    · have e3 : j + s + (t - (n + 1)) * s = j + (t - n) * s := by
        obtain ⟨d, hd⟩ : ∃ d, t - n = d + 1 := ⟨t - n - 1, by omega⟩
        have : t - (n + 1) = d := by omega
        rw [this, hd, Nat.succ_mul]; omega
      rw [e3, Int.sub_mul]
      omega
theorem Dn_get (s : Nat) (l : List Int) : ∀ (t j : Nat), j + t * s < l.length → (Dn s l t).getD j 0 = psum (fun i => l.getD i 0) s t j (t + 1)
  | 0, j, h => by simp [Dn, psum, c]
  | t + 1, j, h => by
    rw [Nat.succ_mul] at h
    rw [Dn, D_get (by rw [Dn_len]; omega), Dn_get s l t (j + s) (by omega), Dn_get s l t j (by omega), psum_step _ _ _ _ (t + 1) (Nat.le_refl _)]
    rw [psum.eq_2 _ s t (j + s) (t + 1), c_zero t (t + 1) (by omega), Int.zero_mul, Int.add_zero]
theorem Dn_eq (s : Nat) (l : List Int) (t : Nat) : Dn s l t = (List.range (l.length - t * s)).map fun j => psum (fun i => l.getD i 0) s t j (t + 1) := by
  apply List.ext_getElem
  · rw [Dn_len]; simp
  · intro i h1 h2
    rw [Dn_len] at h1
    rw [← getD_lt (by rw [Dn_len]; exact h1), Dn_get s l t i (by omega)]
    simp
/-! ### bounds -/
def Bd (b : Nat) (l : List Int) : Prop := ∀ j, (l.getD j 0).natAbs ≤ b
theorem Bd_D {s b : Nat} {l : List Int} (h : Bd b l) : Bd (2 * b) (D s l) := by
  intro j
  by_cases hj : j < l.length - s
  · rw [D_get hj]
    have h1 := h (j + s)
    have h2 := h j
    omega
  · rw [List.getD_eq_getElem?_getD, List.getElem?_eq_none (by rw [D_len]; omega)]
    simp
theorem Bd_Dn {s b : Nat} {l : List Int} (h : Bd b l) : ∀ t, Bd (2 ^ t * b) (Dn s l t)
  | 0 => by simpa [Dn] using h
  | t + 1 => by
    have := Bd_D (s := s) (Bd_Dn (s := s) h t)
    rw [Nat.pow_succ, Nat.mul_comm (2 ^ t) 2, Nat.mul_assoc]
    exact this
theorem psum_abs {f : Nat → Int} {s t j b : Nat} (ht : t < 10) (hf : ∀ i, (f i).natAbs ≤ b) : ∀ n, n ≤ 11 → (psum f s t j n).natAbs ≤ n * (200 * b)
  | 0, _ => by simp [psum]
  | n + 1, h => by
    have h1 := psum_abs (s := s) (j := j) ht hf n (by omega)
    have h2 := c_abs ⟨t, ht⟩ ⟨n, by omega⟩
    simp only at h2
    have h3 := hf (j + (t - n) * s)
    rw [psum]
    have h4 : (c t n * f (j + (t - n) * s)).natAbs ≤ 200 * b := by
      rw [Int.natAbs_mul]
      exact Nat.mul_le_mul h2 h3
    rw [Nat.succ_mul]
    omega
/-! ### the order -/
def hit (x : List Int) (s d : Nat) : Prop := (∃ i, i < (Dn s x (d + 1)).length ∧ x.length / 2 ≤ s * (d + 1) + i) ∧ ∀ i, i < (Dn s x (d + 1)).length → x.length / 2 ≤ s * (d + 1) + i → (Dn s x (d + 1)).getD i 0 = 0
/-- Where the tail begins that the order looks at. -/
def from_ (x : List Int) (s d : Nat) : Nat := min (x.length / 2 - (d + 1) * min s x.length) (Dn s x (d + 1)).length
theorem hit_iff (x : List Int) (s d : Nat) : hit x s d ↔ (0 < ((Dn s x (d + 1)).drop (from_ x s d)).length ∧ ∀ v, v ∈ (Dn s x (d + 1)).drop (from_ x s d) → v = 0) := by
  have hlen := Dn_len s x (d + 1)
  unfold hit from_
  by_cases hs : s ≤ x.length
  · rw [Nat.min_eq_left hs, Nat.mul_comm s (d + 1)]
    generalize hy : Dn s x (d + 1) = y at *
    generalize hm : (d + 1) * s = m at *
    rw [List.length_drop]
    constructor
    · rintro ⟨⟨i, h1, h2⟩, h3⟩
      refine ⟨by omega, fun v hv => ?_⟩
      obtain ⟨j, hj, rfl⟩ := List.getElem_of_mem hv
      rw [List.length_drop] at hj
      rw [List.getElem_drop, ← getD_lt]
      exact h3 _ (by omega) (by omega)
    · rintro ⟨h1, h2⟩
      refine ⟨⟨min (x.length / 2 - m) y.length, by omega, by omega⟩, fun i hi hx => ?_⟩
      rw [getD_lt hi]
      apply h2
      have hk : i - min (x.length / 2 - m) y.length < (y.drop (min (x.length / 2 - m) y.length)).length := by rw [List.length_drop]; omega
      have e : (y.drop (min (x.length / 2 - m) y.length))[i - min (x.length / 2 - m) y.length] = y[i] := by
        rw [List.getElem_drop]
        congr 1; omega
      rw [← e]
      exact List.getElem_mem hk
  · have h0 : (Dn s x (d + 1)).length = 0 := by
      rw [hlen, Nat.succ_mul]; omega
    constructor
    · rintro ⟨⟨i, h1, _⟩, _⟩; omega
    · rintro ⟨h1, _⟩
      rw [List.length_drop] at h1; omega
end Dif
end CI
