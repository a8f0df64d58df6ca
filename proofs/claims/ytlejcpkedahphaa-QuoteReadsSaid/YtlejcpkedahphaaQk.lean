/- The plain law of reading words: by the document's definition, and step by step. -/
import Derived.Test.YtlejcpkedahphaaQi
set_option linter.unusedVariables false
set_option linter.unusedSimpArgs false
namespace CI
namespace Quo
def lcp : List UInt8 → List UInt8 → Nat
  | a :: x, b :: r => if a = b then lcp x r + 1 else 0
  | _, _ => 0
def farN (r : List UInt8) : Nat → Nat
  | 0 => 0
  | k + 1 => max (farN r k) (lcp (oneN k) r)
def foundN (r : List UInt8) : Nat → Int
  | 0 => -1
  | k + 1 => if r.take (oneN k).length = oneN k then (k : Int) else foundN r k
theorem lcp_le_left : ∀ (x r : List UInt8), lcp x r ≤ x.length
  | [], r => by simp [lcp]
  | a :: x, [] => by simp [lcp]
  | a :: x, b :: r => by
    simp only [lcp]
    split
    · have := lcp_le_left x r; simp only [List.length_cons]; omega
    · omega
theorem lcp_le_right : ∀ (x r : List UInt8), lcp x r ≤ r.length
  | [], r => by simp [lcp]
  | a :: x, [] => by simp [lcp]
  | a :: x, b :: r => by
    simp only [lcp]
    split
    · have := lcp_le_right x r; simp only [List.length_cons]; omega
    · omega
theorem farN_le {r : List UInt8} {e : Nat} : ∀ {k : Nat}, (∀ j, j < k → lcp (oneN j) r ≤ e) → farN r k ≤ e
  | 0, _ => by simp [farN]
  | k + 1, h => by
    have h1 := farN_le (k := k) fun j hj => h j (by omega)
    have h2 := h k (by omega)
    simp only [farN]; omega
theorem farN_ge {r : List UInt8} {j : Nat} : ∀ {k : Nat}, j < k → lcp (oneN j) r ≤ farN r k
  | k + 1, h => by
    simp only [farN]
    rcases Nat.lt_or_ge j k with h1 | h1
    · have := farN_ge (r := r) h1; omega
    · have : j = k := by omega
      subst this; omega
theorem foundN_none {r : List UInt8} : ∀ {k : Nat}, (∀ j, j < k → r.take (oneN j).length ≠ oneN j) → foundN r k = -1
  | 0, _ => rfl
  | k + 1, h => by
    simp only [foundN]
    rw [if_neg (h k (by omega)), foundN_none fun j hj => h j (by omega)]
theorem foundN_some {r : List UInt8} {j : Nat} (hj : r.take (oneN j).length = oneN j) : ∀ {k : Nat}, j < k → (∀ i, i < k → r.take (oneN i).length = oneN i → i = j) → foundN r k = j
  | k + 1, hlt, hu => by
    simp only [foundN]
    by_cases hk : r.take (oneN k).length = oneN k
    · rw [if_pos hk, hu k (by omega) hk]
    · rw [if_neg hk]
      rcases Nat.lt_or_ge j k with h1 | h1
      · exact foundN_some hj h1 fun i hi => hu i (by omega)
      · have : j = k := by omega
        subst this; exact absurd hj hk
theorem oneN_of (b : UInt8) : oneN b.toNat = oneW b := rfl
theorem oneW_ofNat {k : Nat} (h : k < 256) : oneW (UInt8.ofNat k) = oneN k := by
  unfold oneW
  have : (UInt8.ofNat k).toNat = k := by simp; omega
  rw [this]
/-- Where the word of a byte stands, a step reads it. -/
theorem stepR_found {r : List UInt8} {k : Nat} (hk : k < 256) (h : r.take (oneN k).length = oneN k) : stepR r = .ok (UInt8.ofNat k, (oneN k).length) := by
  have e : r = oneW (UInt8.ofNat k) ++ r.drop (oneN k).length := by
    rw [oneW_ofNat hk]
    conv => lhs; rw [← List.take_append_drop (oneN k).length r, h]
  rw [e, stepR_one, oneW_ofNat hk]
theorem hexC_unhex {h : UInt8} {n : Nat} (hu : unhex h = some n) : h = hexC n ∧ n < 16 := by
  unfold unhex at hu
  unfold hexC
  split at hu
  · injection hu with hu; subst hu
    rw [if_pos (by omega)]
    refine ⟨UInt8.toNat_inj.1 ?_, by omega⟩
    simp; omega
  · split at hu
    · injection hu with hu; subst hu
      rw [if_neg (by omega)]
      refine ⟨UInt8.toNat_inj.1 ?_, by omega⟩
      simp; omega
    · cases hu
theorem unhex_of {n : Nat} (h : n < 16) : unhex (hexC n) = some n := unhex_hexC ⟨n, h⟩
theorem hexC_inj {a b : Nat} (ha : a < 16) (hb : b < 16) (h : hexC a = hexC b) : a = b := by
  have := unhex_of ha
  rw [h, unhex_of hb] at this
  injection this with this; exact this.symm
/-- The three shapes of a byte's word. -/
theorem oneN_shape {k : Nat} (h : k < 256) : (k = 92 ∧ oneN k = [92, 92]) ∨ (plainN k = true ∧ oneN k = [UInt8.ofNat k]) ∨ (plainN k = false ∧ k ≠ 92 ∧ oneN k = [92, 120, hexC (k / 16), hexC (k % 16)]) := by
  unfold oneN
  by_cases h1 : k = 92
  · exact .inl ⟨h1, by rw [if_pos h1]⟩
  · rw [if_neg h1]
    by_cases h2 : 32 < k ∧ k < 127
    · exact .inr (.inl ⟨(plainN_ok k h).2 ⟨h2.1, h2.2, h1⟩, by rw [if_pos h2]⟩)
    · refine .inr (.inr ⟨?_, h1, by rw [if_neg h2]⟩)
      rw [← Bool.not_eq_true, plainN_ok k h]
      rintro ⟨a, b, _⟩; exact h2 ⟨a, b⟩
theorem codesB_of {k : Nat} (h : k < 256) (h1 : plainN k = false) (h2 : k ≠ 92) : codesB (k / 16) = true := by
  unfold codesB
  rw [List.any_eq_true]
  refine ⟨k % 16, by simp only [List.mem_range]; omega, ?_⟩
  have e : 16 * (k / 16) + k % 16 = k := by omega
  rw [e, h1]
  simpa using h2
theorem toNat_lit {k : Nat} {b : UInt8} (h : k < 256) (e : UInt8.ofNat k = b) : b.toNat = k := by
  subst e; simp; omega
/-- A step fails just where no byte's word stands, as far as some word goes. -/
theorem stepR_far {r : List UInt8} {e : Nat} (h : stepR r = .error e) : farN r 256 = e := by
  have up : (∀ j, j < 256 → lcp (oneN j) r ≤ e) → (∃ j, j < 256 ∧ e ≤ lcp (oneN j) r) → farN r 256 = e := by
    intro h1 ⟨j, hj, h2⟩
    have := farN_le h1
    have := farN_ge (r := r) hj
    omega
  have h0 : oneN 0 = [92, 120, 48, 48] := rfl
  cases r with
  | nil =>
    simp only [stepR] at h; obtain rfl := Except.error.inj h
    exact up (fun j _ => lcp_le_right _ _) ⟨0, by omega, by omega⟩
  | cons b r =>
    by_cases h92 : b.toNat = 92
    · have hb : b = 92 := UInt8.toNat_inj.1 h92
      subst hb
      rw [stepR_esc (by rfl)] at h
      cases r with
      | nil =>
        simp only [escR] at h; obtain rfl := Except.error.inj h
        exact up (fun j _ => lcp_le_right _ _) ⟨0, by omega, by rw [h0]; simp [lcp]⟩
      | cons c r2 =>
        simp only [escR] at h
        by_cases c92 : c.toNat = 92
        · simp only [if_pos c92] at h; cases h
        · simp only [if_neg c92] at h
          have hc92 : ¬ (92 : UInt8) = c := fun e => c92 (by rw [← e]; rfl)
          by_cases c120 : c.toNat = 120
          · simp only [if_pos c120] at h
            have hc : c = 120 := UInt8.toNat_inj.1 c120
            subst hc
            have base : ∀ j, j < 256 → lcp (oneN j) (92 :: 120 :: r2) = if plainN j = false ∧ j ≠ 92 then lcp [hexC (j / 16), hexC (j % 16)] r2 + 2 else if j = 92 then 1 else 0 := by
              intro j hj
              rcases oneN_shape hj with ⟨rfl, q⟩ | ⟨q1, q⟩ | ⟨q1, q2, q⟩
              · rw [q, if_neg (by simp), if_pos rfl]; simp [lcp]
              · have hn : j ≠ 92 := by rintro rfl; exact absurd q1 (by decide)
                rw [q, if_neg (by rw [q1]; simp), if_neg hn]
                simp only [lcp]
                rw [if_neg]
                intro e
                exact hn (toNat_lit hj e).symm
              · rw [q, if_pos ⟨q1, q2⟩]
                simp only [lcp, if_true]
            cases hcr : codeR r2 with
            | ok b => rw [hcr] at h; cases h
            | error k =>
              rw [hcr] at h
              simp only at h; obtain rfl := Except.error.inj h
              have two : ∃ j, j < 256 ∧ 2 ≤ lcp (oneN j) (92 :: 120 :: r2) := ⟨0, by omega, by rw [h0]; simp [lcp]⟩
              have lim0 : (∀ j, j < 256 → plainN j = false → j ≠ 92 → lcp [hexC (j / 16), hexC (j % 16)] r2 ≤ k) → ∀ j, j < 256 → lcp (oneN j) (92 :: 120 :: r2) ≤ 1 + (1 + k) := by
                intro hl j hj
                rw [base j hj]
                split
                · rename_i hq
                  have := hl j hj hq.1 hq.2; omega
                · split <;> omega
              cases r2 with
              | nil =>
                simp only [codeR] at hcr; obtain rfl := Except.error.inj hcr
                exact up (lim0 fun j _ _ _ => lcp_le_right _ _) two
              | cons x r3 =>
                simp only [codeR] at hcr
                cases hx : unhex x with
                | none =>
                  rw [hx] at hcr; simp only at hcr; obtain rfl := Except.error.inj hcr
                  refine up (lim0 fun j hj _ _ => ?_) two
                  simp only [lcp]
                  rw [if_neg]
                  · omega
                  · intro e; rw [← e, unhex_of (by omega)] at hx; cases hx
                | some hi =>
                  rw [hx] at hcr; simp only at hcr
                  obtain ⟨rfl, hhi⟩ := hexC_unhex hx
                  by_cases hco : codesB hi = true
                  · rw [if_pos hco] at hcr
                    have three : ∃ j, j < 256 ∧ 3 ≤ lcp (oneN j) (92 :: 120 :: hexC hi :: r3) := by
                      have hco' := hco
                      unfold codesB at hco'
                      rw [List.any_eq_true] at hco'
                      obtain ⟨lo, hlo, hq⟩ := hco'
                      simp only [List.mem_range] at hlo
                      simp only [Bool.and_eq_true, Bool.not_eq_true', decide_eq_true_eq] at hq
                      refine ⟨16 * hi + lo, by omega, ?_⟩
                      rw [base _ (by omega), if_pos hq]
                      rw [show (16 * hi + lo) / 16 = hi by omega]
                      simp only [lcp, if_true]
                      omega
                    cases r3 with
                    | nil =>
                      simp only at hcr; obtain rfl := Except.error.inj hcr
                      exact up (lim0 fun j _ _ _ => lcp_le_right _ _) three
                    | cons y r4 =>
                      simp only at hcr
                      cases hy : unhex y with
                      | none =>
                        rw [hy] at hcr; simp only at hcr; obtain rfl := Except.error.inj hcr
                        refine up (lim0 fun j hj _ _ => ?_) three
                        simp only [lcp]
                        split
                        · rw [if_neg]
                          · omega
                          · intro e; rw [← e, unhex_of (by omega)] at hy; cases hy
                        · omega
                      | some lo =>
                        rw [hy] at hcr; simp only at hcr
                        obtain ⟨rfl, hlo⟩ := hexC_unhex hy
                        by_cases hp : plainN (16 * hi + lo) = true ∨ 16 * hi + lo = 92
                        · rw [if_pos hp] at hcr; obtain rfl := Except.error.inj hcr
                          refine up (lim0 fun j hj j1 j2 => ?_) three
                          simp only [lcp]
                          split
                          · rename_i e1
                            rw [if_neg]
                            · omega
                            · intro e2
                              have := hexC_inj (by omega) hhi e1
                              have := hexC_inj (by omega) hlo e2
                              have : j = 16 * hi + lo := by omega
                              subst this
                              rcases hp with hp | hp
                              · rw [hp] at j1; cases j1
                              · exact j2 hp
                          · omega
                        · rw [if_neg hp] at hcr; cases hcr
                  · rw [if_neg hco] at hcr; obtain rfl := Except.error.inj hcr
                    refine up (lim0 fun j hj j1 j2 => ?_) two
                    simp only [lcp]
                    rw [if_neg]
                    · omega
                    · intro e
                      have := hexC_inj (by omega) hhi e
                      rw [← this] at hco
                      exact hco (codesB_of hj j1 j2)
          · simp only [if_neg c120] at h
            obtain rfl := Except.error.inj h
            have hc120 : ¬ (120 : UInt8) = c := fun e => c120 (by rw [← e]; rfl)
            refine up (fun j hj => ?_) ⟨0, by omega, by rw [h0]; simp [lcp]⟩
            rcases oneN_shape hj with ⟨rfl, q⟩ | ⟨q1, q⟩ | ⟨q1, q2, q⟩
            · rw [q]; simp [lcp, hc92]
            · rw [q]; exact lcp_le_left _ _
            · rw [q]; simp [lcp, hc120]
    · simp only [stepR, if_neg h92] at h
      by_cases hp : plainN b.toNat = true
      · rw [if_pos hp] at h; cases h
      · rw [if_neg hp] at h; obtain rfl := Except.error.inj h
        have hb92 : ¬ (92 : UInt8) = b := fun e => h92 (by rw [← e]; rfl)
        refine up (fun j hj => ?_) ⟨0, by omega, by omega⟩
        rcases oneN_shape hj with ⟨rfl, q⟩ | ⟨q1, q⟩ | ⟨q1, q2, q⟩
        · rw [q]; simp [lcp, hb92]
        · rw [q]
          simp only [lcp]
          rw [if_neg]
          · omega
          · intro e
            rw [toNat_lit hj e] at hp
            exact hp q1
        · rw [q]; simp [lcp, hb92]
theorem stepR_not {r : List UInt8} {e : Nat} (h : stepR r = .error e) : foundN r 256 = -1 := by
  refine foundN_none fun j hj hf => ?_
  rw [stepR_found hj hf] at h; cases h
/-- Where a step reads a byte, its word stands. -/
theorem stepR_word {r : List UInt8} {b : UInt8} {n : Nat} (h : stepR r = .ok (b, n)) : r.take (oneN b.toNat).length = oneN b.toNat ∧ (oneN b.toNat).length = n := by
  cases r with
  | nil => simp [stepR] at h
  | cons c r =>
    by_cases h92 : c.toNat = 92
    · have hb : c = 92 := UInt8.toNat_inj.1 h92
      subst hb
      rw [stepR_esc (by rfl)] at h
      cases hes : escR r with
      | error k => rw [hes] at h; cases h
      | ok p =>
        obtain ⟨b', k⟩ := p
        rw [hes] at h
        simp only at h
        injection h with h; injection h with h1 h2; subst h1; subst h2
        cases r with
        | nil => simp [escR] at hes
        | cons c r2 =>
          simp only [escR] at hes
          split at hes
          · rename_i c92
            injection hes with hes; injection hes with h1 h2; subst h1; subst h2
            have hc : c = 92 := UInt8.toNat_inj.1 c92
            subst hc
            exact ⟨rfl, rfl⟩
          · split at hes
            · rename_i c120
              have hc : c = 120 := UInt8.toNat_inj.1 c120
              subst hc
              cases hcr : codeR r2 with
              | error k => rw [hcr] at hes; cases hes
              | ok b2 =>
                rw [hcr] at hes
                simp only at hes
                injection hes with hes; injection hes with h1 h2; subst h1; subst h2
                cases r2 with
                | nil => simp [codeR] at hcr
                | cons x r3 =>
                  simp only [codeR] at hcr
                  split at hcr
                  · cases hcr
                  · rename_i hi hx
                    split at hcr
                    · split at hcr
                      · cases hcr
                      · rename_i y r4
                        split at hcr
                        · cases hcr
                        · rename_i lo hy
                          split at hcr
                          · cases hcr
                          · rename_i hp
                            injection hcr with hcr; subst hcr
                            obtain ⟨rfl, hhi⟩ := hexC_unhex hx
                            obtain ⟨rfl, hlo⟩ := hexC_unhex hy
                            have htn : (UInt8.ofNat (16 * hi + lo)).toNat = 16 * hi + lo := by simp; omega
                            rw [htn]
                            have hs := oneN_shape (k := 16 * hi + lo) (by omega)
                            rcases hs with ⟨q1, _⟩ | ⟨q1, _⟩ | ⟨q1, q2, q⟩
                            · exact absurd (.inr q1) hp
                            · exact absurd (.inl q1) hp
                            · rw [q, show (16 * hi + lo) / 16 = hi by omega, show (16 * hi + lo) % 16 = lo by omega]
                              exact ⟨rfl, rfl⟩
                    · cases hcr
            · cases hes
    · simp only [stepR, if_neg h92] at h
      split at h
      · rename_i hp
        injection h with h; injection h with h1 h2; subst h1; subst h2
        have := (plainN_ok _ c.toNat_lt).1 hp
        unfold oneN
        rw [if_neg h92, if_pos ⟨this.1, this.2.1⟩, UInt8.ofNat_toNat]
        exact ⟨rfl, rfl⟩
      · cases h
theorem stepR_yes {r : List UInt8} {b : UInt8} {n : Nat} (h : stepR r = .ok (b, n)) : foundN r 256 = b.toNat ∧ (oneN b.toNat).length = n := by
  obtain ⟨h1, h2⟩ := stepR_word h
  refine ⟨foundN_some h1 b.toNat_lt fun i hi hf => ?_, h2⟩
  rw [stepR_found hi hf] at h
  injection h with h; injection h with h3 h4
  rw [← h3]; simp; omega
end Quo
end CI
