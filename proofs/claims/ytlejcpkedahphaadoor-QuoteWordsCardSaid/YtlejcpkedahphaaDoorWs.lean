/- Parts of texts. -/
import Derived.Test.YtlejcpkedahphaaDoorWd
set_option linter.unusedVariables false
set_option linter.unusedSimpArgs false
namespace CI
open Go
theorem pb_bound {P : Program} {i y : Nat} (h : i ≤ y) (code : BoundsCode) : pureRun P (Instr.sliceBound (.int .i64 (i : Nat)) y code) = some i := by
  unfold Instr.sliceBound
  rw [pureRun_bind]
  show pureRun P (if 0 ≤ (i : Int) ∧ (i : Int) ≤ (y : Nat) then pure (i : Int).toNat else _) = _
  rw [if_pos ⟨by omega, by omega⟩]
  rfl
theorem pb_pure {α : Type} (P : Program) (a : α) : pureRun P (pure a : Sem α) = some a := rfl
namespace Seat
variable {H : Heap} {nx : Nat}
theorem B_extract (l : List UInt8) (i j : Nat) : (B l).extract i j = B ((l.take j).drop i) := by
  apply ByteArray.ext
  simp only [B, ByteArray.data_extract, List.extract_toArray, List.extract_eq_take_drop]
  rw [List.drop_take]
theorem str_to (w : List UInt8) (k : Nat) (hk : k ≤ w.length) : sliceOp cx.P cx.T H 9 (strA w) none (some (.lit (.int .i64 (k : Nat)))) none = some (strA (w.take k)) := by
  have e : sliceOp cx.P cx.T H 9 (strA w) none (some (.lit (.int .i64 (k : Nat)))) none = (pureRun cx.P (do
      let (l, h, _) ← Instr.sliceBounds false (B w).size (B w).size none (some (.int .i64 (k : Nat))) none
      pure (.string ((B w).extract l h)))).map abs := by kernel_rfl
  rw [e, pureRun_bind]
  have hb : pureRun cx.P (Instr.sliceBounds false (B w).size (B w).size none (some (.int .i64 (k : Nat))) none) = some (0, k, (B w).size) := by
    unfold Instr.sliceBounds
    simp only [pureRun_bind, pb_pure, Option.bind_some]
    rw [pb_bound (by rw [B_size]; exact hk)]
    rfl
  rw [hb]
  simp only [Option.bind_some, pb_pure, Option.map_some, B_extract, List.drop_zero]
  rfl
theorem str_from (w : List UInt8) (k : Nat) (hk : k ≤ w.length) : sliceOp cx.P cx.T H 9 (strA w) (some (.lit (.int .i64 (k : Nat)))) none none = some (strA (w.drop k)) := by
  have e : sliceOp cx.P cx.T H 9 (strA w) (some (.lit (.int .i64 (k : Nat)))) none none = (pureRun cx.P (do
      let (l, h, _) ← Instr.sliceBounds false (B w).size (B w).size (some (.int .i64 (k : Nat))) none none
      pure (.string ((B w).extract l h)))).map abs := by kernel_rfl
  rw [e, pureRun_bind]
  have hb : pureRun cx.P (Instr.sliceBounds false (B w).size (B w).size (some (.int .i64 (k : Nat))) none none) = some (k, (B w).size, (B w).size) := by
    unfold Instr.sliceBounds
    simp only [pureRun_bind, pb_pure, Option.bind_some]
    rw [pb_bound (by rw [B_size]; exact hk)]
    rfl
  rw [hb]
  simp only [Option.bind_some, pb_pure, Option.map_some, B_extract, B_size, List.take_length]
  rfl
end Seat
end CI
