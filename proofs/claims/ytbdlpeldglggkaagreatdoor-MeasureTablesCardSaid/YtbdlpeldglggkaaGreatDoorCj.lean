/- The interpreter's operations on numbers, as equations. -/
import Derived.Test.YtbdlpeldglggkaaGreatDoorCiy
set_option linter.unusedVariables false
set_option linter.unusedSimpArgs false
noncomputable section
namespace CI
open Go
theorem abs_int (k : IntKind) (n : Int) : abs (.int k n) = .lit (.int k n) := rfl
theorem abs_bool (b : Bool) : abs (.bool b) = .lit (.bool b) := rfl
theorem abs_string (s : ByteArray) : abs (.string s) = .lit (.string s) := rfl
theorem abs_nilp : abs (.pointer none) = .lit (.pointer none) := rfl
theorem abs_nili : abs .nilIface = .lit .nilIface := rfl
theorem abs_nilf : abs .nilFunc = .lit .nilFunc := rfl
theorem abs_nilm : abs (.map none) = .lit (.map none) := rfl
theorem abs_nils (n c : Nat) : abs (.slice none n c) = .lit (.slice none n c) := rfl
theorem un_not (P : Program) (b : Bool) : plain1 P (Op.unary .not) (.lit (.bool b)) = some (.lit (.bool (!b))) := by cases b <;> rfl
theorem maxA (P : Program) (k k' : IntKind) (a b : Int) : foldOp P Builtin.max2 [.lit (.int k a), .lit (.int k' b)] = some (.lit (.int k (max a b))) := by
  have : max a b = if b > a then b else a := by rw [Int.max_def]; split <;> split <;> omega
  rw [this]; rfl
theorem minA (P : Program) (k k' : IntKind) (a b : Int) : foldOp P Builtin.min2 [.lit (.int k a), .lit (.int k' b)] = some (.lit (.int k (min a b))) := by
  have : min a b = if b < a then b else a := by rw [Int.min_def]; split <;> split <;> omega
  rw [this]; rfl
section
variable (P : Program) (T : Tr TInfo) (t : TypeId) (x y : Operand) (k : IntKind) (a b : Int)
theorem bin_add : binOpA P T .add t x y (.lit (.int k a)) (.lit (.int k b)) = some (.lit (.int k (k.wrap (a + b)))) := by cases k <;> rfl
theorem bin_sub : binOpA P T .sub t x y (.lit (.int k a)) (.lit (.int k b)) = some (.lit (.int k (k.wrap (a - b)))) := by cases k <;> rfl
theorem bin_mul : binOpA P T .mul t x y (.lit (.int k a)) (.lit (.int k b)) = some (.lit (.int k (k.wrap (a * b)))) := by cases k <;> rfl
theorem bin_eql : binOpA P T .eql t x y (.lit (.int k a)) (.lit (.int k b)) = some (.lit (.bool (decide (a = b)))) := by cases k <;> rfl
theorem bin_neq : binOpA P T .neq t x y (.lit (.int k a)) (.lit (.int k b)) = some (.lit (.bool (decide (a ≠ b)))) := by
  have : (decide (a ≠ b)) = (a != b) := by by_cases h : a = b <;> simp [h]
  rw [this]; cases k <;> rfl
theorem bin_lss : binOpA P T .lss t x y (.lit (.int k a)) (.lit (.int k b)) = some (.lit (.bool (decide (a < b)))) := by cases k <;> rfl
theorem bin_leq : binOpA P T .leq t x y (.lit (.int k a)) (.lit (.int k b)) = some (.lit (.bool (decide (a ≤ b)))) := by cases k <;> rfl
theorem bin_gtr : binOpA P T .gtr t x y (.lit (.int k a)) (.lit (.int k b)) = some (.lit (.bool (decide (a > b)))) := by cases k <;> rfl
theorem bin_geq : binOpA P T .geq t x y (.lit (.int k a)) (.lit (.int k b)) = some (.lit (.bool (decide (a ≥ b)))) := by cases k <;> rfl
theorem bin_quo (h : b ≠ 0) : binOpA P T .quo t x y (.lit (.int k a)) (.lit (.int k b)) = some (.lit (.int k (k.wrap (a.tdiv b)))) := by
  cases k <;> simp [binOpA, plain2, plain, eqGuard, binOp, Op.intDiv, h] <;> rfl
theorem bin_rem (h : b ≠ 0) : binOpA P T .rem t x y (.lit (.int k a)) (.lit (.int k b)) = some (.lit (.int k (a.tmod b))) := by
  cases k <;> simp [binOpA, plain2, plain, eqGuard, binOp, Op.intDiv, h] <;> rfl
end
/-- A number of the machine. -/
def I64 (a : Int) : Prop := -9223372036854775808 ≤ a ∧ a < 9223372036854775808
theorem i64_of {a : Int} (h : (Lit.int .i64 a).wf = true) : I64 a := by
  simp only [Lit.wf, Bool.and_eq_true, decide_eq_true_eq] at h
  obtain ⟨h1, h2⟩ := h
  have e1 : IntKind.i64.min = -9223372036854775808 := by decide
  have e2 : IntKind.i64.max = 9223372036854775807 := by decide
  constructor <;> omega
theorem wrapI {a : Int} (h : I64 a) : IntKind.i64.wrap a = a := by
  obtain ⟨h1, h2⟩ := h
  simp only [IntKind.wrap, IntKind.signed, IntKind.bits, Bool.true_and, decide_eq_true_eq, Nat.reduceSub, Int.reducePow, ge_iff_le]
  split <;> omega
theorem wrapU {a : Int} (h : 0 ≤ a) (h2 : a < 18446744073709551616) : IntKind.u64.wrap a = a := by
  simp only [IntKind.wrap, IntKind.signed, IntKind.bits, Bool.false_and, Bool.false_eq_true, if_false]
  omega
theorem wrapU_eq (a : Int) : IntKind.u64.wrap a = a % 18446744073709551616 := by
  simp only [IntKind.wrap, IntKind.signed, IntKind.bits, Bool.false_and, Bool.false_eq_true, if_false, Int.reducePow]
theorem bin_and32 (P : Program) (T : Tr TInfo) (t : TypeId) (x y : Operand) (a : Int) : binOpA P T .and t x y (.lit (.int .u64 a)) (.lit (.int .u64 4294967295)) = some (.lit (.int .u64 (a % 4294967296))) := by
  have : binOpA P T .and t x y (.lit (.int .u64 a)) (.lit (.int .u64 4294967295)) = some (.lit (.int .u64 (IntKind.u64.wrap ((BitVec.ofInt 64 a &&& BitVec.ofInt 64 4294967295).toNat : Int)))) := rfl
  rw [this, wrapU_eq]
  have e : (BitVec.ofInt 64 4294967295).toNat = 2 ^ 32 - 1 := by decide
  rw [BitVec.toNat_and, e, Nat.and_two_pow_sub_one_eq_mod, BitVec.toNat_ofInt]
  congr 3
  omega
theorem bin_and1 (P : Program) (T : Tr TInfo) (t : TypeId) (x y : Operand) (a : Int) : binOpA P T .and t x y (.lit (.int .i64 a)) (.lit (.int .i64 1)) = some (.lit (.int .i64 (a % 2))) := by
  have : binOpA P T .and t x y (.lit (.int .i64 a)) (.lit (.int .i64 1)) = some (.lit (.int .i64 (IntKind.i64.wrap ((BitVec.ofInt 64 a &&& BitVec.ofInt 64 1).toNat : Int)))) := rfl
  rw [this]
  have e : (BitVec.ofInt 64 1).toNat = 2 ^ 1 - 1 := by decide
  rw [BitVec.toNat_and, e, Nat.and_two_pow_sub_one_eq_mod, BitVec.toNat_ofInt, wrapI]
  · congr 3
    omega
  · constructor <;> omega
theorem bin_shr (P : Program) (T : Tr TInfo) (t : TypeId) (x y : Operand) (k k' : IntKind) (a b : Int) (h : ¬ b < 0) : binOpA P T .shr t x y (.lit (.int k a)) (.lit (.int k' b)) = some (.lit (.int k (a / 2 ^ (min b.toNat k.bits)))) := by
  have : a / 2 ^ (min b.toNat k.bits) = a.fdiv (2 ^ (min b.toNat k.bits)) := by
    rw [Int.fdiv_eq_ediv_of_nonneg]
    exact Int.le_of_lt (Int.pow_pos (by decide))
  rw [this]
  cases k <;> simp [binOpA, plain2, plain, eqGuard, binOp, Op.shift, h] <;> rfl
theorem bin_shr32 (P : Program) (T : Tr TInfo) (t : TypeId) (x y : Operand) (k' : IntKind) (a : Int) : binOpA P T .shr t x y (.lit (.int .u64 a)) (.lit (.int k' 32)) = some (.lit (.int .u64 (a / 4294967296))) :=
  bin_shr P T t x y .u64 k' a 32 (by decide)
theorem bin_shr1 (P : Program) (T : Tr TInfo) (t : TypeId) (x y : Operand) (k' : IntKind) (a : Int) : binOpA P T .shr t x y (.lit (.int .i64 a)) (.lit (.int k' 1)) = some (.lit (.int .i64 (a / 2))) :=
  bin_shr P T t x y .i64 k' a 1 (by decide)
end CI
