/- Texts and memory. -/
import Derived.Test.YtlejcpkedahphaaDoorVx
import Derived.Laws.Strings
set_option linter.unusedVariables false
set_option linter.unusedSimpArgs false
namespace CI
open Go
namespace Seat
variable {H : Heap} {nx : Nat}
/-! ### texts -/
def B (l : List UInt8) : ByteArray := ⟨l.toArray⟩
def strA (l : List UInt8) : AV := .lit (.string (B l))
def byteA (b : UInt8) : AV := .lit (.int .u8 b.toNat)
theorem B_size (l : List UInt8) : (B l).size = l.length := by simp [B, ByteArray.size]
theorem B_data (l : List UInt8) : (B l).data.toList = l := by simp [B]
theorem B_toList (l : List UInt8) : (B l).toList = l := by
  rw [ByteArray.toList_eq, B_data]
theorem B_append (l m : List UInt8) : B l ++ B m = B (l ++ m) := by
  apply ByteArray.ext
  simp [B, ByteArray.data_append]
theorem B_of (s : ByteArray) : s = B s.data.toList := by
  cases s; simp [B]
theorem B_inj {l m : List UInt8} : B l = B m ↔ l = m := by
  constructor
  · intro h
    have := congrArg (fun s => s.data.toList) h
    simpa [B_data] using this
  · rintro rfl; rfl
section
variable (x y : Operand) (l m : List UInt8)
theorem str_add (h : l.length + m.length ≤ 1000000000) : binOpA cx.P cx.T .add 9 x y (strA l) (strA m) = some (strA (l ++ m)) := by
  have e : plain2 cx.P (fun p q => do eqGuard .add 9 x y p q; binOp .add 9 p q) (strA l) (strA m) = (pureRun cx.P (Op.stringOp .add (B l) (B m))).map abs := rfl
  unfold binOpA
  rw [e]
  simp only [Op.stringOp, B_size]
  rw [if_neg (by
    have e : IntKind.i64.max = 9223372036854775807 := by decide
    rw [e]; omega)]
  rw [B_append]
  rfl
theorem str_eql : binOpA cx.P cx.T .eql 9 x y (strA l) (strA m) = some (.lit (.bool (decide (l = m)))) := by
  have e : plain2 cx.P (fun p q => do eqGuard .eql 9 x y p q; binOp .eql 9 p q) (strA l) (strA m) = (pureRun cx.P (Op.stringOp .eql (B l) (B m))).map abs := rfl
  unfold binOpA
  rw [e]
  simp only [Op.stringOp, B_toList]
  rw [show (l == m) = decide (l = m) from by by_cases h : l = m <;> simp [h]]
  rfl
theorem str_len : lenOp cx.T H 9 (strA l) = some l.length := by
  have : lenOp cx.T H 9 (strA l) = some (B l).size := by kernel_rfl
  rw [this, B_size]
theorem str_ix (i : Nat) (b : UInt8) (k : IntKind) (h : l[i]? = some b) : indexOp cx.P cx.T 9 (strA l) (.lit (.int k i)) = some (byteA b) := by
  have : indexOp cx.P cx.T 9 (strA l) (.lit (.int k i)) = ((B l).data.toList[i]?).map fun c => .lit (.int .u8 c.toNat) := by kernel_rfl
  rw [this, B_data, h]
  rfl
end
/-! ### memory -/
theorem ld_at {t : TypeId} {p o : Nat} {cs : List AV} {tb : TypeId} {ro : Bool} {v : AV} (ht : (cx.T.get t).map (·.agg) = some false) (hp : H.get p = some (.cells cs tb ro)) (hv : cs[o]? = some v) :
    loadOp cx.T H t (.ptr p o) = some v := by
  unfold loadOp
  simp only [Option.map_eq_some_iff] at ht
  obtain ⟨i, h1, h2⟩ := ht
  simp only [h1, hp, h2]
  have hlt : o < cs.length := (List.getElem?_eq_some_iff.1 hv).1
  simp only [cut, if_pos (show o + 1 ≤ cs.length by omega), Option.bind_some, Bool.false_eq_true, if_false]
  rw [List.getElem?_take, if_pos (by omega), List.getElem?_drop]
  simpa using hv
theorem overA_one (cs : List AV) (o : Nat) (v : AV) (h : o < cs.length) : overA cs o [v] = cs.set o v := by
  apply List.ext_getElem?
  intro j
  rw [overA_get _ _ _ (by simp only [List.length_singleton]; omega), List.getElem?_set]
  simp only [List.length_singleton]
  by_cases hj : o = j
  · subst hj
    simp [h]
  · rw [if_neg (by omega), if_neg hj]
theorem st_at {t : TypeId} {p o : Nat} {cs : List AV} {tb : TypeId} {v : AV} (ht : (cx.T.get t).map (·.size) = some 1) (hp : H.get p = some (.cells cs tb false)) (ho : o < cs.length) (hv : cellsOf v = [v]) (h1 : one v = true) :
    storeOp cx.T H t (.ptr p o) v = some (H.put p (some (.cells (cs.set o v) tb false))) := by
  unfold storeOp
  simp only [Option.map_eq_some_iff] at ht
  obtain ⟨i, e1, e2⟩ := ht
  simp only [e1, hp, hv, e2]
  rw [if_pos ⟨by simp, by simp only [List.length_singleton]; omega, by simp [h1]⟩, overA_one _ _ _ ho]

end Seat
end CI
