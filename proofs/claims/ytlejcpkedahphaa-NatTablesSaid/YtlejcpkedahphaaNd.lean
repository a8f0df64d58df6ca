/- nat, walked: NatLaws. -/
import Derived.Test.YtlejcpkedahphaaNc
set_option linter.unusedVariables false
set_option linter.unusedSimpArgs false
namespace CI
open Go
namespace Seat
variable {H : Heap} {nx nx' : Nat}
abbrev vi (a : Int) : AV := .lit (.int .i64 a)
theorem bs2 (a b : Int) : buildSliceOp cx.T H nx 22 2 [(0, .lit (.int .i64 a)), (1, .lit (.int .i64 b))] = some (.slice nx 0 2 (some 2) 1, H.put nx (some (.cells [.lit (.int .i64 a), .lit (.int .i64 b)] 3 false)), nx + 1) := by kernel_rfl
theorem bs3 (a b c : Int) : buildSliceOp cx.T H nx 22 3 [(0, .lit (.int .i64 a)), (1, .lit (.int .i64 b)), (2, .lit (.int .i64 c))] = some (.slice nx 0 3 (some 3) 1, H.put nx (some (.cells [.lit (.int .i64 a), .lit (.int .i64 b), .lit (.int .i64 c)] 3 false)), nx + 1) := by kernel_rfl
theorem ints2 {a b : Int} (ha : I64 a) (hb : I64 b) : Ints (H.put nx (some (.cells [.lit (.int .i64 a), .lit (.int .i64 b)] 3 false))) (.slice nx 0 2 (some 2) 1) [a, b] := by
  refine ⟨by simp [ha, hb], by simp, .inl ⟨nx, 0, some 2, _, _, _, rfl, Tr.get_put_same _ _ _, ?_⟩⟩
  rintro (_ | _ | i) x hx <;> simp at hx <;> simp [hx]
theorem ints3 {a b c : Int} (ha : I64 a) (hb : I64 b) (hc : I64 c) : Ints (H.put nx (some (.cells [.lit (.int .i64 a), .lit (.int .i64 b), .lit (.int .i64 c)] 3 false))) (.slice nx 0 3 (some 3) 1) [a, b, c] := by
  refine ⟨by simp [ha, hb, hc], by simp, .inl ⟨nx, 0, some 3, _, _, _, rfl, Tr.get_put_same _ _ _, ?_⟩⟩
  rintro (_ | _ | _ | i) x hx <;> simp at hx <;> simp [hx]
theorem addv2 {a b : Int} (ha : I64 a) (hb : I64 b) : Cl cx 12 [.slice nx 0 2 (some 2) 1] (H.put nx (some (.cells [.lit (.int .i64 a), .lit (.int .i64 b)] 3 false))) nx' = some (.lit (.int .i64 (satN (a.toNat + b.toNat))), (H.put nx (some (.cells [.lit (.int .i64 a), .lit (.int .i64 b)] 3 false))), nx') := by
  rw [addv_cl' (ints2 ha hb)]; rfl
theorem addv3 {a b c : Int} (ha : I64 a) (hb : I64 b) (hc : I64 c) : Cl cx 12 [.slice nx 0 3 (some 3) 1] (H.put nx (some (.cells [.lit (.int .i64 a), .lit (.int .i64 b), .lit (.int .i64 c)] 3 false))) nx' = some (.lit (.int .i64 (satN (a.toNat + (b.toNat + c.toNat)))), (H.put nx (some (.cells [.lit (.int .i64 a), .lit (.int .i64 b), .lit (.int .i64 c)] 3 false))), nx') := by
  rw [addv_cl' (ints3 ha hb hc)]; rfl
theorem mulv2 {a b : Int} (ha : I64 a) (hb : I64 b) : Cl cx 14 [.slice nx 0 2 (some 2) 1] (H.put nx (some (.cells [.lit (.int .i64 a), .lit (.int .i64 b)] 3 false))) nx' = some (.lit (.int .i64 (satN (a.toNat * b.toNat))), (H.put nx (some (.cells [.lit (.int .i64 a), .lit (.int .i64 b)] 3 false))), nx') := by
  rw [mulv_cl' (ints2 ha hb)]; simp
theorem mulv3 {a b c : Int} (ha : I64 a) (hb : I64 b) (hc : I64 c) : Cl cx 14 [.slice nx 0 3 (some 3) 1] (H.put nx (some (.cells [.lit (.int .i64 a), .lit (.int .i64 b), .lit (.int .i64 c)] 3 false))) nx' = some (.lit (.int .i64 (satN (a.toNat * (b.toNat * c.toNat)))), (H.put nx (some (.cells [.lit (.int .i64 a), .lit (.int .i64 b), .lit (.int .i64 c)] 3 false))), nx') := by
  rw [mulv_cl' (ints3 ha hb hc)]; simp
theorem pow25 : Cl cx 15 [.lit (.int .i64 2), .lit (.int .i64 5)] H nx = some (.lit (.int .i64 32), H, nx) := by
  rw [pow_cl ⟨by decide, by decide⟩ ⟨by decide, by decide⟩]; rfl
theorem law4 {a b c : Int} (ha : I64 a) (hb : I64 b) (hc : I64 c) : ∃ H' nx', Cl cx 4 [.lit (.int .i64 a), .lit (.int .i64 b), .lit (.int .i64 c)] H nx = some (.lit (.bool true), H', nx') := by
  suffices h : ∃ v H' nx', Cl cx 4 [.lit (.int .i64 a), .lit (.int .i64 b), .lit (.int .i64 c)] H nx = some (v, H', nx') ∧ v = .lit (.bool true) by
    obtain ⟨v, H', nx', h1, rfl⟩ := h; exact ⟨H', nx', h1⟩
  refine wpP4 _ _ _ (fun v _ _ => v = .lit (.bool true)) (by simp) ?_
  unfold s4
  have e1 : satN (a.toNat + (b.toNat + c.toNat)) = satN (c.toNat + (b.toNat + a.toNat)) := by congr 1; omega
  have e2 : satN (a.toNat * (b.toNat * c.toNat)) = satN (c.toNat * (b.toNat * a.toNat)) := by congr 1; grind
  have e3 : satN (a.toNat * (satN (b.toNat + c.toNat)).toNat) = satN ((satN (a.toNat * b.toNat)).toNat + (satN (a.toNat * c.toNat)).toNat) := by
    rw [satN_toNat, cap_mul', satN_toNat, satN_toNat, Nat.mul_add]
    unfold satN; omega
  simp only [↓wpS_skip, ↓wpS_ops, ↓wpS_seq, ↓wpS_cond, ↓wpS_block, ↓wpS_loop, ↓wpS_exit, ↓wpS_ret, condW_bool, ↓WOps_go, ↓WOps_skip, WOps_nil, stepA, opA, isCall, put?, ev, Tr.get_put, Tr.get_nil, builtinA, callA, argEnv, wantedS, abs_int, abs_bool, abs_string, List.zipIdx_cons, List.zipIdx_nil, List.foldl_cons, List.foldl_nil, List.map_cons, List.map_nil, List.map_toArray, List.nil_append, List.cons_append, List.append_nil, extractOp, List.getElem?_cons_zero, List.getElem?_cons_succ,
    Option.map_some, Option.map_none, Nat.reduceLT, Nat.reduceEqDiff, Nat.reduceAdd, Nat.zero_add, if_true, if_false, Option.getD_some, Option.getD_none, ↓reduceIte, Bool.false_eq_true, Bool.true_eq_false, reduceCtorEq, resA, resOf, Option.some.injEq, exists_eq_left', beq_self_eq_true, decide_true, decide_false, decide_eq_true_eq, ne_eq, not_true_eq_false, not_false_eq_true, Bool.not_eq_true, beq_iff_eq, bin_add, bin_sub, bin_mul, bin_eql, bin_neq, bin_lss, bin_leq, bin_gtr, bin_geq, maxA, minA, Prod.mk.injEq, and_true, true_and, beq_eq_false_iff_ne, decide_eq_false_iff_not, Bool.true_beq, Bool.false_beq, beq_true, beq_false, Bool.not_true, Bool.not_false, List.getElem?_toArray, x_none, x_awake, partsA, bs2, bs3, addv2 hb hc, addv3 ha hb hc, addv3 hc hb ha, mulv2 ha (satN_i (b.toNat + c.toNat)), mulv2 ha hb, mulv2 ha hc, addv2 (satN_i (a.toNat * b.toNat)) (satN_i (a.toNat * c.toNat)), mulv3 ha hb hc, mulv3 hc hb ha, pow25, e1, e2, e3]
end Seat
end CI
