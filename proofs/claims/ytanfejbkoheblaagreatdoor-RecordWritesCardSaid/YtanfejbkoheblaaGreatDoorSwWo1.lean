/- The row of the law: what it says of the program. -/
import Derived.Test.YtanfejbkoheblaaGreatDoorTie
import Derived.Test.YtanfejbkoheblaaGreatDoorCards
import Derived.WalkKit
import Derived.ProofKit
import Derived.OpenShut
import Derived.ShutString
import Derived.Below
import Derived.Carry
import Derived.LaidMore
import Derived.Lay
import Derived.SevenTiedAt
import Derived.Stop.Joined
import Derived.Test.YtanfejbkoheblaaGreatDoorSwWg1
import Derived.Test.YtanfejbkoheblaaGreatDoorSwWj1
namespace Go.Proofs.YtanfejbkoheblaaGreatDoor.recordWrites
open Go.ChangeShapes Go.WideShapes Go.ChangeAt Go.RowKit
open Go.ChangeMaps (open_string shut_string)
set_option linter.unusedVariables false
theorem own : ownKnob Tryz.prog.godebug = none := by kernel_rfl
theorem laidOut : laidOutB Tryz.prog = true := g_laid
theorem i64_of {z : Int} (h : (Lit.int .i64 z).wf = true) : -9223372036854775808 ≤ z ∧ z ≤ 9223372036854775807 := by
  have e1 : IntKind.i64.min = -9223372036854775808 := by decide
  have e2 : IntKind.i64.max = 9223372036854775807 := by decide
  have h2 : (decide (IntKind.i64.min ≤ z) && decide (z ≤ IntKind.i64.max)) = true := h
  rw [e1, e2] at h2
  simpa using h2
theorem walk (r : CI.Rcd.Rec) (ho : r.ok) (w : World) (hg : CI.Glb w) :
    Calls Tryz.prog 7 #[.agg #[.int .i64 r.err, .int .i64 r.at_, .int .i64 r.kind, .int .i64 r.degree, .int .i64 r.most, .string (CI.Seat.B r.x), .string (CI.Seat.B r.y), .string (CI.Seat.B r.z), .bool r.stops, .int .i64 r.places, .int .i64 r.live, .int .i64 r.pairs, .int .i64 r.triples, .int .i64 r.vectors]] w fun e w' => e = .returned (.bool true) ∧ Below w.heap.size w w' := by
  obtain ⟨v, H', nx', h, rfl⟩ := CI.Seat.law_rw (H := .nil) (nx := 0) w r ho (fun b _ => CI.Tr.get_nil b)
  exact CI.walk_of CI.Seat.sound h (xs := [.agg #[.int .i64 r.err, .int .i64 r.at_, .int .i64 r.kind, .int .i64 r.degree, .int .i64 r.most, .string (CI.Seat.B r.x), .string (CI.Seat.B r.y), .string (CI.Seat.B r.z), .bool r.stops, .int .i64 r.places, .int .i64 r.live, .int .i64 r.pairs, .int .i64 r.triples, .int .i64 r.vectors]]) ⟨_, _, rfl, ⟨[.int .i64 r.err, .int .i64 r.at_, .int .i64 r.kind, .int .i64 r.degree, .int .i64 r.most, .string (CI.Seat.B r.x), .string (CI.Seat.B r.y), .string (CI.Seat.B r.z), .bool r.stops, .int .i64 r.places, .int .i64 r.live, .int .i64 r.pairs, .int .i64 r.triples, .int .i64 r.vectors], rfl, ⟨_, _, rfl, rfl, _, _, rfl, rfl, _, _, rfl, rfl, _, _, rfl, rfl, _, _, rfl, rfl, _, _, rfl, rfl, _, _, rfl, rfl, _, _, rfl, rfl, _, _, rfl, rfl, _, _, rfl, rfl, _, _, rfl, rfl, _, _, rfl, rfl, _, _, rfl, rfl, _, _, rfl, rfl, rfl⟩⟩, rfl⟩ (CI.good_nil hg) CI.ro_nil
theorem open_rec {H : Type} {enc : TypeId × Value → H} {W : World} {c0 c1 c2 c3 c4 c5 c6 c7 c8 c9 c10 c11 c12 c13 : Value} {d : DataW H} {ps : List MemPlace} (h : DataW.Trod enc Tryz.prog W 0 (fun _ => true) true 39 (.agg #[c0, c1, c2, c3, c4, c5, c6, c7, c8, c9, c10, c11, c12, c13]) d ps) :
    ∃ r : CI.Rcd.Rec, r.ok ∧ c0 = .int .i64 r.err ∧ c1 = .int .i64 r.at_ ∧ c2 = .int .i64 r.kind ∧ c3 = .int .i64 r.degree ∧ c4 = .int .i64 r.most ∧ c5 = .string (CI.Seat.B r.x) ∧ c6 = .string (CI.Seat.B r.y) ∧ c7 = .string (CI.Seat.B r.z) ∧ c8 = .bool r.stops ∧ c9 = .int .i64 r.places ∧ c10 = .int .i64 r.live ∧ c11 = .int .i64 r.pairs ∧ c12 = .int .i64 r.triples ∧ c13 = .int .i64 r.vectors := by
  obtain ⟨fuel, hf⟩ := h
  obtain ⟨xs, n, _, _, _, hlen, hx⟩ := DataW.trod_struct Tryz.underlying39 hf
  have eE : Tryz.prog.cellsOf 24 = 1 := by kernel_rfl
  have e3 : Tryz.prog.cellsOf 3 = 1 := by kernel_rfl
  have e9 : Tryz.prog.cellsOf 9 = 1 := by kernel_rfl
  have e4 : Tryz.prog.cellsOf 4 = 1 := by kernel_rfl
  have hl : xs.length = 14 := hlen
  have at_ : ∀ i, i < 14 → ∃ z, xs[i]? = some z := fun i hi => ⟨xs[i]'(by omega), List.getElem?_eq_getElem (by omega)⟩
  obtain ⟨z0, g0⟩ := at_ 0 (by omega)
  have f0 : DataW.trod enc Tryz.prog W 0 (fun _ => true) true n 24 (((Value.agg #[c0, c1, c2, c3, c4, c5, c6, c7, c8, c9, c10, c11, c12, c13]).cells.toList.drop 0).take (Tryz.prog.cellsOf 24)) = some z0 := (hx 0 _ rfl).trans g0
  rw [eE] at f0
  obtain ⟨z1, g1⟩ := at_ 1 (by omega)
  have f1 : DataW.trod enc Tryz.prog W 0 (fun _ => true) true n 3 (((Value.agg #[c0, c1, c2, c3, c4, c5, c6, c7, c8, c9, c10, c11, c12, c13]).cells.toList.drop 1).take (Tryz.prog.cellsOf 3)) = some z1 := (hx 1 _ rfl).trans g1
  rw [e3] at f1
  obtain ⟨z2, g2⟩ := at_ 2 (by omega)
  have f2 : DataW.trod enc Tryz.prog W 0 (fun _ => true) true n 3 (((Value.agg #[c0, c1, c2, c3, c4, c5, c6, c7, c8, c9, c10, c11, c12, c13]).cells.toList.drop 2).take (Tryz.prog.cellsOf 3)) = some z2 := (hx 2 _ rfl).trans g2
  rw [e3] at f2
  obtain ⟨z3, g3⟩ := at_ 3 (by omega)
  have f3 : DataW.trod enc Tryz.prog W 0 (fun _ => true) true n 3 (((Value.agg #[c0, c1, c2, c3, c4, c5, c6, c7, c8, c9, c10, c11, c12, c13]).cells.toList.drop 3).take (Tryz.prog.cellsOf 3)) = some z3 := (hx 3 _ rfl).trans g3
  rw [e3] at f3
  obtain ⟨z4, g4⟩ := at_ 4 (by omega)
  have f4 : DataW.trod enc Tryz.prog W 0 (fun _ => true) true n 3 (((Value.agg #[c0, c1, c2, c3, c4, c5, c6, c7, c8, c9, c10, c11, c12, c13]).cells.toList.drop 4).take (Tryz.prog.cellsOf 3)) = some z4 := (hx 4 _ rfl).trans g4
  rw [e3] at f4
  obtain ⟨z5, g5⟩ := at_ 5 (by omega)
  have f5 : DataW.trod enc Tryz.prog W 0 (fun _ => true) true n 9 (((Value.agg #[c0, c1, c2, c3, c4, c5, c6, c7, c8, c9, c10, c11, c12, c13]).cells.toList.drop 5).take (Tryz.prog.cellsOf 9)) = some z5 := (hx 5 _ rfl).trans g5
  rw [e9] at f5
  obtain ⟨z6, g6⟩ := at_ 6 (by omega)
  have f6 : DataW.trod enc Tryz.prog W 0 (fun _ => true) true n 9 (((Value.agg #[c0, c1, c2, c3, c4, c5, c6, c7, c8, c9, c10, c11, c12, c13]).cells.toList.drop 6).take (Tryz.prog.cellsOf 9)) = some z6 := (hx 6 _ rfl).trans g6
  rw [e9] at f6
  obtain ⟨z7, g7⟩ := at_ 7 (by omega)
  have f7 : DataW.trod enc Tryz.prog W 0 (fun _ => true) true n 9 (((Value.agg #[c0, c1, c2, c3, c4, c5, c6, c7, c8, c9, c10, c11, c12, c13]).cells.toList.drop 7).take (Tryz.prog.cellsOf 9)) = some z7 := (hx 7 _ rfl).trans g7
  rw [e9] at f7
  obtain ⟨z8, g8⟩ := at_ 8 (by omega)
  have f8 : DataW.trod enc Tryz.prog W 0 (fun _ => true) true n 4 (((Value.agg #[c0, c1, c2, c3, c4, c5, c6, c7, c8, c9, c10, c11, c12, c13]).cells.toList.drop 8).take (Tryz.prog.cellsOf 4)) = some z8 := (hx 8 _ rfl).trans g8
  rw [e4] at f8
  obtain ⟨z9, g9⟩ := at_ 9 (by omega)
  have f9 : DataW.trod enc Tryz.prog W 0 (fun _ => true) true n 3 (((Value.agg #[c0, c1, c2, c3, c4, c5, c6, c7, c8, c9, c10, c11, c12, c13]).cells.toList.drop 9).take (Tryz.prog.cellsOf 3)) = some z9 := (hx 9 _ rfl).trans g9
  rw [e3] at f9
  obtain ⟨z10, g10⟩ := at_ 10 (by omega)
  have f10 : DataW.trod enc Tryz.prog W 0 (fun _ => true) true n 3 (((Value.agg #[c0, c1, c2, c3, c4, c5, c6, c7, c8, c9, c10, c11, c12, c13]).cells.toList.drop 10).take (Tryz.prog.cellsOf 3)) = some z10 := (hx 10 _ rfl).trans g10
  rw [e3] at f10
  obtain ⟨z11, g11⟩ := at_ 11 (by omega)
  have f11 : DataW.trod enc Tryz.prog W 0 (fun _ => true) true n 3 (((Value.agg #[c0, c1, c2, c3, c4, c5, c6, c7, c8, c9, c10, c11, c12, c13]).cells.toList.drop 11).take (Tryz.prog.cellsOf 3)) = some z11 := (hx 11 _ rfl).trans g11
  rw [e3] at f11
  obtain ⟨z12, g12⟩ := at_ 12 (by omega)
  have f12 : DataW.trod enc Tryz.prog W 0 (fun _ => true) true n 3 (((Value.agg #[c0, c1, c2, c3, c4, c5, c6, c7, c8, c9, c10, c11, c12, c13]).cells.toList.drop 12).take (Tryz.prog.cellsOf 3)) = some z12 := (hx 12 _ rfl).trans g12
  rw [e3] at f12
  obtain ⟨z13, g13⟩ := at_ 13 (by omega)
  have f13 : DataW.trod enc Tryz.prog W 0 (fun _ => true) true n 3 (((Value.agg #[c0, c1, c2, c3, c4, c5, c6, c7, c8, c9, c10, c11, c12, c13]).cells.toList.drop 13).take (Tryz.prog.cellsOf 3)) = some z13 := (hx 13 _ rfl).trans g13
  rw [e3] at f13
  obtain ⟨a0, r0, _, w0⟩ := DataW.trod_int Tryz.underlying24 f0
  obtain ⟨a1, r1, _, w1⟩ := DataW.trod_int Tryz.underlying3 f1
  obtain ⟨a2, r2, _, w2⟩ := DataW.trod_int Tryz.underlying3 f2
  obtain ⟨a3, r3, _, w3⟩ := DataW.trod_int Tryz.underlying3 f3
  obtain ⟨a4, r4, _, w4⟩ := DataW.trod_int Tryz.underlying3 f4
  obtain ⟨b5, r5, _⟩ := DataW.trod_string Tryz.underlying9 f5
  obtain ⟨a5, rfl⟩ : ∃ l, b5 = CI.Seat.B l := ⟨_, CI.Seat.B_of b5⟩
  obtain ⟨b6, r6, _⟩ := DataW.trod_string Tryz.underlying9 f6
  obtain ⟨a6, rfl⟩ : ∃ l, b6 = CI.Seat.B l := ⟨_, CI.Seat.B_of b6⟩
  obtain ⟨b7, r7, _⟩ := DataW.trod_string Tryz.underlying9 f7
  obtain ⟨a7, rfl⟩ : ∃ l, b7 = CI.Seat.B l := ⟨_, CI.Seat.B_of b7⟩
  obtain ⟨a8, r8, _⟩ := DataW.trod_bool Tryz.underlying4 f8
  obtain ⟨a9, r9, _, w9⟩ := DataW.trod_int Tryz.underlying3 f9
  obtain ⟨a10, r10, _, w10⟩ := DataW.trod_int Tryz.underlying3 f10
  obtain ⟨a11, r11, _, w11⟩ := DataW.trod_int Tryz.underlying3 f11
  obtain ⟨a12, r12, _, w12⟩ := DataW.trod_int Tryz.underlying3 f12
  obtain ⟨a13, r13, _, w13⟩ := DataW.trod_int Tryz.underlying3 f13
  simp [Value.cells] at r0 r1 r2 r3 r4 r5 r6 r7 r8 r9 r10 r11 r12 r13
  refine ⟨⟨a0, a1, a2, a3, a4, a5, a6, a7, a8, a9, a10, a11, a12, a13⟩, ⟨?_, i64_of w2⟩, r0, r1, r2, r3, r4, r5, r6, r7, r8, r9, r10, r11, r12, r13⟩
  intro n hn
  simp only [CI.Rcd.Rec.nums, List.mem_cons, List.not_mem_nil, or_false] at hn
  rcases hn with rfl | rfl | rfl | rfl | rfl | rfl | rfl | rfl | rfl
  · exact i64_of w0
  · exact i64_of w1
  · exact i64_of w3
  · exact i64_of w4
  · exact i64_of w9
  · exact i64_of w10
  · exact i64_of w11
  · exact i64_of w12
  · exact i64_of w13
theorem fourteen {xs : Array Value} (h : xs.size = 14) : ∃ c0 c1 c2 c3 c4 c5 c6 c7 c8 c9 c10 c11 c12 c13, xs = #[c0, c1, c2, c3, c4, c5, c6, c7, c8, c9, c10, c11, c12, c13] := by
  obtain ⟨l⟩ := xs
  match l, h with
  | [c0, c1, c2, c3, c4, c5, c6, c7, c8, c9, c10, c11, c12, c13], _ => exact ⟨c0, c1, c2, c3, c4, c5, c6, c7, c8, c9, c10, c11, c12, c13, rfl⟩
set_option maxRecDepth 100000 in
theorem lifted (os : Os) (started : os.Started) (H : Type) (enc : TypeId × Value → H) :
    ReturnsInHanded {} Tryz.checked os 7 .any (fun w args => (Rows.recordWritesSpec.pre enc Tryz.prog Tryz.f7 Rows.recordWritesRow.domain false w args ∧ laidMetH Tryz.prog Rows.recordWritesRow.laid w) ∧ sizedMet enc Tryz.prog Tryz.f7 (OpenSpec.ofChange Rows.recordWritesSpec) false w args)
      (Rows.recordWritesSpec.post enc Tryz.prog Tryz.f7 false true false false) := by
  refine returnsInHanded_of_change_and (C := Tryz.checked) (X := fun w _ => laidMetH Tryz.prog Rows.recordWritesRow.laid w) (fun _ _ _ hh h => h.of_heap hh) own started (by kernel_rfl) Tryz.func7
    (ChangeSpec.witness_shaped (enc := enc) (C := Tryz.checked) (os := os) (X := fun w _ => laidMetH Tryz.prog Rows.recordWritesRow.laid w) false (World.laidAll Tryz.prog os Rows.recordWritesRow.laid) #[.agg #[.int .i64 0, .int .i64 0, .int .i64 0, .int .i64 0, .int .i64 0, .string ByteArray.empty, .string ByteArray.empty, .string ByteArray.empty, .bool false, .int .i64 0, .int .i64 0, .int .i64 0, .int .i64 0, .int .i64 0]] 8 (World.laidAll_os _ _ _)
      (World.shaped_of_ZipB (by kernel_rfl) (by kernel_rfl)) (by kernel_rfl) (by kernel_rfl) (by kernel_rfl)
      (by rw [MakeChecks.laidMetH_plain _ _ _ (by kernel_rfl)]; exact laidMet_laidAll _ (by kernel_rfl) (by kernel_rfl))) ?_
  intro W base args ds gs before hval0 hW hcnd _ hL _
  have hval : ∀ (j : Nat) t v, Tryz.f7.params[j]? = some t → args[j]? = some v → Value.okWide Tryz.prog W .any base t v := hval0
  have hW' := hW
  obtain ⟨p, q, hA0, hV, rfl, hfz, hnd⟩ := hW
  have hA : DataW.TrodAll enc Tryz.prog W 0 (fun _ => true) true Tryz.f7.params.toList args.toList ds p := hA0
  rw [Tryz.params7] at hA hval
  obtain ⟨v0, vs0, d0, ds0, p0, q0, hargs0, rfl, rfl, h0, t0⟩ := trodAll_cons hA
  obtain ⟨rfl, rfl, rfl⟩ := trodAll_nil t0
  obtain rfl : args = #[v0] := by cases args; simp_all
  obtain ⟨rfl, rfl⟩ := trodVars_none hV
  obtain ⟨cs0, rfl, hcs0⟩ := okWide_struct Tryz.underlying39 (hval 0 39 v0 rfl rfl)
  have lt0 : ∀ x ∈ p0, x.block < W.heap.size := by obtain ⟨m, hm⟩ := h0; exact DataW.trod_lt m _ _ _ hm
  obtain ⟨c0, c1, c2, c3, c4, c5, c6, c7, c8, c9, c10, c11, c12, c13, rfl⟩ := fourteen (hcs0.trans (show Tryz.prog.cellsOf 39 = 14 by kernel_rfl))
  obtain ⟨r, ho, rfl, rfl, rfl, rfl, rfl, rfl, rfl, rfl, rfl, rfl, rfl, rfl, rfl, rfl⟩ := open_rec h0
  clear hA0 hval0
  simp only [List.append_nil] at hW'
  refine (walk r ho W (glb hL)).mono fun e W' ⟨he, bel⟩ => ?_
  subst he
  exact ⟨_, rfl, _, _, _, [], _, [], hW', trodAll_mk1 (shut_bool Tryz.underlying4 _), (trodAll_cons_mk (Below.trod laidOut (by kernel_rfl) (of_decide_eq_true (by kernel_rfl)) h0 bel lt0) trodAll_mk0), rfl, bel.frame _, fun h => by cases h⟩
theorem over : Rows.recordWritesRow.holds Tryz.pinned (OpenSpec.ofChange Rows.recordWritesSpec) :=
  OpenClaim.holds_of_wide 7 Tryz.f7 rfl rfl rfl rfl rfl rfl rfl ⟨rfl, rfl, rfl, rfl, rfl⟩ rfl rfl rfl rfl rfl (by kernel_rfl) Tryz.func7 jf
    (of_decide_eq_true (by kernel_rfl)) (by unfold Func.isWrapper; first | (rw [if_pos (by decide +kernel)]; kernel_rfl) | (rw [if_neg (by decide +kernel)]; exact ⟨rfl, rfl⟩))
    (fun os started H enc _ => lifted os started H enc)
end Go.Proofs.YtanfejbkoheblaaGreatDoor.recordWrites
