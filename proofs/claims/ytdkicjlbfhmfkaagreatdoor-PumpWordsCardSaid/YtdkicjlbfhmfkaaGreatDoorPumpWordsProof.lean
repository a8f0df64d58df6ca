/- For any family and any number the law PumpWords answers true, and leaves what was there as it was: the row, and the card that ties its listed variables to the program's text. -/
import Derived.Test.YtdkicjlbfhmfkaaGreatDoorTie
import Derived.Test.YtdkicjlbfhmfkaaGreatDoorCards
import Derived.WalkKit
import Derived.ProofKit
import Derived.OpenShut
import Derived.ShutString
import Derived.Below
import Derived.Carry
import Derived.LaidMore
import Derived.Lay
import Derived.SevenTiedAt
import Derived.Stop.Joined
import Derived.Test.YtdkicjlbfhmfkaaGreatDoorPr
namespace Go.Proofs.YtdkicjlbfhmfkaaGreatDoor.pumpWords
open Go.ChangeShapes Go.WideShapes Go.ChangeAt Go.RowKit
open Go.ChangeMaps (open_string shut_string)
set_option linter.unusedVariables false

theorem own : ownKnob Tryz.prog.godebug = none := by kernel_rfl

theorem laidOut : laidOutB Tryz.prog = true := by kernel_rfl
theorem walk (k : Int) (x y : List UInt8) (p q n : Int) (hn : CI.I64 n) (w : World) (hg : CI.Glb w) :
    Calls Tryz.prog 7 #[.agg #[.int .i64 k, .string (CI.Seat.B x), .string (CI.Seat.B y), .int .i64 p, .int .i64 q], .int .i64 n] w fun e w' => e = .returned (.bool true) ∧ Below w.heap.size w w' := by
  obtain ⟨v, H', nx', h, rfl⟩ := CI.Seat.law7 (H := .nil) (nx := 0) k x y p q hn
  exact CI.walk_of CI.Seat.sound h (xs := [.agg #[.int .i64 k, .string (CI.Seat.B x), .string (CI.Seat.B y), .int .i64 p, .int .i64 q], .int .i64 n])
    ⟨_, _, rfl, ⟨[.int .i64 k, .string (CI.Seat.B x), .string (CI.Seat.B y), .int .i64 p, .int .i64 q], rfl, ⟨_, _, rfl, rfl, _, _, rfl, rfl, _, _, rfl, rfl, _, _, rfl, rfl, _, _, rfl, rfl, rfl⟩⟩, _, _, rfl, rfl, rfl⟩ (CI.good_nil hg) CI.ro_nil
theorem open_fam {H : Type} {enc : TypeId × Value → H} {W : World} {c0 c1 c2 c3 c4 : Value} {d : DataW H} {ps : List MemPlace} (h : DataW.Trod enc Tryz.prog W 0 (fun _ => true) true 74 (.agg #[c0, c1, c2, c3, c4]) d ps) :
    ∃ k x y p q, c0 = .int .i64 k ∧ c1 = .string x ∧ c2 = .string y ∧ c3 = .int .i64 p ∧ c4 = .int .i64 q := by
  obtain ⟨fuel, hf⟩ := h
  obtain ⟨xs, n, _, _, _, hlen, hx⟩ := DataW.trod_struct Tryz.underlying74 hf
  have e3 : Tryz.prog.cellsOf 3 = 1 := by kernel_rfl
  have e9 : Tryz.prog.cellsOf 9 = 1 := by kernel_rfl
  have hl : xs.length = 5 := hlen
  have at_ : ∀ i, i < 5 → ∃ z, xs[i]? = some z := fun i hi => ⟨xs[i]'(by omega), List.getElem?_eq_getElem (by omega)⟩
  obtain ⟨z0, g0⟩ := at_ 0 (by omega)
  obtain ⟨z1, g1⟩ := at_ 1 (by omega)
  obtain ⟨z2, g2⟩ := at_ 2 (by omega)
  obtain ⟨z3, g3⟩ := at_ 3 (by omega)
  obtain ⟨z4, g4⟩ := at_ 4 (by omega)
  have f0 : DataW.trod enc Tryz.prog W 0 (fun _ => true) true n 3 (((Value.agg #[c0, c1, c2, c3, c4]).cells.toList.drop 0).take (Tryz.prog.cellsOf 3)) = some z0 := (hx 0 _ rfl).trans g0
  rw [e3] at f0
  have f1 : DataW.trod enc Tryz.prog W 0 (fun _ => true) true n 9 (((Value.agg #[c0, c1, c2, c3, c4]).cells.toList.drop 1).take (Tryz.prog.cellsOf 9)) = some z1 := (hx 1 _ rfl).trans g1
  rw [e9] at f1
  have f2 : DataW.trod enc Tryz.prog W 0 (fun _ => true) true n 9 (((Value.agg #[c0, c1, c2, c3, c4]).cells.toList.drop 2).take (Tryz.prog.cellsOf 9)) = some z2 := (hx 2 _ rfl).trans g2
  rw [e9] at f2
  have f3 : DataW.trod enc Tryz.prog W 0 (fun _ => true) true n 3 (((Value.agg #[c0, c1, c2, c3, c4]).cells.toList.drop 3).take (Tryz.prog.cellsOf 3)) = some z3 := (hx 3 _ rfl).trans g3
  rw [e3] at f3
  have f4 : DataW.trod enc Tryz.prog W 0 (fun _ => true) true n 3 (((Value.agg #[c0, c1, c2, c3, c4]).cells.toList.drop 4).take (Tryz.prog.cellsOf 3)) = some z4 := (hx 4 _ rfl).trans g4
  rw [e3] at f4
  obtain ⟨k, r0, _⟩ := DataW.trod_int Tryz.underlying3 f0
  obtain ⟨x, r1, _⟩ := DataW.trod_string Tryz.underlying9 f1
  obtain ⟨y, r2, _⟩ := DataW.trod_string Tryz.underlying9 f2
  obtain ⟨p, r3, _⟩ := DataW.trod_int Tryz.underlying3 f3
  obtain ⟨q, r4, _⟩ := DataW.trod_int Tryz.underlying3 f4
  simp [Value.cells] at r0 r1 r2 r3 r4
  exact ⟨k, x, y, p, q, r0, r1, r2, r3, r4⟩
theorem five {xs : Array Value} (h : xs.size = 5) : ∃ c0 c1 c2 c3 c4, xs = #[c0, c1, c2, c3, c4] := by
  obtain ⟨l⟩ := xs
  match l, h with
  | [c0, c1, c2, c3, c4], _ => exact ⟨c0, c1, c2, c3, c4, rfl⟩

set_option maxRecDepth 100000 in
theorem lifted (os : Os) (started : os.Started) (H : Type) (enc : TypeId × Value → H) :
    ReturnsInHanded {} Tryz.checked os 7 .any (fun w args => (Rows.pumpWordsSpec.pre enc Tryz.prog Tryz.f7 Rows.pumpWordsRow.domain false w args ∧ laidMetH Tryz.prog Rows.pumpWordsRow.laid w) ∧ sizedMet enc Tryz.prog Tryz.f7 (OpenSpec.ofChange Rows.pumpWordsSpec) false w args)
      (Rows.pumpWordsSpec.post enc Tryz.prog Tryz.f7 false true false false) := by
  refine returnsInHanded_of_change_and (C := Tryz.checked) (X := fun w _ => laidMetH Tryz.prog Rows.pumpWordsRow.laid w) (fun _ _ _ hh h => h.of_heap hh) own started (by kernel_rfl) Tryz.func7
    (ChangeSpec.witness_shaped (enc := enc) (C := Tryz.checked) (os := os) (X := fun w _ => laidMetH Tryz.prog Rows.pumpWordsRow.laid w) false (World.laidAll Tryz.prog os Rows.pumpWordsRow.laid) #[.agg #[.int .i64 0, .string ByteArray.empty, .string ByteArray.empty, .int .i64 0, .int .i64 0], .int .i64 0] 8 (World.laidAll_os _ _ _)
      (World.shaped_of_ZipB (by kernel_rfl) (by kernel_rfl)) (by kernel_rfl) (by kernel_rfl) (by kernel_rfl)
      (by rw [MakeChecks.laidMetH_plain _ _ _ (by kernel_rfl)]; exact laidMet_laidAll _ (by kernel_rfl) (by kernel_rfl))) ?_
  intro W base args ds gs before hval0 hW hcnd _ hL _
  have hval : ∀ (j : Nat) t v, Tryz.f7.params[j]? = some t → args[j]? = some v → Value.okWide Tryz.prog W .any base t v := hval0
  have hW' := hW
  obtain ⟨p, q, hA0, hV, rfl, hfz, hnd⟩ := hW
  have hA : DataW.TrodAll enc Tryz.prog W 0 (fun _ => true) true Tryz.f7.params.toList args.toList ds p := hA0
  rw [Tryz.params7] at hA hval
  obtain ⟨v0, vs0, d0, ds0, p0, q0, hargs, rfl, rfl, h0, r0⟩ := trodAll_cons hA
  obtain ⟨v1, vs1, d1, ds1, p1, q1, hargs1, rfl, rfl, h1, r1⟩ := trodAll_cons r0
  obtain ⟨rfl, rfl, rfl⟩ := trodAll_nil r1
  subst hargs1
  obtain rfl : args = #[v0, v1] := by cases args; simp_all
  obtain ⟨rfl, rfl⟩ := trodVars_none hV
  obtain ⟨z1, rfl, rfl, rfl, wn1⟩ := open_int Tryz.underlying3 (hval 1 3 v1 rfl rfl) h1
  obtain ⟨cs, rfl, hcs⟩ := okWide_struct Tryz.underlying74 (hval 0 74 v0 rfl rfl)
  have lt0 : ∀ x ∈ p0, x.block < W.heap.size := by obtain ⟨m, hm⟩ := h0; exact DataW.trod_lt m _ _ _ hm
  obtain ⟨c0, c1, c2, c3, c4, rfl⟩ := five (hcs.trans (show Tryz.prog.cellsOf 74 = 5 by kernel_rfl))
  obtain ⟨kk, xx, yy, pp, qq, rfl, rfl, rfl, rfl, rfl⟩ := open_fam h0
  obtain ⟨lx, rfl⟩ : ∃ l, xx = CI.Seat.B l := ⟨_, CI.Seat.B_of xx⟩
  obtain ⟨ly, rfl⟩ : ∃ l, yy = CI.Seat.B l := ⟨_, CI.Seat.B_of yy⟩
  have hz : CI.I64 z1 := by
    have e1 : IntKind.i64.min = -9223372036854775808 := by decide
    have e2 : IntKind.i64.max = 9223372036854775807 := by decide
    have : (decide (IntKind.i64.min ≤ z1) && decide (z1 ≤ IntKind.i64.max)) = true := wn1
    rw [e1, e2] at this
    simp only [Bool.and_eq_true, decide_eq_true_eq] at this
    exact ⟨this.1, by omega⟩
  clear hA0 hval0
  simp only [List.append_nil] at hW'
  refine (walk kk lx ly pp qq z1 hz W (glb hL)).mono fun e W' ⟨he, bel⟩ => ?_
  subst he
  exact ⟨_, rfl, _, _, _, [], _, [], hW', trodAll_mk1 (shut_bool Tryz.underlying4 _), (trodAll_cons_mk (Below.trod laidOut (by kernel_rfl) (of_decide_eq_true (by kernel_rfl)) h0 bel lt0) (trodAll_cons_mk (shut_int Tryz.underlying3 wn1) trodAll_mk0)), rfl, bel.frame _, fun h => by cases h⟩

theorem over : Rows.pumpWordsRow.holds Tryz.pinned (OpenSpec.ofChange Rows.pumpWordsSpec) :=
  OpenClaim.holds_of_wide 7 Tryz.f7 rfl rfl rfl rfl rfl rfl rfl ⟨rfl, rfl, rfl, rfl, rfl⟩ rfl rfl rfl rfl rfl (by kernel_rfl) Tryz.func7 jf
    (of_decide_eq_true (by kernel_rfl)) (by unfold Func.isWrapper; first | (rw [if_pos (by decide +kernel)]; kernel_rfl) | (rw [if_neg (by decide +kernel)]; exact ⟨rfl, rfl⟩))
    (fun os started H enc _ => lifted os started H enc)

/-- ████ THE STATEMENT ████ -/
theorem proved : Rows.PumpWordsCardSaid :=
  Claim7.holds_tied_plain_at .later [] [.data] true (true, "a46bc245001fe99c5f0f058b03ef9abe79c78547e6cf95a54516c1854447a0dd") false over (fun _ h => by cases h) (by kernel_rfl) (fun _ h => by cases h) pumpWords_row_tie rfl ⟨rfl, rfl⟩ (by kernel_rfl) rfl
    (fun f fn hf hfn => by
      obtain rfl : f = 7 := Option.some.inj ((show Tryz.prog.funcNamed "caltrop/caltroplaw19.PumpWords" = some 7 by kernel_rfl).symm.trans hf) |>.symm
      obtain rfl : fn = Tryz.f7 := (Option.some.inj (Tryz.func7.symm.trans hfn)).symm
      exact ⟨by kernel_rfl, fun j t ht => by
        rw [Tryz.params7] at ht
        have hm : t ∈ [74, 3] := by simpa using Array.mem_of_getElem? ht
        have hall : ([74, 3].all fun u => !Tryz.prog.wantsStandIn u) = true := by kernel_rfl
        exact (show Tryz.prog.wantsStandIn t = false by simpa using List.all_eq_true.1 hall t hm)⟩)
    (by kernel_rfl)
#print axioms proved
end Go.Proofs.YtdkicjlbfhmfkaaGreatDoor.pumpWords
