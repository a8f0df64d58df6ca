/- strconv.Itoa and strconv.Atoi by the Shelf's contracts. -/
import Derived.Test.YtlejcpkedahphaaDoorShelf
import Derived.Test.YtlejcpkedahphaaDoorCvt
import Derived.Test.YtlejcpkedahphaaDoorChecked
import Derived.Lib.AppendIntMem
import Derived.Lib.SmallJoins
import Derived.KernelRfl
set_option linter.unusedVariables false
set_option maxRecDepth 100000
namespace CI
open Go Go.Proofs
namespace Seat
theorem tab10 {w : World} (hg : Glb w) : Lib.TabIs Tryd.prog w "internal/strconv.uint64pow10" .u64 Lib.pow10Tab := by
  obtain ⟨cs, t, fz, e, hq⟩ := hg 3 _ (GL_of (g := 3) (cs := gl3) rfl)
  have hq' : cs.toList = gl3 := hq
  have hn : Tryd.prog.globalNamed "internal/strconv.uint64pow10" = some 3 := by kernel_rfl
  unfold Lib.TabIs World.var?
  rw [hn]
  simp only [Option.bind_some, e]
  have h1 : gl3 = Lib.pow10Tab.map fun z => Value.int .u64 z := by kernel_rfl
  rw [← h1, ← hq']
def itoaC : List Value → Option Value
  | [.int .i64 n] => if -9223372036854775808 ≤ n ∧ n ≤ 9223372036854775807 then some (.string ⟨(Lib.itoa n).toArray⟩) else none
  | _ => none
theorem con15 : ConFact Tryd.prog 15 itoaC := by
  intro xs v h w hg
  unfold itoaC at h
  split at h
  · rename_i n
    split at h
    · rename_i hn
      injection h with h; subst h
      refine ⟨?_, ?_⟩
      · obtain ⟨body, hb⟩ : ∃ b, Tryd.f15.body = some b := ⟨_, rfl⟩
        exact enter_of Tryd.func15 (by kernel_rfl) hb _ w
      · refine (Tryd.strconv_Itoa n hn.1 hn.2 w (tab10 hg)).mono fun e w' ⟨h1, k, os, h2⟩ => ⟨h1, ?_⟩
        subst h2
        exact Lib.below_grow _ _ (Nat.le_refl _) _ _
    · cases h
  · cases h
theorem err_cell {w : World} (hg : Glb w) {g : Nat} (h : GC g = none) (hi : GI g = true) : ∃ t p, w.cell? ⟨g, 0, none⟩ = some (.iface t p) := by
  obtain ⟨cs, t, fz, e, hq⟩ := hg g _ (GL_if h hi)
  obtain ⟨ti, p, hq'⟩ : ∃ ti p, cs.toList = [.iface ti p] := hq
  refine ⟨ti, p, ?_⟩
  rw [cell_at e, ← Array.getElem?_toList, hq']
  rfl
noncomputable def atoiY (args : List AV) (H : Heap) (nx : Nat) : Option (AV × Heap × Nat) :=
  match args with
  | [.lit (.string s)] =>
    if s.size ≤ 1000000 then
      match Lib.atoiAll s.data.toList with
      | .ok n => some (.tuple [.lit (.int .i64 n), .lit .nilIface], H, nx)
      | Lib.NumEnd.syntax => some (.tuple [.lit (.int .i64 0), .iface 68 (.ptr nx 0)], H.put nx (some (.cells [] 88 false)), nx + 1)
      | .range => some (.tuple [.lit (.int .i64 (Lib.atoiSat s.data.toList)), .iface 68 (.ptr nx 0)], H.put nx (some (.cells [] 88 false)), nx + 1)
    else none
  | _ => none
theorem err_post {σ : Sig} {H : Heap} {nx : Nat} {w : World} (g : Good σ H nx w) {n : Int} {s : ByteArray} {ev : Value} {e : Ending} {w' : World}
    (h : ∃ N, e = .returned (.tuple #[.int .i64 n, .iface 68 (.pointer (some ⟨N, 0, none⟩))]) ∧ w.heap.size ≤ N ∧ w'.heap[N]? = some (.cells #[.string ⟨#[65, 116, 111, 105]⟩, .string s, ev] 88 (0, 0)) ∧ RowKit.Below w.heap.size w w') :
    RetPost σ H nx w (.tuple [.lit (.int .i64 n), .iface 68 (.ptr nx 0)]) (H.put nx (some (.cells [] 88 false))) (nx + 1) e w' := by
  obtain ⟨N, rfl, hN, hc, hb⟩ := h
  have hs := fresh_step g hb (N := N) (o := .cells [] 88 false) (room := 3) hN
    ⟨#[.string ⟨#[65, 116, 111, 105]⟩, .string s, ev], (0, 0), hc, rfl, by simp [Loc.base_eq], by simp, fun _ i _ => by simp⟩
  refine ⟨_, _, rfl, ?_, hs.1, hs.2⟩
  simp only [VR, VRs]
  exact ⟨[.int .i64 n, .iface 68 (.pointer (some ⟨N, 0, none⟩))], rfl, _, _, rfl, rfl, _, _, rfl, ⟨_, rfl, _, Sig.upd_same _ _ _, by simp [Loc.base_eq]⟩, rfl⟩
theorem atoiY_ok {args : List AV} {H H' : Heap} {nx nx' : Nat} {v : AV} (h : atoiY args H nx = some (v, H', nx')) (σ : Sig) (w : World) (xs : List Value) (hx : VRs σ args xs) (g : Good σ H nx w) :
    (callFunc 16 xs.toArray).run Tryd.prog w = .ok (.enter 16 xs.toArray) w ∧ Calls Tryd.prog 16 xs.toArray w (RetPost σ H nx w v H' nx') := by
  unfold atoiY at h
  split at h
  · rename_i s
    simp only [VRs, VR] at hx
    obtain ⟨y, ys, rfl, rfl, rfl⟩ := hx
    refine ⟨?_, ?_⟩
    · obtain ⟨body, hb⟩ : ∃ b, Tryd.f16.body = some b := ⟨_, rfl⟩
      exact enter_of Tryd.func16 (by kernel_rfl) hb _ w
    · split at h
      · rename_i hs
        split at h
        · rename_i n hn
          simp only [Option.some.injEq, Prod.mk.injEq] at h
          obtain ⟨rfl, rfl, rfl⟩ := h
          refine (Tryd.strconv_Atoi_ok s (by omega) n hn w).mono fun e w' ⟨h1, h2⟩ => ?_
          have hb : RowKit.Below w.heap.size w w' := by
            rcases h2 with rfl | ⟨t, rfl⟩
            · exact RowKit.Below.refl _ _
            · exact Joins.below_bytesWorld _ _ _ _ (Nat.le_refl _)
          subst h1
          exact ⟨_, σ, rfl, (by simp only [VR, VRs]; exact ⟨[.int .i64 n, .nilIface], rfl, _, _, rfl, rfl, _, _, rfl, rfl, rfl⟩), Step.below hb, g.below hb⟩
        · rename_i hn
          simp only [Option.some.injEq, Prod.mk.injEq] at h
          obtain ⟨rfl, rfl, rfl⟩ := h
          obtain ⟨t, p, hc⟩ := err_cell g.glb (g := 0) rfl rfl
          exact (Tryd.strconv_Atoi_syntax s (by omega) hn _ w hc (.inr ⟨t, p, rfl⟩)).mono fun e w' h => err_post g h
        · rename_i hn
          simp only [Option.some.injEq, Prod.mk.injEq] at h
          obtain ⟨rfl, rfl, rfl⟩ := h
          obtain ⟨t, p, hc⟩ := err_cell g.glb (g := 1) rfl rfl
          exact (Tryd.strconv_Atoi_range s (by omega) hn _ w hc (.inr ⟨t, p, rfl⟩)).mono fun e w' h => err_post g h
      · cases h
  · cases h
end Seat
end CI
