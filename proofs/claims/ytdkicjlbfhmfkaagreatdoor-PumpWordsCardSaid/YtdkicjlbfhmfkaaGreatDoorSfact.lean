/- slices.Sorted(maps.Keys(m)) at this seat: the contract as the interpreter wants it. -/
import Derived.Test.YtdkicjlbfhmfkaaGreatDoorSorted
import Derived.Test.YtdkicjlbfhmfkaaGreatDoorCsr
import Derived.Test.YtdkicjlbfhmfkaaGreatDoorChecked
import Derived.KernelRfl
set_option linter.unusedVariables false
set_option maxRecDepth 100000
namespace CI
open Go Go.Proofs Go.RowKit Go.Maps Go.Sort Go.Shelf
namespace Seat
theorem sortsA (m : Nat) : AnyZI.SortsIn Tryz.prog Tryz.sortedA_ren Fence.wide m :=
  ⟨fun blk off cap ss W hH hblk hsz => callsIn_wide.2 (AnyM.slices_Sort_int Tryz.sortA blk off cap ss W hH hblk hsz),
   fun p cap W => callsIn_wide.2 (AnyM.slices_Sort_int_none Tryz.sortA p cap W)⟩
set_option maxHeartbeats 1000000 in
theorem sortFact : SortFact Tryz.prog 3 286 308 where
  under := Tryz.underlying3
  enter := enters_of Tryz.func286 (by kernel_rfl) rfl
  keys := fun c b nn D0 R w hc hm hown hsz => by
    have hseq : SeqGives Fence.wide 2 Tryz.prog 308 #[.pointer (some ⟨c, 0, none⟩)] encZ (fun ss => ss.Perm (intKeys D0)) (Maps.size D0) w :=
      AnyZI.keys_gives (ρ := Tryz.keysA_ren) { Tryz.keysA with } Fence.wide _ trivial rfl (by omega) c b nn D0 w hc hm hown
    exact (callsIn_wide (n := 5)).1 (AnyZI.sorted_in Tryz.sortedA Fence.wide 5 trivial trivial trivial trivial rfl (by omega) (sortsA _) (enters_of Tryz.func126 (by kernel_rfl) rfl) 308 #[.pointer (some ⟨c, 0, none⟩)] trivial (enters_of Tryz.func308 (by kernel_rfl) rfl) _ _ (by have : maxLen = 9223372036854775807 := rfl; omega) (by omega) w hseq)
  nokeys := fun c w hc hm => by
    have hseq : SeqGives Fence.wide 2 Tryz.prog 308 #[.pointer (some ⟨c, 0, none⟩)] encZ (fun ss : List Int => ss = []) 0 w :=
      AnyZI.keys_gives_nil (ρ := Tryz.keysA_ren) { Tryz.keysA with } Fence.wide _ trivial rfl c w hc hm
    refine Calls.mono ((callsIn_wide (n := 5)).1 (AnyZI.sorted_in Tryz.sortedA Fence.wide 5 trivial trivial trivial trivial rfl (by omega) (sortsA _) (enters_of Tryz.func126 (by kernel_rfl) rfl) 308 #[.pointer (some ⟨c, 0, none⟩)] trivial (enters_of Tryz.func308 (by kernel_rfl) rfl) _ 0 (Nat.zero_le _) (by omega) w hseq)) ?_
    rintro e w' ⟨v, ss, rfl, rfl, _, hnil, hb⟩
    exact ⟨by rw [hnil.2 rfl], hb⟩
noncomputable def sortA (args : List AV) (H : Heap) (nx : Nat) : Option (AV × Heap × Nat) := sortY 3 308 args H nx
theorem sortA_ok {args : List AV} {H H' : Heap} {nx nx' : Nat} {v : AV} (h : sortA args H nx = some (v, H', nx')) (σ : Sig) (w : World) (xs : List Value) (hx : VRs σ args xs) (gd : Good σ H nx w) :
    (callFunc 286 xs.toArray).run Tryz.prog w = .ok (.enter 286 xs.toArray) w ∧ Calls Tryz.prog 286 xs.toArray w (RetPost σ H nx w v H' nx') := sortY_ok sortFact h σ w xs hx gd
end Seat
end CI
