/- strings.Repeat by the Shelf's contract. -/
import Derived.Test.YtdkicjlbfhmfkaaGreatDoorShelf
import Derived.Test.YtdkicjlbfhmfkaaGreatDoorCvt
import Derived.Test.YtdkicjlbfhmfkaaGreatDoorChecked
import Derived.KernelRfl
set_option linter.unusedVariables false
set_option maxRecDepth 100000
namespace CI
open Go Go.Proofs
namespace Seat
def repC : List Value → Option Value
  | [.string s, .int .i64 n] => if 0 ≤ n ∧ n ≤ 4000000 ∧ s.size * n.toNat ≤ 4000000 then some (.string ⟨(Lib.repeatL s.data.toList n.toNat).toArray⟩) else none
  | _ => none
theorem con75 : ConFact Tryz.prog 75 repC := by
  intro xs v h w hg
  unfold repC at h
  split at h
  · rename_i s n
    split at h
    · rename_i hn
      injection h with h; subst h
      obtain ⟨u, rfl⟩ : ∃ u : Nat, n = u := ⟨n.toNat, by omega⟩
      rw [Int.toNat_natCast] at hn ⊢
      refine ⟨?_, ?_⟩
      · obtain ⟨body, hb⟩ : ∃ b, Tryz.f75.body = some b := ⟨_, rfl⟩
        exact enter_of Tryz.func75 (by kernel_rfl) hb _ w
      · exact Tryz.strings_Repeat s u w (by omega) (by omega)
    · cases h
  · cases h
end Seat
end CI
