/- strings.Repeat and strconv.Itoa by the Shelf's contracts. -/
import Derived.Test.YtbdlpeldglggkaaGreatDoorShelf
import Derived.Test.YtbdlpeldglggkaaGreatDoorCvt
import Derived.Test.YtbdlpeldglggkaaGreatDoorChecked
import Derived.Lib.AppendIntMem
import Derived.Lib.SmallJoins
import Derived.KernelRfl
set_option linter.unusedVariables false
set_option maxRecDepth 100000
namespace CI
open Go Go.Proofs
namespace Seat
def repC : List Value → Option Value
  | [.string s, .int .i64 n] => if 0 ≤ n ∧ n ≤ 1000000 ∧ s.size * n.toNat ≤ 1000000 then some (.string ⟨(Lib.repeatL s.data.toList n.toNat).toArray⟩) else none
  | _ => none
theorem con29 : ConFact Tryz.prog 29 repC := by
  intro xs v h w hg
  unfold repC at h
  split at h
  · rename_i s n
    split at h
    · rename_i hn
      injection h with h; subst h
      obtain ⟨u, rfl⟩ : ∃ u : Nat, n = u := ⟨n.toNat, by omega⟩
      rw [Int.toNat_natCast] at hn ⊢
      refine ⟨?_, ?_⟩
      · obtain ⟨body, hb⟩ : ∃ b, Tryz.f29.body = some b := ⟨_, rfl⟩
        exact enter_of Tryz.func29 (by kernel_rfl) hb _ w
      · exact Tryz.strings_Repeat s u w (by omega) (by omega)
    · cases h
  · cases h
theorem tab10 {w : World} (hg : Glb w) : Lib.TabIs Tryz.prog w "internal/strconv.uint64pow10" .u64 Lib.pow10Tab := by
  obtain ⟨cs, t, fz, e, hq⟩ := hg 1 _ (GL_of (g := 1) (cs := gl1) rfl)
  have hq' : cs.toList = gl1 := hq
  have hn : Tryz.prog.globalNamed "internal/strconv.uint64pow10" = some 1 := by kernel_rfl
  unfold Lib.TabIs World.var?
  rw [hn]
  simp only [Option.bind_some, e]
  have h1 : gl1 = Lib.pow10Tab.map fun z => Value.int .u64 z := by kernel_rfl
  rw [← h1, ← hq']
def itoaC : List Value → Option Value
  | [.int .i64 n] => if -9223372036854775808 ≤ n ∧ n ≤ 9223372036854775807 then some (.string ⟨(Lib.itoa n).toArray⟩) else none
  | _ => none
theorem con32 : ConFact Tryz.prog 32 itoaC := by
  intro xs v h w hg
  unfold itoaC at h
  split at h
  · rename_i n
    split at h
    · rename_i hn
      injection h with h; subst h
      refine ⟨?_, ?_⟩
      · obtain ⟨body, hb⟩ : ∃ b, Tryz.f32.body = some b := ⟨_, rfl⟩
        exact enter_of Tryz.func32 (by kernel_rfl) hb _ w
      · refine (Tryz.strconv_Itoa n hn.1 hn.2 w (tab10 hg)).mono fun e w' ⟨h1, k, os, h2⟩ => ⟨h1, ?_⟩
        subst h2
        exact Lib.below_grow _ _ (Nat.le_refl _) _ _
    · cases h
  · cases h
end Seat
end CI
