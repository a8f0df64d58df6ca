/- For any number the law RecordLong answers true: too long a text is no report, and none is made: the row, and the card that ties its listed variables to the program's text. -/
import Derived.Test.YtanfejbkoheblaaGreatDoorStWo3
import Derived.Test.YtanfejbkoheblaaGreatDoorStZp4
import Derived.Test.YtanfejbkoheblaaGreatDoorTie
import Derived.Test.YtanfejbkoheblaaGreatDoorCards
import Derived.WalkKit
import Derived.ProofKit
import Derived.OpenShut
import Derived.ShutString
import Derived.Below
import Derived.Carry
import Derived.LaidMore
import Derived.Lay
import Derived.SevenTiedAt
import Derived.Stop.Joined
import Derived.Test.YtanfejbkoheblaaGreatDoorStWg3
import Derived.Test.YtanfejbkoheblaaGreatDoorStWj3
namespace Go.Proofs.YtanfejbkoheblaaGreatDoor.recordLong
open Go.ChangeShapes Go.WideShapes Go.ChangeAt Go.RowKit
open Go.ChangeMaps (open_string shut_string)
set_option linter.unusedVariables false
theorem proved : Rows.RecordLongCardSaid :=
  Claim7.holds_tied_plain_at .later [] [.data, .data, .data, .data, .sentinel, .sentinel, .pinned] true (true, "0033701445e4860322363af03f6b293d17675cc11881eb497bce1c219518f811") true over (fun _ h => by cases h) (by kernel_rfl) (fun _ h => by cases h) recordLong_row_tie rfl ⟨rfl, rfl⟩ g_main rfl
    (fun f fn hf hfn => by
      obtain rfl : f = 12 := Option.some.inj ((show Tryz.prog.funcNamed "caltrop/caltroplaw22.RecordLong" = some 12 by kernel_rfl).symm.trans hf) |>.symm
      obtain rfl : fn = Tryz.f12 := (Option.some.inj (Tryz.func12.symm.trans hfn)).symm
      exact ⟨g_looks, fun j t ht => by
        rw [Tryz.params12] at ht
        have hm : t ∈ [5] := by simpa using Array.mem_of_getElem? ht
        have hall : ([5].all fun u => !Tryz.prog.wantsStandIn u) = true := by kernel_rfl
        exact (show Tryz.prog.wantsStandIn t = false by simpa using List.all_eq_true.1 hall t hm)⟩)
    (goesBy_none g_goes _ rfl)
#print axioms proved
end Go.Proofs.YtanfejbkoheblaaGreatDoor.recordLong
