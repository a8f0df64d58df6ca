/- For any line and any kind the law RecordReads answers true, and leaves what was there as it was: the row, and the card that ties its listed variables to the program's text. -/
import Derived.Test.YtanfejbkoheblaaGreatDoorSrWo2
import Derived.Test.YtanfejbkoheblaaGreatDoorSrZp4
import Derived.Test.YtanfejbkoheblaaGreatDoorTie
import Derived.Test.YtanfejbkoheblaaGreatDoorCards
import Derived.WalkKit
import Derived.ProofKit
import Derived.OpenShut
import Derived.ShutString
import Derived.Below
import Derived.Carry
import Derived.LaidMore
import Derived.Lay
import Derived.SevenTiedAt
import Derived.Stop.Joined
import Derived.Test.YtanfejbkoheblaaGreatDoorSrWg2
import Derived.Test.YtanfejbkoheblaaGreatDoorSrWj2
namespace Go.Proofs.YtanfejbkoheblaaGreatDoor.recordReads
open Go.ChangeShapes Go.WideShapes Go.ChangeAt Go.RowKit
open Go.ChangeMaps (open_string shut_string)
set_option linter.unusedVariables false
theorem proved : Rows.RecordReadsCardSaid :=
  Claim7.holds_tied_plain_at .later [] [.data, .data, .data, .data, .sentinel, .sentinel, .pinned] true (true, "0033701445e4860322363af03f6b293d17675cc11881eb497bce1c219518f811") true over (fun _ h => by cases h) (by kernel_rfl) (fun _ h => by cases h) recordReads_row_tie rfl ⟨rfl, rfl⟩ g_main rfl
    (fun f fn hf hfn => by
      obtain rfl : f = 8 := Option.some.inj ((show Tryz.prog.funcNamed "caltrop/caltroplaw22.RecordReads" = some 8 by kernel_rfl).symm.trans hf) |>.symm
      obtain rfl : fn = Tryz.f8 := (Option.some.inj (Tryz.func8.symm.trans hfn)).symm
      exact ⟨g_looks, fun j t ht => by
        rw [Tryz.params8] at ht
        have hm : t ∈ [9, 3] := by simpa using Array.mem_of_getElem? ht
        have hall : ([9, 3].all fun u => !Tryz.prog.wantsStandIn u) = true := by kernel_rfl
        exact (show Tryz.prog.wantsStandIn t = false by simpa using List.all_eq_true.1 hall t hm)⟩)
    (goesBy_none g_goes _ rfl)
#print axioms proved
end Go.Proofs.YtanfejbkoheblaaGreatDoor.recordReads
