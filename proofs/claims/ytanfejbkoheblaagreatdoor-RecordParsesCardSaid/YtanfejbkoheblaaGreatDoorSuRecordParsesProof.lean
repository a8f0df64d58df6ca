/- For any text the law RecordParses answers true: it is a report just if it is that of its entries, else the first line that cannot stand there is told: the row, and the card that ties its listed variables to the program's text. -/
import Derived.Test.YtanfejbkoheblaaGreatDoorSuWo4
import Derived.Test.YtanfejbkoheblaaGreatDoorSuZp4
import Derived.Test.YtanfejbkoheblaaGreatDoorTie
import Derived.Test.YtanfejbkoheblaaGreatDoorCards
import Derived.WalkKit
import Derived.ProofKit
import Derived.OpenShut
import Derived.ShutString
import Derived.Below
import Derived.Carry
import Derived.LaidMore
import Derived.Lay
import Derived.SevenTiedAt
import Derived.Stop.Joined
import Derived.Test.YtanfejbkoheblaaGreatDoorSuWg4
import Derived.Test.YtanfejbkoheblaaGreatDoorSuWj4
namespace Go.Proofs.YtanfejbkoheblaaGreatDoor.recordParses
open Go.ChangeShapes Go.WideShapes Go.ChangeAt Go.RowKit
open Go.ChangeMaps (open_string shut_string)
set_option linter.unusedVariables false
theorem proved : Rows.RecordParsesCardSaid :=
  Claim7.holds_tied_plain_at .later [] [.data, .data, .data, .data, .sentinel, .sentinel, .pinned] true (true, "0033701445e4860322363af03f6b293d17675cc11881eb497bce1c219518f811") true over (fun _ h => by cases h) (by kernel_rfl) (fun _ h => by cases h) recordParses_row_tie rfl ⟨rfl, rfl⟩ g_main rfl
    (fun f fn hf hfn => by
      obtain rfl : f = 11 := Option.some.inj ((show Tryz.prog.funcNamed "caltrop/caltroplaw22.RecordParses" = some 11 by kernel_rfl).symm.trans hf) |>.symm
      obtain rfl : fn = Tryz.f11 := (Option.some.inj (Tryz.func11.symm.trans hfn)).symm
      exact ⟨g_looks, fun j t ht => by
        rw [Tryz.params11] at ht
        have hm : t ∈ [9] := by simpa using Array.mem_of_getElem? ht
        have hall : ([9].all fun u => !Tryz.prog.wantsStandIn u) = true := by kernel_rfl
        exact (show Tryz.prog.wantsStandIn t = false by simpa using List.all_eq_true.1 hall t hm)⟩)
    (goesBy_none g_goes _ rfl)
#print axioms proved
end Go.Proofs.YtanfejbkoheblaaGreatDoor.recordParses
