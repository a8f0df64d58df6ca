/-
  DERIVED. GIVEN WITH THE SEED: THE CARDS: each row of YtbdlpeldglggkaaGreatDoorRows.lean that lists a variable, with what it lists TIED to the program's text (the seventh form; the later family's looks); each row that meets fmt, with fmt's text TOLD by the authors' own Lean function (tested against real Go, not proved from fmt's source: count such statements apart). THE CARD IS WHAT COUNTS. Prove the row's statement (the work); the ties are given (YtbdlpeldglggkaaGreatDoorTie.lean); close each card by the builder's one call (the guide's Derived/Test/ToyasCard.lean, 'card_holds'). Laid BY PROGRAM, IN A SANDBOX (cutbox-door.mjs). By AI agents, Wed Nov 11 2026. No macro, syntax, notation, axiom, sorry.
-/
import Derived.Test.YtbdlpeldglggkaaGreatDoorRows
import GoSem.ClaimSeven
namespace Go.Proofs.YtbdlpeldglggkaaGreatDoor
namespace Rows

/-- THE TIED CARD OF 'caltroplaw24.MeasureOrders'. -/
def measureOrdersCard : Claim7 := { stood := { row := measureOrdersRow, standIns := [], harness := (true, "62b44a901523a35e256199fd58b407f9dfbc3abb59fed63acbe7a8bb23dafc22"), looks := false }, kinds := [], alts := [], laidByText := true, laidKinds := [.data], laidTests := true, laidLooks := .later }
def MeasureOrdersCardSaid : Prop := Claim7.holds Tryz.pinned (.plain (OpenSpec.ofChange measureOrdersSpec)) measureOrdersCard

/-- THE TIED CARD OF 'caltroplaw24.MeasureTables'. -/
def measureTablesCard : Claim7 := { stood := { row := measureTablesRow, standIns := [], harness := (true, "62b44a901523a35e256199fd58b407f9dfbc3abb59fed63acbe7a8bb23dafc22"), looks := false }, kinds := [], alts := [], laidByText := true, laidKinds := [.data, .data, .data], laidTests := true, laidLooks := .later }
def MeasureTablesCardSaid : Prop := Claim7.holds Tryz.pinned (.plain (OpenSpec.ofChange measureTablesSpec)) measureTablesCard

/-- THE SECOND FORM's CARD OF 'caltroplaw24.MeasureOrders'. -/
def measureOrdersUptoCard : Claim7 := { stood := { row := measureOrdersUptoRow, standIns := [], harness := (true, "62b44a901523a35e256199fd58b407f9dfbc3abb59fed63acbe7a8bb23dafc22"), looks := false }, kinds := [], alts := [], laidByText := true, laidKinds := [.data], laidTests := true, laidLooks := .later }
def MeasureOrdersUptoCardSaid : Prop := Claim7.holds Tryz.pinned (.plain (OpenSpec.upto measureOrdersSpec)) measureOrdersUptoCard

/-- THE SECOND FORM's CARD OF 'caltroplaw24.MeasureTables'. -/
def measureTablesUptoCard : Claim7 := { stood := { row := measureTablesUptoRow, standIns := [], harness := (true, "62b44a901523a35e256199fd58b407f9dfbc3abb59fed63acbe7a8bb23dafc22"), looks := false }, kinds := [], alts := [], laidByText := true, laidKinds := [.data, .data, .data], laidTests := true, laidLooks := .later }
def MeasureTablesUptoCardSaid : Prop := Claim7.holds Tryz.pinned (.plain (OpenSpec.upto measureTablesSpec)) measureTablesUptoCard
end Rows
end Go.Proofs.YtbdlpeldglggkaaGreatDoor
