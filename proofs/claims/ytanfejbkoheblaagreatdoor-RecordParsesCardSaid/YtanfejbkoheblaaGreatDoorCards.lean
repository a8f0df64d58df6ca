/-
  DERIVED. GIVEN WITH THE SEED: THE CARDS: each row of YtanfejbkoheblaaGreatDoorRows.lean that lists a variable, with what it lists TIED to the program's text (the seventh form; the later family's looks); each row that meets fmt, with fmt's text TOLD by the authors' own Lean function (tested against real Go, not proved from fmt's source: count such statements apart). THE CARD IS WHAT COUNTS. Prove the row's statement (the work); the ties are given (YtanfejbkoheblaaGreatDoorTie.lean); close each card by the builder's one call (the guide's Derived/Test/ToyasCard.lean, 'card_holds'). Laid BY PROGRAM, IN A SANDBOX (cutbox-door.mjs). By AI agents, Wed Nov 11 2026. No macro, syntax, notation, axiom, sorry.
-/
import Derived.Test.YtanfejbkoheblaaGreatDoorRows
import GoSem.ClaimSeven
namespace Go.Proofs.YtanfejbkoheblaaGreatDoor
namespace Rows

/-- THE TIED CARD OF 'caltroplaw17.DegreeNames'. -/
def degreeNamesCard : Claim7 := { stood := { row := degreeNamesRow, standIns := [], harness := (true, "0033701445e4860322363af03f6b293d17675cc11881eb497bce1c219518f811"), looks := true }, kinds := [], alts := [], laidByText := true, laidKinds := [.data], laidTests := true, laidLooks := .later }
def DegreeNamesCardSaid : Prop := Claim7.holds Tryz.pinned (.plain (OpenSpec.ofChange degreeNamesSpec)) degreeNamesCard

/-- THE TIED CARD OF 'caltroplaw21.VerdictErrors'. -/
def verdictErrorsCard : Claim7 := { stood := { row := verdictErrorsRow, standIns := [], harness := (true, "0033701445e4860322363af03f6b293d17675cc11881eb497bce1c219518f811"), looks := true }, kinds := [], alts := [], laidByText := true, laidKinds := [.data, .data, .data], laidTests := true, laidLooks := .later }
def VerdictErrorsCardSaid : Prop := Claim7.holds Tryz.pinned (.plain (OpenSpec.ofChange verdictErrorsSpec)) verdictErrorsCard

/-- THE TIED CARD OF 'caltroplaw23.FamilyErrors'. -/
def familyErrorsCard : Claim7 := { stood := { row := familyErrorsRow, standIns := [], harness := (true, "0033701445e4860322363af03f6b293d17675cc11881eb497bce1c219518f811"), looks := true }, kinds := [], alts := [], laidByText := true, laidKinds := [.data, .data, .data], laidTests := true, laidLooks := .later }
def FamilyErrorsCardSaid : Prop := Claim7.holds Tryz.pinned (.plain (OpenSpec.ofChange familyErrorsSpec)) familyErrorsCard

/-- THE TIED CARD OF 'caltroplaw23.FamilyHolds'. -/
def familyHoldsCard : Claim7 := { stood := { row := familyHoldsRow, standIns := [], harness := (true, "0033701445e4860322363af03f6b293d17675cc11881eb497bce1c219518f811"), looks := true }, kinds := [], alts := [], laidByText := true, laidKinds := [.data, .data, .data], laidTests := true, laidLooks := .later }
def FamilyHoldsCardSaid : Prop := Claim7.holds Tryz.pinned (.plain (OpenSpec.ofChange familyHoldsSpec)) familyHoldsCard

/-- THE TIED CARD OF 'caltroplaw22.RecordWrites'. -/
def recordWritesCard : Claim7 := { stood := { row := recordWritesRow, standIns := [], harness := (true, "0033701445e4860322363af03f6b293d17675cc11881eb497bce1c219518f811"), looks := true }, kinds := [], alts := [], laidByText := true, laidKinds := [.data, .data, .data, .data, .sentinel, .sentinel, .pinned], laidTests := true, laidLooks := .later }
def RecordWritesCardSaid : Prop := Claim7.holds Tryz.pinned (.plain (OpenSpec.ofChange recordWritesSpec)) recordWritesCard

/-- THE TIED CARD OF 'caltroplaw22.RecordReads'. -/
def recordReadsCard : Claim7 := { stood := { row := recordReadsRow, standIns := [], harness := (true, "0033701445e4860322363af03f6b293d17675cc11881eb497bce1c219518f811"), looks := true }, kinds := [], alts := [], laidByText := true, laidKinds := [.data, .data, .data, .data, .sentinel, .sentinel, .pinned], laidTests := true, laidLooks := .later }
def RecordReadsCardSaid : Prop := Claim7.holds Tryz.pinned (.plain (OpenSpec.ofChange recordReadsSpec)) recordReadsCard

/-- THE TIED CARD OF 'caltroplaw32.BatchReads'. -/
def batchReadsCard : Claim7 := { stood := { row := batchReadsRow, standIns := [], harness := (true, "0033701445e4860322363af03f6b293d17675cc11881eb497bce1c219518f811"), looks := true }, kinds := [], alts := [], laidByText := true, laidKinds := [.data, .data, .data, .data, .sentinel, .sentinel, .pinned], laidTests := true, laidLooks := .later }
def BatchReadsCardSaid : Prop := Claim7.holds Tryz.pinned (.plain (OpenSpec.ofChange batchReadsSpec)) batchReadsCard

/-- THE TIED CARD OF 'caltroplaw22.RecordReports'. -/
def recordReportsCard : Claim7 := { stood := { row := recordReportsRow, standIns := [], harness := (true, "0033701445e4860322363af03f6b293d17675cc11881eb497bce1c219518f811"), looks := true }, kinds := [], alts := [], laidByText := true, laidKinds := [.data, .data, .data, .data, .sentinel, .sentinel, .pinned], laidTests := true, laidLooks := .later }
def RecordReportsCardSaid : Prop := Claim7.holds Tryz.pinned (.plain (OpenSpec.ofChange recordReportsSpec)) recordReportsCard

/-- THE TIED CARD OF 'caltroplaw22.RecordParses'. -/
def recordParsesCard : Claim7 := { stood := { row := recordParsesRow, standIns := [], harness := (true, "0033701445e4860322363af03f6b293d17675cc11881eb497bce1c219518f811"), looks := true }, kinds := [], alts := [], laidByText := true, laidKinds := [.data, .data, .data, .data, .sentinel, .sentinel, .pinned], laidTests := true, laidLooks := .later }
def RecordParsesCardSaid : Prop := Claim7.holds Tryz.pinned (.plain (OpenSpec.ofChange recordParsesSpec)) recordParsesCard

/-- THE TIED CARD OF 'caltroplaw22.RecordLong'. -/
def recordLongCard : Claim7 := { stood := { row := recordLongRow, standIns := [], harness := (true, "0033701445e4860322363af03f6b293d17675cc11881eb497bce1c219518f811"), looks := true }, kinds := [], alts := [], laidByText := true, laidKinds := [.data, .data, .data, .data, .sentinel, .sentinel, .pinned], laidTests := true, laidLooks := .later }
def RecordLongCardSaid : Prop := Claim7.holds Tryz.pinned (.plain (OpenSpec.ofChange recordLongSpec)) recordLongCard

/-- THE TIED CARD OF 'caltroplaw32.BatchWrites'. -/
def batchWritesCard : Claim7 := { stood := { row := batchWritesRow, standIns := [], harness := (true, "0033701445e4860322363af03f6b293d17675cc11881eb497bce1c219518f811"), looks := true }, kinds := [], alts := [], laidByText := true, laidKinds := [.data, .data, .data, .data, .sentinel, .sentinel, .pinned], laidTests := true, laidLooks := .later }
def BatchWritesCardSaid : Prop := Claim7.holds Tryz.pinned (.plain (OpenSpec.ofChange batchWritesSpec)) batchWritesCard

/-- THE SECOND FORM's CARD OF 'caltroplaw17.DegreeNames'. -/
def degreeNamesUptoCard : Claim7 := { stood := { row := degreeNamesUptoRow, standIns := [], harness := (true, "0033701445e4860322363af03f6b293d17675cc11881eb497bce1c219518f811"), looks := true }, kinds := [], alts := [], laidByText := true, laidKinds := [.data], laidTests := true, laidLooks := .later }
def DegreeNamesUptoCardSaid : Prop := Claim7.holds Tryz.pinned (.plain (OpenSpec.upto degreeNamesSpec)) degreeNamesUptoCard

/-- THE SECOND FORM's CARD OF 'caltroplaw21.VerdictErrors'. -/
def verdictErrorsUptoCard : Claim7 := { stood := { row := verdictErrorsUptoRow, standIns := [], harness := (true, "0033701445e4860322363af03f6b293d17675cc11881eb497bce1c219518f811"), looks := true }, kinds := [], alts := [], laidByText := true, laidKinds := [.data, .data, .data], laidTests := true, laidLooks := .later }
def VerdictErrorsUptoCardSaid : Prop := Claim7.holds Tryz.pinned (.plain (OpenSpec.upto verdictErrorsSpec)) verdictErrorsUptoCard

/-- THE SECOND FORM's CARD OF 'caltroplaw23.FamilyErrors'. -/
def familyErrorsUptoCard : Claim7 := { stood := { row := familyErrorsUptoRow, standIns := [], harness := (true, "0033701445e4860322363af03f6b293d17675cc11881eb497bce1c219518f811"), looks := true }, kinds := [], alts := [], laidByText := true, laidKinds := [.data, .data, .data], laidTests := true, laidLooks := .later }
def FamilyErrorsUptoCardSaid : Prop := Claim7.holds Tryz.pinned (.plain (OpenSpec.upto familyErrorsSpec)) familyErrorsUptoCard

/-- THE SECOND FORM's CARD OF 'caltroplaw23.FamilyHolds'. -/
def familyHoldsUptoCard : Claim7 := { stood := { row := familyHoldsUptoRow, standIns := [], harness := (true, "0033701445e4860322363af03f6b293d17675cc11881eb497bce1c219518f811"), looks := true }, kinds := [], alts := [], laidByText := true, laidKinds := [.data, .data, .data], laidTests := true, laidLooks := .later }
def FamilyHoldsUptoCardSaid : Prop := Claim7.holds Tryz.pinned (.plain (OpenSpec.upto familyHoldsSpec)) familyHoldsUptoCard

/-- THE SECOND FORM's CARD OF 'caltroplaw22.RecordWrites'. -/
def recordWritesUptoCard : Claim7 := { stood := { row := recordWritesUptoRow, standIns := [], harness := (true, "0033701445e4860322363af03f6b293d17675cc11881eb497bce1c219518f811"), looks := true }, kinds := [], alts := [], laidByText := true, laidKinds := [.data, .data, .data, .data, .sentinel, .sentinel, .pinned], laidTests := true, laidLooks := .later }
def RecordWritesUptoCardSaid : Prop := Claim7.holds Tryz.pinned (.plain (OpenSpec.upto recordWritesSpec)) recordWritesUptoCard

/-- THE SECOND FORM's CARD OF 'caltroplaw22.RecordReads'. -/
def recordReadsUptoCard : Claim7 := { stood := { row := recordReadsUptoRow, standIns := [], harness := (true, "0033701445e4860322363af03f6b293d17675cc11881eb497bce1c219518f811"), looks := true }, kinds := [], alts := [], laidByText := true, laidKinds := [.data, .data, .data, .data, .sentinel, .sentinel, .pinned], laidTests := true, laidLooks := .later }
def RecordReadsUptoCardSaid : Prop := Claim7.holds Tryz.pinned (.plain (OpenSpec.upto recordReadsSpec)) recordReadsUptoCard

/-- THE SECOND FORM's CARD OF 'caltroplaw32.BatchReads'. -/
def batchReadsUptoCard : Claim7 := { stood := { row := batchReadsUptoRow, standIns := [], harness := (true, "0033701445e4860322363af03f6b293d17675cc11881eb497bce1c219518f811"), looks := true }, kinds := [], alts := [], laidByText := true, laidKinds := [.data, .data, .data, .data, .sentinel, .sentinel, .pinned], laidTests := true, laidLooks := .later }
def BatchReadsUptoCardSaid : Prop := Claim7.holds Tryz.pinned (.plain (OpenSpec.upto batchReadsSpec)) batchReadsUptoCard

/-- THE SECOND FORM's CARD OF 'caltroplaw22.RecordReports'. -/
def recordReportsUptoCard : Claim7 := { stood := { row := recordReportsUptoRow, standIns := [], harness := (true, "0033701445e4860322363af03f6b293d17675cc11881eb497bce1c219518f811"), looks := true }, kinds := [], alts := [], laidByText := true, laidKinds := [.data, .data, .data, .data, .sentinel, .sentinel, .pinned], laidTests := true, laidLooks := .later }
def RecordReportsUptoCardSaid : Prop := Claim7.holds Tryz.pinned (.plain (OpenSpec.upto recordReportsSpec)) recordReportsUptoCard

/-- THE SECOND FORM's CARD OF 'caltroplaw22.RecordParses'. -/
def recordParsesUptoCard : Claim7 := { stood := { row := recordParsesUptoRow, standIns := [], harness := (true, "0033701445e4860322363af03f6b293d17675cc11881eb497bce1c219518f811"), looks := true }, kinds := [], alts := [], laidByText := true, laidKinds := [.data, .data, .data, .data, .sentinel, .sentinel, .pinned], laidTests := true, laidLooks := .later }
def RecordParsesUptoCardSaid : Prop := Claim7.holds Tryz.pinned (.plain (OpenSpec.upto recordParsesSpec)) recordParsesUptoCard

/-- THE SECOND FORM's CARD OF 'caltroplaw22.RecordLong'. -/
def recordLongUptoCard : Claim7 := { stood := { row := recordLongUptoRow, standIns := [], harness := (true, "0033701445e4860322363af03f6b293d17675cc11881eb497bce1c219518f811"), looks := true }, kinds := [], alts := [], laidByText := true, laidKinds := [.data, .data, .data, .data, .sentinel, .sentinel, .pinned], laidTests := true, laidLooks := .later }
def RecordLongUptoCardSaid : Prop := Claim7.holds Tryz.pinned (.plain (OpenSpec.upto recordLongSpec)) recordLongUptoCard

/-- THE SECOND FORM's CARD OF 'caltroplaw32.BatchWrites'. -/
def batchWritesUptoCard : Claim7 := { stood := { row := batchWritesUptoRow, standIns := [], harness := (true, "0033701445e4860322363af03f6b293d17675cc11881eb497bce1c219518f811"), looks := true }, kinds := [], alts := [], laidByText := true, laidKinds := [.data, .data, .data, .data, .sentinel, .sentinel, .pinned], laidTests := true, laidLooks := .later }
def BatchWritesUptoCardSaid : Prop := Claim7.holds Tryz.pinned (.plain (OpenSpec.upto batchWritesSpec)) batchWritesUptoCard
end Rows
end Go.Proofs.YtanfejbkoheblaaGreatDoor
