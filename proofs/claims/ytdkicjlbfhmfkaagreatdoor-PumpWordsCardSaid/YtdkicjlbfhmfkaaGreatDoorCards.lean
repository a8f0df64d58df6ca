/-
  DERIVED. GIVEN WITH THE SEED: THE CARDS: each row of YtdkicjlbfhmfkaaGreatDoorRows.lean that lists a variable, with what it lists TIED to the program's text (the seventh form; the later family's looks); each row that meets fmt, with fmt's text TOLD by the authors' own Lean function (tested against real Go, not proved from fmt's source: count such statements apart). THE CARD IS WHAT COUNTS. Prove the row's statement (the work); the ties are given (YtdkicjlbfhmfkaaGreatDoorTie.lean); close each card by the builder's one call (the guide's Derived/Test/ToyasCard.lean, 'card_holds'). Laid BY PROGRAM, IN A SANDBOX (cutbox-door.mjs). By AI agents, Wed Nov 11 2026. No macro, syntax, notation, axiom, sorry.
-/
import Derived.Test.YtdkicjlbfhmfkaaGreatDoorRows
import GoSem.ClaimSeven
namespace Go.Proofs.YtdkicjlbfhmfkaaGreatDoor
namespace Rows

/-- THE TIED CARD OF 'caltroplaw28.SimpleNone'. -/
def simpleNoneCard : Claim7 := { stood := { row := simpleNoneRow, standIns := [], harness := (true, "a46bc245001fe99c5f0f058b03ef9abe79c78547e6cf95a54516c1854447a0dd"), looks := false }, kinds := [], alts := [], laidByText := true, laidKinds := [.data], laidTests := true, laidLooks := .later }
def SimpleNoneCardSaid : Prop := Claim7.holds Tryz.pinned (.plain (OpenSpec.ofChange simpleNoneSpec)) simpleNoneCard

/-- THE TIED CARD OF 'caltroplaw18.VectorNone'. -/
def vectorNoneCard : Claim7 := { stood := { row := vectorNoneRow, standIns := [], harness := (true, "a46bc245001fe99c5f0f058b03ef9abe79c78547e6cf95a54516c1854447a0dd"), looks := false }, kinds := [], alts := [], laidByText := true, laidKinds := [.data, .data, .data], laidTests := true, laidLooks := .later }
def VectorNoneCardSaid : Prop := Claim7.holds Tryz.pinned (.plain (OpenSpec.ofChange vectorNoneSpec)) vectorNoneCard

/-- THE TIED CARD OF 'caltroplaw16.CubeNone'. -/
def cubeNoneCard : Claim7 := { stood := { row := cubeNoneRow, standIns := [], harness := (true, "a46bc245001fe99c5f0f058b03ef9abe79c78547e6cf95a54516c1854447a0dd"), looks := false }, kinds := [], alts := [], laidByText := true, laidKinds := [.data], laidTests := true, laidLooks := .later }
def CubeNoneCardSaid : Prop := Claim7.holds Tryz.pinned (.plain (OpenSpec.ofChange cubeNoneSpec)) cubeNoneCard

/-- THE TIED CARD OF 'caltroplaw17.DegreeNames'. -/
def degreeNamesCard : Claim7 := { stood := { row := degreeNamesRow, standIns := [], harness := (true, "a46bc245001fe99c5f0f058b03ef9abe79c78547e6cf95a54516c1854447a0dd"), looks := false }, kinds := [], alts := [], laidByText := true, laidKinds := [.data], laidTests := true, laidLooks := .later }
def DegreeNamesCardSaid : Prop := Claim7.holds Tryz.pinned (.plain (OpenSpec.ofChange degreeNamesSpec)) degreeNamesCard

/-- THE TIED CARD OF 'caltroplaw19.PumpWords'. -/
def pumpWordsCard : Claim7 := { stood := { row := pumpWordsRow, standIns := [], harness := (true, "a46bc245001fe99c5f0f058b03ef9abe79c78547e6cf95a54516c1854447a0dd"), looks := false }, kinds := [], alts := [], laidByText := true, laidKinds := [.data], laidTests := true, laidLooks := .later }
def PumpWordsCardSaid : Prop := Claim7.holds Tryz.pinned (.plain (OpenSpec.ofChange pumpWordsSpec)) pumpWordsCard

/-- THE TIED CARD OF 'caltroplaw19.PumpNone'. -/
def pumpNoneCard : Claim7 := { stood := { row := pumpNoneRow, standIns := [], harness := (true, "a46bc245001fe99c5f0f058b03ef9abe79c78547e6cf95a54516c1854447a0dd"), looks := false }, kinds := [], alts := [], laidByText := true, laidKinds := [.data], laidTests := true, laidLooks := .later }
def PumpNoneCardSaid : Prop := Claim7.holds Tryz.pinned (.plain (OpenSpec.ofChange pumpNoneSpec)) pumpNoneCard

/-- THE SECOND FORM's CARD OF 'caltroplaw28.SimpleNone'. -/
def simpleNoneUptoCard : Claim7 := { stood := { row := simpleNoneUptoRow, standIns := [], harness := (true, "a46bc245001fe99c5f0f058b03ef9abe79c78547e6cf95a54516c1854447a0dd"), looks := false }, kinds := [], alts := [], laidByText := true, laidKinds := [.data], laidTests := true, laidLooks := .later }
def SimpleNoneUptoCardSaid : Prop := Claim7.holds Tryz.pinned (.plain (OpenSpec.upto simpleNoneSpec)) simpleNoneUptoCard

/-- THE SECOND FORM's CARD OF 'caltroplaw18.VectorNone'. -/
def vectorNoneUptoCard : Claim7 := { stood := { row := vectorNoneUptoRow, standIns := [], harness := (true, "a46bc245001fe99c5f0f058b03ef9abe79c78547e6cf95a54516c1854447a0dd"), looks := false }, kinds := [], alts := [], laidByText := true, laidKinds := [.data, .data, .data], laidTests := true, laidLooks := .later }
def VectorNoneUptoCardSaid : Prop := Claim7.holds Tryz.pinned (.plain (OpenSpec.upto vectorNoneSpec)) vectorNoneUptoCard

/-- THE SECOND FORM's CARD OF 'caltroplaw16.CubeNone'. -/
def cubeNoneUptoCard : Claim7 := { stood := { row := cubeNoneUptoRow, standIns := [], harness := (true, "a46bc245001fe99c5f0f058b03ef9abe79c78547e6cf95a54516c1854447a0dd"), looks := false }, kinds := [], alts := [], laidByText := true, laidKinds := [.data], laidTests := true, laidLooks := .later }
def CubeNoneUptoCardSaid : Prop := Claim7.holds Tryz.pinned (.plain (OpenSpec.upto cubeNoneSpec)) cubeNoneUptoCard

/-- THE SECOND FORM's CARD OF 'caltroplaw17.DegreeNames'. -/
def degreeNamesUptoCard : Claim7 := { stood := { row := degreeNamesUptoRow, standIns := [], harness := (true, "a46bc245001fe99c5f0f058b03ef9abe79c78547e6cf95a54516c1854447a0dd"), looks := false }, kinds := [], alts := [], laidByText := true, laidKinds := [.data], laidTests := true, laidLooks := .later }
def DegreeNamesUptoCardSaid : Prop := Claim7.holds Tryz.pinned (.plain (OpenSpec.upto degreeNamesSpec)) degreeNamesUptoCard

/-- THE SECOND FORM's CARD OF 'caltroplaw19.PumpWords'. -/
def pumpWordsUptoCard : Claim7 := { stood := { row := pumpWordsUptoRow, standIns := [], harness := (true, "a46bc245001fe99c5f0f058b03ef9abe79c78547e6cf95a54516c1854447a0dd"), looks := false }, kinds := [], alts := [], laidByText := true, laidKinds := [.data], laidTests := true, laidLooks := .later }
def PumpWordsUptoCardSaid : Prop := Claim7.holds Tryz.pinned (.plain (OpenSpec.upto pumpWordsSpec)) pumpWordsUptoCard

/-- THE SECOND FORM's CARD OF 'caltroplaw19.PumpNone'. -/
def pumpNoneUptoCard : Claim7 := { stood := { row := pumpNoneUptoRow, standIns := [], harness := (true, "a46bc245001fe99c5f0f058b03ef9abe79c78547e6cf95a54516c1854447a0dd"), looks := false }, kinds := [], alts := [], laidByText := true, laidKinds := [.data], laidTests := true, laidLooks := .later }
def PumpNoneUptoCardSaid : Prop := Claim7.holds Tryz.pinned (.plain (OpenSpec.upto pumpNoneSpec)) pumpNoneUptoCard
end Rows
end Go.Proofs.YtdkicjlbfhmfkaaGreatDoor
