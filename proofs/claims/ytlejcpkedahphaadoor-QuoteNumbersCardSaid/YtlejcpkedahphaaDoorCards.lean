/-
  DERIVED. GIVEN WITH THE SEED: THE CARDS: each row of YtlejcpkedahphaaDoorRows.lean that lists a variable, with what it lists TIED to the program's text (the seventh form; the later family's looks); each row that meets fmt, with fmt's text TOLD by the authors' own Lean function (tested against real Go, not proved from fmt's source: count such statements apart). THE CARD IS WHAT COUNTS. Prove the row's statement (the work); the ties are given (YtlejcpkedahphaaDoorTie.lean); close each card by the builder's one call (the guide's Derived/Test/ToyasCard.lean, 'card_holds'). Laid BY PROGRAM, IN A SANDBOX (cutbox-door.mjs). By AI agents, Wed Nov 11 2026. No macro, syntax, notation, axiom, sorry.
-/
import Derived.Test.YtlejcpkedahphaaDoorRows
import GoSem.ClaimSeven
namespace Go.Proofs.YtlejcpkedahphaaDoor
namespace Rows

/-- THE TIED CARD OF 'caltroplaw02.QuoteWords'. -/
def quoteWordsCard : Claim7 := { stood := { row := quoteWordsRow, standIns := [], harness := (true, "ede1b5a3fcdb19d02c66e678b0bd5390f3f9824a1a488ed155f4fa44278c8c06"), looks := true }, kinds := [], alts := [], laidByText := true, laidKinds := [.data, .pinned], laidTests := true, laidLooks := .later }
def QuoteWordsCardSaid : Prop := Claim7.holds Tryd.pinned (.plain (OpenSpec.ofChange quoteWordsSpec)) quoteWordsCard

/-- THE TIED CARD OF 'caltroplaw02.QuoteNumbers'. -/
def quoteNumbersCard : Claim7 := { stood := { row := quoteNumbersRow, standIns := [], harness := (true, "ede1b5a3fcdb19d02c66e678b0bd5390f3f9824a1a488ed155f4fa44278c8c06"), looks := true }, kinds := [], alts := [], laidByText := true, laidKinds := [.data, .data, .data, .sentinel, .sentinel], laidTests := true, laidLooks := .later }
def QuoteNumbersCardSaid : Prop := Claim7.holds Tryd.pinned (.plain (OpenSpec.ofChange quoteNumbersSpec)) quoteNumbersCard

/-- THE SECOND FORM's CARD OF 'caltroplaw02.QuoteWords'. -/
def quoteWordsUptoCard : Claim7 := { stood := { row := quoteWordsUptoRow, standIns := [], harness := (true, "ede1b5a3fcdb19d02c66e678b0bd5390f3f9824a1a488ed155f4fa44278c8c06"), looks := true }, kinds := [], alts := [], laidByText := true, laidKinds := [.data, .pinned], laidTests := true, laidLooks := .later }
def QuoteWordsUptoCardSaid : Prop := Claim7.holds Tryd.pinned (.plain (OpenSpec.upto quoteWordsSpec)) quoteWordsUptoCard

/-- THE SECOND FORM's CARD OF 'caltroplaw02.QuoteNumbers'. -/
def quoteNumbersUptoCard : Claim7 := { stood := { row := quoteNumbersUptoRow, standIns := [], harness := (true, "ede1b5a3fcdb19d02c66e678b0bd5390f3f9824a1a488ed155f4fa44278c8c06"), looks := true }, kinds := [], alts := [], laidByText := true, laidKinds := [.data, .data, .data, .sentinel, .sentinel], laidTests := true, laidLooks := .later }
def QuoteNumbersUptoCardSaid : Prop := Claim7.holds Tryd.pinned (.plain (OpenSpec.upto quoteNumbersSpec)) quoteNumbersUptoCard
end Rows
end Go.Proofs.YtlejcpkedahphaaDoor
