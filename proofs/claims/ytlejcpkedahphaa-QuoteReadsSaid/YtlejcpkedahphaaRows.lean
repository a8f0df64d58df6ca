/-
  No cell of these rows narrows 'for every input' (looked for: loops, veiled, ifaces, maps, wideKeys, modest, calm, conditions, laid).
  DERIVED. THE GIVEN ROWS OF THIS SEAT. 6 by the template 'for every input the law returns true; each argument reads behind the call as it read before'; 0 by the template 'total and deterministic' (their statements: YtlejcpkedahphaaTotals.lean).
  GIVEN WITH THE SEED: the statements are not yours to turn. If you find one false, say at which input.
  Laid BY PROGRAM, IN A SANDBOX (cutbox-rows.mjs): the forced cells as the released guide's own fill.sh prints them over the translation c240c567771e88c9… (all of the seat's roots in one cut). By AI agents, Wed Nov 11 2026. No macro, syntax, notation, axiom, sorry.
-/
import Derived.Test.YtlejcpkedahphaaChecked
import GoSem.Claim
import GoSem.ClaimJoined
import GoSem.ClaimMapViews
import Derived.JoinedTies
import Derived.KernelRfl
namespace Go.Proofs.Ytlejcpkedahphaa
/- THE CELL 'sum', in the pinned program and in every row, IS THE sha256 OF THE DUMP (.gsa) THAT YtlejcpkedahphaaProg.lean LOADS. Nothing in Lean hashes anything: it is a label: what it is worth is what the hold of that sum in a sandbox is worth. -/
noncomputable def Try.pinned : Pinned := { name := "ytlejcpkedahphaa", sum := "c240c567771e88c94e838754b918e147371f59cff5aa8153926f276910cdeb96", checked := Try.checked }
namespace Rows
def none {H : Type} : Left H := { results := [], args := [] }

/-- 'caltroplaw03.NatFolds': WHATEVER THE INPUT: true; the input reads as it did. -/
def natFoldsSpec : ChangeSpec := { name := "natFolds", fn := fun _ => fun
  | [d] => { results := [.lit (.bool true)], args := [d] }
  | _ => none }
def natFoldsRow : OpenClaim := { program := "ytlejcpkedahphaa", sum := "c240c567771e88c94e838754b918e147371f59cff5aa8153926f276910cdeb96", func := "caltrop/caltroplaw03.NatFolds", spec := "natFolds", inPlace := ["math/bits.Add64"], unfollowed := true, recurses := true, apart := false }
def NatFoldsSaid : Prop := natFoldsRow.holds Try.pinned (OpenSpec.ofChange natFoldsSpec)

/-- ITS FALSE NEIGHBOUR: 'it returns false'. Refute it at one input. -/
def natFoldsWrong : ChangeSpec := { name := "natFolds", fn := fun _ => fun
  | [d] => { results := [.lit (.bool false)], args := [d] }
  | _ => none }
def NatFoldsWrongFalsely : Prop := natFoldsRow.holds Try.pinned (OpenSpec.ofChange natFoldsWrong)

/-- 'caltroplaw03.NatLaws': WHATEVER THE INPUT: true; the input reads as it did. -/
def natLawsSpec : ChangeSpec := { name := "natLaws", fn := fun _ => fun
  | [d1, d2, d3] => { results := [.lit (.bool true)], args := [d1, d2, d3] }
  | _ => none }
def natLawsRow : OpenClaim := { program := "ytlejcpkedahphaa", sum := "c240c567771e88c94e838754b918e147371f59cff5aa8153926f276910cdeb96", func := "caltrop/caltroplaw03.NatLaws", spec := "natLaws", inPlace := ["math/bits.Add64"], unfollowed := true, recurses := true, apart := false }
def NatLawsSaid : Prop := natLawsRow.holds Try.pinned (OpenSpec.ofChange natLawsSpec)

/-- ITS FALSE NEIGHBOUR: 'it returns false'. Refute it at one input. -/
def natLawsWrong : ChangeSpec := { name := "natLaws", fn := fun _ => fun
  | [d1, d2, d3] => { results := [.lit (.bool false)], args := [d1, d2, d3] }
  | _ => none }
def NatLawsWrongFalsely : Prop := natLawsRow.holds Try.pinned (OpenSpec.ofChange natLawsWrong)

/-- 'caltroplaw03.NatPowers': WHATEVER THE INPUT: true; the input reads as it did. -/
def natPowersSpec : ChangeSpec := { name := "natPowers", fn := fun _ => fun
  | [d1, d2, d3] => { results := [.lit (.bool true)], args := [d1, d2, d3] }
  | _ => none }
def natPowersRow : OpenClaim := { program := "ytlejcpkedahphaa", sum := "c240c567771e88c94e838754b918e147371f59cff5aa8153926f276910cdeb96", func := "caltrop/caltroplaw03.NatPowers", spec := "natPowers", inPlace := ["math/bits.Add64"], unfollowed := true, recurses := true, apart := false }
def NatPowersSaid : Prop := natPowersRow.holds Try.pinned (OpenSpec.ofChange natPowersSpec)

/-- ITS FALSE NEIGHBOUR: 'it returns false'. Refute it at one input. -/
def natPowersWrong : ChangeSpec := { name := "natPowers", fn := fun _ => fun
  | [d1, d2, d3] => { results := [.lit (.bool false)], args := [d1, d2, d3] }
  | _ => none }
def NatPowersWrongFalsely : Prop := natPowersRow.holds Try.pinned (OpenSpec.ofChange natPowersWrong)

/-- 'caltroplaw03.NatTables': WHATEVER THE INPUT: true; the input reads as it did. -/
def natTablesSpec : ChangeSpec := { name := "natTables", fn := fun _ => fun
  | [d1, d2, d3, d4] => { results := [.lit (.bool true)], args := [d1, d2, d3, d4] }
  | _ => none }
def natTablesRow : OpenClaim := { program := "ytlejcpkedahphaa", sum := "c240c567771e88c94e838754b918e147371f59cff5aa8153926f276910cdeb96", func := "caltrop/caltroplaw03.NatTables", spec := "natTables", inPlace := ["math/bits.Add64"], unfollowed := true, recurses := true, apart := false }
def NatTablesSaid : Prop := natTablesRow.holds Try.pinned (OpenSpec.ofChange natTablesSpec)

/-- ITS FALSE NEIGHBOUR: 'it returns false'. Refute it at one input. -/
def natTablesWrong : ChangeSpec := { name := "natTables", fn := fun _ => fun
  | [d1, d2, d3, d4] => { results := [.lit (.bool false)], args := [d1, d2, d3, d4] }
  | _ => none }
def NatTablesWrongFalsely : Prop := natTablesRow.holds Try.pinned (OpenSpec.ofChange natTablesWrong)

/-- 'caltroplaw02.QuoteWrites': WHATEVER THE INPUT: true; the input reads as it did. -/
def quoteWritesSpec : ChangeSpec := { name := "quoteWrites", fn := fun _ => fun
  | [d] => { results := [.lit (.bool true)], args := [d] }
  | _ => none }
def quoteWritesRow : OpenClaim := { program := "ytlejcpkedahphaa", sum := "c240c567771e88c94e838754b918e147371f59cff5aa8153926f276910cdeb96", func := "caltrop/caltroplaw02.QuoteWrites", spec := "quoteWrites", inPlace := ["internal/abi.NoEscape", "internal/bytealg.IndexByteString"], apart := false }
def QuoteWritesSaid : Prop := quoteWritesRow.holds Try.pinned (OpenSpec.ofChange quoteWritesSpec)

/-- ITS FALSE NEIGHBOUR: 'it returns false'. Refute it at one input. -/
def quoteWritesWrong : ChangeSpec := { name := "quoteWrites", fn := fun _ => fun
  | [d] => { results := [.lit (.bool false)], args := [d] }
  | _ => none }
def QuoteWritesWrongFalsely : Prop := quoteWritesRow.holds Try.pinned (OpenSpec.ofChange quoteWritesWrong)

/-- 'caltroplaw02.QuoteReads': WHATEVER THE INPUT: true; the input reads as it did. -/
def quoteReadsSpec : ChangeSpec := { name := "quoteReads", fn := fun _ => fun
  | [d] => { results := [.lit (.bool true)], args := [d] }
  | _ => none }
def quoteReadsRow : OpenClaim := { program := "ytlejcpkedahphaa", sum := "c240c567771e88c94e838754b918e147371f59cff5aa8153926f276910cdeb96", func := "caltrop/caltroplaw02.QuoteReads", spec := "quoteReads", inPlace := ["internal/abi.NoEscape", "internal/bytealg.IndexByteString"], apart := false }
def QuoteReadsSaid : Prop := quoteReadsRow.holds Try.pinned (OpenSpec.ofChange quoteReadsSpec)

/-- ITS FALSE NEIGHBOUR: 'it returns false'. Refute it at one input. -/
def quoteReadsWrong : ChangeSpec := { name := "quoteReads", fn := fun _ => fun
  | [d] => { results := [.lit (.bool false)], args := [d] }
  | _ => none }
def QuoteReadsWrongFalsely : Prop := quoteReadsRow.holds Try.pinned (OpenSpec.ofChange quoteReadsWrong)

/- THE SECOND FORM. 'bulk': how many values and letters a reading holds, each counted each time it is reached (what is shared counts as often as it is met; a slice's spare places count too). A statement '..UptoSaid' is the law's where the arguments, and the package variables that the reading takes, are together of bulk at most 1048576: NARROWER than '..Said'. Prove '..Said' where nothing that the law and all that it calls make is longer than what came in: it says more and counts as full. Else prove '..UptoSaid'. A law counts once. -/
mutual
def uptoBulk {H : Type} : DataW H → Nat
  | .lit (.string bytes) => bytes.length + 1
  | .lit _ => 1
  | .nil => 1
  | .ptr d => uptoBulk d + 1
  | .slice elems spare => uptoBulkAll elems + uptoBulkAll spare + 1
  | .agg parts => uptoBulkAll parts + 1
  | .iface _ d => uptoBulk d + 1
  | .map entries => uptoBulkEntries entries + 1
  | .held _ => 1
def uptoBulkAll {H : Type} : List (DataW H) → Nat
  | [] => 0
  | d :: r => uptoBulk d + uptoBulkAll r
def uptoBulkEntries {H : Type} : List (Lit × DataW H) → Nat
  | [] => 0
  | x :: r => uptoBulkEntry x + uptoBulkEntries r
def uptoBulkEntry {H : Type} : Lit × DataW H → Nat
  | (.string bytes, d) => bytes.length + uptoBulk d + 1
  | (_, d) => uptoBulk d + 1
 end
def uptoSmall : (H : Type) → List (DataW H) → Bool := fun _ ds => decide (uptoBulkAll ds ≤ 1048576)
def OpenSpec.upto (s : _root_.Go.ChangeSpec) : _root_.Go.OpenSpec := { _root_.Go.OpenSpec.ofChange s with cond := some uptoSmall }

/-- 'caltroplaw03.NatFolds', WHERE WHAT IT READS IS OF BULK AT MOST 1048576: true; the input reads as it did. -/
def natFoldsUptoRow : OpenClaim := { program := "ytlejcpkedahphaa", sum := "c240c567771e88c94e838754b918e147371f59cff5aa8153926f276910cdeb96", func := "caltrop/caltroplaw03.NatFolds", spec := "natFolds", inPlace := ["math/bits.Add64"], unfollowed := true, recurses := true, apart := false, narrowed := true }
def NatFoldsUptoSaid : Prop := natFoldsUptoRow.holds Try.pinned (OpenSpec.upto natFoldsSpec)

/-- 'caltroplaw03.NatLaws', WHERE WHAT IT READS IS OF BULK AT MOST 1048576: true; the input reads as it did. -/
def natLawsUptoRow : OpenClaim := { program := "ytlejcpkedahphaa", sum := "c240c567771e88c94e838754b918e147371f59cff5aa8153926f276910cdeb96", func := "caltrop/caltroplaw03.NatLaws", spec := "natLaws", inPlace := ["math/bits.Add64"], unfollowed := true, recurses := true, apart := false, narrowed := true }
def NatLawsUptoSaid : Prop := natLawsUptoRow.holds Try.pinned (OpenSpec.upto natLawsSpec)

/-- 'caltroplaw03.NatPowers', WHERE WHAT IT READS IS OF BULK AT MOST 1048576: true; the input reads as it did. -/
def natPowersUptoRow : OpenClaim := { program := "ytlejcpkedahphaa", sum := "c240c567771e88c94e838754b918e147371f59cff5aa8153926f276910cdeb96", func := "caltrop/caltroplaw03.NatPowers", spec := "natPowers", inPlace := ["math/bits.Add64"], unfollowed := true, recurses := true, apart := false, narrowed := true }
def NatPowersUptoSaid : Prop := natPowersUptoRow.holds Try.pinned (OpenSpec.upto natPowersSpec)

/-- 'caltroplaw03.NatTables', WHERE WHAT IT READS IS OF BULK AT MOST 1048576: true; the input reads as it did. -/
def natTablesUptoRow : OpenClaim := { program := "ytlejcpkedahphaa", sum := "c240c567771e88c94e838754b918e147371f59cff5aa8153926f276910cdeb96", func := "caltrop/caltroplaw03.NatTables", spec := "natTables", inPlace := ["math/bits.Add64"], unfollowed := true, recurses := true, apart := false, narrowed := true }
def NatTablesUptoSaid : Prop := natTablesUptoRow.holds Try.pinned (OpenSpec.upto natTablesSpec)

/-- 'caltroplaw02.QuoteWrites', WHERE WHAT IT READS IS OF BULK AT MOST 1048576: true; the input reads as it did. -/
def quoteWritesUptoRow : OpenClaim := { program := "ytlejcpkedahphaa", sum := "c240c567771e88c94e838754b918e147371f59cff5aa8153926f276910cdeb96", func := "caltrop/caltroplaw02.QuoteWrites", spec := "quoteWrites", inPlace := ["internal/abi.NoEscape", "internal/bytealg.IndexByteString"], apart := false, narrowed := true }
def QuoteWritesUptoSaid : Prop := quoteWritesUptoRow.holds Try.pinned (OpenSpec.upto quoteWritesSpec)

/-- 'caltroplaw02.QuoteReads', WHERE WHAT IT READS IS OF BULK AT MOST 1048576: true; the input reads as it did. -/
def quoteReadsUptoRow : OpenClaim := { program := "ytlejcpkedahphaa", sum := "c240c567771e88c94e838754b918e147371f59cff5aa8153926f276910cdeb96", func := "caltrop/caltroplaw02.QuoteReads", spec := "quoteReads", inPlace := ["internal/abi.NoEscape", "internal/bytealg.IndexByteString"], apart := false, narrowed := true }
def QuoteReadsUptoSaid : Prop := quoteReadsUptoRow.holds Try.pinned (OpenSpec.upto quoteReadsSpec)

end Rows
end Go.Proofs.Ytlejcpkedahphaa
