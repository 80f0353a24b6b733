/-
  NARROWER THAN 'FOR EVERY INPUT', by the rows' own cells (each row's printed sentence says how): FetchBeyond: laid · FetchFew: laid · FetchKnown: laid · FetchReads: laid · FetchFails: laid.
  DERIVED. THE GIVEN ROWS OF THIS SEAT. 5 by the template 'for every input the law returns true; each argument reads behind the call as it read before'; 0 by the template 'total and deterministic' (their statements: YtnbhanmpmjjkkaaGreatDoorTotals.lean).
  GIVEN WITH THE SEED: the statements are not yours to turn. If you find one false, say at which input.
  Laid BY PROGRAM, IN A SANDBOX (cutbox-rows.mjs): the forced cells as the released guide's own fill.sh prints them over the translation 50a4771fa4dffd6f… (all of the seat's roots in one cut). By AI agents, Wed Nov 11 2026. No macro, syntax, notation, axiom, sorry.
-/
import Derived.Test.YtnbhanmpmjjkkaaGreatDoorChecked
import GoSem.PinnedTables
import GoSem.Claim
import GoSem.ClaimJoined
import GoSem.ClaimMapViews
import Derived.JoinedTies
import Derived.KernelRfl
namespace Go.Proofs.YtnbhanmpmjjkkaaGreatDoor
/- THE CELL 'sum', in the pinned program and in every row, IS THE sha256 OF THE DUMP (.gsa) THAT YtnbhanmpmjjkkaaGreatDoorProg.lean LOADS. Nothing in Lean hashes anything: it is a label: what it is worth is what the hold of that sum in a sandbox is worth. -/
noncomputable def Tryz.pinned : Pinned := { name := "ytnbhanmpmjjkkaagreatdoor", sum := "50a4771fa4dffd6fc0cabb9c5bdd350d7c94e789f323c4e503e331a5466bbd31", checked := Tryz.checked }
namespace Rows
def none {H : Type} : Left H := { results := [], args := [] }

/- WHAT THE LISTED PACKAGE-LEVEL VARIABLES READ AS WHEN THE CALL BEGINS. Each datum BY PROGRAM (the guide's laid-datum.mjs) off the statement by which the dump's own 'gosem.cut.vars' lays the variable. In a bare row this is a premise. The card (YtnbhanmpmjjkkaaGreatDoorCards.lean) ties it to the program's text. -/
def laid_unicode_utf8_acceptRanges {H : Type} : DataW H := .agg [.agg [.lit (.int .u8 128), .lit (.int .u8 191)], .agg [.lit (.int .u8 160), .lit (.int .u8 191)], .agg [.lit (.int .u8 128), .lit (.int .u8 159)], .agg [.lit (.int .u8 144), .lit (.int .u8 191)], .agg [.lit (.int .u8 128), .lit (.int .u8 143)], .agg [.lit (.int .u8 0), .lit (.int .u8 0)], .agg [.lit (.int .u8 0), .lit (.int .u8 0)], .agg [.lit (.int .u8 0), .lit (.int .u8 0)], .agg [.lit (.int .u8 0), .lit (.int .u8 0)], .agg [.lit (.int .u8 0), .lit (.int .u8 0)], .agg [.lit (.int .u8 0), .lit (.int .u8 0)], .agg [.lit (.int .u8 0), .lit (.int .u8 0)], .agg [.lit (.int .u8 0), .lit (.int .u8 0)], .agg [.lit (.int .u8 0), .lit (.int .u8 0)], .agg [.lit (.int .u8 0), .lit (.int .u8 0)], .agg [.lit (.int .u8 0), .lit (.int .u8 0)]]
/-- One of Go's own tables, pinned by name: the form's constant. -/
def laid_unicode_utf8_first : DataW Unit := Go.Pinned.utf8First

/-- 'pinstripelaw21.FetchBeyond': WHATEVER THE INPUT: true; the input reads as it did. -/
def fetchBeyondSpec : ChangeSpec := { name := "fetchBeyond", fn := fun _ => fun
  | [d1, d2, d3] => { results := [.lit (.bool true)], args := [d1, d2, d3] }
  | _ => none }
def fetchBeyondRow : OpenClaim := { program := "ytnbhanmpmjjkkaagreatdoor", sum := "50a4771fa4dffd6fc0cabb9c5bdd350d7c94e789f323c4e503e331a5466bbd31", func := "pinstripe/pinstripelaw21.FetchBeyond", spec := "fetchBeyond", unfollowed := true, recurses := true, named := ["unicode/utf8.first", "unicode/utf8.acceptRanges"], plainKeys := false, apart := false, laid := [("unicode/utf8.acceptRanges", laid_unicode_utf8_acceptRanges), ("unicode/utf8.first", laid_unicode_utf8_first)] }
def FetchBeyondSaid : Prop := fetchBeyondRow.holds Tryz.pinned (OpenSpec.ofChange fetchBeyondSpec)

/-- ITS FALSE NEIGHBOUR: 'it returns false'. Refute it at one input. -/
def fetchBeyondWrong : ChangeSpec := { name := "fetchBeyond", fn := fun _ => fun
  | [d1, d2, d3] => { results := [.lit (.bool false)], args := [d1, d2, d3] }
  | _ => none }
def FetchBeyondWrongFalsely : Prop := fetchBeyondRow.holds Tryz.pinned (OpenSpec.ofChange fetchBeyondWrong)

/-- 'pinstripelaw21.FetchFew': WHATEVER THE INPUT: true; the input reads as it did. -/
def fetchFewSpec : ChangeSpec := { name := "fetchFew", fn := fun _ => fun
  | [d1, d2, d3] => { results := [.lit (.bool true)], args := [d1, d2, d3] }
  | _ => none }
def fetchFewRow : OpenClaim := { program := "ytnbhanmpmjjkkaagreatdoor", sum := "50a4771fa4dffd6fc0cabb9c5bdd350d7c94e789f323c4e503e331a5466bbd31", func := "pinstripe/pinstripelaw21.FetchFew", spec := "fetchFew", unfollowed := true, recurses := true, named := ["unicode/utf8.first", "unicode/utf8.acceptRanges"], plainKeys := false, apart := false, laid := [("unicode/utf8.acceptRanges", laid_unicode_utf8_acceptRanges), ("unicode/utf8.first", laid_unicode_utf8_first)] }
def FetchFewSaid : Prop := fetchFewRow.holds Tryz.pinned (OpenSpec.ofChange fetchFewSpec)

/-- ITS FALSE NEIGHBOUR: 'it returns false'. Refute it at one input. -/
def fetchFewWrong : ChangeSpec := { name := "fetchFew", fn := fun _ => fun
  | [d1, d2, d3] => { results := [.lit (.bool false)], args := [d1, d2, d3] }
  | _ => none }
def FetchFewWrongFalsely : Prop := fetchFewRow.holds Tryz.pinned (OpenSpec.ofChange fetchFewWrong)

/-- 'pinstripelaw21.FetchKnown': WHATEVER THE INPUT: true; the input reads as it did. -/
def fetchKnownSpec : ChangeSpec := { name := "fetchKnown", fn := fun _ => fun
  | [] => { results := [.lit (.bool true)], args := [] }
  | _ => none }
def fetchKnownRow : OpenClaim := { program := "ytnbhanmpmjjkkaagreatdoor", sum := "50a4771fa4dffd6fc0cabb9c5bdd350d7c94e789f323c4e503e331a5466bbd31", func := "pinstripe/pinstripelaw21.FetchKnown", spec := "fetchKnown", unfollowed := true, recurses := true, named := ["unicode/utf8.first", "unicode/utf8.acceptRanges"], plainKeys := false, apart := false, laid := [("unicode/utf8.acceptRanges", laid_unicode_utf8_acceptRanges), ("unicode/utf8.first", laid_unicode_utf8_first)] }
def FetchKnownSaid : Prop := fetchKnownRow.holds Tryz.pinned (OpenSpec.ofChange fetchKnownSpec)

/-- ITS FALSE NEIGHBOUR: 'it returns false'. Refute it at one input. -/
def fetchKnownWrong : ChangeSpec := { name := "fetchKnown", fn := fun _ => fun
  | [] => { results := [.lit (.bool false)], args := [] }
  | _ => none }
def FetchKnownWrongFalsely : Prop := fetchKnownRow.holds Tryz.pinned (OpenSpec.ofChange fetchKnownWrong)

/-- 'pinstripelaw21.FetchReads': WHATEVER THE INPUT: true; the input reads as it did. -/
def fetchReadsSpec : ChangeSpec := { name := "fetchReads", fn := fun _ => fun
  | [d1, d2, d3] => { results := [.lit (.bool true)], args := [d1, d2, d3] }
  | _ => none }
def fetchReadsRow : OpenClaim := { program := "ytnbhanmpmjjkkaagreatdoor", sum := "50a4771fa4dffd6fc0cabb9c5bdd350d7c94e789f323c4e503e331a5466bbd31", func := "pinstripe/pinstripelaw21.FetchReads", spec := "fetchReads", unfollowed := true, recurses := true, named := ["unicode/utf8.first", "unicode/utf8.acceptRanges"], plainKeys := false, apart := false, laid := [("unicode/utf8.acceptRanges", laid_unicode_utf8_acceptRanges), ("unicode/utf8.first", laid_unicode_utf8_first)] }
def FetchReadsSaid : Prop := fetchReadsRow.holds Tryz.pinned (OpenSpec.ofChange fetchReadsSpec)

/-- ITS FALSE NEIGHBOUR: 'it returns false'. Refute it at one input. -/
def fetchReadsWrong : ChangeSpec := { name := "fetchReads", fn := fun _ => fun
  | [d1, d2, d3] => { results := [.lit (.bool false)], args := [d1, d2, d3] }
  | _ => none }
def FetchReadsWrongFalsely : Prop := fetchReadsRow.holds Tryz.pinned (OpenSpec.ofChange fetchReadsWrong)

/-- 'pinstripelaw21.FetchFails': WHATEVER THE INPUT: true; the input reads as it did. -/
def fetchFailsSpec : ChangeSpec := { name := "fetchFails", fn := fun _ => fun
  | [d1, d2, d3] => { results := [.lit (.bool true)], args := [d1, d2, d3] }
  | _ => none }
def fetchFailsRow : OpenClaim := { program := "ytnbhanmpmjjkkaagreatdoor", sum := "50a4771fa4dffd6fc0cabb9c5bdd350d7c94e789f323c4e503e331a5466bbd31", func := "pinstripe/pinstripelaw21.FetchFails", spec := "fetchFails", unfollowed := true, recurses := true, named := ["unicode/utf8.first", "unicode/utf8.acceptRanges"], plainKeys := false, apart := false, laid := [("unicode/utf8.acceptRanges", laid_unicode_utf8_acceptRanges), ("unicode/utf8.first", laid_unicode_utf8_first)] }
def FetchFailsSaid : Prop := fetchFailsRow.holds Tryz.pinned (OpenSpec.ofChange fetchFailsSpec)

/-- ITS FALSE NEIGHBOUR: 'it returns false'. Refute it at one input. -/
def fetchFailsWrong : ChangeSpec := { name := "fetchFails", fn := fun _ => fun
  | [d1, d2, d3] => { results := [.lit (.bool false)], args := [d1, d2, d3] }
  | _ => none }
def FetchFailsWrongFalsely : Prop := fetchFailsRow.holds Tryz.pinned (OpenSpec.ofChange fetchFailsWrong)

/- THE SECOND FORM. 'bulk': how many values and letters a reading holds, each counted each time it is reached (what is shared counts as often as it is met; a slice's spare places count too). A statement '..UptoSaid' is the law's where the arguments, and the package variables that the reading takes, are together of bulk at most 1048576: NARROWER than '..Said'. Prove '..Said' where nothing that the law and all that it calls make is longer than what came in: it says more and counts as full. Else prove '..UptoSaid'. A law counts once. -/
mutual
def uptoBulk {H : Type} : DataW H → Nat
  | .lit (.string bytes) => bytes.length + 1
  | .lit _ => 1
  | .nil => 1
  | .ptr d => uptoBulk d + 1
  | .slice elems spare => uptoBulkAll elems + uptoBulkAll spare + 1
  | .agg parts => uptoBulkAll parts + 1
  | .iface _ d => uptoBulk d + 1
  | .map entries => uptoBulkEntries entries + 1
  | .held _ => 1
def uptoBulkAll {H : Type} : List (DataW H) → Nat
  | [] => 0
  | d :: r => uptoBulk d + uptoBulkAll r
def uptoBulkEntries {H : Type} : List (Lit × DataW H) → Nat
  | [] => 0
  | x :: r => uptoBulkEntry x + uptoBulkEntries r
def uptoBulkEntry {H : Type} : Lit × DataW H → Nat
  | (.string bytes, d) => bytes.length + uptoBulk d + 1
  | (_, d) => uptoBulk d + 1
 end
def uptoSmall : (H : Type) → List (DataW H) → Bool := fun _ ds => decide (uptoBulkAll ds ≤ 1048576)
def OpenSpec.upto (s : _root_.Go.ChangeSpec) : _root_.Go.OpenSpec := { _root_.Go.OpenSpec.ofChange s with cond := some uptoSmall }

/-- 'pinstripelaw21.FetchBeyond', WHERE WHAT IT READS IS OF BULK AT MOST 1048576: true; the input reads as it did. -/
def fetchBeyondUptoRow : OpenClaim := { program := "ytnbhanmpmjjkkaagreatdoor", sum := "50a4771fa4dffd6fc0cabb9c5bdd350d7c94e789f323c4e503e331a5466bbd31", func := "pinstripe/pinstripelaw21.FetchBeyond", spec := "fetchBeyond", unfollowed := true, recurses := true, named := ["unicode/utf8.first", "unicode/utf8.acceptRanges"], plainKeys := false, apart := false, laid := [("unicode/utf8.acceptRanges", laid_unicode_utf8_acceptRanges), ("unicode/utf8.first", laid_unicode_utf8_first)], narrowed := true }
def FetchBeyondUptoSaid : Prop := fetchBeyondUptoRow.holds Tryz.pinned (OpenSpec.upto fetchBeyondSpec)

/-- 'pinstripelaw21.FetchFew', WHERE WHAT IT READS IS OF BULK AT MOST 1048576: true; the input reads as it did. -/
def fetchFewUptoRow : OpenClaim := { program := "ytnbhanmpmjjkkaagreatdoor", sum := "50a4771fa4dffd6fc0cabb9c5bdd350d7c94e789f323c4e503e331a5466bbd31", func := "pinstripe/pinstripelaw21.FetchFew", spec := "fetchFew", unfollowed := true, recurses := true, named := ["unicode/utf8.first", "unicode/utf8.acceptRanges"], plainKeys := false, apart := false, laid := [("unicode/utf8.acceptRanges", laid_unicode_utf8_acceptRanges), ("unicode/utf8.first", laid_unicode_utf8_first)], narrowed := true }
def FetchFewUptoSaid : Prop := fetchFewUptoRow.holds Tryz.pinned (OpenSpec.upto fetchFewSpec)

/-- 'pinstripelaw21.FetchKnown', WHERE WHAT IT READS IS OF BULK AT MOST 1048576: true; the input reads as it did. -/
def fetchKnownUptoRow : OpenClaim := { program := "ytnbhanmpmjjkkaagreatdoor", sum := "50a4771fa4dffd6fc0cabb9c5bdd350d7c94e789f323c4e503e331a5466bbd31", func := "pinstripe/pinstripelaw21.FetchKnown", spec := "fetchKnown", unfollowed := true, recurses := true, named := ["unicode/utf8.first", "unicode/utf8.acceptRanges"], plainKeys := false, apart := false, laid := [("unicode/utf8.acceptRanges", laid_unicode_utf8_acceptRanges), ("unicode/utf8.first", laid_unicode_utf8_first)], narrowed := true }
def FetchKnownUptoSaid : Prop := fetchKnownUptoRow.holds Tryz.pinned (OpenSpec.upto fetchKnownSpec)

/-- 'pinstripelaw21.FetchReads', WHERE WHAT IT READS IS OF BULK AT MOST 1048576: true; the input reads as it did. -/
def fetchReadsUptoRow : OpenClaim := { program := "ytnbhanmpmjjkkaagreatdoor", sum := "50a4771fa4dffd6fc0cabb9c5bdd350d7c94e789f323c4e503e331a5466bbd31", func := "pinstripe/pinstripelaw21.FetchReads", spec := "fetchReads", unfollowed := true, recurses := true, named := ["unicode/utf8.first", "unicode/utf8.acceptRanges"], plainKeys := false, apart := false, laid := [("unicode/utf8.acceptRanges", laid_unicode_utf8_acceptRanges), ("unicode/utf8.first", laid_unicode_utf8_first)], narrowed := true }
def FetchReadsUptoSaid : Prop := fetchReadsUptoRow.holds Tryz.pinned (OpenSpec.upto fetchReadsSpec)

/-- 'pinstripelaw21.FetchFails', WHERE WHAT IT READS IS OF BULK AT MOST 1048576: true; the input reads as it did. -/
def fetchFailsUptoRow : OpenClaim := { program := "ytnbhanmpmjjkkaagreatdoor", sum := "50a4771fa4dffd6fc0cabb9c5bdd350d7c94e789f323c4e503e331a5466bbd31", func := "pinstripe/pinstripelaw21.FetchFails", spec := "fetchFails", unfollowed := true, recurses := true, named := ["unicode/utf8.first", "unicode/utf8.acceptRanges"], plainKeys := false, apart := false, laid := [("unicode/utf8.acceptRanges", laid_unicode_utf8_acceptRanges), ("unicode/utf8.first", laid_unicode_utf8_first)], narrowed := true }
def FetchFailsUptoSaid : Prop := fetchFailsUptoRow.holds Tryz.pinned (OpenSpec.upto fetchFailsSpec)

end Rows
end Go.Proofs.YtnbhanmpmjjkkaaGreatDoor
