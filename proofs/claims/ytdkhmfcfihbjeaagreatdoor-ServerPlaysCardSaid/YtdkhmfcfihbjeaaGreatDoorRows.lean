/-
  NARROWER THAN 'FOR EVERY INPUT', by the rows' own cells (each row's printed sentence says how): ServerLists: laid · ServerDead: laid · ServerWhole: laid · ServerKnown: laid · ServerCodes: laid · ServerPlays: laid.
  DERIVED. THE GIVEN ROWS OF THIS SEAT. 6 by the template 'for every input the law returns true; each argument reads behind the call as it read before'; 0 by the template 'total and deterministic' (their statements: YtdkhmfcfihbjeaaGreatDoorTotals.lean).
  GIVEN WITH THE SEED: the statements are not yours to turn. If you find one false, say at which input.
  Laid BY PROGRAM, IN A SANDBOX (cutbox-rows.mjs): the forced cells as the released guide's own fill.sh prints them over the translation 3554b837806f9410… (all of the seat's roots in one cut). By AI agents, Wed Nov 11 2026. No macro, syntax, notation, axiom, sorry.
-/
import Derived.Test.YtdkhmfcfihbjeaaGreatDoorChecked
import GoSem.PinnedTables
import GoSem.Claim
import GoSem.ClaimJoined
import GoSem.ClaimMapViews
import Derived.JoinedTies
import Derived.KernelRfl
namespace Go.Proofs.YtdkhmfcfihbjeaaGreatDoor
/- THE CELL 'sum', in the pinned program and in every row, IS THE sha256 OF THE DUMP (.gsa) THAT YtdkhmfcfihbjeaaGreatDoorProg.lean LOADS. Nothing in Lean hashes anything: it is a label: what it is worth is what the hold of that sum in a sandbox is worth. -/
noncomputable def Tryz.pinned : Pinned := { name := "ytdkhmfcfihbjeaagreatdoor", sum := "3554b837806f9410aacc51e234fecfcfe33d5e06f269a695f429a67e90f2c3e9", checked := Tryz.checked }
namespace Rows
def none {H : Type} : Left H := { results := [], args := [] }

/- WHAT THE LISTED PACKAGE-LEVEL VARIABLES READ AS WHEN THE CALL BEGINS. Each datum BY PROGRAM (the guide's laid-datum.mjs) off the statement by which the dump's own 'gosem.cut.vars' lays the variable. In a bare row this is a premise. The card (YtdkhmfcfihbjeaaGreatDoorCards.lean) ties it to the program's text. -/
def laid_unicode_utf8_acceptRanges {H : Type} : DataW H := .agg [.agg [.lit (.int .u8 128), .lit (.int .u8 191)], .agg [.lit (.int .u8 160), .lit (.int .u8 191)], .agg [.lit (.int .u8 128), .lit (.int .u8 159)], .agg [.lit (.int .u8 144), .lit (.int .u8 191)], .agg [.lit (.int .u8 128), .lit (.int .u8 143)], .agg [.lit (.int .u8 0), .lit (.int .u8 0)], .agg [.lit (.int .u8 0), .lit (.int .u8 0)], .agg [.lit (.int .u8 0), .lit (.int .u8 0)], .agg [.lit (.int .u8 0), .lit (.int .u8 0)], .agg [.lit (.int .u8 0), .lit (.int .u8 0)], .agg [.lit (.int .u8 0), .lit (.int .u8 0)], .agg [.lit (.int .u8 0), .lit (.int .u8 0)], .agg [.lit (.int .u8 0), .lit (.int .u8 0)], .agg [.lit (.int .u8 0), .lit (.int .u8 0)], .agg [.lit (.int .u8 0), .lit (.int .u8 0)], .agg [.lit (.int .u8 0), .lit (.int .u8 0)]]
/-- One of Go's own tables, pinned by name: the form's constant. -/
def laid_unicode_utf8_first : DataW Unit := Go.Pinned.utf8First

/-- 'pinstripelaw20.ServerLists': WHATEVER THE INPUT: true; the input reads as it did. -/
def serverListsSpec : ChangeSpec := { name := "serverLists", fn := fun _ => fun
  | [d] => { results := [.lit (.bool true)], args := [d] }
  | _ => none }
def serverListsRow : OpenClaim := { program := "ytdkhmfcfihbjeaagreatdoor", sum := "3554b837806f9410aacc51e234fecfcfe33d5e06f269a695f429a67e90f2c3e9", func := "pinstripe/pinstripelaw20.ServerLists", spec := "serverLists", unfollowed := true, recurses := true, named := ["unicode/utf8.first", "unicode/utf8.acceptRanges"], plainKeys := false, apart := false, laid := [("unicode/utf8.acceptRanges", laid_unicode_utf8_acceptRanges), ("unicode/utf8.first", laid_unicode_utf8_first)] }
def ServerListsSaid : Prop := serverListsRow.holds Tryz.pinned (OpenSpec.ofChange serverListsSpec)

/-- ITS FALSE NEIGHBOUR: 'it returns false'. Refute it at one input. -/
def serverListsWrong : ChangeSpec := { name := "serverLists", fn := fun _ => fun
  | [d] => { results := [.lit (.bool false)], args := [d] }
  | _ => none }
def ServerListsWrongFalsely : Prop := serverListsRow.holds Tryz.pinned (OpenSpec.ofChange serverListsWrong)

/-- 'pinstripelaw20.ServerDead': WHATEVER THE INPUT: true; the input reads as it did. -/
def serverDeadSpec : ChangeSpec := { name := "serverDead", fn := fun _ => fun
  | [d1, d2] => { results := [.lit (.bool true)], args := [d1, d2] }
  | _ => none }
def serverDeadRow : OpenClaim := { program := "ytdkhmfcfihbjeaagreatdoor", sum := "3554b837806f9410aacc51e234fecfcfe33d5e06f269a695f429a67e90f2c3e9", func := "pinstripe/pinstripelaw20.ServerDead", spec := "serverDead", unfollowed := true, recurses := true, named := ["unicode/utf8.first", "unicode/utf8.acceptRanges"], plainKeys := false, apart := false, laid := [("unicode/utf8.acceptRanges", laid_unicode_utf8_acceptRanges), ("unicode/utf8.first", laid_unicode_utf8_first)] }
def ServerDeadSaid : Prop := serverDeadRow.holds Tryz.pinned (OpenSpec.ofChange serverDeadSpec)

/-- ITS FALSE NEIGHBOUR: 'it returns false'. Refute it at one input. -/
def serverDeadWrong : ChangeSpec := { name := "serverDead", fn := fun _ => fun
  | [d1, d2] => { results := [.lit (.bool false)], args := [d1, d2] }
  | _ => none }
def ServerDeadWrongFalsely : Prop := serverDeadRow.holds Tryz.pinned (OpenSpec.ofChange serverDeadWrong)

/-- 'pinstripelaw20.ServerWhole': WHATEVER THE INPUT: true; the input reads as it did. -/
def serverWholeSpec : ChangeSpec := { name := "serverWhole", fn := fun _ => fun
  | [d1, d2, d3] => { results := [.lit (.bool true)], args := [d1, d2, d3] }
  | _ => none }
def serverWholeRow : OpenClaim := { program := "ytdkhmfcfihbjeaagreatdoor", sum := "3554b837806f9410aacc51e234fecfcfe33d5e06f269a695f429a67e90f2c3e9", func := "pinstripe/pinstripelaw20.ServerWhole", spec := "serverWhole", unfollowed := true, recurses := true, named := ["unicode/utf8.first", "unicode/utf8.acceptRanges"], plainKeys := false, apart := false, laid := [("unicode/utf8.acceptRanges", laid_unicode_utf8_acceptRanges), ("unicode/utf8.first", laid_unicode_utf8_first)] }
def ServerWholeSaid : Prop := serverWholeRow.holds Tryz.pinned (OpenSpec.ofChange serverWholeSpec)

/-- ITS FALSE NEIGHBOUR: 'it returns false'. Refute it at one input. -/
def serverWholeWrong : ChangeSpec := { name := "serverWhole", fn := fun _ => fun
  | [d1, d2, d3] => { results := [.lit (.bool false)], args := [d1, d2, d3] }
  | _ => none }
def ServerWholeWrongFalsely : Prop := serverWholeRow.holds Tryz.pinned (OpenSpec.ofChange serverWholeWrong)

/-- 'pinstripelaw20.ServerKnown': WHATEVER THE INPUT: true; the input reads as it did. -/
def serverKnownSpec : ChangeSpec := { name := "serverKnown", fn := fun _ => fun
  | [] => { results := [.lit (.bool true)], args := [] }
  | _ => none }
def serverKnownRow : OpenClaim := { program := "ytdkhmfcfihbjeaagreatdoor", sum := "3554b837806f9410aacc51e234fecfcfe33d5e06f269a695f429a67e90f2c3e9", func := "pinstripe/pinstripelaw20.ServerKnown", spec := "serverKnown", unfollowed := true, recurses := true, named := ["unicode/utf8.first", "unicode/utf8.acceptRanges"], plainKeys := false, apart := false, laid := [("unicode/utf8.acceptRanges", laid_unicode_utf8_acceptRanges), ("unicode/utf8.first", laid_unicode_utf8_first)] }
def ServerKnownSaid : Prop := serverKnownRow.holds Tryz.pinned (OpenSpec.ofChange serverKnownSpec)

/-- ITS FALSE NEIGHBOUR: 'it returns false'. Refute it at one input. -/
def serverKnownWrong : ChangeSpec := { name := "serverKnown", fn := fun _ => fun
  | [] => { results := [.lit (.bool false)], args := [] }
  | _ => none }
def ServerKnownWrongFalsely : Prop := serverKnownRow.holds Tryz.pinned (OpenSpec.ofChange serverKnownWrong)

/-- 'pinstripelaw20.ServerCodes': WHATEVER THE INPUT: true; the input reads as it did. -/
def serverCodesSpec : ChangeSpec := { name := "serverCodes", fn := fun _ => fun
  | [d1, d2, d3] => { results := [.lit (.bool true)], args := [d1, d2, d3] }
  | _ => none }
def serverCodesRow : OpenClaim := { program := "ytdkhmfcfihbjeaagreatdoor", sum := "3554b837806f9410aacc51e234fecfcfe33d5e06f269a695f429a67e90f2c3e9", func := "pinstripe/pinstripelaw20.ServerCodes", spec := "serverCodes", unfollowed := true, recurses := true, named := ["unicode/utf8.first", "unicode/utf8.acceptRanges"], plainKeys := false, apart := false, laid := [("unicode/utf8.acceptRanges", laid_unicode_utf8_acceptRanges), ("unicode/utf8.first", laid_unicode_utf8_first)] }
def ServerCodesSaid : Prop := serverCodesRow.holds Tryz.pinned (OpenSpec.ofChange serverCodesSpec)

/-- ITS FALSE NEIGHBOUR: 'it returns false'. Refute it at one input. -/
def serverCodesWrong : ChangeSpec := { name := "serverCodes", fn := fun _ => fun
  | [d1, d2, d3] => { results := [.lit (.bool false)], args := [d1, d2, d3] }
  | _ => none }
def ServerCodesWrongFalsely : Prop := serverCodesRow.holds Tryz.pinned (OpenSpec.ofChange serverCodesWrong)

/-- 'pinstripelaw20.ServerPlays': WHATEVER THE INPUT: true; the input reads as it did. -/
def serverPlaysSpec : ChangeSpec := { name := "serverPlays", fn := fun _ => fun
  | [d1, d2] => { results := [.lit (.bool true)], args := [d1, d2] }
  | _ => none }
def serverPlaysRow : OpenClaim := { program := "ytdkhmfcfihbjeaagreatdoor", sum := "3554b837806f9410aacc51e234fecfcfe33d5e06f269a695f429a67e90f2c3e9", func := "pinstripe/pinstripelaw20.ServerPlays", spec := "serverPlays", unfollowed := true, recurses := true, named := ["unicode/utf8.first", "unicode/utf8.acceptRanges"], plainKeys := false, apart := false, laid := [("unicode/utf8.acceptRanges", laid_unicode_utf8_acceptRanges), ("unicode/utf8.first", laid_unicode_utf8_first)] }
def ServerPlaysSaid : Prop := serverPlaysRow.holds Tryz.pinned (OpenSpec.ofChange serverPlaysSpec)

/-- ITS FALSE NEIGHBOUR: 'it returns false'. Refute it at one input. -/
def serverPlaysWrong : ChangeSpec := { name := "serverPlays", fn := fun _ => fun
  | [d1, d2] => { results := [.lit (.bool false)], args := [d1, d2] }
  | _ => none }
def ServerPlaysWrongFalsely : Prop := serverPlaysRow.holds Tryz.pinned (OpenSpec.ofChange serverPlaysWrong)

/- THE SECOND FORM. 'bulk': how many values and letters a reading holds, each counted each time it is reached (what is shared counts as often as it is met; a slice's spare places count too). A statement '..UptoSaid' is the law's where the arguments, and the package variables that the reading takes, are together of bulk at most 1048576: NARROWER than '..Said'. Prove '..Said' where nothing that the law and all that it calls make is longer than what came in: it says more and counts as full. Else prove '..UptoSaid'. A law counts once. -/
mutual
def uptoBulk {H : Type} : DataW H → Nat
  | .lit (.string bytes) => bytes.length + 1
  | .lit _ => 1
  | .nil => 1
  | .ptr d => uptoBulk d + 1
  | .slice elems spare => uptoBulkAll elems + uptoBulkAll spare + 1
  | .agg parts => uptoBulkAll parts + 1
  | .iface _ d => uptoBulk d + 1
  | .map entries => uptoBulkEntries entries + 1
  | .held _ => 1
def uptoBulkAll {H : Type} : List (DataW H) → Nat
  | [] => 0
  | d :: r => uptoBulk d + uptoBulkAll r
def uptoBulkEntries {H : Type} : List (Lit × DataW H) → Nat
  | [] => 0
  | x :: r => uptoBulkEntry x + uptoBulkEntries r
def uptoBulkEntry {H : Type} : Lit × DataW H → Nat
  | (.string bytes, d) => bytes.length + uptoBulk d + 1
  | (_, d) => uptoBulk d + 1
 end
def uptoSmall : (H : Type) → List (DataW H) → Bool := fun _ ds => decide (uptoBulkAll ds ≤ 1048576)
def OpenSpec.upto (s : _root_.Go.ChangeSpec) : _root_.Go.OpenSpec := { _root_.Go.OpenSpec.ofChange s with cond := some uptoSmall }

/-- 'pinstripelaw20.ServerLists', WHERE WHAT IT READS IS OF BULK AT MOST 1048576: true; the input reads as it did. -/
def serverListsUptoRow : OpenClaim := { program := "ytdkhmfcfihbjeaagreatdoor", sum := "3554b837806f9410aacc51e234fecfcfe33d5e06f269a695f429a67e90f2c3e9", func := "pinstripe/pinstripelaw20.ServerLists", spec := "serverLists", unfollowed := true, recurses := true, named := ["unicode/utf8.first", "unicode/utf8.acceptRanges"], plainKeys := false, apart := false, laid := [("unicode/utf8.acceptRanges", laid_unicode_utf8_acceptRanges), ("unicode/utf8.first", laid_unicode_utf8_first)], narrowed := true }
def ServerListsUptoSaid : Prop := serverListsUptoRow.holds Tryz.pinned (OpenSpec.upto serverListsSpec)

/-- 'pinstripelaw20.ServerDead', WHERE WHAT IT READS IS OF BULK AT MOST 1048576: true; the input reads as it did. -/
def serverDeadUptoRow : OpenClaim := { program := "ytdkhmfcfihbjeaagreatdoor", sum := "3554b837806f9410aacc51e234fecfcfe33d5e06f269a695f429a67e90f2c3e9", func := "pinstripe/pinstripelaw20.ServerDead", spec := "serverDead", unfollowed := true, recurses := true, named := ["unicode/utf8.first", "unicode/utf8.acceptRanges"], plainKeys := false, apart := false, laid := [("unicode/utf8.acceptRanges", laid_unicode_utf8_acceptRanges), ("unicode/utf8.first", laid_unicode_utf8_first)], narrowed := true }
def ServerDeadUptoSaid : Prop := serverDeadUptoRow.holds Tryz.pinned (OpenSpec.upto serverDeadSpec)

/-- 'pinstripelaw20.ServerWhole', WHERE WHAT IT READS IS OF BULK AT MOST 1048576: true; the input reads as it did. -/
def serverWholeUptoRow : OpenClaim := { program := "ytdkhmfcfihbjeaagreatdoor", sum := "3554b837806f9410aacc51e234fecfcfe33d5e06f269a695f429a67e90f2c3e9", func := "pinstripe/pinstripelaw20.ServerWhole", spec := "serverWhole", unfollowed := true, recurses := true, named := ["unicode/utf8.first", "unicode/utf8.acceptRanges"], plainKeys := false, apart := false, laid := [("unicode/utf8.acceptRanges", laid_unicode_utf8_acceptRanges), ("unicode/utf8.first", laid_unicode_utf8_first)], narrowed := true }
def ServerWholeUptoSaid : Prop := serverWholeUptoRow.holds Tryz.pinned (OpenSpec.upto serverWholeSpec)

/-- 'pinstripelaw20.ServerKnown', WHERE WHAT IT READS IS OF BULK AT MOST 1048576: true; the input reads as it did. -/
def serverKnownUptoRow : OpenClaim := { program := "ytdkhmfcfihbjeaagreatdoor", sum := "3554b837806f9410aacc51e234fecfcfe33d5e06f269a695f429a67e90f2c3e9", func := "pinstripe/pinstripelaw20.ServerKnown", spec := "serverKnown", unfollowed := true, recurses := true, named := ["unicode/utf8.first", "unicode/utf8.acceptRanges"], plainKeys := false, apart := false, laid := [("unicode/utf8.acceptRanges", laid_unicode_utf8_acceptRanges), ("unicode/utf8.first", laid_unicode_utf8_first)], narrowed := true }
def ServerKnownUptoSaid : Prop := serverKnownUptoRow.holds Tryz.pinned (OpenSpec.upto serverKnownSpec)

/-- 'pinstripelaw20.ServerCodes', WHERE WHAT IT READS IS OF BULK AT MOST 1048576: true; the input reads as it did. -/
def serverCodesUptoRow : OpenClaim := { program := "ytdkhmfcfihbjeaagreatdoor", sum := "3554b837806f9410aacc51e234fecfcfe33d5e06f269a695f429a67e90f2c3e9", func := "pinstripe/pinstripelaw20.ServerCodes", spec := "serverCodes", unfollowed := true, recurses := true, named := ["unicode/utf8.first", "unicode/utf8.acceptRanges"], plainKeys := false, apart := false, laid := [("unicode/utf8.acceptRanges", laid_unicode_utf8_acceptRanges), ("unicode/utf8.first", laid_unicode_utf8_first)], narrowed := true }
def ServerCodesUptoSaid : Prop := serverCodesUptoRow.holds Tryz.pinned (OpenSpec.upto serverCodesSpec)

/-- 'pinstripelaw20.ServerPlays', WHERE WHAT IT READS IS OF BULK AT MOST 1048576: true; the input reads as it did. -/
def serverPlaysUptoRow : OpenClaim := { program := "ytdkhmfcfihbjeaagreatdoor", sum := "3554b837806f9410aacc51e234fecfcfe33d5e06f269a695f429a67e90f2c3e9", func := "pinstripe/pinstripelaw20.ServerPlays", spec := "serverPlays", unfollowed := true, recurses := true, named := ["unicode/utf8.first", "unicode/utf8.acceptRanges"], plainKeys := false, apart := false, laid := [("unicode/utf8.acceptRanges", laid_unicode_utf8_acceptRanges), ("unicode/utf8.first", laid_unicode_utf8_first)], narrowed := true }
def ServerPlaysUptoSaid : Prop := serverPlaysUptoRow.holds Tryz.pinned (OpenSpec.upto serverPlaysSpec)

end Rows
end Go.Proofs.YtdkhmfcfihbjeaaGreatDoor
