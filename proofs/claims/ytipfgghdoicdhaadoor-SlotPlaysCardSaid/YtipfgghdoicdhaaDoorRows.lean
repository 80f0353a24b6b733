/-
  NARROWER THAN 'FOR EVERY INPUT', by the rows' own cells (each row's printed sentence says how): SlotOpens: laid · SlotKnown: laid · SlotApart: laid · SlotDies: laid · SlotTwice: laid · SlotPlays: laid.
  DERIVED. THE GIVEN ROWS OF THIS SEAT. 6 by the template 'for every input the law returns true; each argument reads behind the call as it read before'; 0 by the template 'total and deterministic' (their statements: YtipfgghdoicdhaaDoorTotals.lean).
  GIVEN WITH THE SEED: the statements are not yours to turn. If you find one false, say at which input.
  Laid BY PROGRAM, IN A SANDBOX (cutbox-rows.mjs): the forced cells as the released guide's own fill.sh prints them over the translation d0985cf3461d899b… (all of the seat's roots in one cut). By AI agents, Wed Nov 11 2026. No macro, syntax, notation, axiom, sorry.
-/
import Derived.Test.YtipfgghdoicdhaaDoorChecked
import GoSem.PinnedTables
import GoSem.Claim
import GoSem.ClaimJoined
import GoSem.ClaimMapViews
import Derived.JoinedTies
import Derived.KernelRfl
namespace Go.Proofs.YtipfgghdoicdhaaDoor
/- THE CELL 'sum', in the pinned program and in every row, IS THE sha256 OF THE DUMP (.gsa) THAT YtipfgghdoicdhaaDoorProg.lean LOADS. Nothing in Lean hashes anything: it is a label: what it is worth is what the hold of that sum in a sandbox is worth. -/
noncomputable def Tryd.pinned : Pinned := { name := "ytipfgghdoicdhaadoor", sum := "d0985cf3461d899b4b9656d9e79c6061667dd2521f491305ee8fba099ae6d578", checked := Tryd.checked }
namespace Rows
def none {H : Type} : Left H := { results := [], args := [] }

/- WHAT THE LISTED PACKAGE-LEVEL VARIABLES READ AS WHEN THE CALL BEGINS. Each datum BY PROGRAM (the guide's laid-datum.mjs) off the statement by which the dump's own 'gosem.cut.vars' lays the variable. In a bare row this is a premise. The card (YtipfgghdoicdhaaDoorCards.lean) ties it to the program's text. -/
def laid_unicode_utf8_acceptRanges {H : Type} : DataW H := .agg [.agg [.lit (.int .u8 128), .lit (.int .u8 191)], .agg [.lit (.int .u8 160), .lit (.int .u8 191)], .agg [.lit (.int .u8 128), .lit (.int .u8 159)], .agg [.lit (.int .u8 144), .lit (.int .u8 191)], .agg [.lit (.int .u8 128), .lit (.int .u8 143)], .agg [.lit (.int .u8 0), .lit (.int .u8 0)], .agg [.lit (.int .u8 0), .lit (.int .u8 0)], .agg [.lit (.int .u8 0), .lit (.int .u8 0)], .agg [.lit (.int .u8 0), .lit (.int .u8 0)], .agg [.lit (.int .u8 0), .lit (.int .u8 0)], .agg [.lit (.int .u8 0), .lit (.int .u8 0)], .agg [.lit (.int .u8 0), .lit (.int .u8 0)], .agg [.lit (.int .u8 0), .lit (.int .u8 0)], .agg [.lit (.int .u8 0), .lit (.int .u8 0)], .agg [.lit (.int .u8 0), .lit (.int .u8 0)], .agg [.lit (.int .u8 0), .lit (.int .u8 0)]]
/-- One of Go's own tables, pinned by name: the form's constant. -/
def laid_unicode_utf8_first : DataW Unit := Go.Pinned.utf8First

/-- 'pinstripelaw5.SlotOpens': WHATEVER THE INPUT: true; the input reads as it did. -/
def slotOpensSpec : ChangeSpec := { name := "slotOpens", fn := fun _ => fun
  | [d] => { results := [.lit (.bool true)], args := [d] }
  | _ => none }
def slotOpensRow : OpenClaim := { program := "ytipfgghdoicdhaadoor", sum := "d0985cf3461d899b4b9656d9e79c6061667dd2521f491305ee8fba099ae6d578", func := "pinstripe/pinstripelaw5.SlotOpens", spec := "slotOpens", unfollowed := true, recurses := true, named := ["unicode/utf8.first", "unicode/utf8.acceptRanges"], apart := false, laid := [("unicode/utf8.acceptRanges", laid_unicode_utf8_acceptRanges), ("unicode/utf8.first", laid_unicode_utf8_first)] }
def SlotOpensSaid : Prop := slotOpensRow.holds Tryd.pinned (OpenSpec.ofChange slotOpensSpec)

/-- ITS FALSE NEIGHBOUR: 'it returns false'. Refute it at one input. -/
def slotOpensWrong : ChangeSpec := { name := "slotOpens", fn := fun _ => fun
  | [d] => { results := [.lit (.bool false)], args := [d] }
  | _ => none }
def SlotOpensWrongFalsely : Prop := slotOpensRow.holds Tryd.pinned (OpenSpec.ofChange slotOpensWrong)

/-- 'pinstripelaw5.SlotKnown': WHATEVER THE INPUT: true; the input reads as it did. -/
def slotKnownSpec : ChangeSpec := { name := "slotKnown", fn := fun _ => fun
  | [] => { results := [.lit (.bool true)], args := [] }
  | _ => none }
def slotKnownRow : OpenClaim := { program := "ytipfgghdoicdhaadoor", sum := "d0985cf3461d899b4b9656d9e79c6061667dd2521f491305ee8fba099ae6d578", func := "pinstripe/pinstripelaw5.SlotKnown", spec := "slotKnown", unfollowed := true, recurses := true, named := ["unicode/utf8.first", "unicode/utf8.acceptRanges"], apart := false, laid := [("unicode/utf8.acceptRanges", laid_unicode_utf8_acceptRanges), ("unicode/utf8.first", laid_unicode_utf8_first)] }
def SlotKnownSaid : Prop := slotKnownRow.holds Tryd.pinned (OpenSpec.ofChange slotKnownSpec)

/-- ITS FALSE NEIGHBOUR: 'it returns false'. Refute it at one input. -/
def slotKnownWrong : ChangeSpec := { name := "slotKnown", fn := fun _ => fun
  | [] => { results := [.lit (.bool false)], args := [] }
  | _ => none }
def SlotKnownWrongFalsely : Prop := slotKnownRow.holds Tryd.pinned (OpenSpec.ofChange slotKnownWrong)

/-- 'pinstripelaw5.SlotApart': WHATEVER THE INPUT: true; the input reads as it did. -/
def slotApartSpec : ChangeSpec := { name := "slotApart", fn := fun _ => fun
  | [d] => { results := [.lit (.bool true)], args := [d] }
  | _ => none }
def slotApartRow : OpenClaim := { program := "ytipfgghdoicdhaadoor", sum := "d0985cf3461d899b4b9656d9e79c6061667dd2521f491305ee8fba099ae6d578", func := "pinstripe/pinstripelaw5.SlotApart", spec := "slotApart", unfollowed := true, recurses := true, named := ["unicode/utf8.first", "unicode/utf8.acceptRanges"], apart := false, laid := [("unicode/utf8.acceptRanges", laid_unicode_utf8_acceptRanges), ("unicode/utf8.first", laid_unicode_utf8_first)] }
def SlotApartSaid : Prop := slotApartRow.holds Tryd.pinned (OpenSpec.ofChange slotApartSpec)

/-- ITS FALSE NEIGHBOUR: 'it returns false'. Refute it at one input. -/
def slotApartWrong : ChangeSpec := { name := "slotApart", fn := fun _ => fun
  | [d] => { results := [.lit (.bool false)], args := [d] }
  | _ => none }
def SlotApartWrongFalsely : Prop := slotApartRow.holds Tryd.pinned (OpenSpec.ofChange slotApartWrong)

/-- 'pinstripelaw5.SlotDies': WHATEVER THE INPUT: true; the input reads as it did. -/
def slotDiesSpec : ChangeSpec := { name := "slotDies", fn := fun _ => fun
  | [d1, d2, d3] => { results := [.lit (.bool true)], args := [d1, d2, d3] }
  | _ => none }
def slotDiesRow : OpenClaim := { program := "ytipfgghdoicdhaadoor", sum := "d0985cf3461d899b4b9656d9e79c6061667dd2521f491305ee8fba099ae6d578", func := "pinstripe/pinstripelaw5.SlotDies", spec := "slotDies", unfollowed := true, recurses := true, named := ["unicode/utf8.first", "unicode/utf8.acceptRanges"], apart := false, laid := [("unicode/utf8.acceptRanges", laid_unicode_utf8_acceptRanges), ("unicode/utf8.first", laid_unicode_utf8_first)] }
def SlotDiesSaid : Prop := slotDiesRow.holds Tryd.pinned (OpenSpec.ofChange slotDiesSpec)

/-- ITS FALSE NEIGHBOUR: 'it returns false'. Refute it at one input. -/
def slotDiesWrong : ChangeSpec := { name := "slotDies", fn := fun _ => fun
  | [d1, d2, d3] => { results := [.lit (.bool false)], args := [d1, d2, d3] }
  | _ => none }
def SlotDiesWrongFalsely : Prop := slotDiesRow.holds Tryd.pinned (OpenSpec.ofChange slotDiesWrong)

/-- 'pinstripelaw5.SlotTwice': WHATEVER THE INPUT: true; the input reads as it did. -/
def slotTwiceSpec : ChangeSpec := { name := "slotTwice", fn := fun _ => fun
  | [d1, d2, d3] => { results := [.lit (.bool true)], args := [d1, d2, d3] }
  | _ => none }
def slotTwiceRow : OpenClaim := { program := "ytipfgghdoicdhaadoor", sum := "d0985cf3461d899b4b9656d9e79c6061667dd2521f491305ee8fba099ae6d578", func := "pinstripe/pinstripelaw5.SlotTwice", spec := "slotTwice", unfollowed := true, recurses := true, named := ["unicode/utf8.first", "unicode/utf8.acceptRanges"], apart := false, laid := [("unicode/utf8.acceptRanges", laid_unicode_utf8_acceptRanges), ("unicode/utf8.first", laid_unicode_utf8_first)] }
def SlotTwiceSaid : Prop := slotTwiceRow.holds Tryd.pinned (OpenSpec.ofChange slotTwiceSpec)

/-- ITS FALSE NEIGHBOUR: 'it returns false'. Refute it at one input. -/
def slotTwiceWrong : ChangeSpec := { name := "slotTwice", fn := fun _ => fun
  | [d1, d2, d3] => { results := [.lit (.bool false)], args := [d1, d2, d3] }
  | _ => none }
def SlotTwiceWrongFalsely : Prop := slotTwiceRow.holds Tryd.pinned (OpenSpec.ofChange slotTwiceWrong)

/-- 'pinstripelaw5.SlotPlays': WHATEVER THE INPUT: true; the input reads as it did. -/
def slotPlaysSpec : ChangeSpec := { name := "slotPlays", fn := fun _ => fun
  | [d1, d2, d3] => { results := [.lit (.bool true)], args := [d1, d2, d3] }
  | _ => none }
def slotPlaysRow : OpenClaim := { program := "ytipfgghdoicdhaadoor", sum := "d0985cf3461d899b4b9656d9e79c6061667dd2521f491305ee8fba099ae6d578", func := "pinstripe/pinstripelaw5.SlotPlays", spec := "slotPlays", unfollowed := true, recurses := true, named := ["unicode/utf8.first", "unicode/utf8.acceptRanges"], apart := false, laid := [("unicode/utf8.acceptRanges", laid_unicode_utf8_acceptRanges), ("unicode/utf8.first", laid_unicode_utf8_first)] }
def SlotPlaysSaid : Prop := slotPlaysRow.holds Tryd.pinned (OpenSpec.ofChange slotPlaysSpec)

/-- ITS FALSE NEIGHBOUR: 'it returns false'. Refute it at one input. -/
def slotPlaysWrong : ChangeSpec := { name := "slotPlays", fn := fun _ => fun
  | [d1, d2, d3] => { results := [.lit (.bool false)], args := [d1, d2, d3] }
  | _ => none }
def SlotPlaysWrongFalsely : Prop := slotPlaysRow.holds Tryd.pinned (OpenSpec.ofChange slotPlaysWrong)

/- THE SECOND FORM. 'bulk': how many values and letters a reading holds, each counted each time it is reached (what is shared counts as often as it is met; a slice's spare places count too). A statement '..UptoSaid' is the law's where the arguments, and the package variables that the reading takes, are together of bulk at most 1048576: NARROWER than '..Said'. Prove '..Said' where nothing that the law and all that it calls make is longer than what came in: it says more and counts as full. Else prove '..UptoSaid'. A law counts once. -/
mutual
def uptoBulk {H : Type} : DataW H → Nat
  | .lit (.string bytes) => bytes.length + 1
  | .lit _ => 1
  | .nil => 1
  | .ptr d => uptoBulk d + 1
  | .slice elems spare => uptoBulkAll elems + uptoBulkAll spare + 1
  | .agg parts => uptoBulkAll parts + 1
  | .iface _ d => uptoBulk d + 1
  | .map entries => uptoBulkEntries entries + 1
  | .held _ => 1
def uptoBulkAll {H : Type} : List (DataW H) → Nat
  | [] => 0
  | d :: r => uptoBulk d + uptoBulkAll r
def uptoBulkEntries {H : Type} : List (Lit × DataW H) → Nat
  | [] => 0
  | x :: r => uptoBulkEntry x + uptoBulkEntries r
def uptoBulkEntry {H : Type} : Lit × DataW H → Nat
  | (.string bytes, d) => bytes.length + uptoBulk d + 1
  | (_, d) => uptoBulk d + 1
 end
def uptoSmall : (H : Type) → List (DataW H) → Bool := fun _ ds => decide (uptoBulkAll ds ≤ 1048576)
def OpenSpec.upto (s : _root_.Go.ChangeSpec) : _root_.Go.OpenSpec := { _root_.Go.OpenSpec.ofChange s with cond := some uptoSmall }

/-- 'pinstripelaw5.SlotOpens', WHERE WHAT IT READS IS OF BULK AT MOST 1048576: true; the input reads as it did. -/
def slotOpensUptoRow : OpenClaim := { program := "ytipfgghdoicdhaadoor", sum := "d0985cf3461d899b4b9656d9e79c6061667dd2521f491305ee8fba099ae6d578", func := "pinstripe/pinstripelaw5.SlotOpens", spec := "slotOpens", unfollowed := true, recurses := true, named := ["unicode/utf8.first", "unicode/utf8.acceptRanges"], apart := false, laid := [("unicode/utf8.acceptRanges", laid_unicode_utf8_acceptRanges), ("unicode/utf8.first", laid_unicode_utf8_first)], narrowed := true }
def SlotOpensUptoSaid : Prop := slotOpensUptoRow.holds Tryd.pinned (OpenSpec.upto slotOpensSpec)

/-- 'pinstripelaw5.SlotKnown', WHERE WHAT IT READS IS OF BULK AT MOST 1048576: true; the input reads as it did. -/
def slotKnownUptoRow : OpenClaim := { program := "ytipfgghdoicdhaadoor", sum := "d0985cf3461d899b4b9656d9e79c6061667dd2521f491305ee8fba099ae6d578", func := "pinstripe/pinstripelaw5.SlotKnown", spec := "slotKnown", unfollowed := true, recurses := true, named := ["unicode/utf8.first", "unicode/utf8.acceptRanges"], apart := false, laid := [("unicode/utf8.acceptRanges", laid_unicode_utf8_acceptRanges), ("unicode/utf8.first", laid_unicode_utf8_first)], narrowed := true }
def SlotKnownUptoSaid : Prop := slotKnownUptoRow.holds Tryd.pinned (OpenSpec.upto slotKnownSpec)

/-- 'pinstripelaw5.SlotApart', WHERE WHAT IT READS IS OF BULK AT MOST 1048576: true; the input reads as it did. -/
def slotApartUptoRow : OpenClaim := { program := "ytipfgghdoicdhaadoor", sum := "d0985cf3461d899b4b9656d9e79c6061667dd2521f491305ee8fba099ae6d578", func := "pinstripe/pinstripelaw5.SlotApart", spec := "slotApart", unfollowed := true, recurses := true, named := ["unicode/utf8.first", "unicode/utf8.acceptRanges"], apart := false, laid := [("unicode/utf8.acceptRanges", laid_unicode_utf8_acceptRanges), ("unicode/utf8.first", laid_unicode_utf8_first)], narrowed := true }
def SlotApartUptoSaid : Prop := slotApartUptoRow.holds Tryd.pinned (OpenSpec.upto slotApartSpec)

/-- 'pinstripelaw5.SlotDies', WHERE WHAT IT READS IS OF BULK AT MOST 1048576: true; the input reads as it did. -/
def slotDiesUptoRow : OpenClaim := { program := "ytipfgghdoicdhaadoor", sum := "d0985cf3461d899b4b9656d9e79c6061667dd2521f491305ee8fba099ae6d578", func := "pinstripe/pinstripelaw5.SlotDies", spec := "slotDies", unfollowed := true, recurses := true, named := ["unicode/utf8.first", "unicode/utf8.acceptRanges"], apart := false, laid := [("unicode/utf8.acceptRanges", laid_unicode_utf8_acceptRanges), ("unicode/utf8.first", laid_unicode_utf8_first)], narrowed := true }
def SlotDiesUptoSaid : Prop := slotDiesUptoRow.holds Tryd.pinned (OpenSpec.upto slotDiesSpec)

/-- 'pinstripelaw5.SlotTwice', WHERE WHAT IT READS IS OF BULK AT MOST 1048576: true; the input reads as it did. -/
def slotTwiceUptoRow : OpenClaim := { program := "ytipfgghdoicdhaadoor", sum := "d0985cf3461d899b4b9656d9e79c6061667dd2521f491305ee8fba099ae6d578", func := "pinstripe/pinstripelaw5.SlotTwice", spec := "slotTwice", unfollowed := true, recurses := true, named := ["unicode/utf8.first", "unicode/utf8.acceptRanges"], apart := false, laid := [("unicode/utf8.acceptRanges", laid_unicode_utf8_acceptRanges), ("unicode/utf8.first", laid_unicode_utf8_first)], narrowed := true }
def SlotTwiceUptoSaid : Prop := slotTwiceUptoRow.holds Tryd.pinned (OpenSpec.upto slotTwiceSpec)

/-- 'pinstripelaw5.SlotPlays', WHERE WHAT IT READS IS OF BULK AT MOST 1048576: true; the input reads as it did. -/
def slotPlaysUptoRow : OpenClaim := { program := "ytipfgghdoicdhaadoor", sum := "d0985cf3461d899b4b9656d9e79c6061667dd2521f491305ee8fba099ae6d578", func := "pinstripe/pinstripelaw5.SlotPlays", spec := "slotPlays", unfollowed := true, recurses := true, named := ["unicode/utf8.first", "unicode/utf8.acceptRanges"], apart := false, laid := [("unicode/utf8.acceptRanges", laid_unicode_utf8_acceptRanges), ("unicode/utf8.first", laid_unicode_utf8_first)], narrowed := true }
def SlotPlaysUptoSaid : Prop := slotPlaysUptoRow.holds Tryd.pinned (OpenSpec.upto slotPlaysSpec)

end Rows
end Go.Proofs.YtipfgghdoicdhaaDoor
