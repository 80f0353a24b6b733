/-
  No cell of these rows narrows 'for every input' (looked for: loops, veiled, ifaces, maps, wideKeys, modest, calm, conditions, laid).
  DERIVED. THE GIVEN ROWS OF THIS SEAT. 5 by the template 'for every input the law returns true; each argument reads behind the call as it read before'; 0 by the template 'total and deterministic' (their statements: YtaophafailmhjaaTotals.lean).
  GIVEN WITH THE SEED: the statements are not yours to turn. If you find one false, say at which input.
  Laid BY PROGRAM, IN A SANDBOX (cutbox-rows.mjs): the forced cells as the released guide's own fill.sh prints them over the translation e6e849486840fa73… (all of the seat's roots in one cut). By AI agents, Wed Nov 11 2026. No macro, syntax, notation, axiom, sorry.
-/
import Derived.Test.YtaophafailmhjaaChecked
import GoSem.Claim
import GoSem.ClaimJoined
import GoSem.ClaimMapViews
import Derived.JoinedTies
import Derived.KernelRfl
namespace Go.Proofs.Ytaophafailmhjaa
/- THE CELL 'sum', in the pinned program and in every row, IS THE sha256 OF THE DUMP (.gsa) THAT YtaophafailmhjaaProg.lean LOADS. Nothing in Lean hashes anything: it is a label: what it is worth is what the hold of that sum in a sandbox is worth. -/
noncomputable def Try.pinned : Pinned := { name := "ytaophafailmhjaa", sum := "e6e849486840fa731753f96d2b1e7aca07c93aeb595c2bcccf9904bc2317d914", checked := Try.checked }
namespace Rows
def none {H : Type} : Left H := { results := [], args := [] }

/-- 'pinstripelaw26.PlainBytes': WHATEVER THE INPUT: true; the input reads as it did. -/
def plainBytesSpec : ChangeSpec := { name := "plainBytes", fn := fun _ => fun
  | [d1, d2, d3] => { results := [.lit (.bool true)], args := [d1, d2, d3] }
  | _ => none }
def plainBytesRow : OpenClaim := { program := "ytaophafailmhjaa", sum := "e6e849486840fa731753f96d2b1e7aca07c93aeb595c2bcccf9904bc2317d914", func := "pinstripe/pinstripelaw26.PlainBytes", spec := "plainBytes", inPlace := ["internal/bytealg.IndexByteString", "internal/abi.NoEscape", "internal/bytealg.MakeNoZero", "internal/bytealg.abigen_runtime_cmpstring", "slices.overlaps[pinstripe/tokens.Row]"], unfollowed := true, recurses := true, plainKeys := false, apart := false }
def PlainBytesSaid : Prop := plainBytesRow.holds Try.pinned (OpenSpec.ofChange plainBytesSpec)

/-- ITS FALSE NEIGHBOUR: 'it returns false'. Refute it at one input. -/
def plainBytesWrong : ChangeSpec := { name := "plainBytes", fn := fun _ => fun
  | [d1, d2, d3] => { results := [.lit (.bool false)], args := [d1, d2, d3] }
  | _ => none }
def PlainBytesWrongFalsely : Prop := plainBytesRow.holds Try.pinned (OpenSpec.ofChange plainBytesWrong)

/-- 'pinstripelaw26.PlainKnown': WHATEVER THE INPUT: true; the input reads as it did. -/
def plainKnownSpec : ChangeSpec := { name := "plainKnown", fn := fun _ => fun
  | [] => { results := [.lit (.bool true)], args := [] }
  | _ => none }
def plainKnownRow : OpenClaim := { program := "ytaophafailmhjaa", sum := "e6e849486840fa731753f96d2b1e7aca07c93aeb595c2bcccf9904bc2317d914", func := "pinstripe/pinstripelaw26.PlainKnown", spec := "plainKnown", inPlace := ["internal/bytealg.IndexByteString", "internal/abi.NoEscape", "internal/bytealg.MakeNoZero", "internal/bytealg.abigen_runtime_cmpstring", "slices.overlaps[pinstripe/tokens.Row]"], unfollowed := true, recurses := true, plainKeys := false, apart := false }
def PlainKnownSaid : Prop := plainKnownRow.holds Try.pinned (OpenSpec.ofChange plainKnownSpec)

/-- ITS FALSE NEIGHBOUR: 'it returns false'. Refute it at one input. -/
def plainKnownWrong : ChangeSpec := { name := "plainKnown", fn := fun _ => fun
  | [] => { results := [.lit (.bool false)], args := [] }
  | _ => none }
def PlainKnownWrongFalsely : Prop := plainKnownRow.holds Try.pinned (OpenSpec.ofChange plainKnownWrong)

/-- 'pinstripelaw26.PlainTwo': WHATEVER THE INPUT: true; the input reads as it did. -/
def plainTwoSpec : ChangeSpec := { name := "plainTwo", fn := fun _ => fun
  | [d1, d2] => { results := [.lit (.bool true)], args := [d1, d2] }
  | _ => none }
def plainTwoRow : OpenClaim := { program := "ytaophafailmhjaa", sum := "e6e849486840fa731753f96d2b1e7aca07c93aeb595c2bcccf9904bc2317d914", func := "pinstripe/pinstripelaw26.PlainTwo", spec := "plainTwo", inPlace := ["internal/bytealg.IndexByteString", "internal/abi.NoEscape", "internal/bytealg.MakeNoZero", "internal/bytealg.abigen_runtime_cmpstring", "slices.overlaps[pinstripe/tokens.Row]"], unfollowed := true, recurses := true, plainKeys := false, apart := false }
def PlainTwoSaid : Prop := plainTwoRow.holds Try.pinned (OpenSpec.ofChange plainTwoSpec)

/-- ITS FALSE NEIGHBOUR: 'it returns false'. Refute it at one input. -/
def plainTwoWrong : ChangeSpec := { name := "plainTwo", fn := fun _ => fun
  | [d1, d2] => { results := [.lit (.bool false)], args := [d1, d2] }
  | _ => none }
def PlainTwoWrongFalsely : Prop := plainTwoRow.holds Try.pinned (OpenSpec.ofChange plainTwoWrong)

/-- 'pinstripelaw26.PlainNames': WHATEVER THE INPUT: true; the input reads as it did. -/
def plainNamesSpec : ChangeSpec := { name := "plainNames", fn := fun _ => fun
  | [d1, d2, d3] => { results := [.lit (.bool true)], args := [d1, d2, d3] }
  | _ => none }
def plainNamesRow : OpenClaim := { program := "ytaophafailmhjaa", sum := "e6e849486840fa731753f96d2b1e7aca07c93aeb595c2bcccf9904bc2317d914", func := "pinstripe/pinstripelaw26.PlainNames", spec := "plainNames", inPlace := ["internal/bytealg.IndexByteString", "internal/abi.NoEscape", "internal/bytealg.MakeNoZero", "internal/bytealg.abigen_runtime_cmpstring", "slices.overlaps[pinstripe/tokens.Row]"], unfollowed := true, recurses := true, plainKeys := false, apart := false }
def PlainNamesSaid : Prop := plainNamesRow.holds Try.pinned (OpenSpec.ofChange plainNamesSpec)

/-- ITS FALSE NEIGHBOUR: 'it returns false'. Refute it at one input. -/
def plainNamesWrong : ChangeSpec := { name := "plainNames", fn := fun _ => fun
  | [d1, d2, d3] => { results := [.lit (.bool false)], args := [d1, d2, d3] }
  | _ => none }
def PlainNamesWrongFalsely : Prop := plainNamesRow.holds Try.pinned (OpenSpec.ofChange plainNamesWrong)

/-- 'pinstripelaw26.PlainHandles': WHATEVER THE INPUT: true; the input reads as it did. -/
def plainHandlesSpec : ChangeSpec := { name := "plainHandles", fn := fun _ => fun
  | [d1, d2] => { results := [.lit (.bool true)], args := [d1, d2] }
  | _ => none }
def plainHandlesRow : OpenClaim := { program := "ytaophafailmhjaa", sum := "e6e849486840fa731753f96d2b1e7aca07c93aeb595c2bcccf9904bc2317d914", func := "pinstripe/pinstripelaw26.PlainHandles", spec := "plainHandles", inPlace := ["internal/bytealg.IndexByteString", "internal/abi.NoEscape", "internal/bytealg.MakeNoZero", "internal/bytealg.abigen_runtime_cmpstring", "slices.overlaps[pinstripe/tokens.Row]"], unfollowed := true, recurses := true, plainKeys := false, apart := false }
def PlainHandlesSaid : Prop := plainHandlesRow.holds Try.pinned (OpenSpec.ofChange plainHandlesSpec)

/-- ITS FALSE NEIGHBOUR: 'it returns false'. Refute it at one input. -/
def plainHandlesWrong : ChangeSpec := { name := "plainHandles", fn := fun _ => fun
  | [d1, d2] => { results := [.lit (.bool false)], args := [d1, d2] }
  | _ => none }
def PlainHandlesWrongFalsely : Prop := plainHandlesRow.holds Try.pinned (OpenSpec.ofChange plainHandlesWrong)

/- THE SECOND FORM. 'bulk': how many values and letters a reading holds, each counted each time it is reached (what is shared counts as often as it is met; a slice's spare places count too). A statement '..UptoSaid' is the law's where the arguments, and the package variables that the reading takes, are together of bulk at most 1048576: NARROWER than '..Said'. Prove '..Said' where nothing that the law and all that it calls make is longer than what came in: it says more and counts as full. Else prove '..UptoSaid'. A law counts once. -/
mutual
def uptoBulk {H : Type} : DataW H → Nat
  | .lit (.string bytes) => bytes.length + 1
  | .lit _ => 1
  | .nil => 1
  | .ptr d => uptoBulk d + 1
  | .slice elems spare => uptoBulkAll elems + uptoBulkAll spare + 1
  | .agg parts => uptoBulkAll parts + 1
  | .iface _ d => uptoBulk d + 1
  | .map entries => uptoBulkEntries entries + 1
  | .held _ => 1
def uptoBulkAll {H : Type} : List (DataW H) → Nat
  | [] => 0
  | d :: r => uptoBulk d + uptoBulkAll r
def uptoBulkEntries {H : Type} : List (Lit × DataW H) → Nat
  | [] => 0
  | x :: r => uptoBulkEntry x + uptoBulkEntries r
def uptoBulkEntry {H : Type} : Lit × DataW H → Nat
  | (.string bytes, d) => bytes.length + uptoBulk d + 1
  | (_, d) => uptoBulk d + 1
 end
def uptoSmall : (H : Type) → List (DataW H) → Bool := fun _ ds => decide (uptoBulkAll ds ≤ 1048576)
def OpenSpec.upto (s : _root_.Go.ChangeSpec) : _root_.Go.OpenSpec := { _root_.Go.OpenSpec.ofChange s with cond := some uptoSmall }

/-- 'pinstripelaw26.PlainBytes', WHERE WHAT IT READS IS OF BULK AT MOST 1048576: true; the input reads as it did. -/
def plainBytesUptoRow : OpenClaim := { program := "ytaophafailmhjaa", sum := "e6e849486840fa731753f96d2b1e7aca07c93aeb595c2bcccf9904bc2317d914", func := "pinstripe/pinstripelaw26.PlainBytes", spec := "plainBytes", inPlace := ["internal/bytealg.IndexByteString", "internal/abi.NoEscape", "internal/bytealg.MakeNoZero", "internal/bytealg.abigen_runtime_cmpstring", "slices.overlaps[pinstripe/tokens.Row]"], unfollowed := true, recurses := true, plainKeys := false, apart := false, narrowed := true }
def PlainBytesUptoSaid : Prop := plainBytesUptoRow.holds Try.pinned (OpenSpec.upto plainBytesSpec)

/-- 'pinstripelaw26.PlainKnown', WHERE WHAT IT READS IS OF BULK AT MOST 1048576: true; the input reads as it did. -/
def plainKnownUptoRow : OpenClaim := { program := "ytaophafailmhjaa", sum := "e6e849486840fa731753f96d2b1e7aca07c93aeb595c2bcccf9904bc2317d914", func := "pinstripe/pinstripelaw26.PlainKnown", spec := "plainKnown", inPlace := ["internal/bytealg.IndexByteString", "internal/abi.NoEscape", "internal/bytealg.MakeNoZero", "internal/bytealg.abigen_runtime_cmpstring", "slices.overlaps[pinstripe/tokens.Row]"], unfollowed := true, recurses := true, plainKeys := false, apart := false, narrowed := true }
def PlainKnownUptoSaid : Prop := plainKnownUptoRow.holds Try.pinned (OpenSpec.upto plainKnownSpec)

/-- 'pinstripelaw26.PlainTwo', WHERE WHAT IT READS IS OF BULK AT MOST 1048576: true; the input reads as it did. -/
def plainTwoUptoRow : OpenClaim := { program := "ytaophafailmhjaa", sum := "e6e849486840fa731753f96d2b1e7aca07c93aeb595c2bcccf9904bc2317d914", func := "pinstripe/pinstripelaw26.PlainTwo", spec := "plainTwo", inPlace := ["internal/bytealg.IndexByteString", "internal/abi.NoEscape", "internal/bytealg.MakeNoZero", "internal/bytealg.abigen_runtime_cmpstring", "slices.overlaps[pinstripe/tokens.Row]"], unfollowed := true, recurses := true, plainKeys := false, apart := false, narrowed := true }
def PlainTwoUptoSaid : Prop := plainTwoUptoRow.holds Try.pinned (OpenSpec.upto plainTwoSpec)

/-- 'pinstripelaw26.PlainNames', WHERE WHAT IT READS IS OF BULK AT MOST 1048576: true; the input reads as it did. -/
def plainNamesUptoRow : OpenClaim := { program := "ytaophafailmhjaa", sum := "e6e849486840fa731753f96d2b1e7aca07c93aeb595c2bcccf9904bc2317d914", func := "pinstripe/pinstripelaw26.PlainNames", spec := "plainNames", inPlace := ["internal/bytealg.IndexByteString", "internal/abi.NoEscape", "internal/bytealg.MakeNoZero", "internal/bytealg.abigen_runtime_cmpstring", "slices.overlaps[pinstripe/tokens.Row]"], unfollowed := true, recurses := true, plainKeys := false, apart := false, narrowed := true }
def PlainNamesUptoSaid : Prop := plainNamesUptoRow.holds Try.pinned (OpenSpec.upto plainNamesSpec)

/-- 'pinstripelaw26.PlainHandles', WHERE WHAT IT READS IS OF BULK AT MOST 1048576: true; the input reads as it did. -/
def plainHandlesUptoRow : OpenClaim := { program := "ytaophafailmhjaa", sum := "e6e849486840fa731753f96d2b1e7aca07c93aeb595c2bcccf9904bc2317d914", func := "pinstripe/pinstripelaw26.PlainHandles", spec := "plainHandles", inPlace := ["internal/bytealg.IndexByteString", "internal/abi.NoEscape", "internal/bytealg.MakeNoZero", "internal/bytealg.abigen_runtime_cmpstring", "slices.overlaps[pinstripe/tokens.Row]"], unfollowed := true, recurses := true, plainKeys := false, apart := false, narrowed := true }
def PlainHandlesUptoSaid : Prop := plainHandlesUptoRow.holds Try.pinned (OpenSpec.upto plainHandlesSpec)

end Rows
end Go.Proofs.Ytaophafailmhjaa
