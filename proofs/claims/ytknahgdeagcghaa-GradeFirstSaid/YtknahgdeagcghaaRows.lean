/-
  No cell of these rows narrows 'for every input' (looked for: loops, veiled, ifaces, maps, wideKeys, modest, calm, conditions, laid).
  DERIVED. THE GIVEN ROWS OF THIS SEAT. 7 by the template 'for every input the law returns true; each argument reads behind the call as it read before'; 0 by the template 'total and deterministic' (their statements: YtknahgdeagcghaaTotals.lean).
  GIVEN WITH THE SEED: the statements are not yours to turn. If you find one false, say at which input.
  Laid BY PROGRAM, IN A SANDBOX (cutbox-rows.mjs): the forced cells as the released guide's own fill.sh prints them over the translation a43cf2240f774444… (all of the seat's roots in one cut). By AI agents, Wed Nov 11 2026. No macro, syntax, notation, axiom, sorry.
-/
import Derived.Test.YtknahgdeagcghaaChecked
import GoSem.Claim
import GoSem.ClaimJoined
import GoSem.ClaimMapViews
import Derived.JoinedTies
import Derived.KernelRfl
namespace Go.Proofs.Ytknahgdeagcghaa
/- THE CELL 'sum', in the pinned program and in every row, IS THE sha256 OF THE DUMP (.gsa) THAT YtknahgdeagcghaaProg.lean LOADS. Nothing in Lean hashes anything: it is a label: what it is worth is what the hold of that sum in a sandbox is worth. -/
noncomputable def Try.pinned : Pinned := { name := "ytknahgdeagcghaa", sum := "a43cf2240f774444e0067db505789e817302419aec1255fcd73fe368df354b7e", checked := Try.checked }
namespace Rows
def none {H : Type} : Left H := { results := [], args := [] }

/-- 'pinstripelaw3.GradeOrders': WHATEVER THE INPUT: true; the input reads as it did. -/
def gradeOrdersSpec : ChangeSpec := { name := "gradeOrders", fn := fun _ => fun
  | [d1, d2, d3] => { results := [.lit (.bool true)], args := [d1, d2, d3] }
  | _ => none }
def gradeOrdersRow : OpenClaim := { program := "ytknahgdeagcghaa", sum := "a43cf2240f774444e0067db505789e817302419aec1255fcd73fe368df354b7e", func := "pinstripe/pinstripelaw3.GradeOrders", spec := "gradeOrders", inPlace := ["math.Float64bits"], apart := false }
def GradeOrdersSaid : Prop := gradeOrdersRow.holds Try.pinned (OpenSpec.ofChange gradeOrdersSpec)

/-- ITS FALSE NEIGHBOUR: 'it returns false'. Refute it at one input. -/
def gradeOrdersWrong : ChangeSpec := { name := "gradeOrders", fn := fun _ => fun
  | [d1, d2, d3] => { results := [.lit (.bool false)], args := [d1, d2, d3] }
  | _ => none }
def GradeOrdersWrongFalsely : Prop := gradeOrdersRow.holds Try.pinned (OpenSpec.ofChange gradeOrdersWrong)

/-- 'pinstripelaw3.GradeGrades': WHATEVER THE INPUT: true; the input reads as it did. -/
def gradeGradesSpec : ChangeSpec := { name := "gradeGrades", fn := fun _ => fun
  | [d1, d2, d3] => { results := [.lit (.bool true)], args := [d1, d2, d3] }
  | _ => none }
def gradeGradesRow : OpenClaim := { program := "ytknahgdeagcghaa", sum := "a43cf2240f774444e0067db505789e817302419aec1255fcd73fe368df354b7e", func := "pinstripe/pinstripelaw3.GradeGrades", spec := "gradeGrades", inPlace := ["math.Float64bits"], apart := false }
def GradeGradesSaid : Prop := gradeGradesRow.holds Try.pinned (OpenSpec.ofChange gradeGradesSpec)

/-- ITS FALSE NEIGHBOUR: 'it returns false'. Refute it at one input. -/
def gradeGradesWrong : ChangeSpec := { name := "gradeGrades", fn := fun _ => fun
  | [d1, d2, d3] => { results := [.lit (.bool false)], args := [d1, d2, d3] }
  | _ => none }
def GradeGradesWrongFalsely : Prop := gradeGradesRow.holds Try.pinned (OpenSpec.ofChange gradeGradesWrong)

/-- 'pinstripelaw3.GradeFalls': WHATEVER THE INPUT: true; the input reads as it did. -/
def gradeFallsSpec : ChangeSpec := { name := "gradeFalls", fn := fun _ => fun
  | [d1, d2, d3] => { results := [.lit (.bool true)], args := [d1, d2, d3] }
  | _ => none }
def gradeFallsRow : OpenClaim := { program := "ytknahgdeagcghaa", sum := "a43cf2240f774444e0067db505789e817302419aec1255fcd73fe368df354b7e", func := "pinstripe/pinstripelaw3.GradeFalls", spec := "gradeFalls", inPlace := ["math.Float64bits"], apart := false }
def GradeFallsSaid : Prop := gradeFallsRow.holds Try.pinned (OpenSpec.ofChange gradeFallsSpec)

/-- ITS FALSE NEIGHBOUR: 'it returns false'. Refute it at one input. -/
def gradeFallsWrong : ChangeSpec := { name := "gradeFalls", fn := fun _ => fun
  | [d1, d2, d3] => { results := [.lit (.bool false)], args := [d1, d2, d3] }
  | _ => none }
def GradeFallsWrongFalsely : Prop := gradeFallsRow.holds Try.pinned (OpenSpec.ofChange gradeFallsWrong)

/-- 'pinstripelaw3.GradeScales': WHATEVER THE INPUT: true; the input reads as it did. -/
def gradeScalesSpec : ChangeSpec := { name := "gradeScales", fn := fun _ => fun
  | [d1, d2, d3] => { results := [.lit (.bool true)], args := [d1, d2, d3] }
  | _ => none }
def gradeScalesRow : OpenClaim := { program := "ytknahgdeagcghaa", sum := "a43cf2240f774444e0067db505789e817302419aec1255fcd73fe368df354b7e", func := "pinstripe/pinstripelaw3.GradeScales", spec := "gradeScales", inPlace := ["math.Float64bits"], apart := false }
def GradeScalesSaid : Prop := gradeScalesRow.holds Try.pinned (OpenSpec.ofChange gradeScalesSpec)

/-- ITS FALSE NEIGHBOUR: 'it returns false'. Refute it at one input. -/
def gradeScalesWrong : ChangeSpec := { name := "gradeScales", fn := fun _ => fun
  | [d1, d2, d3] => { results := [.lit (.bool false)], args := [d1, d2, d3] }
  | _ => none }
def GradeScalesWrongFalsely : Prop := gradeScalesRow.holds Try.pinned (OpenSpec.ofChange gradeScalesWrong)

/-- 'pinstripelaw3.GradeKnown': WHATEVER THE INPUT: true; the input reads as it did. -/
def gradeKnownSpec : ChangeSpec := { name := "gradeKnown", fn := fun _ => fun
  | [] => { results := [.lit (.bool true)], args := [] }
  | _ => none }
def gradeKnownRow : OpenClaim := { program := "ytknahgdeagcghaa", sum := "a43cf2240f774444e0067db505789e817302419aec1255fcd73fe368df354b7e", func := "pinstripe/pinstripelaw3.GradeKnown", spec := "gradeKnown", inPlace := ["math.Float64bits"], apart := false }
def GradeKnownSaid : Prop := gradeKnownRow.holds Try.pinned (OpenSpec.ofChange gradeKnownSpec)

/-- ITS FALSE NEIGHBOUR: 'it returns false'. Refute it at one input. -/
def gradeKnownWrong : ChangeSpec := { name := "gradeKnown", fn := fun _ => fun
  | [] => { results := [.lit (.bool false)], args := [] }
  | _ => none }
def GradeKnownWrongFalsely : Prop := gradeKnownRow.holds Try.pinned (OpenSpec.ofChange gradeKnownWrong)

/-- 'pinstripelaw3.GradeMeans': WHATEVER THE INPUT: true; the input reads as it did. -/
def gradeMeansSpec : ChangeSpec := { name := "gradeMeans", fn := fun _ => fun
  | [d1, d2] => { results := [.lit (.bool true)], args := [d1, d2] }
  | _ => none }
def gradeMeansRow : OpenClaim := { program := "ytknahgdeagcghaa", sum := "a43cf2240f774444e0067db505789e817302419aec1255fcd73fe368df354b7e", func := "pinstripe/pinstripelaw3.GradeMeans", spec := "gradeMeans", inPlace := ["math.Float64bits"], apart := false }
def GradeMeansSaid : Prop := gradeMeansRow.holds Try.pinned (OpenSpec.ofChange gradeMeansSpec)

/-- ITS FALSE NEIGHBOUR: 'it returns false'. Refute it at one input. -/
def gradeMeansWrong : ChangeSpec := { name := "gradeMeans", fn := fun _ => fun
  | [d1, d2] => { results := [.lit (.bool false)], args := [d1, d2] }
  | _ => none }
def GradeMeansWrongFalsely : Prop := gradeMeansRow.holds Try.pinned (OpenSpec.ofChange gradeMeansWrong)

/-- 'pinstripelaw3.GradeFirst': WHATEVER THE INPUT: true; the input reads as it did. -/
def gradeFirstSpec : ChangeSpec := { name := "gradeFirst", fn := fun _ => fun
  | [d] => { results := [.lit (.bool true)], args := [d] }
  | _ => none }
def gradeFirstRow : OpenClaim := { program := "ytknahgdeagcghaa", sum := "a43cf2240f774444e0067db505789e817302419aec1255fcd73fe368df354b7e", func := "pinstripe/pinstripelaw3.GradeFirst", spec := "gradeFirst", inPlace := ["math.Float64bits"], unfollowed := true, recurses := true, apart := false }
def GradeFirstSaid : Prop := gradeFirstRow.holds Try.pinned (OpenSpec.ofChange gradeFirstSpec)

/-- ITS FALSE NEIGHBOUR: 'it returns false'. Refute it at one input. -/
def gradeFirstWrong : ChangeSpec := { name := "gradeFirst", fn := fun _ => fun
  | [d] => { results := [.lit (.bool false)], args := [d] }
  | _ => none }
def GradeFirstWrongFalsely : Prop := gradeFirstRow.holds Try.pinned (OpenSpec.ofChange gradeFirstWrong)

/- THE SECOND FORM. 'bulk': how many values and letters a reading holds, each counted each time it is reached (what is shared counts as often as it is met; a slice's spare places count too). A statement '..UptoSaid' is the law's where the arguments, and the package variables that the reading takes, are together of bulk at most 1048576: NARROWER than '..Said'. Prove '..Said' where nothing that the law and all that it calls make is longer than what came in: it says more and counts as full. Else prove '..UptoSaid'. A law counts once. -/
mutual
def uptoBulk {H : Type} : DataW H → Nat
  | .lit (.string bytes) => bytes.length + 1
  | .lit _ => 1
  | .nil => 1
  | .ptr d => uptoBulk d + 1
  | .slice elems spare => uptoBulkAll elems + uptoBulkAll spare + 1
  | .agg parts => uptoBulkAll parts + 1
  | .iface _ d => uptoBulk d + 1
  | .map entries => uptoBulkEntries entries + 1
  | .held _ => 1
def uptoBulkAll {H : Type} : List (DataW H) → Nat
  | [] => 0
  | d :: r => uptoBulk d + uptoBulkAll r
def uptoBulkEntries {H : Type} : List (Lit × DataW H) → Nat
  | [] => 0
  | x :: r => uptoBulkEntry x + uptoBulkEntries r
def uptoBulkEntry {H : Type} : Lit × DataW H → Nat
  | (.string bytes, d) => bytes.length + uptoBulk d + 1
  | (_, d) => uptoBulk d + 1
 end
def uptoSmall : (H : Type) → List (DataW H) → Bool := fun _ ds => decide (uptoBulkAll ds ≤ 1048576)
def OpenSpec.upto (s : _root_.Go.ChangeSpec) : _root_.Go.OpenSpec := { _root_.Go.OpenSpec.ofChange s with cond := some uptoSmall }

/-- 'pinstripelaw3.GradeOrders', WHERE WHAT IT READS IS OF BULK AT MOST 1048576: true; the input reads as it did. -/
def gradeOrdersUptoRow : OpenClaim := { program := "ytknahgdeagcghaa", sum := "a43cf2240f774444e0067db505789e817302419aec1255fcd73fe368df354b7e", func := "pinstripe/pinstripelaw3.GradeOrders", spec := "gradeOrders", inPlace := ["math.Float64bits"], apart := false, narrowed := true }
def GradeOrdersUptoSaid : Prop := gradeOrdersUptoRow.holds Try.pinned (OpenSpec.upto gradeOrdersSpec)

/-- 'pinstripelaw3.GradeGrades', WHERE WHAT IT READS IS OF BULK AT MOST 1048576: true; the input reads as it did. -/
def gradeGradesUptoRow : OpenClaim := { program := "ytknahgdeagcghaa", sum := "a43cf2240f774444e0067db505789e817302419aec1255fcd73fe368df354b7e", func := "pinstripe/pinstripelaw3.GradeGrades", spec := "gradeGrades", inPlace := ["math.Float64bits"], apart := false, narrowed := true }
def GradeGradesUptoSaid : Prop := gradeGradesUptoRow.holds Try.pinned (OpenSpec.upto gradeGradesSpec)

/-- 'pinstripelaw3.GradeFalls', WHERE WHAT IT READS IS OF BULK AT MOST 1048576: true; the input reads as it did. -/
def gradeFallsUptoRow : OpenClaim := { program := "ytknahgdeagcghaa", sum := "a43cf2240f774444e0067db505789e817302419aec1255fcd73fe368df354b7e", func := "pinstripe/pinstripelaw3.GradeFalls", spec := "gradeFalls", inPlace := ["math.Float64bits"], apart := false, narrowed := true }
def GradeFallsUptoSaid : Prop := gradeFallsUptoRow.holds Try.pinned (OpenSpec.upto gradeFallsSpec)

/-- 'pinstripelaw3.GradeScales', WHERE WHAT IT READS IS OF BULK AT MOST 1048576: true; the input reads as it did. -/
def gradeScalesUptoRow : OpenClaim := { program := "ytknahgdeagcghaa", sum := "a43cf2240f774444e0067db505789e817302419aec1255fcd73fe368df354b7e", func := "pinstripe/pinstripelaw3.GradeScales", spec := "gradeScales", inPlace := ["math.Float64bits"], apart := false, narrowed := true }
def GradeScalesUptoSaid : Prop := gradeScalesUptoRow.holds Try.pinned (OpenSpec.upto gradeScalesSpec)

/-- 'pinstripelaw3.GradeKnown', WHERE WHAT IT READS IS OF BULK AT MOST 1048576: true; the input reads as it did. -/
def gradeKnownUptoRow : OpenClaim := { program := "ytknahgdeagcghaa", sum := "a43cf2240f774444e0067db505789e817302419aec1255fcd73fe368df354b7e", func := "pinstripe/pinstripelaw3.GradeKnown", spec := "gradeKnown", inPlace := ["math.Float64bits"], apart := false, narrowed := true }
def GradeKnownUptoSaid : Prop := gradeKnownUptoRow.holds Try.pinned (OpenSpec.upto gradeKnownSpec)

/-- 'pinstripelaw3.GradeMeans', WHERE WHAT IT READS IS OF BULK AT MOST 1048576: true; the input reads as it did. -/
def gradeMeansUptoRow : OpenClaim := { program := "ytknahgdeagcghaa", sum := "a43cf2240f774444e0067db505789e817302419aec1255fcd73fe368df354b7e", func := "pinstripe/pinstripelaw3.GradeMeans", spec := "gradeMeans", inPlace := ["math.Float64bits"], apart := false, narrowed := true }
def GradeMeansUptoSaid : Prop := gradeMeansUptoRow.holds Try.pinned (OpenSpec.upto gradeMeansSpec)

/-- 'pinstripelaw3.GradeFirst', WHERE WHAT IT READS IS OF BULK AT MOST 1048576: true; the input reads as it did. -/
def gradeFirstUptoRow : OpenClaim := { program := "ytknahgdeagcghaa", sum := "a43cf2240f774444e0067db505789e817302419aec1255fcd73fe368df354b7e", func := "pinstripe/pinstripelaw3.GradeFirst", spec := "gradeFirst", inPlace := ["math.Float64bits"], unfollowed := true, recurses := true, apart := false, narrowed := true }
def GradeFirstUptoSaid : Prop := gradeFirstUptoRow.holds Try.pinned (OpenSpec.upto gradeFirstSpec)

end Rows
end Go.Proofs.Ytknahgdeagcghaa
