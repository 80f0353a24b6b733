/- Sectors and writes as values: building them, comparing them. -/
import Derived.Test.YtipfgghdoicdhaaDoorD1
import Derived.Great.BuildSlice
import Derived.Deep.WholeRow
namespace Go.Proofs.YtipfgghdoicdhaaDoor.W
open Go.RowKit
set_option linter.unusedVariables false
set_option linter.unusedSimpArgs false

theorem fill_step (place : Nat → Option (Nat × Nat)) (cells : Array Value) (i : Nat) (v : Value) (rest : List (Nat × Value)) (off size : Nat) (hp : place i = some (off, size)) (hs : v.cells.size = size) (hle : off + size ≤ cells.size) :
    ∃ cs' : Array Value, Instr.fill place cells ((i, v) :: rest) = Instr.fill place cs' rest ∧ cs'.size = cells.size ∧ ∀ k, cs'[k]? = if off ≤ k ∧ k < off + size then v.cells[k - off]? else cells[k]? := by
  obtain ⟨g1, g2⟩ := Great.foldl_set off v.cells.toList 0 cells
  refine ⟨(v.cells.toList.zipIdx 0).foldl (fun cs (x : Value × Nat) => cs.setIfInBounds (off + x.2) x.1) cells, ?_, g1, fun k => ?_⟩
  · conv => lhs; unfold Instr.fill
    simp only [hp, hs]
    rw [if_neg (by simp; omega)]
    congr 1
    rw [← Array.foldl_toList, Array.toList_zipIdx]
  · rw [g2 k]
    simp only [Nat.add_zero, Array.length_toList, hs]
    by_cases h : off ≤ k ∧ k < off + size
    · rw [if_pos ⟨h.1, h.2, by omega⟩, if_pos h]; simp
    · rw [if_neg (by omega), if_neg h]

theorem fill_nil (p : Nat → Option (Nat × Nat)) (c : Array Value) : Instr.fill p c [] = some c := rfl
theorem facts_sec : (Tryd.prog.info? 77).map (fun i => (i.zero.map (·.cells.size), i.size, i.bytes)) = some (some 64, 64, 64) := by kernel_rfl
theorem facts_wr : (Tryd.prog.info? 79).map (fun i => (i.zero.map (·.cells.size), i.size, i.bytes)) = some (some 65, 65, 72) := by kernel_rfl
theorem info_three {P : Program} {t : TypeId} {n s b : Nat} (h : (P.info? t).map (fun i => (i.zero.map (·.cells.size), i.size, i.bytes)) = some (some n, s, b)) :
    ∃ i z, P.info? t = some i ∧ i.zero = some z ∧ z.cells.size = n ∧ i.size = s ∧ i.bytes = b := by
  obtain ⟨i, hi, hz⟩ := Option.map_eq_some_iff.1 h
  simp only [Prod.mk.injEq, Option.map_eq_some_iff] at hz
  obtain ⟨⟨z, hz1, hz2⟩, h3, h4⟩ := hz
  exact ⟨i, z, hi, hz1, hz2, h3, h4⟩
def placesOf (P : Program) (t : TypeId) : Option (List (Nat × Nat)) :=
  match P.underlying t with
  | some (.struct fields) => fields.toList.mapM (fun f => (P.info? f.type).map fun i => (f.offset, i.size))
  | _ => none
theorem built_of {P : Program} {t : TypeId} {i : TypeInfo} {z : Value} {pl : List (Nat × Nat)} {parts : List (Nat × Value)} (hi : P.info? t = some i) (hz : i.zero = some z) (hp : placesOf P t = some pl) :
    P.built t parts = Instr.fill (pl.toArray[·]?) z.cells parts := by
  unfold placesOf at hp
  unfold Program.built
  cases hu : P.underlying t with
  | none => rw [hu] at hp; cases hp
  | some d =>
    rw [hu] at hp
    cases d <;> first | (cases hp; done) | skip
    rename_i fields
    simp only at hp
    simp only [hi, hz, hp]
theorem places_sec : placesOf Tryd.prog 77 = some [(0, 64)] := by kernel_rfl
theorem places_wr : placesOf Tryd.prog 79 = some [(0, 1), (1, 64)] := by kernel_rfl

set_option maxRecDepth 100000 in
theorem build_sec (A : Array Value) (hA : A.size = 64) (w : World) : (Instr.build 77 #[(0, .agg A)]).run Tryd.prog w = .ok (.agg A) w := by
  refine run_build w 77 _ _ ?_
  obtain ⟨i, z, hi, hz, h1, h2, h3⟩ := info_three facts_sec
  rw [built_of hi hz places_sec]
  obtain ⟨cs, e1, e2, e3⟩ := fill_step ([(0, 64)].toArray[·]?) z.cells 0 (.agg A) [] 0 64 rfl hA (by omega)
  rw [e1, fill_nil]
  congr 1
  refine Array.ext (by omega) (fun j a b => ?_)
  have := e3 j
  rw [if_pos (by omega), Nat.sub_zero, Array.getElem?_eq_getElem a] at this
  have hb : (Value.agg A).cells[j]? = some A[j] := Array.getElem?_eq_getElem b
  rw [hb] at this
  exact Option.some.inj this
set_option maxRecDepth 100000 in
theorem build_wr (n : Int) (l : List Value) (hl : l.length = 64) (w : World) : (Instr.build 79 #[(0, .int .i64 n), (1, .agg l.toArray)]).run Tryd.prog w = .ok (.agg (.int .i64 n :: l).toArray) w := by
  refine run_build w 79 _ _ ?_
  obtain ⟨i, z, hi, hz, h1, h2, h3⟩ := info_three facts_wr
  rw [built_of hi hz places_wr]
  obtain ⟨cs, e1, e2, e3⟩ := fill_step ([(0, 1), (1, 64)].toArray[·]?) z.cells 0 (.int .i64 n) [(1, .agg l.toArray)] 0 1 rfl rfl (by omega)
  obtain ⟨cs', d1, d2, d3⟩ := fill_step ([(0, 1), (1, 64)].toArray[·]?) cs 1 (.agg l.toArray) [] 1 64 rfl (by simp [Value.cells]; omega) (by omega)
  rw [e1, d1, fill_nil]
  congr 1
  refine Array.ext (by simp; omega) (fun j a b => ?_)
  have := d3 j
  rw [Array.getElem?_eq_getElem a] at this
  cases j with
  | zero =>
    rw [if_neg (by omega), e3 0, if_pos (by omega)] at this
    simp [Value.cells] at this
    simpa using this
  | succ j =>
    have hj : j < 64 := by omega
    rw [if_pos (by omega)] at this
    simp [Value.cells] at this
    have hjl : j < l.length := by omega
    rw [List.getElem?_eq_getElem hjl] at this
    simpa using Option.some.inj this
end Go.Proofs.YtipfgghdoicdhaaDoor.W
