/- A slice of deeds that came in: rows of four cells. -/
import Derived.Test.YtembgdjdljflhaaA
import Derived.Deep.Slices
namespace Go.Proofs.Ytembgdjdljflhaa
open Go.RowKit Go.ChangeShapes Go.WideShapes
set_option linter.unusedVariables false
set_option linter.unusedSimpArgs false

/-- Deeds: what is done (c), the client (h), the number (i), whether it writes (b). -/
def DeedsAt (w : World) (top : Nat) (a : Option Addr) (n : Nat) (f : Nat → TRow) : Prop :=
  n = 0 ∨ ∃ g o, a = some ⟨g, o, none⟩ ∧ g < top ∧ ∀ i, i < n → w.cell? ⟨g, o + i * 4, none⟩ = some (.int .i64 (f i).c) ∧ w.cell? ⟨g, o + i * 4 + 1, none⟩ = some (.int .i64 (f i).h) ∧
    w.cell? ⟨g, o + i * 4 + 2, none⟩ = some (.int .i64 (f i).i) ∧ w.cell? ⟨g, o + i * 4 + 3, none⟩ = some (.bool (f i).b)

theorem fields27 : ∃ f0 f1 f2 f3 : Field, Try.prog.underlying 27 = some (.struct #[f0, f1, f2, f3]) ∧ f0.offset = 0 ∧ f1.offset = 1 ∧ f2.offset = 2 ∧ f3.offset = 3 ∧
    Try.prog.underlying f0.type = some (.int .i64) ∧ Try.prog.underlying f1.type = some (.int .i64) ∧ Try.prog.underlying f2.type = some (.int .i64) ∧ Try.prog.underlying f3.type = some .bool ∧
    Try.prog.cellsOf f0.type = 1 ∧ Try.prog.cellsOf f1.type = 1 ∧ Try.prog.cellsOf f2.type = 1 ∧ Try.prog.cellsOf f3.type = 1 :=
  ⟨_, _, _, _, Try.underlying27, rfl, rfl, rfl, rfl, by kernel_rfl, by kernel_rfl, by kernel_rfl, by kernel_rfl, by kernel_rfl, by kernel_rfl, by kernel_rfl, by kernel_rfl⟩
theorem cells27 : Try.prog.cellsOf 27 = 4 := by kernel_rfl

section
variable {H : Type} {enc : TypeId × Value → H} {w : World} {base : Nat} {spare : Nat → Bool} {held : Bool}
set_option maxRecDepth 100000 in
theorem open_deeds {fuel : Nat} {cs : List Value} {x : DataW H × List MemPlace} (h : DataW.trod enc Try.prog w base spare held fuel 22 cs = some x) :
    (cs = [.slice none 0 0]) ∨ ∃ (a : Addr) (len cap : Nat) (f : Nat → TRow), cs = [.slice (some a) len cap] ∧ len ≤ cap ∧ cap ≤ maxLen ∧ DeedsAt w w.heap.size (some a) len f := by
  rcases Go.Deep.open_slice Try.underlying22 h with ⟨h0, _⟩ | ⟨a, len, cap, m, n, D, Pl, rfl, hb, hl, hm, hmm, hx, hel⟩
  · exact .inl h0
  · right
    have hlm : len ≤ m := by rw [hmm]; split <;> omega
    obtain ⟨f0, f1, f2, f3, hs, o0, o1, o2, o3, t0, t1, t2, t3, c0, c1, c2, c3⟩ := fields27
    have each : ∀ i, i < len → ∃ r : TRow, w.cell? (a.add (i * 4)) = some (.int .i64 r.c) ∧ w.cell? (a.add (i * 4 + 1)) = some (.int .i64 r.h) ∧ w.cell? (a.add (i * 4 + 2)) = some (.int .i64 r.i) ∧ w.cell? (a.add (i * 4 + 3)) = some (.bool r.b) := by
      intro i hi
      obtain ⟨cs', h1, h2⟩ := hel i (by omega)
      rw [cells27] at h1
      obtain ⟨_, hlen, hcell⟩ := World.cells?_some h1
      obtain ⟨xs, k, hk, hxy, _, hxl, hf⟩ := DataW.trod_struct hs h2
      match xs, hxl, cs', hlen with
      | [y0, y1, y2, y3], _, [v0, v1, v2, v3], _ =>
        have g0 := hf 0 f0 rfl
        have g1 := hf 1 f1 rfl
        have g2 := hf 2 f2 rfl
        have g3 := hf 3 f3 rfl
        simp [o0, o1, o2, o3, c0, c1, c2, c3] at g0 g1 g2 g3
        have e0 := hcell 0 (by omega)
        have e1 := hcell 1 (by omega)
        have e2 := hcell 2 (by omega)
        have e3 := hcell 3 (by omega)
        rw [Go.Deep.add_add] at e0 e1 e2 e3
        obtain ⟨z0, q0, _, _⟩ := DataW.trod_int t0 g0
        obtain ⟨z1, q1, _, _⟩ := DataW.trod_int t1 g1
        obtain ⟨z2, q2, _, _⟩ := DataW.trod_int t2 g2
        obtain ⟨z3, q3, _⟩ := DataW.trod_bool t3 g3
        simp at q0 q1 q2 q3
        subst q0; subst q1; subst q2; subst q3
        exact ⟨⟨z0, z1, z2, z3⟩, by simpa using e0, by simpa using e1, by simpa using e2, by simpa using e3⟩
    obtain ⟨f, hf⟩ := Go.Deep.choose_lt each
    refine ⟨a, len, cap, f, rfl, hl, hm, ?_⟩
    by_cases h0 : len = 0
    · exact .inl h0
    · right
      obtain ⟨g, o, spot⟩ := a
      have hc := (hf 0 (by omega)).1
      have hspot : spot = none := by simpa [Addr.add] using World.cell?_spot hc
      subst hspot
      refine ⟨g, o, rfl, ?_, fun i hi => ?_⟩
      · have := World.block_lt_of_cell? w _ hc
        simpa [Addr.add] using this
      · obtain ⟨c0, c1, c2, c3⟩ := hf i hi
        rw [add_none] at c0 c1 c2 c3
        exact ⟨c0, by simpa [Nat.add_assoc] using c1, by simpa [Nat.add_assoc] using c2, by simpa [Nat.add_assoc] using c3⟩
end
end Go.Proofs.Ytembgdjdljflhaa
