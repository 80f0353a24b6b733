/- A row of ints in a block of the call's own: how it reads, and what a store makes of it. -/
import Derived.Test.YtknahgdeagcghaaC
import Derived.Test.YtknahgdeagcghaaSort3
import Derived.Maps.AppendAt
import Derived.OwnWalk
import Derived.Deep.LoopGhost
namespace Go.Proofs.Ytknahgdeagcghaa
open Go.RowKit
set_option linter.unusedVariables false

/-- Block g holds the numbers l, and whatever behind them. -/
def IRow (t : TypeId) (w : World) (g n : Nat) (l : List Int) : Prop :=
  ∃ cs : Array Value, w.heap[g]? = some (.cells cs t (0, 0)) ∧ l.length = n ∧ n ≤ cs.size ∧ ∀ i, i < n → cs[i]? = some (.int .i64 (l.getD i 0))
theorem IRow.len {t : TypeId} {w : World} {g n : Nat} {l : List Int} (h : IRow t w g n l) : l.length = n := by obtain ⟨cs, _, h, _⟩ := h; exact h
theorem IRow.lt {t : TypeId} {w : World} {g n : Nat} {l : List Int} (h : IRow t w g n l) : g < w.heap.size := by obtain ⟨cs, h, _⟩ := h; exact (Array.getElem?_eq_some_iff.1 h).1
theorem IRow.cell {t : TypeId} {w : World} {g n : Nat} {l : List Int} (h : IRow t w g n l) (i : Nat) (hi : i < n) : w.cell? ⟨g, i, none⟩ = some (.int .i64 (l.getD i 0)) := by
  obtain ⟨cs, h1, h2, h3, h4⟩ := h
  simp [World.cell?, h1, h4 i hi]
theorem IRow.frozen {t : TypeId} {w : World} {g n : Nat} {l : List Int} (h : IRow t w g n l) (i : Nat) : w.frozen? ⟨g, i, none⟩ = false := by
  obtain ⟨cs, h1, _⟩ := h
  simp [World.frozen?, h1]
theorem IRow.set {t : TypeId} {w : World} {g n : Nat} {l : List Int} (h : IRow t w g n l) (i : Nat) (hi : i < n) (x : Int) : IRow t (w.setCell ⟨g, i, none⟩ (.int .i64 x)) g n (l.set i x) := by
  obtain ⟨cs, h1, h2, h3, h4⟩ := h
  refine ⟨cs.setIfInBounds i (.int .i64 x), ?_, by simpa using h2, by simpa using h3, fun j hj => ?_⟩
  · have hlt : g < w.heap.size := (Array.getElem?_eq_some_iff.1 h1).1
    have h' : w.heap[g] = .cells cs t (0, 0) := by simpa [Array.getElem?_eq_getElem hlt] using h1
    show (w.heap.modify g _)[g]? = _
    rw [Array.getElem?_eq_getElem (by simpa using hlt), Array.getElem_modify_self, h']
    rfl
  · rw [Array.getElem?_setIfInBounds, List.getD_eq_getElem?_getD, List.getElem?_set]
    by_cases e : i = j
    · subst e
      rw [if_pos rfl, if_pos (by omega), if_pos rfl, if_pos (by omega)]; rfl
    · rw [if_neg e, if_neg e, h4 j hj, List.getD_eq_getElem?_getD]
theorem IRow.swp {t : TypeId} {w : World} {g n : Nat} {l : List Int} (h : IRow t w g n l) (i j : Nat) (hi : i < n) (hj : j < n) :
    IRow t ((w.setCell ⟨g, i, none⟩ (.int .i64 (l.getD j 0))).setCell ⟨g, j, none⟩ (.int .i64 (l.getD i 0))) g n (St.swp l i j) := (h.set i hi _).set j hj _
theorem IRow.keep {t : TypeId} {w w' : World} {g n : Nat} {l : List Int} (h : IRow t w g n l) (hb : w'.heap[g]? = w.heap[g]?) : IRow t w' g n l := by
  obtain ⟨cs, h1, h2⟩ := h
  exact ⟨cs, hb.trans h1, h2⟩

/-- w' is w but for block g, and new ones. -/
structure Chg (g : Nat) (w w' : World) : Prop where
  os : w'.os = w.os
  tape : w'.tape = w.tape
  output : w'.output = w.output
  size : w.heap.size ≤ w'.heap.size
  block : ∀ k, k < w.heap.size → k ≠ g → w'.heap[k]? = w.heap[k]?
theorem Chg.refl (g : Nat) (w : World) : Chg g w w := ⟨rfl, rfl, rfl, Nat.le_refl _, fun _ _ _ => rfl⟩
theorem Chg.trans {g : Nat} {a b c : World} (h : Chg g a b) (k : Chg g b c) : Chg g a c :=
  ⟨k.os.trans h.os, k.tape.trans h.tape, k.output.trans h.output, Nat.le_trans h.size k.size, fun x hx hn => (k.block x (Nat.lt_of_lt_of_le hx h.size) hn).trans (h.block x hx hn)⟩
theorem Chg.below {g : Nat} {a b c : World} (h : Chg g a b) (k : Below b.heap.size b c) : Chg g a c :=
  ⟨k.os.trans h.os, k.tape.trans h.tape, k.output.trans h.output, Nat.le_trans h.size k.size, fun x hx hn => (k.block x (Nat.lt_of_lt_of_le hx h.size)).trans (h.block x hx hn)⟩
theorem Chg.drewN {g : Nat} {a b : World} (h : Chg g a b) (n : Nat) : Chg g a (b.drewN n) := ⟨h.os, h.tape, h.output, h.size, h.block⟩
theorem Chg.drew {g : Nat} {a b : World} (h : Chg g a b) : Chg g a b.drew := ⟨h.os, h.tape, h.output, h.size, h.block⟩
theorem Chg.set {g : Nat} {a b : World} (h : Chg g a b) (i : Nat) (u : Value) : Chg g a (b.setCell ⟨g, i, none⟩ u) :=
  ⟨h.os, h.tape, h.output, by simpa [World.setCell] using h.size, fun k hk hn => (Below.heap_setCell b _ u k (by rintro rfl; exact hn rfl)).trans (h.block k hk hn)⟩
theorem Chg.set2 {g : Nat} {a b : World} (h : Chg g a b) (i j : Nat) (u v : Value) : Chg g a ((b.setCell ⟨g, i, none⟩ u).setCell ⟨g, j, none⟩ v) := (h.set i u).set j v
theorem Chg.to_below {g B : Nat} {a b c : World} (h0 : Below B a b) (h : Chg g b c) (hB : B ≤ b.heap.size) (hg : B ≤ g) : Below B a c :=
  ⟨h.os.trans h0.os, h.tape.trans h0.tape, h.output.trans h0.output, Nat.le_trans h0.size h.size, fun x hx => (h.block x (Nat.lt_of_lt_of_le hx hB) (by omega)).trans (h0.block x hx)⟩
end Go.Proofs.Ytknahgdeagcghaa
