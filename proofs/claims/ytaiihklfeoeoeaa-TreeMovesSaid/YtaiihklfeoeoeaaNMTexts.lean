/- The walks of Texts and of awake. -/
import Derived.Test.YtaiihklfeoeoeaaNMWithin
import Derived.Deep.QuietTactic
import Derived.BigQuiet
namespace Go.Proofs.Ytaiihklfeoeoeaa.NM
open Go.RowKit
set_option linter.unusedVariables false

theorem same_iff {xs ys : List Bs} (h : xs.length = ys.length) : xs = ys ↔ sameTo xs ys xs.length := by
  constructor
  · rintro rfl; exact fun _ _ => rfl
  · intro hs
    refine List.ext_getElem? fun i => ?_
    by_cases hi : i < xs.length
    · have := hs i hi
      simp only [List.getD_eq_getElem?_getD, List.getElem?_eq_getElem hi, List.getElem?_eq_getElem (h ▸ hi)] at this
      rw [List.getElem?_eq_getElem hi, List.getElem?_eq_getElem (h ▸ hi)]
      simpa using this
    · rw [List.getElem?_eq_none (by omega), List.getElem?_eq_none (by omega)]

theorem cell_new (w : World) (cs : Array Value) (t : TypeId) (i : Nat) : (w.alloc (.cells cs t)).cell? ⟨w.heap.size, i, none⟩ = cs[i]? := by
  unfold World.cell?
  rw [heap_alloc_new]
  rfl
theorem below_drewN {B : Nat} {a w : World} (h : Below B a w) (n : Nat) : Below B a (w.drewN n) := ⟨h.os, h.tape, h.output, h.size, h.block⟩
end Go.Proofs.Ytaiihklfeoeoeaa.NM
