/- SlotKnown. -/
import Derived.Test.YtipfgghdoicdhaaDoorL1
namespace Go.Proofs.YtipfgghdoicdhaaDoor.W
open Go.RowKit
set_option linter.unusedVariables false
set_option linter.unusedSimpArgs false

set_option maxHeartbeats 8000000 in
set_option maxRecDepth 100000 in
/-- Open, of no disk. -/
theorem sopen_nil (first : Int) (w : World) :
    Calls Tryd.prog 14 #[.pointer none, .int .i64 first] w fun e w' => e = .returned (.tuple #[.pointer none, .int .i64 1]) ∧ Chg [] w w' := by
  go_enter_defers Tryd.func14, Tryd.ntmps14
  go_wp2_with fail
  exact ⟨.tuple #[.pointer none, .int .i64 1], by simp [results, Tryd.results14, go_sem], rfl, ((Chg.refl _ _).alloc _).alloc _⟩

def Z41 : Array Value := (bvs (zeros 41)).toArray
theorem make_41 (w : World) : (Instr.makeSlice 31 (.int .i64 41) (.int .i64 41)).run Tryd.prog w = .ok (.slice (some ⟨w.heap.size, 0, none⟩) 41 41) (w.alloc (.cells Z41 5)) := by
  obtain ⟨i, hi, h1, h2, h3⟩ := info_parts facts_u8
  have h := run_make (P := Tryd.prog) w 31 5 i _ Tryd.underlying31 hi h1 .i64 .i64 41 41 (by omega) (Int.le_refl _) (by rw [h3]; omega) (by omega)
  rw [h2] at h
  have hz : madeCells (Value.int .u8 0).cells ((41 : Int).toNat * 1) = Z41 := by kernel_rfl
  rw [hz] at h
  exact h
theorem z41_bytes (w : World) : BytesAt (w.alloc (.cells Z41 5)) (.slice (some ⟨w.heap.size, 0, none⟩) 41 41) (zeros 41) :=
  (row_of_block (l := zeros 41) (heap_alloc_new w _) (by decide)).bytes
theorem pair_of {α β : Type} {x : α × β} {a : α} (h : x.1 = a) : x = (a, x.2) := by subst h; rfl
theorem ws0_long : ws0.put 0 (zeros 41) [] = (3, ws0) := by rfl
theorem ws0_none : ws0.put 2 [] [] = (1, ws0) := by rfl
theorem ws0_get : ws0.get 0 = ([], 6) := by rfl
def ks1 : SS := (ws0.put 1 [1] []).2
theorem ks1_put : ws0.put 1 [1] [] = (0, ks1) := pair_of (by kernel_rfl)
theorem ks1_there : ks1.put 1 [2] [] = (7, ks1) := by
  have h : (ks1.row 1).used = true := by kernel_rfl
  unfold SS.put
  have hl : ks1.rows.length = 2 := by kernel_rfl
  rw [if_neg (by unfold SS.has; rw [hl]; decide), if_neg (by decide), if_pos h]
def ks2 : SS := (ks1.clear 1).2
theorem ks2_clear : ks1.clear 1 = (0, ks2) := pair_of (by kernel_rfl)
theorem ks2_free : ks2.free = 0 := by kernel_rfl
theorem d17_far : (DS.new 17).slots 18 = (1, none) := by rfl
theorem ks1_ops : ks1.d.ops ≤ 900000000 ∧ ks1.d.since.length ≤ 900000 := by
  refine ⟨Nat.le_of_ble_eq_true (by kernel_rfl), Nat.le_of_ble_eq_true (by kernel_rfl)⟩
end Go.Proofs.YtipfgghdoicdhaaDoor.W
