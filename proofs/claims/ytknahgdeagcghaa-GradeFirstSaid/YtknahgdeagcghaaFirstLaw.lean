/- The walk of GradeFirst: no floats; too many; any. -/
import Derived.Test.YtknahgdeagcghaaFirstWalk
namespace Go.Proofs.Ytknahgdeagcghaa.gradeFirst
open Go.RowKit Fl
set_option linter.unusedVariables false
set_option linter.unusedSimpArgs false

theorem ins_nil (v : Value) (w : World) : Calls Try.prog 25 #[.slice none 0 0, .int .i64 0, .int .i64 0, v] w fun e w' => e = .returned (.tuple #[]) ∧ w' = w := by
  go_enter Try.func25, Try.ntmps25
  go_wp2
  refine wp_loop_rounds 1 ?_
  rw [rounds_succ]
  go_wp2
  go_end0
  exact ⟨rfl, rfl⟩
theorem stab_nil (v : Value) (w : World) : Calls Try.prog 24 #[.slice none 0 0, .int .i64 0, v] w fun e w' => e = .returned (.tuple #[]) ∧ w' = w := by
  go_enter Try.func24, Try.ntmps24
  go_wp2
  refine wp_loop_rounds 1 ?_
  rw [rounds_succ]
  go_wp2_with (go_at_call 25; refine (ins_nil _ _).mono ?_; rintro e w' ⟨rfl, rfl⟩)
  refine wp_loop_rounds 1 ?_
  rw [rounds_succ]
  go_wp2
  go_end0
  exact ⟨rfl, rfl⟩
theorem sort_nil (v : Value) (w : World) : Calls Try.prog 22 #[.slice none 0 0, v] w fun e w' => e = .returned (.tuple #[]) ∧ w' = w := by
  go_enter Try.func22, Try.ntmps22
  go_wp2_with (go_at_call 24; refine (stab_nil _ _).mono ?_; rintro e w' ⟨rfl, rfl⟩)
  go_end0
  exact ⟨rfl, rfl⟩
theorem order_nil (A : Option Addr) (c : Nat) (w : World) : Calls Try.prog 18 #[.slice A 0 c] w fun e w' => e = .returned (.slice none 0 0) ∧ w' = w := by
  go_enter Try.func18, Try.ntmps18
  go_wp2
  refine wp_loop_rounds 1 ?_
  rw [rounds_succ]
  go_wp2_with (go_at_call 22; refine (sort_nil _ _).mono ?_; rintro e w' ⟨rfl, rfl⟩)
  go_ret
  exact ⟨rfl, rfl⟩
theorem best_nil (A : Option Addr) (c : Nat) (w : World) : Calls Try.prog 16 #[.slice A 0 c] w fun e w' => e = .returned (.int .i64 (-1)) ∧ w' = w := by
  go_enter Try.func16, Try.ntmps16
  go_wp2
  refine wp_loop_rounds 1 ?_
  rw [rounds_succ]
  go_wp2
  go_ret
  exact ⟨rfl, rfl⟩

set_option maxRecDepth 100000 in
theorem walk_nil (A : Option Addr) (c : Nat) (w : World) : Calls Try.prog 9 #[.slice A 0 c] w fun e w' => e = .returned (.bool true) ∧ Below w.heap.size w w' := by
  have hmk : ∀ w : World, (Instr.makeSlice 38 (.int .i64 0) (.int .i64 0)).run Try.prog w = .ok (.slice (some ⟨w.heap.size, 0, none⟩) 0 0) (w.alloc (.cells (madeCells #[.bool false] 0) 4)) := run_make_row' (P := Try.prog) 38 4 (.bool false) 1 Try.underlying38 (by kernel_rfl) rfl .i64 .i64 0 (by omega) (by omega)
  have HB2 := Lib.hid ((Below.refl w.heap.size w).alloc (Nat.le_refl _) (.cells (madeCells #[.bool false] 0) 4))
  go_enter Try.func9, Try.ntmps9
  go_wp2_with (first
    | (go_at_call 10; refine (awake_any _).mono ?_; rintro e w' ⟨rfl, rfl⟩)
    | (go_at_call 18; refine (order_nil _ _ _).mono ?_; rintro e' w1 ⟨rfl, rfl⟩))
  refine wp_loop_rounds 1 ?_
  rw [rounds_succ]
  go_upto_region 20 with (go_at_call 16; refine (best_nil _ _ _).mono ?_; rintro e' w5 ⟨rfl, rfl⟩)
  go_quiet (fail)
  go_wp2
  go_ret
  exact ⟨rfl, below_drewN HB2.out nq⟩

theorem walk_big (A : Option Addr) (n c : Nat) (w : World) (h : 60 < n) : Calls Try.prog 9 #[.slice A n c] w fun e w' => e = .returned (.bool true) ∧ Below w.heap.size w w' := by
  have h1 : (60 : Int) < (n : Int) := by omega
  go_enter Try.func9, Try.ntmps9
  go_wp2_with (go_at_call 10; refine (awake_any _).mono ?_; rintro e w' ⟨rfl, rfl⟩)
  go_ret
  exact ⟨rfl, Below.refl _ _⟩

theorem walk (a0 : Option Addr) (len0 cap0 : Nat) (x0 : Nat → Nat) (w : World) (w0 : IsFl w a0 len0 x0) :
    Calls Try.prog 9 #[.slice a0 len0 cap0] w fun e w' => e = .returned (.bool true) ∧ Below w.heap.size w w' := by
  by_cases hb : 60 < len0
  · exact walk_big _ _ _ _ hb
  · by_cases hn : len0 = 0
    · subst hn; exact walk_nil _ _ _
    · rcases w0 with ⟨_, h0⟩ | ⟨x, rfl, hm, hx⟩
      · omega
      · have hat : ∀ i, i < len0 → ((List.range len0).map x0).getD i 0 = x0 i := fun i hi => by simp [List.getD_eq_getElem?_getD, hi]
        have hr := rowAt_of_cells (f := fun i => Value.float .f64 (x0 i)) (fun i hi => (hx i hi).1)
        rcases hr with h0 | ⟨b, off, e1, hlt, hc⟩
        · omega
        · cases e1
          refine walk_row ((List.range len0).map x0) b off len0 cap0 w (by omega) (by omega) hlt (fun i hi => by rw [hat i hi]; exact hc i hi) (fun i => ?_)
          by_cases hi : i < len0
          · rw [hat i hi]; exact (hx i hi).2
          · rw [List.getD_eq_getElem?_getD, List.getElem?_eq_none (by simp; omega)]; decide
end Go.Proofs.Ytknahgdeagcghaa.gradeFirst
