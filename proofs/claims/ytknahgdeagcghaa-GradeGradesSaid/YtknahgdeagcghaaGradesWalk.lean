/- The walk of GradeGrades: of any live, size, age the grade, to the bit. -/
import Derived.Test.YtknahgdeagcghaaK
namespace Go.Proofs.Ytknahgdeagcghaa.gradeGrades
open Go.RowKit Fl
set_option linter.unusedVariables false

theorem bits_run (l s a : Int) (w w' : World) : bitsB (gradeRun l s a w).r = bitsB (gradeRun l s a w').r := by
  cases h : gradeO l s a with
  | some r => rw [gradeRun_some h, gradeRun_some h]
  | none =>
    have n1 := gradeRun_none h w
    have n2 := gradeRun_none h w'
    unfold bitsB
    rw [nanB_isNan _ (gradeRun_lt ..), nanB_isNan _ (gradeRun_lt ..), n1, n2, if_pos rfl, if_pos rfl]

set_option maxHeartbeats 1000000 in
theorem walk (l s a : Int) (w : World) (wl : (Lit.int .i64 l).wf = true) (ws : (Lit.int .i64 s).wf = true) (wa : (Lit.int .i64 a).wf = true) :
    Calls Try.prog 4 #[.int .i64 l, .int .i64 s, .int .i64 a] w fun e w' => e = .returned (.bool true) ∧ Below w.heap.size w w' := by
  clear wl ws wa
  go_enter Try.func4, Try.ntmps4
  go_wp2_with (first
    | (go_at_call 10; refine (awake_any _).mono ?_; rintro e w' ⟨rfl, rfl⟩)
    | (go_at_call 14; refine (grade_any _ _ _ _).mono ?_; rintro e w' ⟨rfl, rfl⟩)
    | (go_at_call 15; refine (rgrade_any _ _ _ _).mono ?_; rintro e w' ⟨rfl, rfl⟩)
    | (go_at_call 13; refine (bits_any _ _).mono ?_; rintro e w' ⟨rfl, rfl⟩))
  go_ret
  refine ⟨ret_bool ?_, ?_⟩
  · rw [bits_run l s a _ w, bits_run l s a (gradeRun l s a w).w w]; simp
  · exact gradeRun_below (gradeRun_below (Below.refl _ _))
end Go.Proofs.Ytknahgdeagcghaa.gradeGrades
