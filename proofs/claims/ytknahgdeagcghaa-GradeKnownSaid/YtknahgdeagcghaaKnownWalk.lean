/- The walk of GradeKnown: chapter 3's examples. -/
import Derived.Test.YtknahgdeagcghaaM
namespace Go.Proofs.Ytknahgdeagcghaa.gradeKnown
open Go.RowKit Fl
set_option linter.unusedVariables false
attribute [local go_sem] run_add run_sub run_mul run_quo

set_option maxHeartbeats 1000000 in
theorem best_nil (w : World) : Calls Try.prog 16 #[.slice none 0 0] w fun e w' => e = .returned (.int .i64 (-1)) ∧ w = w' := by
  go_enter Try.func16, Try.ntmps16
  go_wp2
  refine wp_loop_rounds 1 ?_
  rw [rounds_succ]
  go_wp2
  go_ret
  exact ⟨rfl, rfl⟩

theorem q1 : floatBits .quo .f64 0 0 = none := by decide +kernel
theorem q2 : floatBits .quo .f64 4607182418800017408 0 = some INF := by decide +kernel
theorem q3 : floatBits .quo .f64 13830554455654793216 INF = some 9223372036854775808 := by decide +kernel
theorem g1 : gradeO 0 0 1 = none := by decide +kernel
theorem g2 : gradeO 0 100 5 = some 4617315517961601024 := by decide +kernel
theorem g3 : gradeO 100 100 5 = some 0 := by decide +kernel
theorem e1 : FloatKind.f64.format.order 4617315517961601024 4617315517961601024 = some .eq := by decide +kernel
theorem e2 : FloatKind.f64.format.order 0 0 = some .eq := by decide +kernel
theorem c1 : cmpF 9223372036854775808 0 = -1 := by decide +kernel

theorem nan_cmp (n : Nat) (h : n < 18446744073709551616) (hn : isNan n = true) : cmpF n INF = 1 ∧ cmpF n n = 0 ∧ (FloatKind.f64.format.order n n != some .eq) = true := by
  have hk : key n = 18446744073709551616 := by unfold key; rw [hn]; rfl
  have hi : key INF = 9218868437227405312 := by decide +kernel
  refine ⟨?_, ?_, ?_⟩
  · rw [cmpF_key n INF h (by unfold INF; omega), hk, hi]; decide
  · rw [cmpF_key n n h h, if_neg (by omega), if_pos rfl]
  · have := nanB_isNan n h; unfold nanB at this; rw [this, hn]

set_option maxHeartbeats 1000000 in
theorem walk (w : World) : Calls Try.prog 7 #[] w fun e w' => e = .returned (.bool true) ∧ Below w.heap.size w w' := by
  obtain ⟨N, hN, nl, nn⟩ : ∃ N, arithR .quo 0 0 w = N ∧ N < 18446744073709551616 ∧ isNan N = true := ⟨_, rfl, arithR_lt .., arithR_none q1 w⟩
  have hNW : arithW .quo 0 0 w = w.drew := by simp [arithW, q1]
  have i1 : ∀ W, arithR .quo 4607182418800017408 0 W = INF := fun W => (arith_some q2 W).1
  have i2 : ∀ W, arithW .quo 4607182418800017408 0 W = W := fun W => (arith_some q2 W).2
  have i3 : ∀ W, arithR .quo 13830554455654793216 INF W = 9223372036854775808 := fun W => (arith_some q3 W).1
  have i4 : ∀ W, arithW .quo 13830554455654793216 INF W = W := fun W => (arith_some q3 W).2
  obtain ⟨M, W2, hM, ml, mn, hb⟩ : ∃ M W2, gradeRun 0 0 1 w.drew = ⟨M, W2⟩ ∧ M < 18446744073709551616 ∧ isNan M = true ∧ Below w.heap.size w W2 :=
    ⟨_, _, rfl, gradeRun_lt .., gradeRun_none g1 _, gradeRun_below (Below.refl _ _).drew⟩
  obtain ⟨n1, n2, n3⟩ := nan_cmp N nl nn
  obtain ⟨_, _, m3⟩ := nan_cmp M ml mn
  have x1 := e1
  have x2 := e2
  clear nn mn
  go_enter Try.func7, Try.ntmps7
  go_wp2_with (first
    | (go_at_call 10; refine (awake_any _).mono ?_; rintro e w' ⟨rfl, rfl⟩)
    | (go_at_call 14; refine (grade_any _ _ _ _).mono ?_; rintro e w' ⟨rfl, rfl⟩; first | rw [hM] | rw [gradeRun_some g2] | rw [gradeRun_some g3])
    | (go_at_call 11; refine (compare_any _ _ _ (by first | assumption | decide) (by first | assumption | decide)).mono ?_; rintro e w' ⟨rfl, rfl⟩; first | rw [c1] | rw [n1] | rw [n2])
    | (go_at_call 16; refine (best_nil _).mono ?_; rintro e w' ⟨rfl, rfl⟩))
  go_ret
  exact ⟨rfl, hb⟩
end Go.Proofs.Ytknahgdeagcghaa.gradeKnown
