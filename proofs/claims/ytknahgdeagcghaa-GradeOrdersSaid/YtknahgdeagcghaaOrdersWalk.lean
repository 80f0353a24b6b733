/- The walk of GradeOrders: of any three numbers the order is one. -/
import Derived.Test.YtknahgdeagcghaaK
import Derived.Test.YtknahgdeagcghaaH
namespace Go.Proofs.Ytknahgdeagcghaa.gradeOrders
open Go.RowKit

theorem facts (a b c : Nat) (ha : a < 18446744073709551616) (hb : b < 18446744073709551616) (hc : c < 18446744073709551616) :
    cmpF b a = - cmpF a b ∧ -1 ≤ cmpF a b ∧ cmpF a b ≤ 1 ∧ cmpF a a = 0 ∧ (0 < cmpF a b ∨ 0 < cmpF b c ∨ cmpF a c ≤ 0) ∧ (cmpF a b = 0 ↔ bitsB a = bitsB b) := by
  rw [bits_key a b ha hb, cmpF_key a b ha hb, cmpF_key b a hb ha, cmpF_key a a ha ha, cmpF_key b c hb hc, cmpF_key a c ha hc]
  refine ⟨?_, ?_, ?_, ?_, ?_, ?_⟩ <;> (repeat' split) <;> omega

set_option maxHeartbeats 1000000 in
theorem walk (a b c : Nat) (w : World) (wa : (Lit.float .f64 a).wf = true) (wb : (Lit.float .f64 b).wf = true) (wc : (Lit.float .f64 c).wf = true) :
    Calls Try.prog 3 #[.float .f64 a, .float .f64 b, .float .f64 c] w fun e w' => e = .returned (.bool true) ∧ Below w.heap.size w w' := by
  have ha : a < 18446744073709551616 := by simpa [Lit.wf] using wa
  have hb : b < 18446744073709551616 := by simpa [Lit.wf] using wb
  have hc : c < 18446744073709551616 := by simpa [Lit.wf] using wc
  clear wa wb wc
  go_enter Try.func3, Try.ntmps3
  go_wp2_with (first
    | (go_at_call 10; refine (awake_any _).mono ?_; rintro e w' ⟨rfl, rfl⟩)
    | (go_at_call 11; refine (compare_any _ _ _ (by assumption) (by assumption)).mono ?_; rintro e w' ⟨rfl, rfl⟩)
    | (go_at_call 12; refine (rcompare_any _ _ _ (by assumption) (by assumption)).mono ?_; rintro e w' ⟨rfl, rfl⟩)
    | (go_at_call 13; refine (bits_any _ _).mono ?_; rintro e w' ⟨rfl, rfl⟩))
  all_goals
    obtain ⟨f1, f2, f3, f4, f5, f6⟩ := facts a b c ha hb hc
    go_ret
    refine ⟨ret_bool ?_, Below.refl _ _⟩
    have hw : wrap64 (-cmpF a b) = -cmpF a b := by unfold wrap64; omega
    have q1 : (cmpF a b == 0) = (bitsB a == bitsB b) := by rw [Bool.eq_iff_iff]; simpa using f6
    have q2 : (decide (0 < cmpF a b) || decide (0 < cmpF b c) || decide (cmpF a c ≤ 0)) = true := by simp; omega
    first
      | (exfalso; omega)
      | (rw [q1, q2]; simp; done)
      | (rw [q1]; simp; done)
end Go.Proofs.Ytknahgdeagcghaa.gradeOrders
