/- Walks over the small functions of chapter 3, and the laws of float operations that they want. -/
import Derived.Test.YtknahgdeagcghaaRows
import Derived.WalkKit
import Derived.WalkSpells
import Derived.WalkLawsBesides
namespace Go.Proofs.Ytknahgdeagcghaa
open Go.RowKit

/-! ### A float operation, whether valid or not: its result, and the world behind it -/
def nanOf (x y : Nat) (w : World) : Nat := (Question.nanBits .f64 x y).cut (w.tape w.drawn (.nanBits .f64 x y))
def arithR (op : BinOp) (x y : Nat) (w : World) : Nat := match floatBits op .f64 x y with | some r => r | none => nanOf x y w
def arithW (op : BinOp) (x y : Nat) (w : World) : World := match floatBits op .f64 x y with | some _ => w | none => w.drew

theorem run_arith {P : Program} (op : BinOp) (hop : op = .add ∨ op = .sub ∨ op = .mul ∨ op = .quo) (t : TypeId) (x y : Nat) (w : World) :
    (binOp op t (.float .f64 x) (.float .f64 y)).run P w = .ok (.float .f64 (arithR op x y w)) (arithW op x y w) := by
  cases h : floatBits op .f64 x y with
  | some r =>
    rw [run_float_arith w op t .f64 x y r h]
    simp [arithR, arithW, h]
  | none =>
    simp only [arithR, arithW, h]
    unfold floatBits at h
    rcases hop with rfl | rfl | rfl | rfl <;> simp only at h <;> simp [binOp, Op.floatArith, h, nanOf, Question.forced]

theorem run_add {P : Program} (t : TypeId) (x y : Nat) (w : World) :
    (binOp .add t (.float .f64 x) (.float .f64 y)).run P w = .ok (.float .f64 (arithR .add x y w)) (arithW .add x y w) := run_arith _ (by simp) _ _ _ _
theorem run_sub {P : Program} (t : TypeId) (x y : Nat) (w : World) :
    (binOp .sub t (.float .f64 x) (.float .f64 y)).run P w = .ok (.float .f64 (arithR .sub x y w)) (arithW .sub x y w) := run_arith _ (by simp) _ _ _ _
theorem run_mul {P : Program} (t : TypeId) (x y : Nat) (w : World) :
    (binOp .mul t (.float .f64 x) (.float .f64 y)).run P w = .ok (.float .f64 (arithR .mul x y w)) (arithW .mul x y w) := run_arith _ (by simp) _ _ _ _
theorem run_quo {P : Program} (t : TypeId) (x y : Nat) (w : World) :
    (binOp .quo t (.float .f64 x) (.float .f64 y)).run P w = .ok (.float .f64 (arithR .quo x y w)) (arithW .quo x y w) := run_arith _ (by simp) _ _ _ _
attribute [local go_sem] run_add run_sub run_mul run_quo

theorem arithW_below {B : Nat} {a w : World} (h : Below B a w) (op : BinOp) (x y : Nat) : Below B a (arithW op x y w) := by
  unfold arithW
  split
  · exact h
  · exact h.drew
theorem arithW_grown {a w : World} (h : Grown a w) (op : BinOp) (x y : Nat) : Grown a (arithW op x y w) := by
  unfold arithW
  split
  · exact h
  · exact h.drew

def nanB (x : Nat) : Bool := FloatKind.f64.format.order x x != some .eq

set_option maxHeartbeats 400000 in
theorem none_any (x : Nat) (w : World) :
    Calls Try.prog 19 #[.float .f64 x] w fun e w' => e = .returned (.bool (nanB x)) ∧ w = w' := by
  go_enter Try.func19, Try.ntmps19
  go_wp2
  go_ret
  exact ⟨rfl, rfl⟩

theorem run_f64bits (x : Nat) (w : World) : (callFunc 21 #[.float .f64 x]).run Try.prog w = .ok (.value (.int .u64 x)) w := by kernel_rfl

def sgnB (x : Nat) : Bool := decide (9223372036854775808 ≤ x)
theorem wrap_sign (x : Nat) (hx : x < 18446744073709551616) : decide (wrap64 (x : Int) < 0) = sgnB x := by
  unfold wrap64 sgnB
  congr 1
  apply propext
  omega
theorem ret_bool {a b : Bool} (h : a = b) : Ending.returned (.bool a) = .returned (.bool b) := by rw [h]
theorem ret_int {k : IntKind} {a b : Int} (h : a = b) : Ending.returned (.int k a) = .returned (.int k b) := by rw [h]

set_option maxHeartbeats 400000 in
theorem signbit_any (x : Nat) (w : World) (hx : x < 18446744073709551616) :
    Calls Try.prog 20 #[.float .f64 x] w fun e w' => e = .returned (.bool (sgnB x)) ∧ w = w' := by
  have hb := run_f64bits x
  have hs := wrap_sign x hx
  go_enter Try.func20, Try.ntmps20
  go_wp2
  go_ret
  exact ⟨rfl, rfl⟩

/-! ### Compare, twice -/
def cmpF (a b : Nat) : Int :=
  if nanB a then (if nanB b then 0 else 1) else if nanB b then -1 else
  if FloatKind.f64.format.order a b == some .lt then -1 else if FloatKind.f64.format.order a b == some .gt then 1 else
  if sgnB a == sgnB b then 0 else if sgnB a then -1 else 1

set_option maxHeartbeats 1000000 in
theorem compare_any (a b : Nat) (w : World) (ha : a < 18446744073709551616) (hb : b < 18446744073709551616) :
    Calls Try.prog 11 #[.float .f64 a, .float .f64 b] w fun e w' => e = .returned (.int .i64 (cmpF a b)) ∧ w = w' := by
  go_enter Try.func11, Try.ntmps11
  go_wp2_with (first
    | (go_at_call 19; refine (none_any _ _).mono ?_; rintro e w' ⟨rfl, rfl⟩)
    | (go_at_call 20; refine (signbit_any _ _ (by assumption)).mono ?_; rintro e w' ⟨rfl, rfl⟩))
  all_goals
    go_ret
    exact ⟨ret_int (by simp_all [cmpF]), rfl⟩

-- the reference looks at the signs in another way; the answer is the same
set_option maxHeartbeats 1000000 in
theorem rcompare_any (a b : Nat) (w : World) (ha : a < 18446744073709551616) (hb : b < 18446744073709551616) :
    Calls Try.prog 12 #[.float .f64 a, .float .f64 b] w fun e w' => e = .returned (.int .i64 (cmpF a b)) ∧ w = w' := by
  have ba := run_f64bits a
  have bb := run_f64bits b
  go_enter Try.func12, Try.ntmps12
  go_wp2
  all_goals
    go_ret
    refine ⟨ret_int ?_, rfl⟩
    first
      | (simp_all [cmpF, nanB]; done)
      | (by_cases z1 : a < 9223372036854775808 <;> by_cases z2 : b < 9223372036854775808 <;> simp_all [cmpF, nanB, sgnB] <;> omega)

def bitsB (x : Nat) : Int := if nanB x then 9221120237041090560 else (x : Int)
set_option maxHeartbeats 1000000 in
theorem bits_any (a : Nat) (w : World) :
    Calls Try.prog 13 #[.float .f64 a] w fun e w' => e = .returned (.int .u64 (bitsB a)) ∧ w = w' := by
  have ba := run_f64bits a
  go_enter Try.func13, Try.ntmps13
  go_wp2
  all_goals
    go_ret
    exact ⟨ret_int (by simp_all [bitsB, nanB]), rfl⟩

/-! ### Grade, twice: five operations -/
def one64 : Nat := 4607182418800017408
structure GradeRun where
  r : Nat
  w : World
def gradeRun (l s a : Int) (w : World) : GradeRun :=
  let L := floatOfInt .f64 l
  let S := floatOfInt .f64 s
  let A := floatOfInt .f64 a
  let u := arithR .quo L S w
  let w1 := arithW .quo L S w
  let rest := arithR .sub one64 u w1
  let w2 := arithW .sub one64 u w1
  let worth := arithR .mul rest A w2
  let w3 := arithW .mul rest A w2
  let cost := arithR .add one64 u w3
  let w4 := arithW .add one64 u w3
  ⟨arithR .quo worth cost w4, arithW .quo worth cost w4⟩

set_option maxHeartbeats 1000000 in
theorem grade_any (l s a : Int) (w : World) :
    Calls Try.prog 14 #[.int .i64 l, .int .i64 s, .int .i64 a] w fun e w' => e = .returned (.float .f64 (gradeRun l s a w).r) ∧ w' = (gradeRun l s a w).w := by
  go_enter Try.func14, Try.ntmps14
  go_wp2
  go_ret
  exact ⟨rfl, rfl⟩
set_option maxHeartbeats 1000000 in
theorem rgrade_any (l s a : Int) (w : World) :
    Calls Try.prog 15 #[.int .i64 l, .int .i64 s, .int .i64 a] w fun e w' => e = .returned (.float .f64 (gradeRun l s a w).r) ∧ w' = (gradeRun l s a w).w := by
  go_enter Try.func15, Try.ntmps15
  go_wp2
  go_ret
  exact ⟨rfl, rfl⟩
end Go.Proofs.Ytknahgdeagcghaa
