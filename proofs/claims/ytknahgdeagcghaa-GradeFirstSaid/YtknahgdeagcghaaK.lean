/- Compare as an order on keys; the walk of GradeOrders. -/
import Derived.Test.YtknahgdeagcghaaB
import Derived.Test.YtknahgdeagcghaaH
namespace Go.Proofs.Ytknahgdeagcghaa
open Go.RowKit Fl

def key (x : Nat) : Int := if isNan x then 18446744073709551616 else if sgnB x then -((x % 9223372036854775808 : Nat) : Int) - 1 else ((x % 9223372036854775808 : Nat) : Int)

theorem nanB_isNan (x : Nat) (h : x < 18446744073709551616) : nanB x = isNan x := nan_order x h

theorem cmpF_key (a b : Nat) (ha : a < 18446744073709551616) (hb : b < 18446744073709551616) :
    cmpF a b = if key a < key b then -1 else if key a = key b then 0 else 1 := by
  unfold cmpF
  rw [nanB_isNan a ha, nanB_isNan b hb]
  obtain ⟨s, r, rfl, hr⟩ := word_form a ha
  obtain ⟨t, q, rfl, hq⟩ := word_form b hb
  have es : sgnB (W s r) = s := by cases s <;> simp [sgnB, W] <;> omega
  have et : sgnB (W t q) = t := by cases t <;> simp [sgnB, W] <;> omega
  unfold key
  rw [W_mod s r hr, W_mod t q hq, es, et]
  by_cases c1 : INF < r
  · have n1 : isNan (W s r) = true := by unfold isNan; rw [W_mod s r hr]; simp [c1]
    by_cases c2 : INF < q
    · have n2 : isNan (W t q) = true := by unfold isNan; rw [W_mod t q hq]; simp [c2]
      simp [n1, n2]
    · have n2 : isNan (W t q) = false := by unfold isNan; rw [W_mod t q hq]; simp [c2]
      simp only [n1, n2]
      cases t <;> simp <;> (rw [if_neg (by omega), if_neg (by omega)])
  · have n1 : isNan (W s r) = false := by unfold isNan; rw [W_mod s r hr]; simp [c1]
    by_cases c2 : INF < q
    · have n2 : isNan (W t q) = true := by unfold isNan; rw [W_mod t q hq]; simp [c2]
      simp only [n1, n2]
      cases s <;> simp <;> omega
    · have n2 : isNan (W t q) = false := by unfold isNan; rw [W_mod t q hq]; simp [c2]
      have ho : FloatKind.f64.format.order (W s r) (W t q) = some (compare (sr s r) (sr t q)) := order_W s t r q (by omega) (by omega)
      rw [ho]
      simp only [n1, n2]
      rcases Int.lt_trichotomy (sr s r) (sr t q) with c | c | c
      · rw [cmp_lt c]; unfold sr at c
        cases s <;> cases t <;> simp_all <;> omega
      · rw [cmp_eq c]; unfold sr at c
        cases s <;> cases t <;> simp_all <;> omega
      · rw [cmp_gt c]; unfold sr at c
        cases s <;> cases t <;> simp_all <;> (repeat' split) <;> omega

theorem bits_key (a b : Nat) (ha : a < 18446744073709551616) (hb : b < 18446744073709551616) : bitsB a = bitsB b ↔ key a = key b := by
  unfold bitsB key
  rw [nanB_isNan a ha, nanB_isNan b hb]
  have na : isNan a = decide (INF < a % 9223372036854775808) := rfl
  have nb : isNan b = decide (INF < b % 9223372036854775808) := rfl
  have sa : sgnB a = decide (9223372036854775808 ≤ a) := rfl
  have sb : sgnB b = decide (9223372036854775808 ≤ b) := rfl
  rw [na, nb, sa, sb]
  unfold INF
  repeat' split
  all_goals simp only [decide_eq_true_eq] at *
  all_goals omega

/-! ### Grade as a function of its arguments alone: 'none' is a NaN -/
def gradeO (l s a : Int) : Option Nat :=
  match floatBits .quo .f64 (floatOfInt .f64 l) (floatOfInt .f64 s) with
  | none => none
  | some u => match floatBits .sub .f64 one64 u with
    | none => none
    | some rest => match floatBits .mul .f64 rest (floatOfInt .f64 a) with
      | none => none
      | some worth => match floatBits .add .f64 one64 u with
        | none => none
        | some cost => floatBits .quo .f64 worth cost

theorem arith_some {op : BinOp} {x y r : Nat} (h : floatBits op .f64 x y = some r) (w : World) : arithR op x y w = r ∧ arithW op x y w = w := by
  simp [arithR, arithW, h]

theorem gradeRun_some {l s a : Int} {r : Nat} (h : gradeO l s a = some r) (w : World) : gradeRun l s a w = ⟨r, w⟩ := by
  unfold gradeO at h
  split at h
  · cases h
  · rename_i u h1
    split at h
    · cases h
    · rename_i rest h2
      split at h
      · cases h
      · rename_i worth h3
        split at h
        · cases h
        · rename_i cost h4
          simp only [gradeRun, (arith_some h1 _).1, (arith_some h1 _).2, (arith_some h2 _).1, (arith_some h2 _).2, (arith_some h3 _).1, (arith_some h3 _).2, (arith_some h4 _).1, (arith_some h4 _).2, (arith_some h _).1, (arith_some h _).2]

theorem nanOf_nan (x y : Nat) (w : World) : nanOf x y w < 18446744073709551616 ∧ isNan (nanOf x y w) = true := by
  unfold nanOf Question.cut isNan INF
  generalize w.tape w.drawn (.nanBits .f64 x y) = t
  simp only [decide_eq_true_eq]
  have h2 : t / 2 % (2 ^ 52 - 1) < 4503599627370495 := Nat.mod_lt _ (by decide)
  generalize t / 2 % (2 ^ 52 - 1) = m at *
  rcases Nat.mod_two_eq_zero_or_one t with e | e <;> rw [e] <;> constructor <;> omega

theorem floatBits_nan (op : BinOp) (x y : Nat) (hx : x < 18446744073709551616) (hy : y < 18446744073709551616) (h : isNan x = true ∨ isNan y = true) : floatBits op .f64 x y = none := by
  obtain ⟨s, r, rfl, hr⟩ := word_form x hx
  obtain ⟨t, q, rfl, hq⟩ := word_form y hy
  have hf : FloatKind.f64.format = Ieee.double := rfl
  unfold isNan at h
  rw [W_mod s r hr, W_mod t q hq] at h
  simp only [decide_eq_true_eq] at h
  rcases h with h | h
  · obtain ⟨z, e⟩ := read_nan s r h hr
    cases op <;> simp only [floatBits, hf, Ieee.Format.add, Ieee.Format.sub, Ieee.Format.mul, Ieee.Format.div, e, Ieee.Datum.sum, Ieee.Datum.product, Ieee.Datum.quotient, Option.map_none]
  · obtain ⟨z, e⟩ := read_nan t q h hq
    cases op <;> simp only [floatBits, hf, Ieee.Format.add, Ieee.Format.sub, Ieee.Format.mul, Ieee.Format.div, e] <;> cases Ieee.double.read (W s r) <;> rfl

theorem arithR_lt (op : BinOp) (x y : Nat) (w : World) : arithR op x y w < 18446744073709551616 := by
  unfold arithR
  split
  · rename_i r h
    have := floatBits_wf h
    simpa [Lit.wf] using this
  · exact (nanOf_nan x y w).1
theorem arithR_none {op : BinOp} {x y : Nat} (h : floatBits op .f64 x y = none) (w : World) : isNan (arithR op x y w) = true := by
  simp only [arithR, h]; exact (nanOf_nan x y w).2
theorem arithR_nan (op : BinOp) (x y : Nat) (hx : x < 18446744073709551616) (hy : y < 18446744073709551616) (h : isNan x = true ∨ isNan y = true) (w : World) : isNan (arithR op x y w) = true :=
  arithR_none (floatBits_nan op x y hx hy h) w

theorem ofInt_lt (n : Int) : floatOfInt .f64 n < 18446744073709551616 := by
  have := floatOfInt_wf .f64 n
  simpa [Lit.wf] using this

theorem gradeRun_lt (l s a : Int) (w : World) : (gradeRun l s a w).r < 18446744073709551616 := arithR_lt ..

theorem gradeRun_none {l s a : Int} (h : gradeO l s a = none) (w : World) : isNan (gradeRun l s a w).r = true := by
  have h1u : one64 < 18446744073709551616 := by unfold one64; omega
  have hA := ofInt_lt a
  unfold gradeO at h
  simp only [gradeRun]
  split at h
  · rename_i h1
    have n1 := arithR_none h1 w
    exact arithR_nan _ _ _ (arithR_lt ..) (arithR_lt ..) (.inl (arithR_nan _ _ _ (arithR_lt ..) hA (.inl (arithR_nan _ _ _ h1u (arithR_lt ..) (.inr n1) _)) _)) _
  · rename_i u h1
    rw [(arith_some h1 w).1, (arith_some h1 w).2]
    split at h
    · rename_i h2
      exact arithR_nan _ _ _ (arithR_lt ..) (arithR_lt ..) (.inl (arithR_nan _ _ _ (arithR_lt ..) hA (.inl (arithR_none h2 _)) _)) _
    · rename_i rest h2
      rw [(arith_some h2 w).1, (arith_some h2 w).2]
      split at h
      · rename_i h3
        exact arithR_nan _ _ _ (arithR_lt ..) (arithR_lt ..) (.inl (arithR_none h3 _)) _
      · rename_i worth h3
        rw [(arith_some h3 w).1, (arith_some h3 w).2]
        split at h
        · rename_i h4
          have hw : worth < 18446744073709551616 := by have := floatBits_wf h3; simpa [Lit.wf] using this
          exact arithR_nan _ _ _ hw (arithR_lt ..) (.inr (arithR_none h4 _)) _
        · rename_i cost h4
          rw [(arith_some h4 w).1, (arith_some h4 w).2]
          exact arithR_none h _

theorem gradeRun_below {B : Nat} {a : World} {l s g : Int} {w : World} (h : Below B a w) : Below B a (gradeRun l s g w).w := by
  simp only [gradeRun]
  exact arithW_below (arithW_below (arithW_below (arithW_below (arithW_below h _ _ _) _ _ _) _ _ _) _ _ _) _ _ _
theorem gradeRun_grown {a : World} {l s g : Int} {w : World} (h : Grown a w) : Grown a (gradeRun l s g w).w := by
  simp only [gradeRun]
  exact arithW_grown (arithW_grown (arithW_grown (arithW_grown (arithW_grown h _ _ _) _ _ _) _ _ _) _ _ _) _ _ _

theorem grade_awake : gradeO 50 100 6 = some 4611686018427387904 := by decide +kernel
theorem cmp_awake : cmpF 4607182418800017408 4611686018427387904 = -1 := by decide +kernel
theorem two_eq : FloatKind.f64.format.order 4611686018427387904 4611686018427387904 = some .eq := by decide +kernel

set_option maxHeartbeats 1000000 in
theorem awake_any (w : World) : Calls Try.prog 10 #[] w fun e w' => e = .returned (.bool true) ∧ w = w' := by
  have t2 := two_eq
  go_enter Try.func10, Try.ntmps10
  go_wp2_with (first
    | (go_at_call 14; refine (grade_any _ _ _ _).mono ?_; rintro e w' ⟨rfl, rfl⟩; rw [gradeRun_some grade_awake])
    | (go_at_call 11; refine (compare_any _ _ _ (by omega) (by omega)).mono ?_; rintro e w' ⟨rfl, rfl⟩; rw [cmp_awake]))
  go_ret
  exact ⟨rfl, rfl⟩
end Go.Proofs.Ytknahgdeagcghaa
