/- The walk of GradeFalls: the grade does not rise as more lives, nor fall as it grows old; what all lives has none. -/
import Derived.Test.YtknahgdeagcghaaM
import Derived.OpenShut
import Derived.Lib.Hide
import Derived.Laws.BitsLemmas
namespace Go.Proofs.Ytknahgdeagcghaa.gradeFalls
open Go.RowKit Fl
set_option linter.unusedVariables false

theorem wraps32 (n : Int) (h0 : 0 ≤ n) (h1 : n < 2 ^ 32) : IntKind.u32.wrap n = n := by
  rw [IntKind.wrap_u32]; omega

theorem nearest_age (n : Int) (h0 : 0 ≤ n) (h : n < 9007199254740992) : ∃ A : Nat, floatOfInt .f64 n = A ∧ A ≤ 4845873199050653696 ∧ V A = n.toNat * UN := by
  obtain ⟨m, rfl⟩ := Int.eq_ofNat_of_zero_le h0
  obtain ⟨r, h1, h2, h3, h4⟩ := ofNat_exact m (by omega)
  exact ⟨r, h1, h4, by simpa using h3⟩

theorem facts (x y s g : Int) (A : Nat) (hs0 : 0 ≤ s) (hs1 : s ≤ 8191) (hg0 : 0 ≤ g) (hg1 : g ≤ 65535) (hx0 : 0 ≤ x) (hx1 : x ≤ 1 + s) (hy0 : 0 ≤ y) (hy1 : y ≤ 1 + s - x)
    (hA : A ≤ 4845873199050653696) (vA : V A = (1 + g).toNat * UN) :
    cmpF (gP (x + y) (1 + s) (1 + g)) (gP x (1 + s) (1 + g)) ≤ 0 ∧ 0 ≤ cmpF (gP x (1 + s) (1 + g + 1)) (gP x (1 + s) (1 + g)) ∧
    FloatKind.f64.format.order (gP (1 + s) (1 + s) (1 + g)) 0 = some Ordering.eq ∧
    (FloatKind.f64.format.order (gP x (1 + s) (1 + g)) 0 = some Ordering.gt ∨ FloatKind.f64.format.order (gP x (1 + s) (1 + g)) 0 = some Ordering.eq) ∧
    (FloatKind.f64.format.order (gP x (1 + s) (1 + g)) A = some Ordering.lt ∨ FloatKind.f64.format.order (gP x (1 + s) (1 + g)) A = some Ordering.eq) := by
  have iX := gP_is x (1 + s) (1 + g) (by omega) (by omega) (by omega) (by omega) (by omega) (by omega)
  have iY := gP_is (x + y) (1 + s) (1 + g) (by omega) (by omega) (by omega) (by omega) (by omega) (by omega)
  have iZ := gP_is x (1 + s) (1 + g + 1) (by omega) (by omega) (by omega) (by omega) (by omega) (by omega)
  have iO := gP_is (1 + s) (1 + s) (1 + g) (by omega) (by omega) (by omega) (by omega) (by omega) (by omega)
  have bX := gP_fin x (1 + s) (1 + g) (by omega) (by omega) (by omega) (by omega) (by omega) (by omega)
  have bY := gP_fin (x + y) (1 + s) (1 + g) (by omega) (by omega) (by omega) (by omega) (by omega) (by omega)
  have bZ := gP_fin x (1 + s) (1 + g + 1) (by omega) (by omega) (by omega) (by omega) (by omega) (by omega)
  have l1 := iX.le iY (by omega) (by omega) (by omega)
  have l2 := iZ.le iX (by omega) (by omega) (by omega)
  have l3 := iO.none_left (by omega)
  have l4 : gP x (1 + s) (1 + g) ≤ A := by
    have h := iX.most
    rw [← vA] at h
    rcases Nat.lt_or_ge A (gP x (1 + s) (1 + g)) with c | c
    · have := V_lt c; omega
    · exact c
  rw [l3]
  generalize gP x (1 + s) (1 + g) = X at *
  generalize gP (x + y) (1 + s) (1 + g) = Y at *
  generalize gP x (1 + s) (1 + g + 1) = Z at *
  rw [cmpF_fin Y X bY bX, cmpF_fin Z X bZ bX, order_fin 0 0 (by omega) (by omega), order_fin X 0 bX (by omega), order_fin X A bX hA]
  refine ⟨?_, ?_, by rw [cmp_eq rfl], ?_, ?_⟩
  · repeat' split
    all_goals omega
  · repeat' split
    all_goals omega
  · by_cases c : X = 0
    · right; rw [cmp_eq (by omega)]
    · left; rw [cmp_gt (by omega)]
  · by_cases c : X = A
    · right; rw [cmp_eq (by omega)]
    · left; rw [cmp_lt (by omega)]

set_option maxHeartbeats 1000000 in
theorem walk (l m b : Int) (w : World) (wl : (Lit.int .u16 l).wf = true) (wm : (Lit.int .u16 m).wf = true) (wb : (Lit.int .u32 b).wf = true) :
    Calls Try.prog 5 #[.int .u16 l, .int .u16 m, .int .u32 b] w fun e w' => e = .returned (.bool true) ∧ Below w.heap.size w w' := by
  obtain ⟨hl0, hl1⟩ := bounds_u16 wl
  obtain ⟨hm0, hm1⟩ := bounds_u16 wm
  obtain ⟨hb0, hb1⟩ := bounds_u32 wb
  clear wl wm wb
  obtain ⟨s, hs, hs0, hs1⟩ : ∃ s : Int, bits BinOp.and IntKind.u32 b 8191 = s ∧ 0 ≤ s ∧ s ≤ 8191 :=
    ⟨_, bits_mask .u32 32 (by decide) wraps32 13 (by decide) b hb0 (by omega), by omega, by omega⟩
  obtain ⟨g, hg, hg0, hg1⟩ : ∃ g : Int, bits BinOp.and IntKind.u32 (b / 8192) 65535 = g ∧ 0 ≤ g ∧ g ≤ 65535 :=
    ⟨_, bits_mask .u32 32 (by decide) wraps32 16 (by decide) (b / 8192) (by omega) (by omega), by omega, by omega⟩
  obtain ⟨x, hx, hx0, hx1⟩ : ∃ x : Int, l % (1 + s + 1) = x ∧ 0 ≤ x ∧ x ≤ 1 + s := ⟨_, rfl, Int.emod_nonneg _ (by omega), by have := Int.emod_lt_of_pos l (by omega : 0 < 1 + s + 1); omega⟩
  obtain ⟨y, hy, hy0, hy1⟩ : ∃ y : Int, m % (1 + s - x + 1) = y ∧ 0 ≤ y ∧ y ≤ 1 + s - x := ⟨_, rfl, Int.emod_nonneg _ (by omega), by have := Int.emod_lt_of_pos m (by omega : 0 < 1 + s - x + 1); omega⟩
  obtain ⟨A, hA, hA1, vA⟩ := nearest_age (1 + g) (by omega) (by omega)
  have HA := Lib.hid vA
  clear vA
  go_enter Try.func5, Try.ntmps5
  go_wp2_with (first
    | (go_at_call 10; refine (awake_any _).mono ?_; rintro e w' ⟨rfl, rfl⟩)
    | (go_at_call 14; refine (grade_num _ _ _ _ (by omega) (by omega) (by omega) (by omega) (by omega) (by omega)).mono ?_; rintro e w' ⟨rfl, rfl⟩)
    | (go_at_call 11; refine (compare_any _ _ _ (gP_lt _ _ _) (gP_lt _ _ _)).mono ?_; rintro e w' ⟨rfl, rfl⟩))
  all_goals
    obtain ⟨f1, f2, f3, f4, f5⟩ := facts x y s g A hs0 hs1 hg0 hg1 hx0 hx1 hy0 hy1 hA1 HA.out
    go_ret
    first
      | (exfalso; omega)
      | (exfalso; simp_all; done)
      | (refine ⟨ret_bool ?_, Below.refl _ _⟩; simpa using And.intro f4 f5)
end Go.Proofs.Ytknahgdeagcghaa.gradeFalls
