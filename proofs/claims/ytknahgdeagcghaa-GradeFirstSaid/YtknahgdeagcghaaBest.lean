/- grade.Best over the floats that came in. -/
import Derived.Test.YtknahgdeagcghaaSw
namespace Go.Proofs.Ytknahgdeagcghaa
open Go.RowKit Fl
set_option linter.unusedVariables false
set_option linter.unusedSimpArgs false

/-- Which one the best of k is. -/
def BestIs (xs : List Nat) (k : Nat) (r : Int) : Prop :=
  (r = -1 ∧ ∀ i, i < k → isNan (xs.getD i 0) = true) ∨
  ∃ p : Nat, p < k ∧ r = p ∧ isNan (xs.getD p 0) = false ∧ ∀ i, i < k → i ≠ p → ukey (xs.getD i 0) < ukey (xs.getD p 0) ∨ (ukey (xs.getD i 0) = ukey (xs.getD p 0) ∧ p < i)

theorem ukey_nan {x y : Nat} (hx : isNan x = true) (hy : isNan y = false) : ukey x < ukey y := by
  have : -9300000000000000000 < key y := by
    unfold key
    split
    · omega
    · split <;> omega
  unfold ukey
  rw [if_pos hx, if_neg (by simp [hy])]
  omega
theorem ukey_num {x : Nat} (hx : isNan x = false) : ukey x = key x := by unfold ukey; rw [if_neg (by simp [hx])]
theorem BestIs.gap {xs : List Nat} {k : Nat} {r : Int} (h : BestIs xs k r) (hx : isNan (xs.getD k 0) = true) : BestIs xs (k + 1) r := by
  rcases h with ⟨rfl, h⟩ | ⟨p, h1, rfl, h2, h3⟩
  · refine .inl ⟨rfl, fun i hi => ?_⟩
    by_cases e : i = k
    · rw [e]; exact hx
    · exact h i (by omega)
  · refine .inr ⟨p, by omega, rfl, h2, fun i hi hne => ?_⟩
    by_cases e : i = k
    · left; rw [e]; exact ukey_nan hx h2
    · exact h3 i (by omega) hne
theorem BestIs.first {xs : List Nat} {k : Nat} (h : BestIs xs k (-1)) (hx : isNan (xs.getD k 0) = false) : BestIs xs (k + 1) (k : Int) := by
  rcases h with ⟨_, h⟩ | ⟨p, h1, h2, _⟩
  · refine .inr ⟨k, by omega, rfl, hx, fun i hi hne => ?_⟩
    left
    exact ukey_nan (h i (by omega)) hx
  · omega
theorem BestIs.more {xs : List Nat} {k p : Nat} (h : BestIs xs k (p : Int)) (hx : isNan (xs.getD k 0) = false) (hlt : ukey (xs.getD p 0) < ukey (xs.getD k 0)) : BestIs xs (k + 1) (k : Int) := by
  rcases h with ⟨h, _⟩ | ⟨q, h1, h2, h3, h4⟩
  · omega
  · obtain rfl : p = q := by omega
    refine .inr ⟨k, by omega, rfl, hx, fun i hi hne => ?_⟩
    by_cases e : i = p
    · subst e; exact .inl hlt
    · have := h4 i (by omega) e
      left; omega
theorem BestIs.less {xs : List Nat} {k p : Nat} (h : BestIs xs k (p : Int)) (hlt : ¬ ukey (xs.getD p 0) < ukey (xs.getD k 0)) : BestIs xs (k + 1) (p : Int) := by
  rcases h with ⟨h, _⟩ | ⟨q, h1, h2, h3, h4⟩
  · omega
  · obtain rfl : p = q := by omega
    refine .inr ⟨p, by omega, rfl, h3, fun i hi hne => ?_⟩
    by_cases e : i = k
    · subst e; omega
    · exact h4 i (by omega) hne
theorem BestIs.form {xs : List Nat} {k : Nat} {r : Int} (h : BestIs xs k r) : r = -1 ∨ ∃ p : Nat, p < k ∧ r = p ∧ isNan (xs.getD p 0) = false := by
  rcases h with ⟨h, _⟩ | ⟨q, h1, h2, h3, _⟩
  · exact .inl h
  · exact .inr ⟨q, h1, h2, h3⟩

theorem cmpF_pos {x y : Nat} (hx : x < 18446744073709551616) (hy : y < 18446744073709551616) (nx : isNan x = false) (ny : isNan y = false) : decide (cmpF x y > 0) = decide (ukey y < ukey x) := by
  rw [cmpF_key x y hx hy, ukey_num nx, ukey_num ny]
  split
  · simp; omega
  · split <;> simp <;> omega

set_option maxHeartbeats 4000000 in
set_option maxRecDepth 100000 in
theorem best_any (xs : List Nat) (b off n cf : Nat) (w : World) (hn60 : n ≤ 60) (hc : ∀ i, i < n → w.cell? ⟨b, off + i, none⟩ = some (.float .f64 (xs.getD i 0)))
    (hwf : ∀ i, xs.getD i 0 < 18446744073709551616) :
    Calls Try.prog 16 #[.slice (some ⟨b, off, none⟩) n cf] w fun e w' => ∃ r, e = .returned (.int .i64 r) ∧ BestIs xs n r ∧ w' = w := by
  have HC := Lib.hid hc
  have HW := Lib.hid hwf
  clear hc hwf
  go_enter Try.func16, Try.ntmps16
  go_wp2
  go_loopg [3, 8] n (fun g1 v i wr => ∃ (k : Nat) (r : Int), v = .int .i64 r ∧ i = .int .i64 k ∧ k ≤ n ∧ n ≤ k + g1 ∧ Hid (BestIs xs k r) ∧ wr = w)
  case atStart => exact ⟨0, -1, rfl, rfl, by omega, by omega, Lib.hid (.inl ⟨rfl, fun i hi => by omega⟩), rfl⟩
  case round =>
    obtain ⟨k, r, rfl, rfl, hk, hg, HB, rfl⟩ := hrel
    by_cases hlt : k < n
    · have hz : (k : Int) < (n : Int) := by omega
      have c1 := HC.out k hlt
      obtain ⟨x, hx⟩ : ∃ x, x = xs.getD k 0 := ⟨_, rfl⟩
      rw [← hx] at c1
      have wx : x < 18446744073709551616 := by rw [hx]; exact HW.out k
      cases nx : nanB x with
      | true =>
        have HB2 := Lib.hid (HB.out.gap (by rw [← hx, ← nanB_isNan x wx]; exact nx))
        have HX := Lib.hid hx
        clear hx
        go_wp2_with (go_at_call 19; refine (none_any _ _).mono ?_; rintro e w' ⟨rfl, rfl⟩)
        go_roundg (gk - 1)
        case measure => omega
        case rel => exact ⟨k + 1, r, rfl, by go_num, by omega, by omega, HB2, rfl⟩
      | false =>
        have mx : isNan (xs.getD k 0) = false := by rw [← hx, ← nanB_isNan x wx]; exact nx
        rcases HB.out.form with rfl | ⟨p, hp, rfl, mp⟩
        · have HB2 := Lib.hid (HB.out.first mx)
          have HX := Lib.hid hx
          clear hx mx
          go_wp2_with (go_at_call 19; refine (none_any _ _).mono ?_; rintro e w' ⟨rfl, rfl⟩)
          go_roundg (gk - 1)
          case measure => omega
          case rel => exact ⟨k + 1, _, rfl, by go_num, by omega, by omega, HB2, rfl⟩
        · have c2 := HC.out p (by omega)
          have hz2 : (p : Int) < (n : Int) := by omega
          have hz3 : ¬ (p : Int) < 0 := by omega
          have hd : decide ((p : Int) < 0) = false := decide_eq_false hz3
          obtain ⟨y, hy⟩ : ∃ y, y = xs.getD p 0 := ⟨_, rfl⟩
          rw [← hy] at c2
          have wy : y < 18446744073709551616 := by rw [hy]; exact HW.out p
          have hcp := cmpF_pos wx wy (by rw [hx]; exact mx) (by rw [hy]; exact mp)
          have hm : ukey y < ukey x → BestIs xs (k + 1) (k : Int) := fun h => HB.out.more mx (by rw [← hx, ← hy]; exact h)
          have hl : ¬ ukey y < ukey x → BestIs xs (k + 1) (p : Int) := fun h => HB.out.less (by rw [← hx, ← hy]; exact h)
          have HX := Lib.hid hx
          have HY := Lib.hid hy
          have CM := Lib.hid (fun W => compare_any x y W wx wy)
          clear hx hy mx mp
          generalize cmpF x y = cv at hcp CM
          by_cases hgt : ukey y < ukey x
          · rw [decide_eq_true hgt] at hcp
            have hcv := of_decide_eq_true hcp
            have HB2 := Lib.hid (hm hgt)
            clear hm hl
            go_wp2_with (first
              | (go_at_call 19; refine (none_any _ _).mono ?_; rintro e w' ⟨rfl, rfl⟩)
              | (go_at_call 11; refine (CM.out _).mono ?_; rintro e w' ⟨rfl, rfl⟩))
            go_roundg (gk - 1)
            case measure => omega
            case rel => exact ⟨k + 1, _, rfl, by go_num, by omega, by omega, HB2, rfl⟩
          · rw [decide_eq_false hgt] at hcp
            have hcv := of_decide_eq_false hcp
            have HB2 := Lib.hid (hl hgt)
            clear hm hl
            go_wp2_with (first
              | (go_at_call 19; refine (none_any _ _).mono ?_; rintro e w' ⟨rfl, rfl⟩)
              | (go_at_call 11; refine (CM.out _).mono ?_; rintro e w' ⟨rfl, rfl⟩))
            go_roundg (gk - 1)
            case measure => omega
            case rel => exact ⟨k + 1, _, rfl, by go_num, by omega, by omega, HB2, rfl⟩
    · obtain rfl : k = n := by omega
      have hz : ¬ (k : Int) < (k : Int) := by omega
      go_wp2
      go_ret
      exact ⟨r, rfl, HB.out, rfl⟩
end Go.Proofs.Ytknahgdeagcghaa
