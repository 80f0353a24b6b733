/- The sum of whole numbers is exact; the mean lies between. -/
import Derived.Test.YtknahgdeagcghaaM
namespace Go.Proofs.Ytknahgdeagcghaa
open Go.RowKit Fl

/-- The float of a whole number: its sign, its rung. -/
theorem ofInt_form (n : Int) (h : n.natAbs < 9007199254740992) : ∃ r, floatOfInt .f64 n = W (decide (n < 0)) r ∧ r < INF ∧ V r = n.natAbs * UN ∧ r ≤ 4845873199050653696 := by
  obtain ⟨r, h1, h2⟩ := ofInt_rnd n
  obtain ⟨q, h3, h4, h5⟩ := exact_nat n.natAbs h
  have e := IsRnd.exact (D := 1) (Nat.le_of_lt h3) (by omega)
  have hr : r = q := h2.unique e (by omega) (by omega) (by rw [h4]; simp)
  subst hr
  exact ⟨r, h1, h3, h4, h5⟩

theorem sr_scale (s : Bool) (a P : Nat) : sr s a * P = sr s (a * P) := by
  cases s <;> simp [sr, Int.natCast_mul, Int.neg_mul]

theorem add_int (a b : Int) (ha : a.natAbs < 9007199254740992) (hb : b.natAbs < 9007199254740992) (hab : (a + b).natAbs < 9007199254740992) :
    floatBits .add .f64 (floatOfInt .f64 a) (floatOfInt .f64 b) = some (floatOfInt .f64 (a + b)) := by
  have hU := UN_pos
  obtain ⟨rx, ex, ix, vx, _⟩ := ofInt_form a ha
  obtain ⟨ry, ey, iy, vy, _⟩ := ofInt_form b hb
  obtain ⟨rz, ez, iz, vz, _⟩ := ofInt_form (a + b) hab
  obtain ⟨m, i, e1, p1, v1⟩ := read_fin (decide (a < 0)) rx ix
  obtain ⟨n, j, e2, p2, v2⟩ := read_fin (decide (b < 0)) ry iy
  rw [ex, ey, ez]
  show Ieee.double.add _ _ = _
  unfold Ieee.Format.add
  rw [e1, e2]
  have hA := shift_scale (m := m) (i := i) (base := min i j) (by omega) (by omega)
  have hB := shift_scale (m := n) (i := j) (base := min i j) (by omega) (by omega)
  rw [← v1, vx] at hA; rw [← v2, vy] at hB
  simp only [Ieee.Datum.sum, signed_sr, Option.map_some, Ieee.Format.write]
  generalize m <<< (i - min i j).toNat = A at *
  generalize n <<< (j - min i j).toNat = B at *
  obtain ⟨d1, d2⟩ := num_den (m := (sr (decide (a < 0)) A + sr (decide (b < 0)) B).natAbs) (p := min i j) (by omega)
  have hP : 0 < 2 ^ (min i j + 1074).toNat := Nat.two_pow_pos _
  generalize hPP : 2 ^ (min i j + 1074).toNat = P at *
  have sa : sr (decide (a < 0)) (a.natAbs * UN) = a * UN := by
    rw [← sr_scale]; congr 1; unfold sr; split <;> simp_all <;> omega
  have sb : sr (decide (b < 0)) (b.natAbs * UN) = b * UN := by
    rw [← sr_scale]; congr 1; unfold sr; split <;> simp_all <;> omega
  have ht : (sr (decide (a < 0)) A + sr (decide (b < 0)) B) * P = (a + b) * UN := by
    rw [Int.add_mul, sr_scale, sr_scale, hA, hB, sa, sb, Int.add_mul]
  generalize hT : sr (decide (a < 0)) A + sr (decide (b < 0)) B = T at *
  have hPi : (0 : Int) < P := by omega
  have hUi : (0 : Int) < UN := by omega
  have t0 : T = 0 ↔ a + b = 0 := by
    constructor
    · intro h; rw [h, Int.zero_mul] at ht
      exact (Int.mul_eq_zero.1 ht.symm).resolve_right (by omega)
    · intro h; rw [h, Int.zero_mul] at ht
      exact (Int.mul_eq_zero.1 ht).resolve_right (by omega)
  have tn : T < 0 ↔ a + b < 0 := by
    constructor
    · intro h
      have : T * P < 0 := Int.mul_neg_of_neg_of_pos h hPi
      rw [ht] at this
      rcases Int.lt_or_le (a + b) 0 with c | c
      · exact c
      · have := Int.mul_nonneg c (Int.le_of_lt hUi); omega
    · intro h
      have : (a + b) * UN < 0 := Int.mul_neg_of_neg_of_pos h hUi
      rw [← ht] at this
      rcases Int.lt_or_le T 0 with c | c
      · exact c
      · have := Int.mul_nonneg c (Int.le_of_lt hPi); omega
  have hneg : (if T = 0 then decide (a < 0) && decide (b < 0) else decide (T < 0)) = decide (a + b < 0) := by
    split
    · rename_i h0
      have := t0.1 h0
      by_cases c : a < 0 <;> by_cases c2 : b < 0 <;> simp [c, c2] <;> omega
    · simp only [tn]
  rw [hneg]
  obtain ⟨r, h1, h2⟩ := nearest_rnd (decide (a + b < 0)) T.natAbs (min i j)
  rw [h1, W_eq]
  congr 2
  unfold num at h2
  rw [d1] at h2
  rw [hPP] at h2
  have habs : T.natAbs * P = (a + b).natAbs * UN := by
    have := congrArg Int.natAbs ht
    simpa [Int.natAbs_mul] using this
  rw [habs] at h2
  have e := IsRnd.exact (D := 1) (Nat.le_of_lt iz) (by omega)
  exact h2.unique e (by omega) (by omega) (by rw [vz]; simp)

/-- What a mean of whole numbers is held against. -/
theorem mean_between (S n lo hi : Int) (hn0 : 0 < n) (hn : n < 9007199254740992) (hS : S.natAbs < 9007199254740992) (hlo : lo.natAbs < 9007199254740992) (hhi : hi.natAbs < 9007199254740992)
    (h1 : n * lo ≤ S) (h2 : S ≤ n * hi) : ∃ m, floatBits .quo .f64 (floatOfInt .f64 S) (floatOfInt .f64 n) = some m ∧
    (FloatKind.f64.format.order m (floatOfInt .f64 lo) = some .gt ∨ FloatKind.f64.format.order m (floatOfInt .f64 lo) = some .eq) ∧
    (FloatKind.f64.format.order m (floatOfInt .f64 hi) = some .lt ∨ FloatKind.f64.format.order m (floatOfInt .f64 hi) = some .eq) := by
  have hU := UN_pos
  obtain ⟨rs, es, is, vs, _⟩ := ofInt_form S hS
  obtain ⟨rn, en, iN, vn, _⟩ := ofInt_form n (by omega)
  obtain ⟨rl, el, il, vl, _⟩ := ofInt_form lo hlo
  obtain ⟨rh, eh, ih, vh, _⟩ := ofInt_form hi hhi
  have hnn : decide (n < 0) = false := by simp; omega
  rw [hnn] at en
  have hvn : 0 < V rn := by rw [vn]; exact Nat.mul_pos (by omega) hU
  have hrn : 0 < rn := by
    rcases Nat.eq_zero_or_pos rn with c | c
    · subst c; rw [V_zero] at hvn; omega
    · exact c
  obtain ⟨r, e, hr⟩ := div_fin (decide (S < 0)) false rs rn is iN hrn
  rw [vs, vn] at hr
  have hd : 0 < n.natAbs * UN := Nat.mul_pos (by omega) hU
  have hrI := hr.top
  refine ⟨W (decide (S < 0) ^^ false) r, by rw [es, en]; exact e, ?_, ?_⟩
  all_goals rw [Bool.xor_false]
  · rw [el]
    have ho : FloatKind.f64.format.order (W (decide (S < 0)) r) (W (decide (lo < 0)) rl) = _ := order_W _ _ r rl hrI (Nat.le_of_lt il)
    rw [ho]
    have key : sr (decide (lo < 0)) rl ≤ sr (decide (S < 0)) r := by
      by_cases c : lo < 0
      · by_cases c2 : S < 0
        · -- both negative: |S| ≤ |lo| n
          have : r ≤ rl := by
            refine rnd_le hr hd (Nat.le_of_lt il) ?_
            rw [vl]
            have h3 : S.natAbs ≤ lo.natAbs * n.natAbs := by
              have a1 : ((lo.natAbs * n.natAbs : Nat) : Int) = -(n * lo) := by
                rw [Int.natCast_mul, Int.ofNat_natAbs_of_nonpos (by omega), Int.natAbs_of_nonneg (by omega), Int.neg_mul, Int.mul_comm]
              omega
            have : S.natAbs * UN * UN ≤ lo.natAbs * n.natAbs * UN * UN := Nat.mul_le_mul_right _ (Nat.mul_le_mul_right _ h3)
            have e2 : lo.natAbs * UN * (n.natAbs * UN) = lo.natAbs * n.natAbs * UN * UN := by simp only [Nat.mul_assoc, Nat.mul_left_comm]
            omega
          simp [sr, c, c2]; omega
        · simp [sr, c, c2] <;> omega
      · have hs : ¬ S < 0 := by
          have := Int.mul_nonneg (Int.le_of_lt hn0) (by omega : 0 ≤ lo); omega
        have : rl ≤ r := by
          refine rnd_ge hr hd (Nat.le_of_lt il) ?_
          rw [vl]
          have h3 : lo.natAbs * n.natAbs ≤ S.natAbs := by
            have a1 : ((lo.natAbs * n.natAbs : Nat) : Int) = n * lo := by
              rw [Int.natCast_mul, Int.natAbs_of_nonneg (by omega), Int.natAbs_of_nonneg (by omega), Int.mul_comm]
            omega
          have : lo.natAbs * n.natAbs * UN * UN ≤ S.natAbs * UN * UN := Nat.mul_le_mul_right _ (Nat.mul_le_mul_right _ h3)
          have e2 : lo.natAbs * UN * (n.natAbs * UN) = lo.natAbs * n.natAbs * UN * UN := by simp only [Nat.mul_assoc, Nat.mul_left_comm]
          omega
        simp [sr, c, hs]; omega
    by_cases c : sr (decide (S < 0)) r = sr (decide (lo < 0)) rl
    · right; rw [cmp_eq c]
    · left; rw [cmp_gt (by omega)]
  · rw [eh]
    have ho : FloatKind.f64.format.order (W (decide (S < 0)) r) (W (decide (hi < 0)) rh) = _ := order_W _ _ r rh hrI (Nat.le_of_lt ih)
    rw [ho]
    have key : sr (decide (S < 0)) r ≤ sr (decide (hi < 0)) rh := by
      by_cases c : hi < 0
      · have hs : S < 0 := by
          have := Int.mul_neg_of_pos_of_neg hn0 c; omega
        have : rh ≤ r := by
          refine rnd_ge hr hd (Nat.le_of_lt ih) ?_
          rw [vh]
          have h3 : hi.natAbs * n.natAbs ≤ S.natAbs := by
            have a1 : ((hi.natAbs * n.natAbs : Nat) : Int) = -(n * hi) := by
              rw [Int.natCast_mul, Int.ofNat_natAbs_of_nonpos (by omega), Int.natAbs_of_nonneg (by omega), Int.neg_mul, Int.mul_comm]
            omega
          have : hi.natAbs * n.natAbs * UN * UN ≤ S.natAbs * UN * UN := Nat.mul_le_mul_right _ (Nat.mul_le_mul_right _ h3)
          have e2 : hi.natAbs * UN * (n.natAbs * UN) = hi.natAbs * n.natAbs * UN * UN := by simp only [Nat.mul_assoc, Nat.mul_left_comm]
          omega
        simp [sr, c, hs]; omega
      · by_cases c2 : S < 0
        · simp [sr, c, c2] <;> omega
        · have : r ≤ rh := by
            refine rnd_le hr hd (Nat.le_of_lt ih) ?_
            rw [vh]
            have h3 : S.natAbs ≤ hi.natAbs * n.natAbs := by
              have a1 : ((hi.natAbs * n.natAbs : Nat) : Int) = n * hi := by
                rw [Int.natCast_mul, Int.natAbs_of_nonneg (by omega), Int.natAbs_of_nonneg (by omega), Int.mul_comm]
              omega
            have : S.natAbs * UN * UN ≤ hi.natAbs * n.natAbs * UN * UN := Nat.mul_le_mul_right _ (Nat.mul_le_mul_right _ h3)
            have e2 : hi.natAbs * UN * (n.natAbs * UN) = hi.natAbs * n.natAbs * UN * UN := by simp only [Nat.mul_assoc, Nat.mul_left_comm]
            omega
          simp [sr, c, c2]; omega
    by_cases c : sr (decide (S < 0)) r = sr (decide (hi < 0)) rh
    · right; rw [cmp_eq c]
    · left; rw [cmp_lt (by omega)]
end Go.Proofs.Ytknahgdeagcghaa
