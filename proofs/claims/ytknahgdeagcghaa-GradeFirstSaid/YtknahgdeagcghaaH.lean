/- Plain facts on the format 'double': words, the four operations on them, their order. No program in sight. -/
import Derived.Test.YtknahgdeagcghaaG
namespace Go.Proofs.Ytknahgdeagcghaa.Fl
open Ieee

def W (s : Bool) (r : Nat) : Nat := if s then 9223372036854775808 + r else r
theorem W_eq (s : Bool) (r : Nat) : double.word s r = W s r := rfl
theorem W_false (r : Nat) : W false r = r := rfl

theorem read_parts (s : Bool) (r : Nat) (h : r < 9223372036854775808) : W s r / double.signWeight % 2 = (if s then 1 else 0) ∧ W s r % double.signWeight = r := by
  rw [signW]; cases s <;> simp [W] <;> omega

theorem read_fin (s : Bool) (r : Nat) (h : r < INF) : ∃ m p, double.read (W s r) = .number s m p ∧ -1074 ≤ p ∧ V r = m * 2 ^ (p + 1074).toNat := by
  obtain ⟨a, b⟩ := read_parts s r (by unfold INF at h; omega)
  unfold Format.read
  rw [a, b, binade, infRung, lp]
  have hs : ((if s then (1 : Nat) else 0) == 1) = s := by cases s <;> rfl
  simp only [hs]
  by_cases h1 : r < B52
  · rw [if_pos h1]
    exact ⟨_, _, rfl, by omega, by simp [V, h1]⟩
  · rw [if_neg h1, if_pos h]
    refine ⟨_, _, rfl, by omega, ?_⟩
    unfold V
    rw [if_neg h1]
    congr 2
    omega

theorem read_inf (s : Bool) : double.read (W s INF) = .infinity s := by cases s <;> decide

theorem read_nan (s : Bool) (r : Nat) (h : INF < r) (h2 : r < 9223372036854775808) : ∃ t, double.read (W s r) = .nan s t := by
  obtain ⟨a, b⟩ := read_parts s r h2
  unfold Format.read
  rw [a, b, binade, infRung]
  have hs : ((if s then (1 : Nat) else 0) == 1) = s := by cases s <;> rfl
  simp only [hs]
  rw [if_neg (by unfold INF B52 at *; omega), if_neg (by omega), if_neg (by omega)]
  exact ⟨_, rfl⟩

theorem word_form (x : Nat) (h : x < 18446744073709551616) : ∃ s r, x = W s r ∧ r < 9223372036854775808 := by
  by_cases c : x < 9223372036854775808
  · exact ⟨false, x, rfl, c⟩
  · exact ⟨true, x - 9223372036854775808, by simp [W]; omega, by omega⟩

theorem num_den {m : Nat} {p : Int} (h : -1074 ≤ p) : den p = 1 ∧ num m p = m * 2 ^ (p + 1074).toNat := by
  refine ⟨?_, rfl⟩
  unfold den
  rw [show (-1074 - p).toNat = 0 by omega]

theorem shift_scale {m : Nat} {i base : Int} (h1 : base ≤ i) (h2 : -1074 ≤ base) : (m <<< (i - base).toNat) * 2 ^ (base + 1074).toNat = m * 2 ^ (i + 1074).toNat := by
  rw [Nat.shiftLeft_eq, Nat.mul_assoc, ← Nat.pow_add]
  congr 2; omega

/-! ### The operations -/
theorem add_fin (rx ry : Nat) (hx : rx < INF) (hy : ry < INF) : ∃ r, double.add (W false rx) (W false ry) = some (W false r) ∧ IsRnd (V rx + V ry) 1 r := by
  obtain ⟨m, i, e1, p1, v1⟩ := read_fin false rx hx
  obtain ⟨n, j, e2, p2, v2⟩ := read_fin false ry hy
  unfold Format.add
  rw [e1, e2]
  have ha := shift_scale (m := m) (i := i) (base := min i j) (by omega) (by omega)
  have hb := shift_scale (m := n) (i := j) (base := min i j) (by omega) (by omega)
  rw [← v1] at ha; rw [← v2] at hb
  simp only [Datum.sum, signed, Bool.false_eq_true, if_false, Option.map_some, Format.write]
  generalize m <<< (i - min i j).toNat = a at *
  generalize n <<< (j - min i j).toNat = b at *
  have hneg : (if (a : Int) + (b : Int) = 0 then false && false else decide ((a : Int) + (b : Int) < 0)) = false := by
    split
    · rfl
    · simp; omega
  have habs : ((a : Int) + (b : Int)).natAbs = a + b := by omega
  rw [hneg, habs]
  obtain ⟨r, h1, h2⟩ := nearest_rnd false (a + b) (min i j)
  refine ⟨r, by rw [h1]; rfl, ?_⟩
  obtain ⟨d1, d2⟩ := num_den (m := a + b) (p := min i j) (by omega)
  rw [d1, d2, Nat.add_mul, ha, hb] at h2
  exact h2

theorem sub_fin (rx ry : Nat) (hx : rx < INF) (hy : ry ≤ rx) : ∃ r, double.sub (W false rx) (W false ry) = some (W false r) ∧ IsRnd (V rx - V ry) 1 r := by
  obtain ⟨m, i, e1, p1, v1⟩ := read_fin false rx hx
  obtain ⟨n, j, e2, p2, v2⟩ := read_fin false ry (by omega)
  unfold Format.sub
  rw [e1, e2]
  have ha := shift_scale (m := m) (i := i) (base := min i j) (by omega) (by omega)
  have hb := shift_scale (m := n) (i := j) (base := min i j) (by omega) (by omega)
  rw [← v1] at ha; rw [← v2] at hb
  have hv : V ry ≤ V rx := V_le hy
  simp only [Datum.sum, Datum.opposite, signed, Bool.false_eq_true, if_false, Bool.not_false, if_true, Option.map_some, Format.write]
  generalize m <<< (i - min i j).toNat = a at *
  generalize n <<< (j - min i j).toNat = b at *
  have hab : b ≤ a := by
    rw [← ha, ← hb] at hv
    exact Nat.le_of_mul_le_mul_right hv (Nat.two_pow_pos _)
  have hneg : (if (a : Int) + -(b : Int) = 0 then false && true else decide ((a : Int) + -(b : Int) < 0)) = false := by
    split
    · rfl
    · simp; omega
  have habs : ((a : Int) + -(b : Int)).natAbs = a - b := by omega
  rw [hneg, habs]
  obtain ⟨r, h1, h2⟩ := nearest_rnd false (a - b) (min i j)
  refine ⟨r, by rw [h1]; rfl, ?_⟩
  obtain ⟨d1, d2⟩ := num_den (m := a - b) (p := min i j) (by omega)
  rw [d1, d2, Nat.sub_mul, ha, hb] at h2
  exact h2

def ex : Nat := 1074
/-- How many units of the least subnormal one is. -/
def UN : Nat := 2 ^ ex
theorem UN_pos : 0 < UN := Nat.two_pow_pos _
theorem two1074 (p : Int) : 2 ^ (p + 1074).toNat * UN = 2 ^ (p + 2148).toNat * den p ∨ p < -2148 := by
  by_cases h : p < -2148
  · exact .inr h
  · refine .inl ?_
    unfold den UN
    rw [← Nat.pow_add, ← Nat.pow_add]; congr 1; unfold ex; omega

theorem mul_fin (s t : Bool) (rx ry : Nat) (hx : rx < INF) (hy : ry < INF) : ∃ r, double.mul (W s rx) (W t ry) = some (W (s ^^ t) r) ∧ IsRnd (V rx * V ry) UN r := by
  obtain ⟨m, i, e1, p1, v1⟩ := read_fin s rx hx
  obtain ⟨n, j, e2, p2, v2⟩ := read_fin t ry hy
  unfold Format.mul
  rw [e1, e2]
  simp only [Datum.product, Option.map_some, Format.write]
  obtain ⟨r, h1, h2⟩ := nearest_rnd (s ^^ t) (m * n) (i + j)
  refine ⟨r, by rw [h1]; rfl, ?_⟩
  refine h2.congr (den_pos _) UN_pos ?_
  rcases two1074 (i + j) with h | h
  · unfold num
    rw [Nat.mul_assoc, h, v1, v2]
    have e : 2 ^ (i + j + 2148).toNat = 2 ^ (i + 1074).toNat * 2 ^ (j + 1074).toNat := by
      rw [← Nat.pow_add]
      have : (i + j + 2148).toNat = (i + 1074).toNat + (j + 1074).toNat := by omega
      rw [this]
    rw [e]
    simp only [Nat.mul_assoc, Nat.mul_left_comm]
  · omega

theorem div_fin (s t : Bool) (rx ry : Nat) (hx : rx < INF) (hy : ry < INF) (h0 : 0 < ry) : ∃ r, double.div (W s rx) (W t ry) = some (W (s ^^ t) r) ∧ IsRnd (V rx * UN) (V ry) r := by
  obtain ⟨m, i, e1, p1, v1⟩ := read_fin s rx hx
  obtain ⟨n, j, e2, p2, v2⟩ := read_fin t ry hy
  have hvy : 0 < V ry := by have := V_lt h0; rw [V_zero] at this; exact this
  have hn : n ≠ 0 := by rintro rfl; rw [v2] at hvy; simp at hvy
  unfold Format.div
  rw [e1, e2]
  have hfb : double.fractionBits + 2 = 54 := rfl
  simp only [Datum.quotient, hn, if_false, Option.map_some, Format.write, hfb, Nat.shiftLeft_eq]
  by_cases hm : m = 0
  · subst hm
    refine ⟨0, ?_, ?_⟩
    · simp [Format.nearest, W_eq]
    · rw [v1]; simp only [Nat.zero_mul]; exact rnd_zero hvy
  · generalize hmore : 54 + n.log2 - m.log2 = more
    have hbig : 4 * B52 ≤ 2 * (m * 2 ^ more / n) := by
      have a1 : 2 ^ m.log2 ≤ m := Nat.log2_self_le hm
      have a2 : n < 2 ^ (n.log2 + 1) := Nat.lt_log2_self
      have a3 : 2 ^ (n.log2 + 54) ≤ m * 2 ^ more := by
        refine Nat.le_trans ?_ (Nat.mul_le_mul_right _ a1)
        rw [← Nat.pow_add]
        exact Nat.pow_le_pow_right (by omega) (by omega)
      have a4 : 2 * B52 ≤ m * 2 ^ more / n := by
        rw [Nat.le_div_iff_mul_le (by omega)]
        have h3 : (2 : Nat) * B52 = 2 ^ 53 := by decide
        rw [h3]
        refine Nat.le_trans (Nat.mul_le_mul_left _ (Nat.le_of_lt a2)) ?_
        rw [← Nat.pow_add]
        exact Nat.le_trans (Nat.pow_le_pow_right (by omega) (by omega)) a3
      omega
    have hsb : ((m * 2 ^ more % n != 0).toNat) = if m * 2 ^ more % n = 0 then 0 else 1 := by
      by_cases c : m * 2 ^ more % n = 0 <;> simp [c]
    generalize hpl : (i - j - (more : Int) - 1 : Int) = pl
    have hne : 2 * (m * 2 ^ more / n) + (m * 2 ^ more % n != 0).toNat ≠ 0 := by unfold B52 at hbig; omega
    obtain ⟨E, k, h1, h2, h3⟩ := nearest_core (s ^^ t) _ pl hne
    obtain ⟨H, _, hH⟩ := h3 (by omega)
    have hc := core_quot (Nat.pos_of_ne_zero hn) rfl hsb hH (Nat.two_pow_pos _) h2
    refine ⟨_, by rw [h1]; rfl, ?_⟩
    refine (hc.rnd (Nat.mul_pos (Nat.pos_of_ne_zero hn) (den_pos pl))).congr (Nat.mul_pos (Nat.pos_of_ne_zero hn) (den_pos pl)) hvy ?_
    rw [v1, v2]
    have key : 2 * 2 ^ more * 2 ^ (pl + 1074).toNat * 2 ^ (j + 1074).toNat = 2 ^ (i + 1074).toNat * UN * 2 ^ (-1074 - pl).toNat := by
      have h2 : (2 : Nat) = 2 ^ 1 := rfl
      conv => lhs; rw [h2]
      unfold UN
      simp only [← Nat.pow_add]
      congr 1; unfold ex; omega
    have e1 : 2 * (m * 2 ^ more) * 2 ^ (pl + 1074).toNat * (n * 2 ^ (j + 1074).toNat) = m * n * (2 * 2 ^ more * 2 ^ (pl + 1074).toNat * 2 ^ (j + 1074).toNat) := by
      simp only [Nat.mul_assoc, Nat.mul_left_comm]
    rw [e1, key]
    simp only [Nat.mul_assoc, Nat.mul_left_comm]

theorem ofInt_rnd (n : Int) : ∃ r, floatOfInt .f64 n = W (decide (n < 0)) r ∧ IsRnd (n.natAbs * UN) 1 r := by
  obtain ⟨r, h1, h2⟩ := nearest_rnd (decide (n < 0)) n.natAbs 0
  refine ⟨r, h1, ?_⟩
  obtain ⟨d1, d2⟩ := num_den (m := n.natAbs) (p := 0) (by omega)
  rw [d1, d2] at h2
  have e : (0 + 1074 : Int).toNat = ex := by unfold ex; omega
  rw [e] at h2
  exact h2

/-! ### The order -/
def sr (s : Bool) (r : Nat) : Int := if s then -(r : Int) else r

theorem cmp_congr {x y x' y' : Int} (h1 : x < y ↔ x' < y') (h2 : x = y ↔ x' = y') : compare x y = compare x' y' := by
  show compareOfLessAndEq x y = compareOfLessAndEq x' y'
  simp only [compareOfLessAndEq, h1, h2]

theorem cmp_lt {x y : Int} (h : x < y) : compare x y = .lt := by
  show compareOfLessAndEq x y = .lt
  simp [compareOfLessAndEq, h]
theorem cmp_gt {x y : Int} (h : y < x) : compare x y = .gt := by
  show compareOfLessAndEq x y = .gt
  have a : ¬ x < y := by omega
  have b : ¬ x = y := by omega
  simp [compareOfLessAndEq, a, b]
theorem cmp_eq {x y : Int} (h : x = y) : compare x y = .eq := by
  show compareOfLessAndEq x y = .eq
  subst h
  simp [compareOfLessAndEq]

theorem signed_sr (s : Bool) (m up : Nat) : signed s m up = sr s (m <<< up) := by cases s <;> rfl

theorem order_W (s t : Bool) (rx ry : Nat) (hx : rx ≤ INF) (hy : ry ≤ INF) : double.order (W s rx) (W t ry) = some (compare (sr s rx) (sr t ry)) := by
  unfold Format.order
  by_cases cx : rx = INF
  · subst cx
    by_cases cy : ry = INF
    · subst cy
      rw [read_inf, read_inf]
      cases s <;> cases t <;> rfl
    · obtain ⟨n, j, e2, p2, v2⟩ := read_fin t ry (by omega)
      rw [read_inf, e2]
      simp only [Datum.order]
      cases s
      · rw [cmp_gt (by cases t <;> simp [sr] <;> omega)]; rfl
      · rw [cmp_lt (by cases t <;> simp [sr] <;> omega)]; rfl
  · obtain ⟨m, i, e1, p1, v1⟩ := read_fin s rx (by omega)
    by_cases cy : ry = INF
    · subst cy
      rw [read_inf, e1]
      simp only [Datum.order]
      cases t
      · rw [cmp_lt (by cases s <;> simp [sr] <;> omega)]; rfl
      · rw [cmp_gt (by cases s <;> simp [sr] <;> omega)]; rfl
    · obtain ⟨n, j, e2, p2, v2⟩ := read_fin t ry (by omega)
      rw [e1, e2]
      simp only [Datum.order, signed_sr]
      have ha := shift_scale (m := m) (i := i) (base := min i j) (by omega) (by omega)
      have hb := shift_scale (m := n) (i := j) (base := min i j) (by omega) (by omega)
      rw [← v1] at ha; rw [← v2] at hb
      generalize m <<< (i - min i j).toNat = a at *
      generalize n <<< (j - min i j).toNat = b at *
      have hP : 0 < 2 ^ (min i j + 1074).toNat := Nat.two_pow_pos _
      generalize 2 ^ (min i j + 1074).toNat = P at *
      have k1 : a < b ↔ rx < ry := by
        constructor
        · intro h
          have : a * P < b * P := Nat.mul_lt_mul_of_pos_right h hP
          rcases Nat.lt_or_ge rx ry with c | c
          · exact c
          · have := V_le c; omega
        · intro h
          have : V rx < V ry := V_lt h
          rw [← ha, ← hb] at this
          exact Nat.lt_of_mul_lt_mul_right this
      have k2 : a = b ↔ rx = ry := by
        constructor
        · intro h; subst h; exact V_inj (by omega)
        · intro h; subst h; rw [← hb] at ha; exact Nat.eq_of_mul_eq_mul_right hP ha
      have z1 : a = 0 ↔ rx = 0 := by
        constructor
        · intro h; subst h
          refine V_inj ?_
          rw [← ha, V_zero]; simp
        · intro h; subst h; rw [V_zero] at ha
          exact (Nat.mul_eq_zero.1 ha).resolve_right (by omega)
      have z2 : b = 0 ↔ ry = 0 := by
        constructor
        · intro h; subst h
          refine V_inj ?_
          rw [← hb, V_zero]; simp
        · intro h; subst h; rw [V_zero] at hb
          exact (Nat.mul_eq_zero.1 hb).resolve_right (by omega)
      congr 1
      refine cmp_congr ?_ ?_ <;> cases s <;> cases t <;> simp only [sr, if_true, if_false, Bool.false_eq_true] <;> omega

theorem order_nan_left (s : Bool) (r : Nat) (y : Nat) (h : INF < r) (h2 : r < 9223372036854775808) : double.order (W s r) y = none := by
  obtain ⟨t, e⟩ := read_nan s r h h2
  unfold Format.order
  rw [e]; rfl
theorem order_nan_right (s : Bool) (r : Nat) (x : Nat) (h : INF < r) (h2 : r < 9223372036854775808) : double.order x (W s r) = none := by
  obtain ⟨t, e⟩ := read_nan s r h h2
  unfold Format.order
  rw [e]; cases double.read x <;> rfl

/-- Whether a word is no number. -/
def isNan (x : Nat) : Bool := decide (INF < x % 9223372036854775808)
theorem W_mod (s : Bool) (r : Nat) (h : r < 9223372036854775808) : W s r % 9223372036854775808 = r := by cases s <;> simp [W] <;> omega
theorem nan_order (x : Nat) (h : x < 18446744073709551616) : (double.order x x != some .eq) = isNan x := by
  obtain ⟨s, r, rfl, hr⟩ := word_form x h
  unfold isNan
  rw [W_mod s r hr]
  by_cases c : INF < r
  · rw [order_nan_left s r _ c hr]; simp [c]
  · rw [order_W s s r r (by omega) (by omega), cmp_eq rfl]; simp [c]
end Go.Proofs.Ytknahgdeagcghaa.Fl
