/- Grade of whole numbers in range: finite; how it rises and falls; a walk's contract of it. -/
import Derived.Test.YtknahgdeagcghaaK
namespace Go.Proofs.Ytknahgdeagcghaa
open Go.RowKit Fl

theorem exact_nat (n : Nat) (h : n < 9007199254740992) : ∃ r, r < INF ∧ V r = n * UN ∧ r ≤ 4845873199050653696 := by
  by_cases h0 : n = 0
  · subst h0; exact ⟨0, by decide, by rw [V_zero]; simp, by omega⟩
  · have l1 : 2 ^ n.log2 ≤ n := Nat.log2_self_le h0
    have l2 : n < 2 ^ (n.log2 + 1) := Nat.lt_log2_self
    have l3 : n.log2 ≤ 52 := by
      rcases Nat.lt_or_ge 52 n.log2 with c | c
      · have : 2 ^ 53 ≤ 2 ^ n.log2 := Nat.pow_le_pow_right (by omega) (by omega)
        omega
      · exact c
    generalize n.log2 = lg at *
    have k1 : B52 ≤ n * 2 ^ (52 - lg) := by
      have : 2 ^ lg * 2 ^ (52 - lg) ≤ n * 2 ^ (52 - lg) := Nat.mul_le_mul_right _ l1
      rw [← Nat.pow_add] at this
      have e : lg + (52 - lg) = 52 := by omega
      rw [e] at this
      have : (2 : Nat) ^ 52 = B52 := by decide
      omega
    have k2 : n * 2 ^ (52 - lg) < 2 * B52 := by
      have : n * 2 ^ (52 - lg) < 2 ^ (lg + 1) * 2 ^ (52 - lg) := Nat.mul_lt_mul_of_pos_right l2 (Nat.two_pow_pos _)
      rw [← Nat.pow_add] at this
      have e : lg + 1 + (52 - lg) = 53 := by omega
      rw [e] at this
      have : (2 : Nat) ^ 53 = 2 * B52 := by decide
      omega
    refine ⟨(1022 + lg) * B52 + n * 2 ^ (52 - lg), ?_, ?_, ?_⟩
    · unfold INF B52 at *; omega
    · rw [V_of _ _ (by omega) (fun _ => k1)]
      unfold UN ex
      rw [Nat.mul_assoc, ← Nat.pow_add]
      have e : 52 - lg + (1022 + lg) = 1074 := by omega
      rw [e]
    · unfold B52 at *; omega

theorem ofNat_exact (n : Nat) (h : n < 9007199254740992) : ∃ r, floatOfInt .f64 (n : Int) = r ∧ r < INF ∧ V r = n * UN ∧ r ≤ 4845873199050653696 := by
  obtain ⟨r, h1, h2⟩ := ofInt_rnd (n : Int)
  obtain ⟨q, h3, h4, h5⟩ := exact_nat n h
  have e := IsRnd.exact (D := 1) (Nat.le_of_lt h3) (by omega)
  have hr : r = q := h2.unique e (by omega) (by omega) (by rw [h4]; simp)
  subst hr
  have hn : decide ((n : Int) < 0) = false := by simp
  rw [hn] at h1
  exact ⟨r, h1, h3, h4, h5⟩

theorem V_one : V one64 = UN := by
  obtain ⟨E, hE⟩ : ∃ E : Nat, E = 1022 := ⟨_, rfl⟩
  have h : one64 = E * B52 + B52 := by subst hE; decide
  rw [h, V_of _ _ (by unfold B52; omega) (fun _ => Nat.le_refl _)]
  have : B52 = 2 ^ 52 := by decide
  rw [this, ← Nat.pow_add]
  have e : 52 + E = ex := by unfold ex; omega
  rw [e]; rfl

/-- What the five steps are, of whole numbers in range. -/
structure GradeIs (l s a g : Nat) : Prop where
  ok : gradeO l s a = some g
  steps : ∃ u rest worth cost : Nat, u ≤ one64 ∧ rest ≤ one64 ∧ IsRnd (l * UN * UN) (s * UN) u ∧ IsRnd (UN - V u) 1 rest ∧ IsRnd (V rest * (a * UN)) UN worth ∧ IsRnd (UN + V u) 1 cost ∧ IsRnd (V worth * UN) (V cost) g ∧ 0 < V cost
  most : V g ≤ a * UN

theorem two_UN : ∃ r, r < INF ∧ V r = 2 * UN ∧ r ≤ 4845873199050653696 := exact_nat 2 (by omega)

theorem rnd_le {N D r q : Nat} (h : IsRnd N D r) (hd : 0 < D) (hq : q ≤ INF) (hle : N ≤ V q * D) : r ≤ q :=
  h.mono (IsRnd.exact (D := 1) hq (by omega)) hd (by omega) (by simpa using hle)
theorem rnd_ge {N D r q : Nat} (h : IsRnd N D r) (hd : 0 < D) (hq : q ≤ INF) (hle : V q * D ≤ N) : q ≤ r :=
  (IsRnd.exact (D := 1) hq (by omega)).mono h (by omega) hd (by simpa using hle)

theorem grade_is (l s a : Nat) (hls : l ≤ s) (hs : 0 < s) (hs2 : s < 9007199254740992) (ha : a < 9007199254740992) : ∃ g, GradeIs l s a g := by
  have hU := UN_pos
  obtain ⟨L, eL, iL, vL, _⟩ := ofNat_exact l (by omega)
  obtain ⟨S, eS, iS, vS, _⟩ := ofNat_exact s hs2
  obtain ⟨A, eA, iA, vA, _⟩ := ofNat_exact a ha
  have hS0 : 0 < S := by
    rcases Nat.eq_zero_or_pos S with h | h
    · subst h; rw [V_zero] at vS
      have := Nat.mul_pos hs hU; omega
    · exact h
  have h1I : one64 < INF := by decide
  obtain ⟨u, e1, r1⟩ := div_fin false false L S iL iS hS0
  rw [vL, vS] at r1
  have hsU : 0 < s * UN := Nat.mul_pos hs hU
  have u1 : u ≤ one64 := rnd_le r1 hsU (Nat.le_of_lt h1I) (by rw [V_one, Nat.mul_comm UN]; exact Nat.mul_le_mul_right _ (Nat.mul_le_mul_right _ hls))
  obtain ⟨rest, e2, r2⟩ := sub_fin one64 u h1I u1
  rw [V_one] at r2
  have u2 : rest ≤ one64 := rnd_le r2 (by omega) (Nat.le_of_lt h1I) (by rw [V_one]; omega)
  obtain ⟨worth, e3, r3⟩ := mul_fin false false rest A (by omega) iA
  rw [vA] at r3
  have vr : V rest ≤ UN := by have := V_le u2; rw [V_one] at this; exact this
  have u3 : worth ≤ A := rnd_le r3 hU (Nat.le_of_lt iA) (by rw [vA, Nat.mul_comm (a * UN)]; exact Nat.mul_le_mul_right _ vr)
  obtain ⟨cost, e4, r4⟩ := add_fin one64 u h1I (by omega)
  rw [V_one] at r4
  have u4 : one64 ≤ cost := rnd_ge r4 (by omega) (Nat.le_of_lt h1I) (by rw [V_one]; omega)
  have vu : V u ≤ UN := by have := V_le u1; rw [V_one] at this; exact this
  obtain ⟨T, iT, vT, _⟩ := two_UN
  have u5 : cost ≤ T := rnd_le r4 (by omega) (Nat.le_of_lt iT) (by rw [vT]; omega)
  have vc : UN ≤ V cost := by have := V_le u4; rw [V_one] at this; exact this
  have hc0 : 0 < cost := by unfold one64 at u4; omega
  obtain ⟨g, e5, r5⟩ := div_fin false false worth cost (by omega) (by omega) hc0
  have u6 : g ≤ worth := rnd_le r5 (by omega) (by omega) (Nat.mul_le_mul_left _ vc)
  refine ⟨g, ⟨?_, ⟨u, rest, worth, cost, u1, u2, r1, r2, r3, r4, r5, by omega⟩, ?_⟩⟩
  · have f1 : floatBits .quo .f64 (floatOfInt .f64 (l : Int)) (floatOfInt .f64 (s : Int)) = some u := by rw [eL, eS]; exact e1
    have f2 : floatBits .sub .f64 one64 u = some rest := e2
    have f3 : floatBits .mul .f64 rest (floatOfInt .f64 (a : Int)) = some worth := by rw [eA]; exact e3
    have f4 : floatBits .add .f64 one64 u = some cost := e4
    have f5 : floatBits .quo .f64 worth cost = some g := e5
    simp only [gradeO, f1, f2, f3, f4, f5]
  · have := V_le (Nat.le_trans u6 u3); rwa [vA] at this

theorem GradeIs.le {l1 l2 s a1 a2 g1 g2 : Nat} (h1 : GradeIs l1 s a1 g1) (h2 : GradeIs l2 s a2 g2) (hs : 0 < s) (hl : l1 ≤ l2) (ha : a2 ≤ a1) : g2 ≤ g1 := by
  have hU := UN_pos
  obtain ⟨u1, rest1, worth1, cost1, _, _, a1', b1, c1, d1, f1, p1⟩ := h1.steps
  obtain ⟨u2, rest2, worth2, cost2, _, _, a2', b2, c2, d2, f2, p2⟩ := h2.steps
  have hsU : 0 < s * UN := Nat.mul_pos hs hU
  have k1 : u1 ≤ u2 := a1'.mono a2' hsU hsU (Nat.mul_le_mul_right _ (Nat.mul_le_mul_right _ (Nat.mul_le_mul_right _ hl)))
  have v1 := V_le k1
  have k2 : rest2 ≤ rest1 := b2.mono b1 (by omega) (by omega) (by omega)
  have v2 := V_le k2
  have k3 : worth2 ≤ worth1 := c2.mono c1 hU hU (Nat.mul_le_mul_right _ (Nat.mul_le_mul v2 (Nat.mul_le_mul_right _ ha)))
  have v3 := V_le k3
  have k4 : cost1 ≤ cost2 := d1.mono d2 (by omega) (by omega) (by omega)
  have v4 := V_le k4
  exact f2.mono f1 p2 p1 (Nat.mul_le_mul (Nat.mul_le_mul_right _ v3) v4)

theorem GradeIs.none_left {s a g : Nat} (h : GradeIs s s a g) (hs : 0 < s) : g = 0 := by
  have hU := UN_pos
  obtain ⟨u, rest, worth, cost, hu, _, a1, b1, c1, d1, f1, p1⟩ := h.steps
  have hsU : 0 < s * UN := Nat.mul_pos hs hU
  have k1 : one64 ≤ u := rnd_ge a1 hsU (by decide) (by rw [V_one, Nat.mul_comm UN]; exact Nat.le_refl _)
  have k2 : u = one64 := by omega
  subst k2
  rw [V_one] at b1
  have k3 : rest ≤ 0 := rnd_le b1 (by omega) (by omega) (by omega)
  have k4 : rest = 0 := by omega
  subst k4
  rw [V_zero] at c1
  have k5 : worth ≤ 0 := rnd_le c1 hU (by omega) (by simp)
  have k6 : worth = 0 := by omega
  subst k6
  rw [V_zero] at f1
  have k7 : g ≤ 0 := rnd_le f1 p1 (by omega) (by simp)
  omega

def gP (l s a : Int) : Nat := (gradeO l s a).getD 0
theorem gP_is (l s a : Int) (hl : 0 ≤ l) (hls : l ≤ s) (hs : 0 < s) (hs2 : s < 9007199254740992) (ha0 : 0 ≤ a) (ha : a < 9007199254740992) : GradeIs l.toNat s.toNat a.toNat (gP l s a) := by
  obtain ⟨L, rfl⟩ := Int.eq_ofNat_of_zero_le hl
  obtain ⟨S, rfl⟩ := Int.eq_ofNat_of_zero_le (by omega : 0 ≤ s)
  obtain ⟨A, rfl⟩ := Int.eq_ofNat_of_zero_le ha0
  obtain ⟨g, h⟩ := grade_is L S A (by omega) (by omega) (by omega) (by omega)
  have e : gP L S A = g := by unfold gP; rw [h.ok]; rfl
  rw [e]; simpa using h

theorem gP_fin (l s a : Int) (hl : 0 ≤ l) (hls : l ≤ s) (hs : 0 < s) (hs2 : s < 9007199254740992) (ha0 : 0 ≤ a) (ha : a < 9007199254740992) : gP l s a ≤ 4845873199050653696 := by
  have h := (gP_is l s a hl hls hs hs2 ha0 ha).most
  obtain ⟨A, _, vA, hA⟩ := exact_nat a.toNat (by omega)
  rw [← vA] at h
  rcases Nat.lt_or_ge A (gP l s a) with c | c
  · have := V_lt c; omega
  · omega

theorem gP_lt (l s a : Int) : gP l s a < 18446744073709551616 := by
  unfold gP
  cases h : gradeO l s a with
  | none => simp
  | some g =>
    unfold gradeO at h
    repeat' split at h
    all_goals first
      | cases h
      | (have := floatBits_wf h; simpa [Lit.wf] using this)

theorem grade_num (l s a : Int) (w : World) (hl : 0 ≤ l) (hls : l ≤ s) (hs : 0 < s) (hs2 : s < 9007199254740992) (ha0 : 0 ≤ a) (ha : a < 9007199254740992) :
    Calls Try.prog 14 #[.int .i64 l, .int .i64 s, .int .i64 a] w fun e w' => e = .returned (.float .f64 (gP l s a)) ∧ w = w' := by
  have h := gP_is l s a hl hls hs hs2 ha0 ha
  refine (grade_any l s a w).mono ?_
  rintro e w' ⟨rfl, rfl⟩
  have hk := h.ok
  rw [Int.toNat_of_nonneg hl, Int.toNat_of_nonneg (by omega : 0 ≤ s), Int.toNat_of_nonneg ha0] at hk
  rw [gradeRun_some hk]
  exact ⟨rfl, rfl⟩

/-- Numbers that are not negative, compared. -/
theorem cmpF_fin (a b : Nat) (ha : a ≤ 4845873199050653696) (hb : b ≤ 4845873199050653696) : cmpF a b = if a < b then -1 else if a = b then 0 else 1 := by
  rw [cmpF_key a b (by omega) (by omega)]
  have k : ∀ x : Nat, x ≤ 4845873199050653696 → key x = x := by
    intro x hx
    have n : isNan x = false := by unfold isNan INF; simp; omega
    have g : sgnB x = false := by unfold sgnB; simp; omega
    unfold key
    rw [n, g]; simp; omega
  rw [k a ha, k b hb]
  by_cases c1 : a < b
  · rw [if_pos (by omega), if_pos c1]
  · rw [if_neg (by omega), if_neg c1]
    by_cases c2 : a = b
    · rw [if_pos (by omega), if_pos c2]
    · rw [if_neg (by omega), if_neg c2]
theorem order_fin (a b : Nat) (ha : a ≤ 4845873199050653696) (hb : b ≤ 4845873199050653696) : FloatKind.f64.format.order a b = some (compare (a : Int) (b : Int)) :=
  order_W false false a b (by unfold INF; omega) (by unfold INF; omega)
end Go.Proofs.Ytknahgdeagcghaa
