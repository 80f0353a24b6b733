/- Plain facts on the format 'double': what 'nearest' gives; the four operations; the order. No program in sight. -/
import Derived.Test.YtknahgdeagcghaaF
namespace Go.Proofs.Ytknahgdeagcghaa.Fl
open Ieee

theorem lp : double.leastPlace = -1074 := by decide
theorem binade : double.binade = B52 := by decide
theorem infRung : double.infRung = INF := by decide
theorem signW : double.signWeight = 9223372036854775808 := by decide

theorem cut_zero (neg : Bool) (n : Nat) : Toward.even.cut neg n 0 = n := by
  simp [Toward.cut, Nat.mod_one]

/-- A cut to the nearest, ties to the even one. -/
theorem cut_facts (neg : Bool) (n d : Nat) :
    2 * Toward.even.cut neg n d * 2 ^ d ≤ 2 * n + 2 ^ d ∧ 2 * n ≤ (2 * Toward.even.cut neg n d + 1) * 2 ^ d ∧
    (2 * n = (2 * Toward.even.cut neg n d + 1) * 2 ^ d → Toward.even.cut neg n d % 2 = 0) ∧
    (2 * Toward.even.cut neg n d * 2 ^ d = 2 * n + 2 ^ d → Toward.even.cut neg n d % 2 = 0) ∧ Toward.even.cut neg n d ≤ n / 2 ^ d + 1 := by
  unfold Toward.cut
  simp only [Nat.shiftLeft_eq, Nat.one_mul]
  by_cases h : d ≤ n.log2 + 2
  · rw [Nat.min_eq_left h]
    have hdm := Nat.div_add_mod n (2 ^ d)
    have hml : n % 2 ^ d < 2 ^ d := Nat.mod_lt _ (Nat.two_pow_pos d)
    rw [Nat.mul_comm] at hdm
    generalize n % 2 ^ d = rest at *
    generalize n / 2 ^ d = low at *
    generalize 2 ^ d = G at *
    have e0 : 2 * low * G = 2 * (low * G) := Nat.mul_assoc ..
    have e1 : (2 * low + 1) * G = 2 * (low * G) + G := by rw [Nat.add_mul, Nat.one_mul, e0]
    have e2 : 2 * (low + 1) * G = 2 * (low * G) + 2 * G := by rw [Nat.mul_assoc, Nat.add_mul, Nat.one_mul, Nat.mul_add]
    have e3 : (2 * (low + 1) + 1) * G = 2 * (low * G) + 3 * G := by rw [Nat.add_mul, e2, Nat.one_mul]; omega
    by_cases c1 : G < 2 * rest
    · simp only [c1, decide_true, Bool.true_or, Bool.toNat_true, e2, e3]
      refine ⟨by omega, by omega, by omega, by omega, by omega⟩
    · by_cases c2 : G = 2 * rest
      · by_cases c3 : low % 2 = 1
        · have : (decide (G < 2 * rest) || G == 2 * rest && low % 2 == 1) = true := by simp [c2, c3]
          simp only [this, Bool.toNat_true, e2, e3]
          refine ⟨by omega, by omega, by omega, by omega, by omega⟩
        · have : (decide (G < 2 * rest) || G == 2 * rest && low % 2 == 1) = false := by simp [c2]; omega
          simp only [this, Bool.toNat_false, Nat.add_zero, e0, e1]
          refine ⟨by omega, by omega, by omega, by omega, by omega⟩
      · have : (decide (G < 2 * rest) || G == 2 * rest && low % 2 == 1) = false := by simp [c1, c2]
        simp only [this, Bool.toNat_false, Nat.add_zero, e0, e1]
        refine ⟨by omega, by omega, by omega, by omega, by omega⟩
  · rw [Nat.min_eq_right (by omega)]
    have hl : n < 2 ^ (n.log2 + 1) := Nat.lt_log2_self
    have hp : 2 ^ (n.log2 + 2) = 2 * 2 ^ (n.log2 + 1) := by rw [Nat.pow_succ, Nat.mul_comm]
    have hq : 2 ^ (n.log2 + 2) ≤ 2 ^ d := Nat.pow_le_pow_right (by omega) (by omega)
    generalize 2 ^ (n.log2 + 2) = G at *
    generalize 2 ^ (n.log2 + 1) = G1 at *
    generalize 2 ^ d = D at *
    have a : n / G = 0 := Nat.div_eq_of_lt (by omega)
    have b : n % G = n := Nat.mod_eq_of_lt (by omega)
    have : (decide (G < 2 * n) || G == 2 * n && 0 % 2 == 1) = false := by simp; omega
    rw [a, b, this]
    simp
    omega

/-- 'nearest', as a core: A / B is the exact number in units of the least subnormal. -/
theorem nearest_core (neg : Bool) (mag : Nat) (place : Int) (hm : mag ≠ 0) :
    ∃ E k, double.nearest neg mag place = double.word neg (min (E * B52 + k) INF) ∧
      Core (mag * 2 ^ (place + 1074).toNat) (2 ^ (-1074 - place).toNat) E k ∧
      (4 * B52 ≤ mag → ∃ H, 0 < H ∧ 2 ^ E * 2 ^ (-1074 - place).toNat = 4 * H * 2 ^ (place + 1074).toNat) := by
  unfold Format.nearest
  rw [if_neg hm]
  have hfb : double.fractionBits = 52 := rfl
  rw [lp, binade, infRung, hfb]
  have hl1 : 2 ^ mag.log2 ≤ mag := Nat.log2_self_le hm
  have hl2 : mag < 2 ^ (mag.log2 + 1) := Nat.lt_log2_self
  generalize mag.log2 = lg at *
  dsimp only
  by_cases hge : max (place + (lg : Int) - (52 : Nat)) (-1074) ≤ place
  · -- exact: the number is shifted left
    generalize hlast : max (place + (lg : Int) - (52 : Nat)) (-1074) = last at *
    obtain ⟨s, hs⟩ : ∃ s : Nat, place = last + s := ⟨(place - last).toNat, by omega⟩
    obtain ⟨E, hE⟩ : ∃ E : Nat, last = -1074 + E := ⟨(last + 1074).toNat, by omega⟩
    have e1 : (place - last).toNat = s := by omega
    have e2 : (last - place).toNat = 0 := by omega
    have e3 : (last - -1074).toNat = E := by omega
    have e4 : (place + 1074).toNat = s + E := by omega
    have e5 : (-1074 - place).toNat = 0 := by omega
    rw [e1, e2, e3, e4, e5, cut_zero, Nat.shiftLeft_eq]
    refine ⟨E, mag * 2 ^ s, rfl, ?_, ?_⟩
    · have hls : lg + s ≤ 52 := by omega
      have hle : mag * 2 ^ s < 2 * B52 := by
        have : mag * 2 ^ s < 2 ^ (lg + 1) * 2 ^ s := Nat.mul_lt_mul_of_pos_right hl2 (Nat.two_pow_pos s)
        rw [← Nat.pow_add] at this
        have h2 : 2 ^ (lg + 1 + s) ≤ 2 ^ 53 := Nat.pow_le_pow_right (by omega) (by omega)
        have h3 : (2 : Nat) ^ 53 = 2 * B52 := by decide
        omega
      have e : mag * 2 ^ (s + E) = mag * 2 ^ s * 2 ^ E := by rw [Nat.pow_add, Nat.mul_assoc]
      rw [e]
      rw [Nat.pow_zero]
      have hbb : 0 < E → B52 ≤ mag * 2 ^ s := by
        intro he
        have : 2 ^ lg * 2 ^ s ≤ mag * 2 ^ s := Nat.mul_le_mul_right _ hl1
        rw [← Nat.pow_add] at this
        have h1 : lg + s = 52 := by omega
        rw [h1] at this
        have h3 : (2 : Nat) ^ 52 = B52 := by decide
        omega
      have hp := Nat.two_pow_pos E
      generalize mag * 2 ^ s = k at *
      have a1 : 2 * k * 2 ^ E = 2 * (k * 2 ^ E) := Nat.mul_assoc ..
      have a2 : (2 * k + 1) * 2 ^ E = 2 * (k * 2 ^ E) + 2 ^ E := by rw [Nat.add_mul, Nat.one_mul, a1]
      refine ⟨by omega, by omega, by omega, by omega, by omega, fun he => ?_⟩
      rw [Nat.mul_one]
      exact Nat.mul_le_mul_right _ (hbb he)
    · intro hbig
      exfalso
      have h2 : 2 ^ (lg + 1) ≤ 2 ^ 53 := Nat.pow_le_pow_right (by omega) (by omega)
      have h3 : (2 : Nat) ^ 53 = 2 * B52 := by decide
      unfold B52 at *
      omega
  · -- the number is cut: 'd' digits are dropped
    generalize hlast : max (place + (lg : Int) - (52 : Nat)) (-1074) = last at *
    obtain ⟨d, hd⟩ : ∃ d : Nat, last = place + d := ⟨(last - place).toNat, by omega⟩
    obtain ⟨E, hE⟩ : ∃ E : Nat, last = -1074 + E := ⟨(last + 1074).toNat, by omega⟩
    have e1 : (place - last).toNat = 0 := by omega
    have e2 : (last - place).toNat = d := by omega
    have e3 : (last - -1074).toNat = E := by omega
    rw [e1, e2, e3, Nat.shiftLeft_zero]
    have hrel : 2 ^ E * 2 ^ (-1074 - place).toNat = 2 ^ d * 2 ^ (place + 1074).toNat := by
      rw [← Nat.pow_add, ← Nat.pow_add]; congr 1; omega
    have hP : 0 < 2 ^ (place + 1074).toNat := Nat.two_pow_pos _
    generalize 2 ^ (place + 1074).toNat = P at *
    generalize 2 ^ (-1074 - place).toNat = Q at *
    refine ⟨E, Toward.even.cut neg mag d, rfl, ?_, ?_⟩
    · obtain ⟨f1, f2, f3, f4, f5⟩ := cut_facts neg mag d
      have hk : mag / 2 ^ d < 2 * B52 := by
        have h1 : mag < 2 ^ 53 * 2 ^ d := by
          rw [← Nat.pow_add]
          exact Nat.lt_of_lt_of_le hl2 (Nat.pow_le_pow_right (by omega) (by omega))
        have h3 : (2 : Nat) ^ 53 = 2 * B52 := by decide
        rw [h3] at h1
        exact (Nat.div_lt_iff_lt_mul (Nat.two_pow_pos d)).2 h1
      generalize hk0 : Toward.even.cut neg mag d = k at *
      have g : ∀ x : Nat, x * 2 ^ E * Q = x * 2 ^ d * P := fun x => by rw [Nat.mul_assoc, hrel, Nat.mul_assoc]
      have ge : 2 ^ E * Q = 2 ^ d * P := hrel
      have m1 : 2 * (mag * P) = 2 * mag * P := (Nat.mul_assoc ..).symm
      refine ⟨?_, ?_, ?_, ?_, by omega, ?_⟩
      · rw [g, ge, m1, ← Nat.add_mul]; exact Nat.mul_le_mul_right _ f1
      · rw [g, m1]; exact Nat.mul_le_mul_right _ f2
      · rw [g, m1]; exact fun h => f3 (Nat.eq_of_mul_eq_mul_right hP h)
      · rw [g, ge, m1, ← Nat.add_mul]; exact fun h => f4 (Nat.eq_of_mul_eq_mul_right hP h)
      · intro he
        rw [g]
        refine Nat.mul_le_mul_right _ ?_
        have h1 : 52 + d = lg := by omega
        have h3 : (2 : Nat) ^ 52 = B52 := by decide
        rw [← h3, ← Nat.pow_add, h1]; exact hl1
    · intro hbig
      have h53 : 54 ≤ lg := by
        rcases Nat.lt_or_ge lg 54 with hlt | hge2
        · exfalso
          have h2 : 2 ^ (lg + 1) ≤ 2 ^ 54 := Nat.pow_le_pow_right (by omega) (by omega)
          have h3 : (2 : Nat) ^ 54 = 4 * B52 := by decide
          omega
        · exact hge2
      refine ⟨2 ^ (d - 2), Nat.two_pow_pos _, ?_⟩
      rw [hrel]
      congr 1
      have : d = 2 + (d - 2) := by omega
      rw [this, Nat.pow_add]
      have e : 2 + (d - 2) - 2 = d - 2 := by omega
      rw [e]

theorem rnd_zero {D : Nat} (hd : 0 < D) : IsRnd 0 D 0 := by
  have := IsRnd.exact (D := D) (r := 0) (by unfold INF; omega) hd
  rwa [V_zero, Nat.zero_mul] at this

/-- The exact number mag * 2 ^ place in units of the least subnormal: a numerator and a denominator. -/
def num (mag : Nat) (place : Int) : Nat := mag * 2 ^ (place + 1074).toNat
def den (place : Int) : Nat := 2 ^ (-1074 - place).toNat
theorem den_pos (place : Int) : 0 < den place := Nat.two_pow_pos _

theorem nearest_rnd (neg : Bool) (mag : Nat) (place : Int) : ∃ r, double.nearest neg mag place = double.word neg r ∧ IsRnd (num mag place) (den place) r := by
  by_cases hm : mag = 0
  · subst hm
    exact ⟨0, by simp [Format.nearest], by unfold num; rw [Nat.zero_mul]; exact rnd_zero (den_pos _)⟩
  · obtain ⟨E, k, h1, h2, _⟩ := nearest_core neg mag place hm
    exact ⟨_, h1, h2.rnd (den_pos _)⟩

/-- A quotient that bears one digit more, which tells whether anything is left over, is rounded as the exact one. -/
theorem core_quot {M n Q s P B E k H : Nat} (hn : 0 < n) (hQ : Q = M / n) (hs : s = if M % n = 0 then 0 else 1) (hE : 2 ^ E * B = 4 * H * P) (hP : 0 < P) (h : Core ((2 * Q + s) * P) B E k) :
    Core (2 * M * P) (n * B) E k := by
  have hdm := Nat.div_add_mod M n
  have hml : M % n < n := Nat.mod_lt _ hn
  -- the comparison with a number X * H of whole units
  have key : ∀ X : Nat, (2 * ((2 * Q + s) * P) ≤ X * 2 ^ E * B ↔ 2 * (2 * M * P) ≤ X * 2 ^ E * (n * B)) ∧
      (2 * ((2 * Q + s) * P) = X * 2 ^ E * B ↔ 2 * (2 * M * P) = X * 2 ^ E * (n * B)) ∧
      (X * 2 ^ E * B ≤ 2 * ((2 * Q + s) * P) ↔ X * 2 ^ E * (n * B) ≤ 2 * (2 * M * P)) := by
    intro X
    have a1 : X * 2 ^ E * B = 4 * (X * H) * P := by rw [Nat.mul_assoc, hE]; simp only [Nat.mul_assoc, Nat.mul_left_comm]
    have a2 : X * 2 ^ E * (n * B) = 4 * (X * H * n) * P := by
      have : X * 2 ^ E * (n * B) = X * 2 ^ E * B * n := by simp only [Nat.mul_assoc, Nat.mul_comm n B]
      rw [this, a1]; simp only [Nat.mul_assoc, Nat.mul_comm n P]
    have a3 : 2 * ((2 * Q + s) * P) = 2 * (2 * Q + s) * P := (Nat.mul_assoc ..).symm
    have a4 : 2 * (2 * M * P) = 4 * M * P := by simp only [← Nat.mul_assoc]
    rw [a1, a2, a3, a4]
    generalize X * H = Y
    have c : ∀ x y : Nat, (x * P ≤ y * P ↔ x ≤ y) := fun x y => ⟨fun h => Nat.le_of_mul_le_mul_right h hP, fun h => Nat.mul_le_mul_right _ h⟩
    have c' : ∀ x y : Nat, (x * P = y * P ↔ x = y) := fun x y => ⟨fun h => Nat.eq_of_mul_eq_mul_right hP h, fun h => by rw [h]⟩
    rw [c, c, c, c, c', c']
    subst hQ
    generalize hq : M / n = q at *
    generalize hr : M % n = r at *
    have hM : M = q * n + r := by rw [← hdm, Nat.mul_comm]
    rcases Nat.lt_trichotomy q Y with hl | he | hg
    · have : (q + 1) * n ≤ Y * n := Nat.mul_le_mul_right _ hl
      rw [Nat.add_mul] at this
      by_cases h0 : r = 0
      · rw [if_pos h0] at hs; subst hs
        refine ⟨by omega, by omega, by omega⟩
      · rw [if_neg h0] at hs; subst hs
        refine ⟨by omega, by omega, by omega⟩
    · subst he
      by_cases h0 : r = 0
      · rw [if_pos h0] at hs; subst hs
        refine ⟨by omega, by omega, by omega⟩
      · rw [if_neg h0] at hs; subst hs
        refine ⟨by omega, by omega, by omega⟩
    · have : (Y + 1) * n ≤ q * n := Nat.mul_le_mul_right _ hg
      rw [Nat.add_mul] at this
      by_cases h0 : r = 0
      · rw [if_pos h0] at hs; subst hs
        refine ⟨by omega, by omega, by omega⟩
      · rw [if_neg h0] at hs; subst hs
        refine ⟨by omega, by omega, by omega⟩
  have lowkey : ∀ A B' : Nat, ∀ k : Nat, (2 * k * 2 ^ E * B' ≤ 2 * A + 2 ^ E * B' ↔ k = 0 ∨ (2 * k - 1) * 2 ^ E * B' ≤ 2 * A) ∧ (2 * k * 2 ^ E * B' = 2 * A + 2 ^ E * B' ↔ (k = 0 ∧ 2 * A + 2 ^ E * B' = 0) ∨ (0 < k ∧ (2 * k - 1) * 2 ^ E * B' = 2 * A)) := by
    intro A B' k
    by_cases h0 : k = 0
    · subst h0; simp; omega
    · have : 2 * k * 2 ^ E * B' = (2 * k - 1) * 2 ^ E * B' + 2 ^ E * B' := by
        have e : 2 * k = (2 * k - 1) + 1 := by omega
        conv => lhs; rw [e]
        simp only [Nat.add_mul, Nat.one_mul]
      rw [this]
      generalize (2 * k - 1) * 2 ^ E * B' = Z
      generalize 2 ^ E * B' = Y
      constructor <;> omega
  refine ⟨?_, ?_, ?_, ?_, h.most, ?_⟩
  · rw [(lowkey _ _ _).1]
    have := (lowkey _ _ _).1.1 h.lo
    rcases this with h0 | h1
    · exact .inl h0
    · exact .inr ((key _).2.2.1 h1)
  · exact (key _).1.1 h.hi
  · exact fun x => h.tieHi ((key _).2.1.2 x)
  · intro x
    rcases (lowkey _ _ _).2.1 x with ⟨h0, _⟩ | ⟨h0, h1⟩
    · subst h0; rfl
    · exact h.tieLo ((lowkey _ _ _).2.2 (.inr ⟨h0, ((key _).2.1.2 h1.symm).symm⟩))
  · intro he
    have a := h.full he
    have b : (2 * B52) * 2 ^ E * B ≤ 2 * ((2 * Q + s) * P) := by
      have : (2 * B52) * 2 ^ E * B = 2 * (B52 * 2 ^ E * B) := by simp only [Nat.mul_assoc]
      omega
    have c := (key _).2.2.1 b
    have : (2 * B52) * 2 ^ E * (n * B) = 2 * (B52 * 2 ^ E * (n * B)) := by simp only [Nat.mul_assoc]
    omega
end Go.Proofs.Ytknahgdeagcghaa.Fl
