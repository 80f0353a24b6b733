/- Plain facts on the format 'double': the magnitudes of its rungs, and rounding as a relation. No program in sight. -/
import Derived.Laws.FloatArith
namespace Go.Proofs.Ytknahgdeagcghaa.Fl

/-! ### Rungs and their magnitudes, in units of the least subnormal -/
def B52 : Nat := 4503599627370496
def INF : Nat := 9218868437227405312
def V (r : Nat) : Nat := if r < B52 then r else (B52 + r % B52) * 2 ^ (r / B52 - 1)

theorem V_of (E k : Nat) (hk : k ≤ 2 * B52) (hE : 0 < E → B52 ≤ k) : V (E * B52 + k) = k * 2 ^ E := by
  unfold V
  by_cases h0 : E = 0
  · subst h0
    by_cases h1 : k < B52
    · rw [if_pos (by omega)]; simp
    · rw [if_neg (by omega)]
      by_cases h2 : k = 2 * B52
      · subst h2; decide
      · have a : (0 * B52 + k) / B52 = 1 := by unfold B52 at *; omega
        have b : (0 * B52 + k) % B52 = k - B52 := by unfold B52 at *; omega
        rw [a, b]; simp; omega
  · have hk1 := hE (by omega)
    rw [if_neg (by unfold B52 at *; omega)]
    by_cases h2 : k = 2 * B52
    · subst h2
      have a : (E * B52 + 2 * B52) / B52 = E + 2 := by unfold B52; omega
      have b : (E * B52 + 2 * B52) % B52 = 0 := by unfold B52; omega
      rw [a, b]
      have : E + 2 - 1 = E + 1 := by omega
      rw [this, Nat.pow_succ, Nat.add_zero, Nat.mul_comm (2 ^ E) 2, ← Nat.mul_assoc, Nat.mul_comm B52 2]
    · have a : (E * B52 + k) / B52 = E + 1 := by unfold B52 at *; omega
      have b : (E * B52 + k) % B52 = k - B52 := by unfold B52 at *; omega
      rw [a, b]
      have c : B52 + (k - B52) = k := by omega
      rw [c]; rfl

theorem V_form (r : Nat) : ∃ E k, r = E * B52 + k ∧ V r = k * 2 ^ E ∧ k < 2 * B52 ∧ (0 < E → B52 ≤ k) := by
  by_cases h : r < B52
  · exact ⟨0, r, by omega, by unfold V; rw [if_pos h]; simp, by unfold B52 at *; omega, by omega⟩
  · have h1 : r = (r / B52 - 1) * B52 + (B52 + r % B52) := by unfold B52 at *; omega
    refine ⟨r / B52 - 1, B52 + r % B52, h1, ?_, by unfold B52 at *; omega, by omega⟩
    unfold V; rw [if_neg h]

theorem V_succ (r : Nat) : ∃ E, V (r + 1) = V r + 2 ^ E := by
  obtain ⟨E, k, rfl, hv, hk, hE⟩ := V_form r
  refine ⟨E, ?_⟩
  rw [hv, Nat.add_assoc, V_of E (k + 1) (by omega) (by intro h; have := hE h; omega), Nat.add_mul, Nat.one_mul]

theorem V_lt_succ (r : Nat) : V r < V (r + 1) := by
  obtain ⟨E, h⟩ := V_succ r
  have := Nat.two_pow_pos E
  omega
theorem V_lt {a b : Nat} (h : a < b) : V a < V b := by
  induction b with
  | zero => omega
  | succ b ih =>
    by_cases e : a = b
    · subst e; exact V_lt_succ a
    · exact Nat.lt_trans (ih (by omega)) (V_lt_succ b)
theorem V_le {a b : Nat} (h : a ≤ b) : V a ≤ V b := by
  by_cases e : a = b
  · subst e; exact Nat.le_refl _
  · exact Nat.le_of_lt (V_lt (by omega))
theorem V_inj {a b : Nat} (h : V a = V b) : a = b := by
  rcases Nat.lt_trichotomy a b with c | c | c
  · have := V_lt c; omega
  · exact c
  · have := V_lt c; omega
theorem V_zero : V 0 = 0 := by decide

/-! ### Rounding: 'r' is the rung of the exact number N / D (in units of the least subnormal) -/
structure IsRnd (N D r : Nat) : Prop where
  top : r ≤ INF
  up : r < INF → 2 * N ≤ (V r + V (r + 1)) * D ∧ (2 * N = (V r + V (r + 1)) * D → r % 2 = 0)
  down : ∀ q, r = q + 1 → (V q + V r) * D ≤ 2 * N ∧ ((V q + V r) * D = 2 * N → r % 2 = 0)

theorem IsRnd.mono {N1 D1 r1 N2 D2 r2 : Nat} (h1 : IsRnd N1 D1 r1) (h2 : IsRnd N2 D2 r2) (d1 : 0 < D1) (d2 : 0 < D2) (h : N1 * D2 ≤ N2 * D1) : r1 ≤ r2 := by
  rcases Nat.lt_or_ge r2 r1 with hlt | hge
  · exfalso
    obtain ⟨q, rfl⟩ : ∃ q, r1 = q + 1 := ⟨r1 - 1, by omega⟩
    obtain ⟨a1, b1⟩ := h1.down q rfl
    obtain ⟨a2, b2⟩ := h2.up (by have := h1.top; omega)
    have hm : V r2 + V (r2 + 1) ≤ V q + V (q + 1) := Nat.add_le_add (V_le (by omega)) (V_le (by omega))
    generalize hM1 : V q + V (q + 1) = M1 at *
    generalize hM2 : V r2 + V (r2 + 1) = M2 at *
    have c1 : M1 * D1 * D2 ≤ 2 * N1 * D2 := Nat.mul_le_mul_right _ a1
    have c2 : 2 * N2 * D1 ≤ M2 * D2 * D1 := Nat.mul_le_mul_right _ a2
    have c3 : M2 * D2 * D1 ≤ M1 * D1 * D2 := by
      rw [Nat.mul_assoc, Nat.mul_assoc, Nat.mul_comm D2 D1]; exact Nat.mul_le_mul_right _ hm
    have e1 : 2 * N1 * D2 = 2 * (N1 * D2) := Nat.mul_assoc ..
    have e2 : 2 * N2 * D1 = 2 * (N2 * D1) := Nat.mul_assoc ..
    have f1 : M1 * D1 * D2 = 2 * N1 * D2 := by omega
    have f2 : 2 * N2 * D1 = M2 * D2 * D1 := by omega
    have f3 : M2 * D2 * D1 = M1 * D1 * D2 := by omega
    have g1 : M1 * D1 = 2 * N1 := Nat.eq_of_mul_eq_mul_right d2 f1
    have g2 : 2 * N2 = M2 * D2 := Nat.eq_of_mul_eq_mul_right d1 f2
    have g3 : M2 = M1 := by
      rw [Nat.mul_assoc, Nat.mul_assoc, Nat.mul_comm D2 D1] at f3
      exact Nat.eq_of_mul_eq_mul_right (Nat.mul_pos d1 d2) f3
    have hq : r2 = q := by
      rcases Nat.lt_or_ge r2 q with hlt2 | hge2
      · have x1 := V_lt hlt2
        have x2 : V (r2 + 1) < V (q + 1) := V_lt (by omega)
        omega
      · omega
    have p1 := b1 g1
    have p2 := b2 g2
    omega
  · exact hge

theorem IsRnd.unique {N1 D1 r1 N2 D2 r2 : Nat} (h1 : IsRnd N1 D1 r1) (h2 : IsRnd N2 D2 r2) (d1 : 0 < D1) (d2 : 0 < D2) (h : N1 * D2 = N2 * D1) : r1 = r2 :=
  Nat.le_antisymm (h1.mono h2 d1 d2 (by omega)) (h2.mono h1 d2 d1 (by omega))

theorem IsRnd.exact {D r : Nat} (hr : r ≤ INF) (hd : 0 < D) : IsRnd (V r * D) D r := by
  refine ⟨hr, fun _ => ?_, fun q hq => ?_⟩
  · have := V_lt_succ r
    have e : (V r + V (r + 1)) * D = V r * D + V (r + 1) * D := Nat.add_mul ..
    have l : V r * D < V (r + 1) * D := Nat.mul_lt_mul_of_pos_right this hd
    rw [e]; constructor <;> omega
  · subst hq
    have := V_lt_succ q
    have e : (V q + V (q + 1)) * D = V q * D + V (q + 1) * D := Nat.add_mul ..
    have l : V q * D < V (q + 1) * D := Nat.mul_lt_mul_of_pos_right this hd
    rw [e]; constructor <;> omega

theorem IsRnd.congr {N1 D1 N2 D2 r : Nat} (h : IsRnd N1 D1 r) (d1 : 0 < D1) (d2 : 0 < D2) (e : N1 * D2 = N2 * D1) : IsRnd N2 D2 r := by
  have key : ∀ M : Nat, (2 * N1 ≤ M * D1 ↔ 2 * N2 ≤ M * D2) ∧ (2 * N1 = M * D1 ↔ 2 * N2 = M * D2) ∧ (M * D1 ≤ 2 * N1 ↔ M * D2 ≤ 2 * N2) := by
    intro M
    have a1 : 2 * N1 * D2 = 2 * N2 * D1 := by rw [Nat.mul_assoc, e, Nat.mul_assoc]
    have a2 : M * D1 * D2 = M * D2 * D1 := by rw [Nat.mul_assoc, Nat.mul_comm D1 D2, Nat.mul_assoc]
    have le1 : ∀ {x y : Nat}, x ≤ y ↔ x * D2 ≤ y * D2 := fun {x y} => ⟨fun h => Nat.mul_le_mul_right _ h, fun h => Nat.le_of_mul_le_mul_right h d2⟩
    have le2 : ∀ {x y : Nat}, x ≤ y ↔ x * D1 ≤ y * D1 := fun {x y} => ⟨fun h => Nat.mul_le_mul_right _ h, fun h => Nat.le_of_mul_le_mul_right h d1⟩
    have r1 : 2 * N1 ≤ M * D1 ↔ 2 * N2 ≤ M * D2 := by rw [le1, a1, a2, ← le2]
    have r3 : M * D1 ≤ 2 * N1 ↔ M * D2 ≤ 2 * N2 := by rw [le1, a1, a2, ← le2]
    exact ⟨r1, by omega, r3⟩
  refine ⟨h.top, fun hr => ?_, fun q hq => ?_⟩
  · obtain ⟨a, b⟩ := h.up hr
    obtain ⟨k1, k2, _⟩ := key (V r + V (r + 1))
    exact ⟨k1.1 a, fun x => b (k2.2 x)⟩
  · obtain ⟨a, b⟩ := h.down q hq
    obtain ⟨_, k2, k3⟩ := key (V q + V r)
    exact ⟨k3.1 a, fun x => b (k2.2 x.symm).symm⟩

/-! ### The core: a kept significand at a place -/
structure Core (A B E k : Nat) : Prop where
  lo : 2 * k * 2 ^ E * B ≤ 2 * A + 2 ^ E * B
  hi : 2 * A ≤ (2 * k + 1) * 2 ^ E * B
  tieHi : 2 * A = (2 * k + 1) * 2 ^ E * B → k % 2 = 0
  tieLo : 2 * k * 2 ^ E * B = 2 * A + 2 ^ E * B → k % 2 = 0
  most : k ≤ 2 * B52
  full : 0 < E → B52 * 2 ^ E * B ≤ A

theorem B52_even (E k : Nat) : (E * B52 + k) % 2 = k % 2 := by unfold B52; omega

theorem Core.kfull {A B E k : Nat} (h : Core A B E k) (hB : 0 < B) (hE : 0 < E) : B52 ≤ k := by
  have a := h.full hE
  have b := h.hi
  rcases Nat.lt_or_ge k B52 with hlt | hge
  · exfalso
    have hp : 0 < 2 ^ E * B := Nat.mul_pos (Nat.two_pow_pos E) hB
    have c : (2 * k + 1) * (2 ^ E * B) < (2 * B52) * (2 ^ E * B) := Nat.mul_lt_mul_of_pos_right (by omega) hp
    simp only [← Nat.mul_assoc] at c
    have d : 2 * B52 * 2 ^ E * B = 2 * (B52 * 2 ^ E * B) := by simp only [Nat.mul_assoc]
    omega
  · exact hge

theorem Core.rnd {A B E k : Nat} (h : Core A B E k) (hB : 0 < B) : IsRnd A B (min (E * B52 + k) INF) := by
  have hkE : 0 < E → B52 ≤ k := fun he => h.kfull hB he
  have hv := V_of E k h.most hkE
  have hp : 0 < 2 ^ E := Nat.two_pow_pos E
  -- lower side, at the rung itself
  have hdown : ∀ q, E * B52 + k = q + 1 → (V q + V (E * B52 + k)) * B ≤ 2 * A ∧ ((V q + V (E * B52 + k)) * B = 2 * A → (E * B52 + k) % 2 = 0) := by
    intro q hq
    by_cases hc : 0 < E ∧ k = B52
    · obtain ⟨he, hk⟩ := hc
      have a := h.full he
      have b : V q < V (E * B52 + k) := V_lt (by omega)
      have c : (V q + V (E * B52 + k)) * B < (V (E * B52 + k) + V (E * B52 + k)) * B := Nat.mul_lt_mul_of_pos_right (by omega) hB
      have d : (V (E * B52 + k) + V (E * B52 + k)) * B = 2 * (B52 * 2 ^ E * B) := by
        rw [hv, hk, ← Nat.two_mul]; simp only [Nat.mul_assoc]
      constructor <;> omega
    · have hk1 : 1 ≤ k := by
        rcases Nat.eq_zero_or_pos k with k0 | k0
        · subst k0
          rcases Nat.eq_zero_or_pos E with e0 | e0
          · subst e0; omega
          · have := hkE e0; unfold B52 at this; omega
        · exact k0
      have hq' : q = E * B52 + (k - 1) := by omega
      have hvq := V_of E (k - 1) (by have := h.most; omega) (by intro he; have := hkE he; omega)
      rw [← hq'] at hvq
      have e : (V q + V (E * B52 + k)) * B + 2 ^ E * B = 2 * k * 2 ^ E * B := by
        rw [hvq, hv, ← Nat.add_mul, ← Nat.add_mul]
        have : k - 1 + k + 1 = 2 * k := by omega
        rw [← this, Nat.add_mul (k - 1 + k) 1, Nat.one_mul]
      have lo := h.lo
      have tl := h.tieLo
      rw [B52_even]
      exact ⟨by omega, fun x => tl (by omega)⟩
  by_cases hle : E * B52 + k ≤ INF
  · rw [Nat.min_eq_left hle]
    refine ⟨hle, fun hr => ?_, hdown⟩
    have hs : V (E * B52 + k) + 2 ^ E ≤ V (E * B52 + k + 1) ∧ (V (E * B52 + k) + 2 ^ E = V (E * B52 + k + 1) ∨ V (E * B52 + k) + 2 ^ E < V (E * B52 + k + 1)) := by
      by_cases h2 : k = 2 * B52
      · have e : E * B52 + k + 1 = (E + 1) * B52 + (B52 + 1) := by rw [Nat.add_mul]; omega
        rw [hv, e, V_of (E + 1) (B52 + 1) (by unfold B52; omega) (by omega), h2, Nat.pow_succ]
        generalize 2 ^ E = p at *
        unfold B52
        constructor <;> omega
      · have e : E * B52 + k + 1 = E * B52 + (k + 1) := by omega
        rw [hv, e, V_of E (k + 1) (by have := h.most; omega) (by intro he; have := hkE he; omega), Nat.add_mul, Nat.one_mul]
        exact ⟨Nat.le_refl _, .inl rfl⟩
    have e : (2 * k + 1) * 2 ^ E * B = (V (E * B52 + k) + (V (E * B52 + k) + 2 ^ E)) * B := by
      rw [hv]; congr 1; rw [Nat.add_mul, Nat.one_mul, Nat.two_mul, Nat.add_mul]; omega
    have m : (V (E * B52 + k) + (V (E * B52 + k) + 2 ^ E)) * B ≤ (V (E * B52 + k) + V (E * B52 + k + 1)) * B := Nat.mul_le_mul_right _ (by omega)
    have hi := h.hi
    have th := h.tieHi
    rw [B52_even]
    exact ⟨by omega, fun x => th (by omega)⟩
  · rw [Nat.min_eq_right (by omega)]
    refine ⟨Nat.le_refl _, fun hr => by omega, fun q hq => ?_⟩
    obtain ⟨a, _⟩ := hdown (E * B52 + k - 1) (by omega)
    have l1 : V q < V (E * B52 + k - 1) := V_lt (by omega)
    have l2 : V INF < V (E * B52 + k) := V_lt (by omega)
    have c : (V q + V INF) * B < (V (E * B52 + k - 1) + V (E * B52 + k)) * B := Nat.mul_lt_mul_of_pos_right (by omega) hB
    constructor <;> omega
end Go.Proofs.Ytknahgdeagcghaa.Fl
