/- The walk of GradeScales: a stripe so many times as great, of which so many times as much lives, is worth as much, to the bit. -/
import Derived.Test.YtknahgdeagcghaaM
import Derived.OpenShut
import Derived.ProofKit
namespace Go.Proofs.Ytknahgdeagcghaa.gradeScales
open Go.RowKit Go.WideShapes Go.ChangeShapes Fl
set_option linter.unusedVariables false

theorem arr2 {H : Type} {enc : TypeId × Value → H} {W : World} {base : Nat} {v : Value} {d : DataW H} {p : List MemPlace} (hv : Value.okWide Try.prog W .any base 34 v)
    (h : DataW.Trod enc Try.prog W 0 (fun _ => true) true 34 v d p) : ∃ a b : Int, v = .agg #[.int .u16 a, .int .u16 b] ∧ 0 ≤ a ∧ a ≤ 65535 ∧ 0 ≤ b ∧ b ≤ 65535 := by
  have hu : Try.prog.underlying 34 = some (.array 2 30) := Try.underlying34
  simp only [Value.okWide, hu] at hv
  obtain ⟨cs, rfl, hsz, _⟩ := hv
  have hc : Try.prog.cellsOf 34 = 2 := by kernel_rfl
  have hc1 : Try.prog.cellsOf 30 = 1 := by kernel_rfl
  rw [hc] at hsz
  obtain ⟨fuel, hf⟩ := h
  obtain ⟨xs, m, _, _, _, hlen, hi⟩ := DataW.trod_array hu hf
  obtain ⟨l⟩ := cs
  match l, hsz with
  | [c0, c1], _ =>
    have g0 := hi 0 (by omega)
    have g1 := hi 1 (by omega)
    rw [hc1] at g0 g1
    match xs, hlen with
    | [y0, y1], _ =>
      have g0' : DataW.trod enc Try.prog W 0 (fun _ => true) true m 30 [c0] = some y0 := g0
      have g1' : DataW.trod enc Try.prog W 0 (fun _ => true) true m 30 [c1] = some y1 := g1
      obtain ⟨a, e0, _, wa⟩ := DataW.trod_int Try.underlying30 g0'
      obtain ⟨b, e1, _, wb⟩ := DataW.trod_int Try.underlying30 g1'
      simp at e0 e1
      subst e0; subst e1
      obtain ⟨a0, a1⟩ := bounds_u16 wa
      obtain ⟨b0, b1⟩ := bounds_u16 wb
      exact ⟨a, b, rfl, a0, a1, b0, b1⟩

theorem quo_scale (l s k : Nat) (hk : 0 < k) (h1 : k * l < 9007199254740992) (h2 : k * s < 9007199254740992) :
    floatBits .quo .f64 (floatOfInt .f64 (l : Int)) (floatOfInt .f64 (s : Int)) = floatBits .quo .f64 (floatOfInt .f64 ((k * l : Nat) : Int)) (floatOfInt .f64 ((k * s : Nat) : Int)) := by
  have hU := UN_pos
  have le : ∀ x : Nat, x ≤ k * x := fun x => Nat.le_mul_of_pos_left x hk
  obtain ⟨L, eL, iL, vL, _⟩ := ofNat_exact l (by have := le l; omega)
  obtain ⟨S, eS, iS, vS, _⟩ := ofNat_exact s (by have := le s; omega)
  obtain ⟨L2, eL2, iL2, vL2, _⟩ := ofNat_exact (k * l) h1
  obtain ⟨S2, eS2, iS2, vS2, _⟩ := ofNat_exact (k * s) h2
  by_cases hs : s = 0
  · subst hs
    by_cases hl : l = 0
    · subst hl; rw [Nat.mul_zero]
    · have hS : S = 0 := V_inj (by rw [vS, V_zero]; simp)
      have hS2 : S2 = 0 := V_inj (by rw [vS2, V_zero]; simp)
      have inf : ∀ r, r < INF → 0 < V r → floatBits .quo .f64 r 0 = some INF := by
        intro r hr hv
        obtain ⟨m, i, e1, _, v1⟩ := read_fin false r hr
        have hm : m ≠ 0 := by rintro rfl; rw [v1] at hv; simp at hv
        have e2 : Ieee.double.read (W false 0) = .number false 0 (-1074) := by decide
        have e1' : Ieee.double.read r = .number false m i := e1
        have e2' : Ieee.double.read 0 = .number false 0 (-1074) := e2
        show Ieee.double.div r 0 = some INF
        unfold Ieee.Format.div
        rw [e1', e2']
        simp only [Ieee.Datum.quotient, hm, if_true, if_false, Option.map_some, Ieee.Format.write]
        decide
      rw [eL, eS, eL2, eS2, hS, hS2, inf L iL (by rw [vL]; exact Nat.mul_pos (by omega) hU), inf L2 iL2 (by rw [vL2]; exact Nat.mul_pos (Nat.mul_pos hk (by omega)) hU)]
  · have hs1 : 0 < s := by omega
    have hv1 : 0 < V S := by rw [vS]; exact Nat.mul_pos hs1 hU
    have hv2 : 0 < V S2 := by rw [vS2]; exact Nat.mul_pos (Nat.mul_pos hk hs1) hU
    have pos : ∀ r, 0 < V r → 0 < r := by
      intro r h
      rcases Nat.eq_zero_or_pos r with c | c
      · subst c; rw [V_zero] at h; omega
      · exact c
    obtain ⟨u, e1, r1⟩ := div_fin false false L S iL iS (pos S hv1)
    obtain ⟨u2, e2, r2⟩ := div_fin false false L2 S2 iL2 iS2 (pos S2 hv2)
    have hu : u = u2 := by
      refine r1.unique r2 hv1 hv2 ?_
      rw [vL, vS, vL2, vS2]
      simp only [Nat.mul_left_comm, Nat.mul_comm]
    subst hu
    rw [eL, eS, eL2, eS2]
    exact e1.trans e2.symm

theorem gradeO_scale (l s k a : Int) (hl : 0 ≤ l) (hl2 : l ≤ 65535) (hs : 0 ≤ s) (hs2 : s ≤ 65535) (hk : 0 < k) (hk2 : k ≤ 1000) : gradeO l s a = gradeO (k * l) (k * s) a := by
  obtain ⟨L, rfl⟩ := Int.eq_ofNat_of_zero_le hl
  obtain ⟨S, rfl⟩ := Int.eq_ofNat_of_zero_le hs
  obtain ⟨K, rfl⟩ := Int.eq_ofNat_of_zero_le (by omega : 0 ≤ k)
  have b1 : K * L ≤ 1000 * 65535 := Nat.mul_le_mul (by omega) (by omega)
  have b2 : K * S ≤ 1000 * 65535 := Nat.mul_le_mul (by omega) (by omega)
  have h := quo_scale L S K (by omega) (by omega) (by omega)
  rw [Int.natCast_mul, Int.natCast_mul] at h
  unfold gradeO
  rw [h]

theorem bits_run (l s a l2 s2 : Int) (h : gradeO l s a = gradeO l2 s2 a) (w w' : World) : bitsB (gradeRun l s a w).r = bitsB (gradeRun l2 s2 a w').r := by
  cases h1 : gradeO l s a with
  | some r => rw [gradeRun_some h1, gradeRun_some (h ▸ h1)]
  | none =>
    have n1 := gradeRun_none h1 w
    have n2 := gradeRun_none (h ▸ h1) w'
    unfold bitsB
    rw [nanB_isNan _ (gradeRun_lt ..), nanB_isNan _ (gradeRun_lt ..), n1, n2, if_pos rfl, if_pos rfl]

set_option maxHeartbeats 1000000 in
theorem walk {H : Type} {enc : TypeId × Value → H} {base : Nat} (l s : Int) (v : Value) (d : DataW H) (p : List MemPlace) (w : World) (wl : (Lit.int .u16 l).wf = true) (ws : (Lit.int .u16 s).wf = true)
    (hv : Value.okWide Try.prog w .any base 34 v) (h : DataW.Trod enc Try.prog w 0 (fun _ => true) true 34 v d p) :
    Calls Try.prog 6 #[.int .u16 l, .int .u16 s, v] w fun e w' => e = .returned (.bool true) ∧ Below w.heap.size w w' := by
  obtain ⟨a, b, rfl, ha0, ha1, hb0, hb1⟩ := arr2 hv h
  clear hv h
  obtain ⟨hl0, hl1⟩ := bounds_u16 wl
  obtain ⟨hs0, hs1⟩ := bounds_u16 ws
  clear wl ws
  obtain ⟨k, hk, hk0, hk1⟩ : ∃ k : Int, a % 1000 = k ∧ 0 ≤ k ∧ k ≤ 999 := ⟨_, rfl, by omega, by omega⟩
  go_enter Try.func6, Try.ntmps6
  go_wp2_with (first
    | (go_at_call 10; refine (awake_any _).mono ?_; rintro e w' ⟨rfl, rfl⟩)
    | (go_at_call 14; refine (grade_any _ _ _ _).mono ?_; rintro e w' ⟨rfl, rfl⟩)
    | (go_at_call 13; refine (bits_any _ _).mono ?_; rintro e w' ⟨rfl, rfl⟩))
  go_ret
  refine ⟨ret_bool ?_, ?_⟩
  · have m1 : 0 ≤ (1 + k) * l := Int.mul_nonneg (by omega) (by omega)
    have m2 : (1 + k) * l ≤ 1000 * 65535 := Int.mul_le_mul (by omega) hl1 hl0 (by omega)
    have m3 : 0 ≤ (1 + k) * s := Int.mul_nonneg (by omega) (by omega)
    have m4 : (1 + k) * s ≤ 1000 * 65535 := Int.mul_le_mul (by omega) hs1 hs0 (by omega)
    have z1 : wrap64 ((1 + k) * l) = (1 + k) * l := by unfold wrap64; omega
    have z2 : wrap64 ((1 + k) * s) = (1 + k) * s := by unfold wrap64; omega
    rw [z1, z2, bits_run _ _ _ _ _ (gradeO_scale l s (1 + k) b hl0 hl1 hs0 hs1 (by omega) (by omega)) _ (gradeRun l s b (w.alloc (Obj.cells #[Value.int IntKind.u16 a, Value.int IntKind.u16 b] 34))).w]
    simp
  · exact gradeRun_below (gradeRun_below ((Below.refl _ _).alloc (Nat.le_refl _) _))
end Go.Proofs.Ytknahgdeagcghaa.gradeScales
