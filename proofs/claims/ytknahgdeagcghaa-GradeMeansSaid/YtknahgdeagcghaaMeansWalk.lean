/- The walk of GradeMeans. -/
import Derived.Test.YtknahgdeagcghaaMeanPlain
import Derived.Test.YtknahgdeagcghaaC
import Derived.OpenShut
import Derived.ProofKit
namespace Go.Proofs.Ytknahgdeagcghaa.gradeMeans
open Go.RowKit Fl
set_option linter.unusedVariables false
attribute [local go_sem] run_add run_sub run_mul run_quo

/-- A list of whole numbers and of gaps (NaNs): its sum and how many numbers it has. -/
def sumO : List (Option Int) → Int
  | [] => 0
  | o :: l => o.getD 0 + sumO l
def cntO : List (Option Int) → Int
  | [] => 0
  | o :: l => (if o.isSome then 1 else 0) + cntO l
theorem sumO_snoc (l : List (Option Int)) (o : Option Int) : sumO (l ++ [o]) = sumO l + o.getD 0 := by
  induction l with
  | nil => simp [sumO]
  | cons a l ih => simp only [List.cons_append, sumO, ih]; omega
theorem cntO_snoc (l : List (Option Int)) (o : Option Int) : cntO (l ++ [o]) = cntO l + (if o.isSome then 1 else 0) := by
  induction l with
  | nil => simp [cntO]
  | cons a l ih => simp only [List.cons_append, cntO, ih]; omega
theorem take_snoc {α : Type} (l : List α) (k : Nat) (h : k < l.length) : l.take (k + 1) = l.take k ++ [l[k]] := by
  rw [List.take_succ_eq_append_getElem h]

/-- One float stands for a number, or is a NaN. -/
def Fits (x : Nat) (o : Option Int) : Prop := x < 18446744073709551616 ∧ match o with | none => isNan x = true | some v => x = floatOfInt .f64 v ∧ -32768 ≤ v ∧ v ≤ 32768
theorem sum_bound (l : List (Option Int)) (h : ∀ o ∈ l, ∀ v, o = some v → -32768 ≤ v ∧ v ≤ 32768) : -(32768 * l.length : Int) ≤ sumO l ∧ sumO l ≤ 32768 * l.length ∧ 0 ≤ cntO l ∧ cntO l ≤ l.length := by
  induction l with
  | nil => simp [sumO, cntO]
  | cons a l ih =>
    obtain ⟨i1, i2, i3, i4⟩ := ih (fun o ho => h o (List.mem_cons_of_mem _ ho))
    cases a with
    | none => simp only [sumO, cntO, List.length_cons]; simp; omega
    | some v =>
      obtain ⟨v1, v2⟩ := h _ (List.mem_cons_self) v rfl
      simp only [sumO, cntO, List.length_cons]; simp; omega

theorem isNan_int (v : Int) (h : v.natAbs < 9007199254740992) : isNan (floatOfInt .f64 v) = false := by
  obtain ⟨r, e, h1, _, h3⟩ := ofInt_form v h
  rw [e]; unfold isNan; rw [W_mod _ r (by omega)]; simp; omega

set_option maxHeartbeats 1000000 in
theorem mean_any (xs : List Nat) (os : List (Option Int)) (A : Option Addr) (n c top : Nat) (w : World) (hn : n ≤ 120) (hx : xs.length = n) (ho : os.length = n)
    (hA : RowAt w top A n (fun i => .float .f64 (xs.getD i 0))) (hf : ∀ i, i < n → Fits (xs.getD i 0) (os.getD i none)) :
    Calls Try.prog 17 #[.slice A n c] w fun e w' => e = .returned (.float .f64 (arithR .quo (floatOfInt .f64 (sumO os)) (floatOfInt .f64 (cntO os)) w)) ∧ w' = arithW .quo (floatOfInt .f64 (sumO os)) (floatOfInt .f64 (cntO os)) w := by
  have hbd : ∀ o ∈ os, ∀ v, o = some v → -32768 ≤ v ∧ v ≤ 32768 := by
    intro o hmem v hv
    obtain ⟨i, hi, rfl⟩ := List.getElem_of_mem hmem
    have := (hf i (by omega)).2
    rw [List.getD_eq_getElem?_getD, List.getElem?_eq_getElem hi] at this
    simp only [Option.getD_some, hv] at this
    exact this.2
  have h00 : floatOfInt .f64 0 = 0 := by decide +kernel
  rcases hA with h0 | ⟨b, off, rfl, _, hc⟩
  · obtain rfl : n = 0 := h0
    have e1 : os = [] := List.eq_nil_of_length_eq_zero ho
    subst e1
    simp only [sumO, cntO, h00]
    go_enter Try.func17, Try.ntmps17
    go_wp2
    refine wp_loop_rounds 1 ?_
    rw [rounds_succ]
    go_wp2
    go_ret
    exact ⟨rfl, rfl⟩
  · have HF := Lib.hid hf
    have HC := Lib.hid hc
    have HB := Lib.hid hbd
    have HO := Lib.hid ho
    have HX := Lib.hid hx
    have H0 := Lib.hid h00
    clear hf hc hbd ho hx h00
    go_enter Try.func17, Try.ntmps17
    go_wp2
    go_loop [3, 4, 9] (fun s m i => ∃ k : Nat, k ≤ n ∧ i = .int .i64 k ∧ s = .float .f64 (floatOfInt .f64 (sumO (os.take k))) ∧ m = .int .i64 (cntO (os.take k))) (fun _ _ i => n - (intOf i).toNat)
    case atStart => exact ⟨0, Nat.zero_le _, rfl, by rw [List.take_zero]; simp only [sumO]; rw [H0.out], by rw [List.take_zero]; rfl⟩
    case round =>
      obtain ⟨k, hk, rfl, rfl, rfl⟩ := hrel
      by_cases hlt : k < n
      · obtain ⟨x, hcx, hfx⟩ : ∃ x, w.cell? ⟨b, off + k, none⟩ = some (.float .f64 x) ∧ Fits x (os.getD k none) := ⟨_, HC.out k hlt, HF.out k hlt⟩
        have hok : k < os.length := by rw [HO.out]; exact hlt
        have ho : os.getD k none = os[k] := by rw [List.getD_eq_getElem?_getD, List.getElem?_eq_getElem hok]; rfl
        rw [ho] at hfx
        obtain ⟨z1, z2, z3, z4⟩ := sum_bound (os.take k) (fun o hm v hv => HB.out o (List.mem_of_mem_take hm) v hv)
        have zl : (os.take k).length ≤ k := List.length_take_le _ _
        have hts := take_snoc os k hok
        have e1 : sumO (os.take (k + 1)) = sumO (os.take k) + (os[k]).getD 0 := by rw [hts, sumO_snoc]
        have e2 : cntO (os.take (k + 1)) = cntO (os.take k) + (if (os[k]).isSome then 1 else 0) := by rw [hts, cntO_snoc]
        have HE1 := Lib.hid e1
        have HE2 := Lib.hid e2
        clear e1 e2 hts ho
        obtain ⟨hx64, hfo⟩ := hfx
        cases hok2 : os[k] with
        | none =>
          rw [hok2] at hfo
          have hn1 : nanB x = true := by rw [nanB_isNan x hx64]; exact hfo
          have H2 := Lib.hid hok2
          clear hfo hok2
          go_wp2_with (first
            | (go_at_call 19; refine (none_any _ _).mono ?_; rintro e w' ⟨rfl, rfl⟩))
          go_round
          case rel => exact ⟨k + 1, by omega, by go_num, by rw [HE1.out, H2.out]; simp, by rw [HE2.out, H2.out]; simp⟩
          case measure => simp [intOf]; omega
        | some v =>
          rw [hok2] at hfo
          obtain ⟨hfo, hv1, hv2⟩ := hfo
          have hn1 : nanB x = false := by rw [nanB_isNan x hx64, hfo]; exact isNan_int v (by omega)
          have hadd := add_int (sumO (os.take k)) v (by omega) (by omega) (by omega)
          rw [← hfo] at hadd
          have a1 : ∀ W, arithR .add (floatOfInt .f64 (sumO (os.take k))) x W = floatOfInt .f64 (sumO (os.take k) + v) := fun W => (arith_some hadd W).1
          have a2 : ∀ W, arithW .add (floatOfInt .f64 (sumO (os.take k))) x W = W := fun W => (arith_some hadd W).2
          have H2 := Lib.hid hok2
          clear hfo hok2 hadd
          go_wp2_with (first
            | (go_at_call 19; refine (none_any _ _).mono ?_; rintro e w' ⟨rfl, rfl⟩))
          go_round
          case rel => exact ⟨k + 1, by omega, by go_num, by rw [HE1.out, H2.out]; simp, by rw [HE2.out, H2.out]; simp⟩
          case measure => simp [intOf]; omega
      · obtain rfl : k = n := by omega
        have ht : os.take k = os := List.take_of_length_le (by rw [HO.out]; exact Nat.le_refl _)
        go_wp2
        go_ret
        exact ⟨rfl, rfl⟩
end Go.Proofs.Ytknahgdeagcghaa.gradeMeans
