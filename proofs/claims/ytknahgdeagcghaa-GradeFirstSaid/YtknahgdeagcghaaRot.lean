/- slices.rotateCmpFunc over the places. -/
import Derived.Test.YtknahgdeagcghaaIns
namespace Go.Proofs.Ytknahgdeagcghaa
open Go.RowKit Fl
set_option linter.unusedVariables false
set_option linter.unusedSimpArgs false

theorem swapR_z (C : Ctx) (hC : CtxOk C) (za zb zk : Int) (a b k : Nat) (ea : za = a) (eb : zb = b) (ek : zk = k) (w0 w : World) (l : List Int) (S0 : SW C w0 w l) (ha : a + k ≤ C.n) (hb : b + k ≤ C.n) :
    Calls Try.prog 28 #[.slice (some ⟨C.g, 0, none⟩) C.n C.cap, .int .i64 za, .int .i64 zb, .int .i64 zk, .func (.func 23) #[.slice (some ⟨C.b, C.off, none⟩) C.N C.cf] #[]] w fun e w' => e = .returned (.tuple #[]) ∧ SW C w0 w' (St.swapR a b 0 k l) := by
  subst ea eb ek
  exact swapR_any C hC a b k w0 w l S0 ha hb

set_option maxHeartbeats 4000000 in
set_option maxRecDepth 100000 in
theorem rotate_any (C : Ctx) (hC : CtxOk C) (a m b : Nat) (w0 w : World) (l : List Int) (S0 : SW C w0 w l) (ham : a < m) (hmb : m < b) (hb : b ≤ C.n) :
    Calls Try.prog 27 #[.slice (some ⟨C.g, 0, none⟩) C.n C.cap, .int .i64 a, .int .i64 m, .int .i64 b, C.cv] w fun e w' => e = .returned (.tuple #[]) ∧ SW C w0 w' (St.rotate a m b l) := by
  have HS := Lib.hid S0
  have HC := Lib.hid hC
  have hn := hC.n
  clear S0 hC
  unfold Ctx.cv
  go_enter Try.func27, Try.ntmps27
  go_wp2
  go_loopg [10, 11] (b - a) (fun g1 vi vj wr => ∃ (i j : Nat) (mm : List Int), vi = .int .i64 i ∧ vj = .int .i64 j ∧ 0 < i ∧ 0 < j ∧ a + i ≤ m ∧ m + j ≤ b ∧ i + j ≤ g1 ∧ Hid (SW C w0 wr mm) ∧ Hid (St.rotr m i j mm = St.rotr m (m - a) (b - m) l))
  case atStart => exact ⟨m - a, b - m, l, by congr 1; omega, by congr 1; omega, by omega, by omega, by omega, by omega, by omega, HS, rfl⟩
  case round =>
    clear HS
    obtain ⟨i, j, mm, rfl, rfl, hi, hj, hai, hbj, hg, HS, HE⟩ := hrel
    rcases Nat.lt_trichotomy i j with hlt | heq | hgt
    · have t1 : ((i : Int) != (j : Int)) = true := by simp; omega
      have t2 : decide ((i : Int) > (j : Int)) = false := decide_eq_false (by omega)
      have t2' : decide ((j : Int) < (i : Int)) = false := decide_eq_false (by omega)
      have t3 : ¬ (j : Int) < (i : Int) := by omega
      have CS := Lib.hid (swapR_z C HC.out ((m : Int) - (i : Int)) ((m : Int) + (j : Int) - (i : Int)) i (m - i) (m + j - i) i (by omega) (by omega) rfl w0 wr mm HS.out (by omega) (by omega))
      have HE2 : Hid (St.rotr m i (j - i) (St.swapR (m - i) (m + j - i) 0 i mm) = St.rotr m (m - a) (b - m) l) := Lib.hid (by rw [← HE.out, St.rotr_lt m i j mm hi hlt])
      go_wp2_with (go_at_call 28; refine CS.out.mono ?_; rintro e w2 ⟨rfl, S2⟩; have HS2 := Lib.hid S2; clear S2)
      go_roundg (i + j - 1)
      case measure => omega
      case rel => exact ⟨i, j - i, _, rfl, by congr 1; omega, by omega, by omega, by omega, by omega, by omega, HS2, HE2⟩
    · subst heq
      have t1 : ((i : Int) != (i : Int)) = false := by simp
      have CS := Lib.hid (swapR_z C HC.out ((m : Int) - (i : Int)) m i (m - i) m i (by omega) rfl rfl w0 wr mm HS.out (by omega) (by omega))
      have HE2 : Hid (St.swapR (m - i) m 0 i mm = St.rotate a m b l) := Lib.hid (by
        have he := HE.out
        rw [St.rotr_eq m i mm hi] at he
        unfold St.rotate
        rw [← he])
      go_wp2_with (go_at_call 28; refine CS.out.mono ?_; rintro e w2 ⟨rfl, S2⟩; have HS2 := Lib.hid S2; clear S2)
      go_end0
      exact ⟨rfl, by rw [← HE2.out]; exact HS2.out⟩
    · have t1 : ((i : Int) != (j : Int)) = true := by simp; omega
      have t2 : decide ((i : Int) > (j : Int)) = true := decide_eq_true (by omega)
      have t3 : (j : Int) < (i : Int) := by omega
      have CS := Lib.hid (swapR_z C HC.out ((m : Int) - (i : Int)) m j (m - i) m j (by omega) rfl rfl w0 wr mm HS.out (by omega) (by omega))
      have HE2 : Hid (St.rotr m (i - j) j (St.swapR (m - i) m 0 j mm) = St.rotr m (m - a) (b - m) l) := Lib.hid (by rw [← HE.out, St.rotr_gt m i j mm hj hgt])
      go_wp2_with (go_at_call 28; refine CS.out.mono ?_; rintro e w2 ⟨rfl, S2⟩; have HS2 := Lib.hid S2; clear S2)
      go_roundg (i + j - 1)
      case measure => omega
      case rel => exact ⟨i - j, j, _, by congr 1; omega, rfl, by omega, by omega, by omega, by omega, by omega, HS2, HE2⟩
end Go.Proofs.Ytknahgdeagcghaa
