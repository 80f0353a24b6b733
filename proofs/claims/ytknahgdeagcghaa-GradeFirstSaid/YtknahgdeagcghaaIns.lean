/- slices.insertionSortCmpFunc, swapRangeCmpFunc, rotateCmpFunc over the places. -/
import Derived.Test.YtknahgdeagcghaaSw
namespace Go.Proofs.Ytknahgdeagcghaa
open Go.RowKit Fl
set_option linter.unusedVariables false
set_option linter.unusedSimpArgs false

set_option maxHeartbeats 4000000 in
set_option maxRecDepth 100000 in
theorem swapR_any (C : Ctx) (hC : CtxOk C) (a b k : Nat) (w0 w : World) (l : List Int) (S0 : SW C w0 w l) (ha : a + k ≤ C.n) (hb : b + k ≤ C.n) :
    Calls Try.prog 28 #[.slice (some ⟨C.g, 0, none⟩) C.n C.cap, .int .i64 a, .int .i64 b, .int .i64 k, C.cv] w fun e w' => e = .returned (.tuple #[]) ∧ SW C w0 w' (St.swapR a b 0 k l) := by
  have HS := Lib.hid S0
  have HC := Lib.hid hC
  have hn := hC.n
  clear S0 hC
  unfold Ctx.cv
  go_enter Try.func28, Try.ntmps28
  go_wp2
  go_loopg [10] k (fun g1 vi wr => ∃ (i : Nat) (m : List Int), vi = .int .i64 i ∧ i ≤ k ∧ k ≤ i + g1 ∧ Hid (SW C w0 wr m) ∧ Hid (St.swapR a b i (k - i) m = St.swapR a b 0 k l))
  case atStart => exact ⟨0, l, rfl, by omega, by omega, HS, rfl⟩
  case round =>
    clear HS
    obtain ⟨i, m, rfl, hi, hg, HS, HE⟩ := hrel
    by_cases hlt : i < k
    · have hz : (i : Int) < (k : Int) := by omega
      obtain ⟨p, hp⟩ : ∃ p, p = a + i := ⟨_, rfl⟩
      obtain ⟨q, hq⟩ : ∃ q, q = b + i := ⟨_, rfl⟩
      have ep : ((a : Int) + (i : Int)).toNat = p := by omega
      have eq : ((b : Int) + (i : Int)).toNat = q := by omega
      have wp : IntKind.i64.wrap ((a : Int) + (i : Int)) = (a : Int) + (i : Int) := by rw [IntKind.wrap_i64]; omega
      have wq : IntKind.i64.wrap ((b : Int) + (i : Int)) = (b : Int) + (i : Int) := by rw [IntKind.wrap_i64]; omega
      have p0 : (0 : Int) ≤ (a : Int) + (i : Int) := by omega
      have q0 : (0 : Int) ≤ (b : Int) + (i : Int) := by omega
      have p1 : (a : Int) + (i : Int) < (C.n : Int) := by omega
      have q1 : (b : Int) + (i : Int) < (C.n : Int) := by omega
      obtain ⟨x, hx⟩ : ∃ x, x = m.getD p 0 := ⟨_, rfl⟩
      obtain ⟨y, hy⟩ : ∃ y, y = m.getD q 0 := ⟨_, rfl⟩
      obtain ⟨c1, c2, f1, f2, u, c3⟩ := HS.out.cells p q (by omega) (by omega) (.int .i64 y)
      have S3 := Lib.hid (HS.out.swapped HC.out p q (by omega) (by omega))
      rw [← hx] at c1
      rw [← hy] at c2
      rw [← hx, ← hy] at S3
      have HP := Lib.hid hp
      have HQ := Lib.hid hq
      clear hp hq hx hy HS
      go_wp2_with fail
      go_big_region
      clear c1 c2 c3 f1 f2
      generalize ((wr.setCell ⟨C.g, p, none⟩ (.int .i64 y)).setCell ⟨C.g, q, none⟩ (.int .i64 x)).drew = w3 at S3 ⊢
      clear ep eq wp wq
      go_wp2
      go_roundg (gk - 1)
      case measure => omega
      case rel =>
        refine ⟨i + 1, St.swp m p q, by go_num, by omega, by omega, S3, ?_⟩
        show _ = _
        rw [← HE.out]
        have : k - i = (k - (i + 1)) + 1 := by omega
        rw [this, HP.out, HQ.out]
        rfl
    · have hz : ¬ (i : Int) < (k : Int) := by omega
      go_wp2
      go_end0
      refine ⟨rfl, ?_⟩
      have h := HS.out
      have he := HE.out
      have : k - i = 0 := by omega
      rw [this] at he
      rw [← he]
      exact h

theorem SW.cmp {C : Ctx} {w0 w : World} {l : List Int} (h : SW C w0 w l) (hC : CtxOk C) (x y : Int) (hx : 0 ≤ x ∧ x < C.N) (hy : 0 ≤ y ∧ y < C.N) (W : World) (hW : ∃ k, W = w.drewN k) :
    Calls Try.prog 23 #[.slice (some ⟨C.b, C.off, none⟩) C.N C.cf, .int .i64 x, .int .i64 y] W fun e w' => e = .returned (.int .i64 (cmpI C.K x y)) ∧ ∃ k, w' = W.drewN k := by
  obtain ⟨k, rfl⟩ := hW
  exact before_any C hC (w.drewN k) (fun i hi => h.flt i hi) x y hx hy

set_option maxHeartbeats 4000000 in
set_option maxRecDepth 100000 in
theorem insertion_any (C : Ctx) (hC : CtxOk C) (a b : Nat) (w0 w : World) (l : List Int) (S0 : SW C w0 w l) (ha : a ≤ C.n) (hb : b ≤ C.n) :
    Calls Try.prog 25 #[.slice (some ⟨C.g, 0, none⟩) C.n C.cap, .int .i64 a, .int .i64 b, C.cv] w fun e w' => e = .returned (.tuple #[]) ∧ SW C w0 w' (St.insSort C.K a b l) := by
  have HS := Lib.hid S0
  have HC := Lib.hid hC
  have hn := hC.n
  clear S0 hC
  unfold Ctx.cv
  go_enter Try.func25, Try.ntmps25
  go_wp2
  go_loopg [8] (b - a) (fun g1 vi wr => ∃ (i : Nat) (m : List Int), vi = .int .i64 i ∧ a < i ∧ (i ≤ b ∨ b ≤ a ∧ i = a + 1) ∧ b ≤ i + g1 ∧ Hid (SW C w0 wr m) ∧ Hid (St.insOut C.K a i (b - i) m = St.insSort C.K a b l))
  case atStart => exact ⟨a + 1, l, by go_num, by omega, by omega, by omega, HS, rfl⟩
  case round =>
    clear HS
    obtain ⟨i, m, rfl, hai, hib, hg, HS, HE⟩ := hrel
    by_cases hlt : i < b
    · have hz : (i : Int) < (b : Int) := by omega
      go_wp2
      clear hz
      go_loopg [9] i (fun g2 vj wr2 => ∃ (j : Nat) (mj : List Int), vj = .int .i64 j ∧ a ≤ j ∧ j ≤ i ∧ j ≤ g2 ∧ Hid (SW C w0 wr2 mj) ∧ Hid (St.insIn C.K a j mj = St.insIn C.K a i m))
      case atStart => exact ⟨i, m, rfl, by omega, Nat.le_refl _, Nat.le_refl _, HS, rfl⟩
      case round =>
        clear HS
        obtain ⟨j, mj, rfl, haj, hji, hg2, HS, HI⟩ := hrel
        have OUT : Hid ((j ≤ a ∨ St.lt C.K (mj.getD j 0) (mj.getD (j - 1) 0) = false) → St.insOut C.K a (i + 1) (b - (i + 1)) mj = St.insSort C.K a b l) := by
          intro hs
          rw [← HE.out]
          have e : b - i = (b - (i + 1)) + 1 := by omega
          rw [e]
          show _ = St.insOut C.K a (i + 1) (b - (i + 1)) (St.insIn C.K a i m)
          rw [← HI.out]
          congr 1
          cases j with
          | zero => rfl
          | succ j =>
            unfold St.insIn
            rw [if_neg]
            rintro ⟨h1, h2⟩
            rcases hs with hs | hs
            · omega
            · rw [Nat.add_sub_cancel] at hs; rw [hs] at h2; cases h2
        by_cases hja : a < j
        · obtain ⟨p, rfl⟩ : ∃ p, j = p + 1 := ⟨j - 1, by omega⟩
          have hjd : decide (((p + 1 : Nat) : Int) > (a : Int)) = true := decide_eq_true (by omega)
          obtain ⟨x, hx⟩ : ∃ x, x = mj.getD (p + 1) 0 := ⟨_, rfl⟩
          obtain ⟨y, hy⟩ : ∃ y, y = mj.getD p 0 := ⟨_, rfl⟩
          have c1 := HS.out.row.cell (p + 1) (by omega)
          have c2 := HS.out.row.cell p (by omega)
          have CM := Lib.hid (HS.out.cmp HC.out x y (by rw [hx]; exact HS.out.at _ (by omega)) (by rw [hy]; exact HS.out.at _ (by omega)))
          have hlv := cmpI_lt C.K x y
          have ho := OUT.out
          rw [← hx] at c1
          rw [← hy] at c2
          rw [Nat.add_sub_cancel, ← hx, ← hy] at ho
          have HO := Lib.hid ho
          have HX := Lib.hid hx
          have HY := Lib.hid hy
          clear OUT ho hx hy
          have e1 : ((p : Int) + 1).toNat = p + 1 := by omega
          have e2 : ((p : Int)).toNat = p := by omega
          have z1 : (0 : Int) ≤ (p : Int) + 1 := by omega
          have z2 : (0 : Int) ≤ (p : Int) := by omega
          have z3 : (p : Int) + 1 < (C.n : Int) := by omega
          have z4 : (p : Int) < (C.n : Int) := by omega
          have w1 : IntKind.i64.wrap ((p : Int) + 1 - 1) = (p : Int) := by rw [IntKind.wrap_i64]; omega
          have zja : (a : Int) < (p : Int) + 1 := by omega
          have hjd' : decide ((p : Int) + 1 > (a : Int)) = true := decide_eq_true (by omega)
          generalize cmpI C.K x y = cv at CM hlv
          cases hv : St.lt C.K x y with
          | true =>
            rw [hv] at hlv
            have HV := Lib.hid hv
            clear hv
            go_wp2_with fail
            go_quiet ((go_at_call 23; exact Calls.quiet_of (CM.out _ ⟨_, rfl⟩)))
            have S2 := Lib.hid (HS.out.drewN nq)
            clear c1 c2 CM hlv HS
            generalize wr.drewN nq = w2 at S2 ⊢
            obtain ⟨c1, c2, f1, f2, u, c3⟩ := S2.out.cells (p + 1) p (by omega) (by omega) (.int .i64 y)
            have S3 := S2.out.swapped HC.out (p + 1) p (by omega) (by omega)
            rw [← HX.out] at c1 S3
            rw [← HY.out] at c2 S3
            have HS3 := Lib.hid S3
            clear S2 S3
            go_wp2_with fail
            go_big_region
            clear c1 c2 c3 f1 f2
            generalize ((w2.setCell ⟨C.g, p + 1, none⟩ (.int .i64 y)).setCell ⟨C.g, p, none⟩ (.int .i64 x)).drew = w3 at HS3 ⊢
            go_wp2
            go_roundg p
            case measure => omega
            case rel =>
              refine ⟨p, St.swp mj (p + 1) p, by first | rfl | go_num, by omega, by omega, by omega, HS3, ?_⟩
              show _ = _
              rw [← HI.out]
              conv => rhs; unfold St.insIn
              rw [if_pos ⟨hja, by rw [← HX.out, ← HY.out]; exact HV.out⟩]
          | false =>
            rw [hv] at hlv
            have HV := Lib.hid hv
            clear hv
            go_wp2_with fail
            go_quiet ((go_at_call 23; exact Calls.quiet_of (CM.out _ ⟨_, rfl⟩)))
            have S2 := Lib.hid (HS.out.drewN nq)
            have HF := Lib.hid (HO.out (.inr HV.out))
            clear c1 c2 CM hlv HS
            generalize wr.drewN nq = w2 at S2 ⊢
            go_wp2
            go_roundg (b - (i + 1))
            case measure => omega
            case rel => exact ⟨i + 1, mj, by go_num, by omega, by omega, by omega, S2, HF⟩
        · obtain rfl : j = a := by omega
          have hjd : decide ((j : Int) > (j : Int)) = false := decide_eq_false (by omega)
          have HF := Lib.hid (OUT.out (.inl (Nat.le_refl _)))
          clear OUT
          go_wp2_with fail
          go_quiet (fail)
          have S2 := Lib.hid (HS.out.drewN nq)
          clear HS
          generalize wr.drewN nq = w2 at S2 ⊢
          go_wp2
          go_roundg (b - (i + 1))
          case measure => omega
          case rel => exact ⟨i + 1, mj, by go_num, by omega, by omega, by omega, S2, HF⟩
    · have hz : ¬ (i : Int) < (b : Int) := by omega
      go_wp2
      go_end0
      refine ⟨rfl, ?_⟩
      have h := HS.out
      have he := HE.out
      have : b - i = 0 := by omega
      rw [this] at he
      rw [← he]
      exact h
end Go.Proofs.Ytknahgdeagcghaa
