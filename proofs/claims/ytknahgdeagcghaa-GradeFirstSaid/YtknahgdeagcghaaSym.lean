/- slices.symMergeCmpFunc over the places. -/
import Derived.Test.YtknahgdeagcghaaRot
namespace Go.Proofs.Ytknahgdeagcghaa
open Go.RowKit Fl
set_option linter.unusedVariables false
set_option linter.unusedSimpArgs false

set_option maxHeartbeats 4000000 in
set_option maxRecDepth 100000 in
theorem sym1 (C : Ctx) (hC : CtxOk C) (f a m b : Nat) (w0 w : World) (l : List Int) (S0 : SW C w0 w l) (hm : m = a + 1) (hmb : m < b) (hb : b ≤ C.n) :
    Calls Try.prog 26 #[.slice (some ⟨C.g, 0, none⟩) C.n C.cap, .int .i64 a, .int .i64 m, .int .i64 b, C.cv] w fun e w' => e = .returned (.tuple #[]) ∧ SW C w0 w' (St.symM C.K (f + 1) a m b l) := by
  have HS := Lib.hid S0
  have HC := Lib.hid hC
  have hn := hC.n
  have HE : Hid (St.symM C.K (f + 1) a m b l = St.upS a (St.bsr (fun h => St.lt C.K (l.getD h 0) (l.getD a 0)) m b - 1 - a) l) := Lib.hid (by unfold St.symM; rw [if_pos (by omega)])
  have t1 : ((m : Int) - (a : Int) == 1) = true := by simp; omega
  have hm1 : a < m := by omega
  have hm2 : m ≤ a + 1 := by omega
  clear S0 hC hm
  unfold Ctx.cv
  go_enter Try.func26, Try.ntmps26
  go_wp2
  go_loopg [10, 11] (b - m) (fun g1 vi vj wr => ∃ (i j : Nat), vi = .int .i64 i ∧ vj = .int .i64 j ∧ m ≤ i ∧ i ≤ j ∧ j ≤ b ∧ j ≤ i + g1 ∧ Hid (SW C w0 wr l) ∧ Hid (St.bsr (fun h => St.lt C.K (l.getD h 0) (l.getD a 0)) i j = St.bsr (fun h => St.lt C.K (l.getD h 0) (l.getD a 0)) m b))
  case atStart => exact ⟨m, b, rfl, rfl, by omega, by omega, by omega, by omega, HS, rfl⟩
  case round =>
    clear HS
    obtain ⟨i, j, rfl, rfl, hmi, hij, hjb, hg, HS, HB⟩ := hrel
    by_cases hlt : i < j
    · have hz : (i : Int) < (j : Int) := by omega
      obtain ⟨h, hh⟩ : ∃ h, h = (i + j) / 2 := ⟨_, rfl⟩
      have eh : ((i : Int) + (j : Int)) / 2 = (h : Int) := by omega
      have h0 : (0 : Int) ≤ (h : Int) := by omega
      have h1 : (h : Int) < (C.n : Int) := by omega
      have h2 : (a : Int) < (C.n : Int) := by omega
      have h3 : (0 : Int) ≤ (a : Int) := by omega
      have h4 : (h : Int).toNat = h := by omega
      have h5 : (a : Int).toNat = a := by omega
      obtain ⟨x, hx⟩ : ∃ x, x = l.getD h 0 := ⟨_, rfl⟩
      obtain ⟨y, hy⟩ : ∃ y, y = l.getD a 0 := ⟨_, rfl⟩
      have c1 := HS.out.row.cell h (by omega)
      have c2 := HS.out.row.cell a (by omega)
      have CM := Lib.hid (HS.out.cmp HC.out x y (by rw [hx]; exact HS.out.at _ (by omega)) (by rw [hy]; exact HS.out.at _ (by omega)))
      have hlv := cmpI_lt C.K x y
      have hp : St.lt C.K (l.getD ((i + j) / 2) 0) (l.getD a 0) = St.lt C.K x y := by rw [hx, hy, hh]
      have hyes := St.bsr_yes (fun h => St.lt C.K (l.getD h 0) (l.getD a 0)) i j hlt
      have hno := St.bsr_no (fun h => St.lt C.K (l.getD h 0) (l.getD a 0)) i j hlt
      rw [← hx] at c1
      rw [← hy] at c2
      rw [hp, HB.out, ← hh] at hyes hno
      have hb1 : m ≤ h ∧ h < j ∧ i ≤ h ∧ j ≤ 2 * h + 1 - i := by omega
      have HY := Lib.hid hyes
      have HN := Lib.hid hno
      clear hx hy hp hyes hno hh
      generalize cmpI C.K x y = cv at CM hlv
      cases hv : St.lt C.K x y with
      | true =>
        rw [hv] at hlv HY
        clear hv
        go_wp2
        go_quiet ((go_at_call 23; exact Calls.quiet_of (CM.out _ ⟨_, rfl⟩)))
        have S2 := Lib.hid (HS.out.drewN nq)
        clear c1 c2 CM hlv HS eh
        generalize wr.drewN nq = w2 at S2 ⊢
        go_wp2
        go_roundg (gk - 1)
        case measure => omega
        case rel => exact ⟨h + 1, j, by go_num, rfl, by omega, by omega, by omega, by omega, S2, (HY.out trivial).symm⟩
      | false =>
        rw [hv] at hlv HN
        clear hv
        go_wp2
        go_quiet ((go_at_call 23; exact Calls.quiet_of (CM.out _ ⟨_, rfl⟩)))
        have S2 := Lib.hid (HS.out.drewN nq)
        clear c1 c2 CM hlv HS eh
        generalize wr.drewN nq = w2 at S2 ⊢
        go_wp2
        go_roundg (gk - 1)
        case measure => omega
        case rel => exact ⟨i, h, rfl, rfl, by omega, by omega, by omega, by omega, S2, (HN.out trivial).symm⟩
    · obtain rfl : i = j := by omega
      have hb := HB.out
      rw [St.bsr_end _ _ _ (Nat.le_refl _)] at hb
      have HE2 : Hid (St.symM C.K (f + 1) a m b l = St.upS a (i - 1 - a) l) := Lib.hid (by rw [HE.out, ← hb])
      clear hb HB HE
      go_wp2
      go_loopg [13] (b - m) (fun g1 vk wr => ∃ (k : Nat) (mm : List Int), vk = .int .i64 k ∧ a ≤ k ∧ k + 1 ≤ i ∧ i ≤ k + 1 + g1 ∧ Hid (SW C w0 wr mm) ∧ Hid (St.upS k (i - 1 - k) mm = St.upS a (i - 1 - a) l))
      case atStart => exact ⟨a, l, rfl, by omega, by omega, by omega, HS, rfl⟩
      case round =>
        clear HS
        obtain ⟨k, mm, rfl, hak, hki, hg, HS, HU⟩ := hrel
        by_cases hlt : k + 1 < i
        · have hz : (k : Int) < (i : Int) - 1 := by omega
          obtain ⟨x, hx⟩ : ∃ x, x = mm.getD k 0 := ⟨_, rfl⟩
          obtain ⟨y, hy⟩ : ∃ y, y = mm.getD (k + 1) 0 := ⟨_, rfl⟩
          have e1 : ((k : Int) + 1).toNat = k + 1 := by omega
          have e2 : (k : Int).toNat = k := by omega
          have z1 : (0 : Int) ≤ (k : Int) + 1 := by omega
          have z2 : (0 : Int) ≤ (k : Int) := by omega
          have z3 : (k : Int) + 1 < (C.n : Int) := by omega
          have z4 : (k : Int) < (C.n : Int) := by omega
          have w1 : IntKind.i64.wrap ((k : Int) + 1) = (k : Int) + 1 := by rw [IntKind.wrap_i64]; omega
          obtain ⟨c1, c2, f1, f2, u, c3⟩ := HS.out.cells k (k + 1) (by omega) (by omega) (.int .i64 y)
          have S3 := HS.out.swapped HC.out k (k + 1) (by omega) (by omega)
          rw [← hx] at c1 S3
          rw [← hy] at c2 S3
          have HS3 := Lib.hid S3
          clear S3 HS hx hy
          go_wp2_with fail
          go_big_region
          clear c1 c2 c3 f1 f2
          generalize ((wr.setCell ⟨C.g, k, none⟩ (.int .i64 y)).setCell ⟨C.g, k + 1, none⟩ (.int .i64 x)).drew = w3 at HS3 ⊢
          go_wp2
          go_roundg (gk - 1)
          case measure => omega
          case rel =>
            refine ⟨k + 1, St.swp mm k (k + 1), by go_num, by omega, by omega, by omega, HS3, ?_⟩
            show _ = _
            rw [← HU.out]
            have : i - 1 - k = (i - 1 - (k + 1)) + 1 := by omega
            rw [this]
            rfl
        · have hz : ¬ (k : Int) < (i : Int) - 1 := by omega
          go_wp2
          (try simp only [Exit.inBlock, Exit.then])
          refine bodyPost_ret (results_none rfl _ _ _) rfl ?_
          refine ⟨rfl, ?_⟩
          have h := HS.out
          have he := HU.out
          have : i - 1 - k = 0 := by omega
          rw [this] at he
          rw [HE2.out, ← he]
          exact h
end Go.Proofs.Ytknahgdeagcghaa
