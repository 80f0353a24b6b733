/- slices.symMergeCmpFunc whole, slices.stableCmpFunc, slices.SortStableFunc over the places. -/
import Derived.Test.YtknahgdeagcghaaSymC
namespace Go.Proofs.Ytknahgdeagcghaa
open Go.RowKit Fl
set_option linter.unusedVariables false
set_option linter.unusedSimpArgs false

theorem sym_any (C : Ctx) (hC : CtxOk C) : ∀ f, SymAt C f := by
  intro f
  induction f with
  | zero => intro a m b w0 w l _ h1 h2 _ h3; omega
  | succ f ih =>
    intro a m b w0 w l S0 h1 h2 h3 h4
    by_cases e1 : m = a + 1
    · exact sym1 C hC f a m b w0 w l S0 e1 h2 h3
    · by_cases e2 : b = m + 1
      · exact sym2 C hC f a m b w0 w l S0 e1 h1 e2 h3
      · exact sym3 C hC f a m b ih w0 w l S0 e1 h1 e2 h2 h3 h4
theorem sym_z (C : Ctx) (hC : CtxOk C) (za zm zb : Int) (a m b : Nat) (ea : za = a) (em : zm = m) (eb : zb = b) (w0 w : World) (l : List Int) (S0 : SW C w0 w l) (h1 : a < m) (h2 : m < b) (h3 : b ≤ C.n) :
    Calls Try.prog 26 #[.slice (some ⟨C.g, 0, none⟩) C.n C.cap, .int .i64 za, .int .i64 zm, .int .i64 zb, .func (.func 23) #[.slice (some ⟨C.b, C.off, none⟩) C.N C.cf] #[]] w fun e w' => e = .returned (.tuple #[]) ∧ SW C w0 w' (St.symM C.K C.n a m b l) := by
  subst ea em eb
  exact sym_any C hC C.n a m b w0 w l S0 h1 h2 h3 (by omega)
theorem insertion_z (C : Ctx) (hC : CtxOk C) (za zb : Int) (a b : Nat) (ea : za = a) (eb : zb = b) (w0 w : World) (l : List Int) (S0 : SW C w0 w l) (ha : a ≤ C.n) (hb : b ≤ C.n) :
    Calls Try.prog 25 #[.slice (some ⟨C.g, 0, none⟩) C.n C.cap, .int .i64 za, .int .i64 zb, .func (.func 23) #[.slice (some ⟨C.b, C.off, none⟩) C.N C.cf] #[]] w fun e w' => e = .returned (.tuple #[]) ∧ SW C w0 w' (St.insSort C.K a b l) := by
  subst ea eb
  exact insertion_any C hC a b w0 w l S0 ha hb

set_option maxHeartbeats 8000000 in
set_option maxRecDepth 100000 in
theorem stable_any (C : Ctx) (hC : CtxOk C) (w0 w : World) (l : List Int) (S0 : SW C w0 w l) :
    Calls Try.prog 24 #[.slice (some ⟨C.g, 0, none⟩) C.n C.cap, .int .i64 (C.n : Nat), .func (.func 23) #[.slice (some ⟨C.b, C.off, none⟩) C.N C.cf] #[]] w fun e w' => e = .returned (.tuple #[]) ∧ SW C w0 w' (St.stable C.K C.n l) := by
  have HS := Lib.hid S0
  have HC := Lib.hid hC
  have hn := hC.n
  clear S0 hC
  obtain ⟨n, hN⟩ : ∃ n, n = C.n := ⟨_, rfl⟩
  have HN := Lib.hid hN
  rw [← hN] at hn ⊢
  clear hN
  go_enter Try.func24, Try.ntmps24
  go_wp2
  go_loopg [7, 8] n (fun g1 va vb wr => ∃ (a : Nat) (m : List Int), va = .int .i64 a ∧ vb = .int .i64 (a + 20 : Nat) ∧ a ≤ n ∧ n ≤ a + g1 ∧ Hid (SW C w0 wr m) ∧ Hid (St.blkr C.K n 20 a m = St.blkr C.K n 20 0 l))
  case atStart => exact ⟨0, l, rfl, rfl, by omega, by omega, HS, rfl⟩
  case round =>
    clear HS
    obtain ⟨a, m, rfl, rfl, ha, hg, HS, HE⟩ := hrel
    by_cases hlt : a + 20 ≤ n
    · have hz : ((a + 20 : Nat) : Int) ≤ (n : Int) := by omega
      have hz' : (a : Int) + 20 ≤ (n : Int) := by omega
      have CI := Lib.hid (insertion_z C HC.out (a : Int) ((a : Int) + 20) a (a + 20) rfl (by omega) w0 wr m HS.out (by have := HN.out; omega) (by have := HN.out; omega))
      rw [← HN.out] at CI
      have HE2 : Hid (St.blkr C.K n 20 (a + 20) (St.insSort C.K a (a + 20) m) = St.blkr C.K n 20 0 l) := Lib.hid (by rw [← HE.out, St.blkr_go C.K n 20 a m (by omega) hlt])
      clear HE HS
      go_wp2_with (go_at_call 25; refine CI.out.mono ?_; rintro e' w2 ⟨rfl, S2⟩; have HS2 := Lib.hid S2; clear S2)
      go_roundg (gk - 1)
      case measure => omega
      case rel => exact ⟨a + 20, _, by go_num, by go_num, by omega, by omega, HS2, HE2⟩
    · have hz : ¬ ((a + 20 : Nat) : Int) ≤ (n : Int) := by omega
      have hz' : ¬ (a : Int) + 20 ≤ (n : Int) := by omega
      have hz2 : (n : Int) < (a : Int) + 20 := by omega
      have CI := Lib.hid (insertion_z C HC.out (a : Int) (n : Int) a n rfl rfl w0 wr m HS.out (by have := HN.out; omega) (by have := HN.out; omega))
      rw [← HN.out] at CI
      have HE2 : Hid (St.passr C.K n 20 (St.insSort C.K a n m) = St.stable C.K n l) := Lib.hid (by
        have h := HE.out
        rw [St.blkr_end C.K n 20 a m hlt] at h
        unfold St.stable
        rw [← h])
      clear HE HS
      generalize St.insSort C.K a n m = m2 at CI HE2
      go_wp2_with (go_at_call 25; refine CI.out.mono ?_; rintro e' w2 ⟨rfl, S2⟩; have HS := Lib.hid S2; clear S2)
      clear CI
      go_loopg [6] n (fun g1 vs wr => ∃ (s : Nat) (m : List Int), vs = .int .i64 s ∧ 0 < s ∧ s ≤ 2 * n + 20 ∧ n ≤ s + g1 ∧ Hid (SW C w0 wr m) ∧ Hid (St.passr C.K n s m = St.stable C.K n l))
      case atStart => exact ⟨20, m2, rfl, by omega, by omega, by omega, HS, HE2⟩
      case round =>
        clear HS HE2
        obtain ⟨s, mm, rfl, hs0, hs1, hg, HS, HE⟩ := hrel
        by_cases hlt : s < n
        · have hz : (s : Int) < (n : Int) := by omega
          have HP : Hid (St.passr C.K n (2 * s) (St.mrgr C.K n s 0 mm) = St.stable C.K n l) := Lib.hid (by rw [← HE.out, St.passr_go C.K n s mm hs0 hlt])
          clear HE
          have b1 : (0 : Int) ≤ 2 * (s : Int) ∧ 2 * (s : Int) < 1000 := by omega
          have b2 : IntKind.i64.wrap (2 * (s : Int)) = 2 * (s : Int) := by rw [IntKind.wrap_i64]; omega
          go_wp2
          go_loopg [7, 8] n (fun g2 va vb wr => ∃ (a : Nat) (m : List Int), va = .int .i64 a ∧ vb = .int .i64 (a + 2 * s : Nat) ∧ a ≤ n ∧ n ≤ a + g2 ∧ Hid (SW C w0 wr m) ∧ Hid (St.mrgr C.K n s a m = St.mrgr C.K n s 0 mm))
          case atStart => exact ⟨0, mm, rfl, by go_num, by omega, by omega, HS, rfl⟩
          case round =>
            clear HS
            obtain ⟨a, m, rfl, rfl, ha, hg2, HS, HM⟩ := hrel
            by_cases h2 : a + 2 * s ≤ n
            · have hz3 : ((a + 2 * s : Nat) : Int) ≤ (n : Int) := by omega
              have hz3' : (a : Int) + 2 * (s : Int) ≤ (n : Int) := by omega
              have CI := Lib.hid (sym_z C HC.out (a : Int) ((a : Int) + (s : Int)) ((a : Int) + 2 * (s : Int)) a (a + s) (a + 2 * s) rfl (by omega) (by omega) w0 wr m HS.out (by omega) (by omega) (by have := HN.out; omega))
              rw [← HN.out] at CI
              have HM2 : Hid (St.mrgr C.K n s (a + 2 * s) (St.symM C.K n a (a + s) (a + 2 * s) m) = St.mrgr C.K n s 0 mm) := Lib.hid (by rw [← HM.out, St.mrgr_go C.K n s a m hs0 h2])
              clear HM HS
              go_wp2_with (go_at_call 26; refine CI.out.mono ?_; rintro e' w2 ⟨rfl, S2⟩; have HS2 := Lib.hid S2; clear S2)
              go_roundg (gk - 1)
              case measure => omega
              case rel => exact ⟨a + 2 * s, _, by go_num, by go_num, by omega, by omega, HS2, HM2⟩
            · have hz3 : ¬ ((a + 2 * s : Nat) : Int) ≤ (n : Int) := by omega
              have hz3' : ¬ (a : Int) + 2 * (s : Int) ≤ (n : Int) := by omega
              have hz4 : (n : Int) < (a : Int) + 2 * (s : Int) := by omega
              by_cases h3 : a + s < n
              · have hz5 : (a : Int) + (s : Int) < (n : Int) := by omega
                have CI := Lib.hid (sym_z C HC.out (a : Int) ((a : Int) + (s : Int)) (n : Int) a (a + s) n rfl (by omega) rfl w0 wr m HS.out (by omega) (by omega) (by have := HN.out; omega))
                rw [← HN.out] at CI
                have HP2 : Hid (St.passr C.K n (2 * s) (St.symM C.K n a (a + s) n m) = St.stable C.K n l) := Lib.hid (by rw [← HP.out, ← HM.out, St.mrgr_end C.K n s a m h2, if_pos h3])
                clear HM HS HP
                go_wp2_with (go_at_call 26; refine CI.out.mono ?_; rintro e' w2 ⟨rfl, S2⟩; have HS2 := Lib.hid S2; clear S2)
                go_roundg (n - 2 * s)
                case measure => omega
                case rel => exact ⟨2 * s, _, by go_num, by omega, by omega, by omega, HS2, HP2⟩
              · have hz5 : ¬ (a : Int) + (s : Int) < (n : Int) := by omega
                have HP2 : Hid (St.passr C.K n (2 * s) m = St.stable C.K n l) := Lib.hid (by rw [← HP.out, ← HM.out, St.mrgr_end C.K n s a m h2, if_neg h3])
                clear HM HP
                go_wp2
                go_roundg (n - 2 * s)
                case measure => omega
                case rel => exact ⟨2 * s, _, by go_num, by omega, by omega, by omega, HS, HP2⟩
        · have hz : ¬ (s : Int) < (n : Int) := by omega
          have HF : Hid (mm = St.stable C.K n l) := Lib.hid (by rw [← HE.out, St.passr_end C.K n s mm hlt])
          go_wp2
          go_end0
          exact ⟨rfl, by rw [← HF.out]; exact HS.out⟩

theorem sortStable_any (C : Ctx) (hC : CtxOk C) (w0 w : World) (l : List Int) (S0 : SW C w0 w l) :
    Calls Try.prog 22 #[.slice (some ⟨C.g, 0, none⟩) C.n C.cap, .func (.func 23) #[.slice (some ⟨C.b, C.off, none⟩) C.N C.cf] #[]] w fun e w' => e = .returned (.tuple #[]) ∧ SW C w0 w' (St.stable C.K C.n l) := by
  have CI := Lib.hid (stable_any C hC w0 w l S0)
  clear S0
  go_enter Try.func22, Try.ntmps22
  go_wp2_with (go_at_call 24; refine CI.out.mono ?_; rintro e' w2 ⟨rfl, S2⟩; have HS2 := Lib.hid S2; clear S2)
  go_end0
  exact ⟨rfl, HS2.out⟩
end Go.Proofs.Ytknahgdeagcghaa
