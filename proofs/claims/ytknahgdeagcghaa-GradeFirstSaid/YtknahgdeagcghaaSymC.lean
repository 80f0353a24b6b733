/- slices.symMergeCmpFunc over the places: the third way, and all of it. -/
import Derived.Test.YtknahgdeagcghaaSymB
import Derived.Deep.CutBlock
import Derived.Deep.DeepCutAuto
namespace Go.Proofs.Ytknahgdeagcghaa
open Go.RowKit Fl
set_option linter.unusedVariables false
set_option linter.unusedSimpArgs false

/-- What the call of itself does. -/
def SymAt (C : Ctx) (f : Nat) : Prop := ∀ (a m b : Nat) (w0 w : World) (l : List Int), SW C w0 w l → a < m → m < b → b ≤ C.n → b - a ≤ f →
  Calls Try.prog 26 #[.slice (some ⟨C.g, 0, none⟩) C.n C.cap, .int .i64 a, .int .i64 m, .int .i64 b, .func (.func 23) #[.slice (some ⟨C.b, C.off, none⟩) C.N C.cf] #[]] w fun e w' => e = .returned (.tuple #[]) ∧ SW C w0 w' (St.symM C.K f a m b l)

theorem rotate_z (C : Ctx) (hC : CtxOk C) (a m b : Nat) (w0 w : World) (l : List Int) (S0 : SW C w0 w l) (ham : a < m) (hmb : m < b) (hb : b ≤ C.n) :
    Calls Try.prog 27 #[.slice (some ⟨C.g, 0, none⟩) C.n C.cap, .int .i64 a, .int .i64 m, .int .i64 b, .func (.func 23) #[.slice (some ⟨C.b, C.off, none⟩) C.N C.cf] #[]] w fun e w' => e = .returned (.tuple #[]) ∧ SW C w0 w' (St.rotate a m b l) := rotate_any C hC a m b w0 w l S0 ham hmb hb

set_option maxHeartbeats 8000000 in
set_option maxRecDepth 100000 in
theorem sym3 (C : Ctx) (hC : CtxOk C) (f a m b : Nat) (IH : SymAt C f) (w0 w : World) (l : List Int) (S0 : SW C w0 w l) (hm : m ≠ a + 1) (ham : a < m) (hbm : b ≠ m + 1) (hmb : m < b) (hb : b ≤ C.n) (hf : b - a ≤ f + 1) :
    Calls Try.prog 26 #[.slice (some ⟨C.g, 0, none⟩) C.n C.cap, .int .i64 a, .int .i64 m, .int .i64 b, C.cv] w fun e w' => e = .returned (.tuple #[]) ∧ SW C w0 w' (St.symM C.K (f + 1) a m b l) := by
  have HS := Lib.hid S0
  have HC := Lib.hid hC
  have HI := Lib.hid IH
  have hn := hC.n
  have t1 : ((m : Int) - (a : Int) == 1) = false := by simp; omega
  have t2 : ((b : Int) - (m : Int) == 1) = false := by simp; omega
  obtain ⟨mid, hmid⟩ : ∃ mid, mid = (a + b) / 2 := ⟨_, rfl⟩
  obtain ⟨n, hnn⟩ : ∃ n, n = mid + m := ⟨_, rfl⟩
  obtain ⟨p, hpp⟩ : ∃ p, p = n - 1 := ⟨_, rfl⟩
  obtain ⟨s0, hs0⟩ : ∃ s0, s0 = if mid < m then n - b else a := ⟨_, rfl⟩
  obtain ⟨r0, hr0⟩ : ∃ r0, r0 = if mid < m then mid else m := ⟨_, rfl⟩
  obtain ⟨P, hP⟩ : ∃ P : Nat → Bool, P = fun c => !St.lt C.K (l.getD (n - 1 - c) 0) (l.getD c 0) := ⟨_, rfl⟩
  have HE : Hid (∀ i, St.bsr P s0 r0 = i → ∀ L1 L2 L3, L1 = (if i < m ∧ m < n - i then St.rotate i m (n - i) l else l) → L2 = (if a < i ∧ i < mid then St.symM C.K f a i mid L1 else L1) →
      L3 = (if mid < n - i ∧ n - i < b then St.symM C.K f mid (n - i) b L2 else L2) → St.symM C.K (f + 1) a m b l = L3) := Lib.hid (by
    intro i hi L1 L2 L3 h1 h2 h3
    subst h3 h2 h1 hi hP hs0 hr0 hnn hmid
    conv => lhs; unfold St.symM
    rw [if_neg (by omega), if_neg (by omega)])
  have HP := Lib.hid hP
  have F1 : a ≤ s0 ∧ s0 ≤ r0 ∧ r0 ≤ m ∧ r0 ≤ mid ∧ m + r0 ≤ n ∧ mid + r0 ≤ n ∧ n ≤ b + s0 := by
    subst hs0 hr0
    split <;> omega
  have eh : ((a : Int) + (b : Int)) / 2 = (mid : Int) := by omega
  have en : (mid : Int) + (m : Int) = (n : Int) := by omega
  have ep : (n : Int) - 1 = (p : Int) := by omega
  have hmid2 : a < mid ∧ mid < b := by omega
  have CS : (mid < m ∧ (n : Int) - (b : Int) = (s0 : Int) ∧ (mid : Int) = (r0 : Int)) ∨ (¬ mid < m ∧ (a : Int) = (s0 : Int) ∧ (m : Int) = (r0 : Int)) := by
    subst hs0 hr0
    by_cases c : mid < m
    · left; rw [if_pos c, if_pos c]; omega
    · right; rw [if_neg c, if_neg c]; omega
  have HCS := Lib.hid CS
  have HM := Lib.hid (And.intro hmid (And.intro hnn hpp))
  clear S0 hC IH CS hP hs0 hr0 hmid hnn hpp
  obtain ⟨g1, g2, g3, g4, g5, g6, g7⟩ := F1
  unfold Ctx.cv
  go_enter Try.func26, Try.ntmps26
  go_upto_if 140 with (fail)
  go_cut [20, 21] (fun s r wx => s = .int .i64 (s0 : Int) ∧ r = .int .i64 (r0 : Int) ∧ wx = w)
  case first => as_aux_lemma =>
    rcases HCS.out with ⟨c1, c2, c3⟩ | ⟨c1, c2, c3⟩
    all_goals
      have H2 := Lib.hid c2
      have H3 := Lib.hid c3
      clear c2 c3
    · have c4 : (mid : Int) < (m : Int) := by omega
      have c5 : decide ((m : Int) > (mid : Int)) = true := decide_eq_true (by omega)
      go_wp2
      go_meet
      exact ⟨by have := H2.out; go_num, by have := H3.out; go_num, rfl⟩
    · have c4 : ¬ (mid : Int) < (m : Int) := by omega
      have c5 : decide ((m : Int) > (mid : Int)) = false := decide_eq_false (by omega)
      go_wp2
      go_meet
      exact ⟨by have := H2.out; go_num, by have := H3.out; go_num, rfl⟩
  case rest => as_aux_lemma =>
    obtain ⟨rfl, rfl, rfl⟩ := hcut
    go_upto_if 151 with (fail)
    go_loopg [20, 21] (r0 - s0) (fun g1 vi vj wr => ∃ (i j : Nat), vi = .int .i64 i ∧ vj = .int .i64 j ∧ s0 ≤ i ∧ i ≤ j ∧ j ≤ r0 ∧ j ≤ i + g1 ∧ Hid (SW C w0 wr l) ∧ Hid (St.bsr P i j = St.bsr P s0 r0))
    case atStart => exact ⟨s0, r0, rfl, rfl, by omega, by omega, by omega, by omega, HS, rfl⟩
    case round => as_aux_lemma =>
      clear HS
      obtain ⟨i, j, rfl, rfl, hmi, hij, hjb, hg, HS, HB⟩ := hrel
      by_cases hlt : i < j
      · have hz : (i : Int) < (j : Int) := by omega
        obtain ⟨h, hh⟩ : ∃ h, h = (i + j) / 2 := ⟨_, rfl⟩
        obtain ⟨q, hq⟩ : ∃ q, q = p - h := ⟨_, rfl⟩
        have hm := HM.out
        have eh : ((i : Int) + (j : Int)) / 2 = (h : Int) := by omega
        have eq : (p : Int) - (h : Int) = (q : Int) := by omega
        have hqn : q = n - 1 - h := by omega
        have q1 : q < C.n := by omega
        clear hm
        have h0 : (0 : Int) ≤ (h : Int) := by omega
        have h1 : (h : Int) < (C.n : Int) := by omega
        have h2 : (q : Int) < (C.n : Int) := by omega
        have h3 : (0 : Int) ≤ (q : Int) := by omega
        have h4 : (h : Int).toNat = h := by omega
        have h5 : (q : Int).toNat = q := by omega
        obtain ⟨x, hx⟩ : ∃ x, x = l.getD q 0 := ⟨_, rfl⟩
        obtain ⟨y, hy⟩ : ∃ y, y = l.getD h 0 := ⟨_, rfl⟩
        have c1 := HS.out.row.cell q (by omega)
        have c2 := HS.out.row.cell h (by omega)
        have CM := Lib.hid (HS.out.cmp HC.out x y (by rw [hx]; exact HS.out.at _ (by omega)) (by rw [hy]; exact HS.out.at _ (by omega)))
        have hlv := cmpI_lt C.K x y
        have hp : P ((i + j) / 2) = !St.lt C.K x y := by rw [HP.out, hx, hy, ← hh, hqn]
        have hyes := St.bsr_yes P i j hlt
        have hno := St.bsr_no P i j hlt
        rw [← hx] at c1
        rw [← hy] at c2
        rw [hp, HB.out, ← hh] at hyes hno
        have hb1 : s0 ≤ h ∧ h < j ∧ i ≤ h ∧ j ≤ 2 * h + 1 - i := by omega
        have HY := Lib.hid hyes
        have HN := Lib.hid hno
        clear hx hy hp hyes hno hh hq hqn
        generalize cmpI C.K x y = cv at CM hlv
        cases hv : St.lt C.K x y with
        | true =>
          rw [hv] at hlv HN
          clear hv
          go_wp2
          go_quiet ((go_at_call 23; exact Calls.quiet_of (CM.out _ ⟨_, rfl⟩)))
          have S2 := Lib.hid (HS.out.drewN nq)
          clear c1 c2 CM hlv HS eh eq
          generalize wr.drewN nq = w2 at S2 ⊢
          go_wp2
          go_roundg (gk - 1)
          case measure => omega
          case rel => exact ⟨i, h, rfl, rfl, by omega, by omega, by omega, by omega, S2, (HN.out (by rfl)).symm⟩
        | false =>
          rw [hv] at hlv HY
          clear hv
          go_wp2
          go_quiet ((go_at_call 23; exact Calls.quiet_of (CM.out _ ⟨_, rfl⟩)))
          have S2 := Lib.hid (HS.out.drewN nq)
          clear c1 c2 CM hlv HS eh eq
          generalize wr.drewN nq = w2 at S2 ⊢
          go_wp2
          go_roundg (gk - 1)
          case measure => omega
          case rel => exact ⟨h + 1, j, by go_num, rfl, by omega, by omega, by omega, by omega, S2, (HY.out (by rfl)).symm⟩
      · obtain rfl : i = j := by omega
        have hb := HB.out
        rw [St.bsr_end _ _ _ (Nat.le_refl _)] at hb
        have HB2 := Lib.hid hb
        obtain ⟨e, he⟩ : ∃ e, e = n - i := ⟨_, rfl⟩
        have ee : (n : Int) - (i : Int) = (e : Int) := by omega
        obtain ⟨L1, h1⟩ : ∃ L1, L1 = (if i < m ∧ m < n - i then St.rotate i m (n - i) l else l) := ⟨_, rfl⟩
        obtain ⟨L2, h2⟩ : ∃ L2, L2 = (if a < i ∧ i < mid then St.symM C.K f a i mid L1 else L1) := ⟨_, rfl⟩
        obtain ⟨L3, h3⟩ : ∃ L3, L3 = (if mid < n - i ∧ n - i < b then St.symM C.K f mid (n - i) b L2 else L2) := ⟨_, rfl⟩
        have HF := Lib.hid (HE.out i hb.symm L1 L2 L3 h1 h2 h3)
        rw [← he] at h1 h3
        have k1 : e ≤ b ∧ m ≤ e ∧ mid ≤ e := by omega
        have H1 := Lib.hid h1
        have H2 := Lib.hid h2
        have H3 := Lib.hid h3
        clear h1 h2 h3 hb HB he HE
        have hm' : i ≤ m ∧ i ≤ mid := by omega
        clear hg hjb hij
        have hmN : m ≤ C.n ∧ mid ≤ C.n := by omega
        have k2 : mid - a ≤ f ∧ b - mid ≤ f := by omega
        obtain ⟨W0, hW0⟩ : ∃ W0, W0 = wr := ⟨_, rfl⟩
        rw [← hW0] at HS
        go_upto_region 39 with (fail)
        rw [← hW0]
        clear hW0
        go_cut [185] (fun s wx => ∃ t : Bool, s = .bool t ∧ Hid (t = decide (i < m ∧ m < e)) ∧ wx = W0)
        case first => as_aux_lemma =>
          by_cases q1 : i < m
          · have z1 : (i : Int) < (m : Int) := by omega
            by_cases q2 : m < e
            · have z2 : (m : Int) < (e : Int) := by omega
              have HQ := Lib.hid (show true = decide (i < m ∧ m < e) from (decide_eq_true ⟨q1, q2⟩).symm)
              go_wp2
              go_meet
              exact ⟨true, rfl, HQ, rfl⟩
            · have z2 : ¬ (m : Int) < (e : Int) := by omega
              have HQ := Lib.hid (show false = decide (i < m ∧ m < e) from (decide_eq_false (fun h => q2 h.2)).symm)
              go_wp2
              go_meet
              exact ⟨false, rfl, HQ, rfl⟩
          · have z1 : ¬ (i : Int) < (m : Int) := by omega
            have HQ := Lib.hid (show false = decide (i < m ∧ m < e) from (decide_eq_false (fun h => q1 h.1)).symm)
            go_wp2
            go_meet
            exact ⟨false, rfl, HQ, rfl⟩
        case rest => as_aux_lemma =>
          obtain ⟨t, rfl, HT, rfl⟩ := hcut
          go_upto_if 185 with (fail)
          go_cut [] (fun wx => Hid (SW C w0 wx L1))
          case first => as_aux_lemma =>
            cases t with
            | true =>
              have q := of_decide_eq_true HT.out.symm
              have CR := Lib.hid (rotate_z C HC.out i m e w0 wc l HS.out q.1 q.2 (by omega))
              have HX := Lib.hid q
              clear q HT HS
              go_wp2_with (go_at_call 27; refine CR.out.mono ?_; rintro e' W1 ⟨rfl, S2⟩; have HS : Hid (SW C w0 W1 L1) := Lib.hid (by rw [H1.out, if_pos HX.out]; exact S2); clear S2)
              go_meet; exact HS
            | false =>
              have q := of_decide_eq_false HT.out.symm
              have HS2 : Hid (SW C w0 wc L1) := Lib.hid (by rw [H1.out, if_neg q]; exact HS.out)
              clear q HT HS
              go_wp2
              go_meet; exact HS2
          case rest => as_aux_lemma =>
            clear HS HT
            obtain ⟨W1, hW1⟩ : ∃ W0, W0 = wc := ⟨_, rfl⟩
            have HS : Hid (SW C w0 W1 L1) := by rw [hW1]; exact hcut
            clear hcut
            rw [← hW1]
            clear hW1
            go_upto_region 41 with (fail)
            go_cut [199] (fun s wx => ∃ t : Bool, s = .bool t ∧ Hid (t = decide (a < i ∧ i < mid)) ∧ wx = W1)
            case first => as_aux_lemma =>
              by_cases q1 : a < i
              · have z1 : (a : Int) < (i : Int) := by omega
                by_cases q2 : i < mid
                · have z2 : (i : Int) < (mid : Int) := by omega
                  have HQ := Lib.hid (show true = decide (a < i ∧ i < mid) from (decide_eq_true ⟨q1, q2⟩).symm)
                  go_wp2
                  go_meet
                  exact ⟨true, rfl, HQ, rfl⟩
                · have z2 : ¬ (i : Int) < (mid : Int) := by omega
                  have HQ := Lib.hid (show false = decide (a < i ∧ i < mid) from (decide_eq_false (fun h => q2 h.2)).symm)
                  go_wp2
                  go_meet
                  exact ⟨false, rfl, HQ, rfl⟩
              · have z1 : ¬ (a : Int) < (i : Int) := by omega
                have HQ := Lib.hid (show false = decide (a < i ∧ i < mid) from (decide_eq_false (fun h => q1 h.1)).symm)
                go_wp2
                go_meet
                exact ⟨false, rfl, HQ, rfl⟩
            case rest => as_aux_lemma =>
              obtain ⟨t, rfl, HT, rfl⟩ := hcut
              go_upto_if 199 with (fail)
              go_cut [] (fun wx => Hid (SW C w0 wx L2))
              case first => as_aux_lemma =>
                cases t with
                | true =>
                  have q := of_decide_eq_true HT.out.symm
                  have CR := Lib.hid (HI.out a i mid w0 wc L1 HS.out q.1 q.2 (by omega) (by omega))
                  have HX := Lib.hid q
                  clear q HT HS
                  go_wp2_with (go_at_call 26; refine CR.out.mono ?_; rintro e' W2 ⟨rfl, S2⟩; have HS : Hid (SW C w0 W2 L2) := Lib.hid (by rw [H2.out, if_pos HX.out]; exact S2); clear S2)
                  go_meet; exact HS
                | false =>
                  have q := of_decide_eq_false HT.out.symm
                  have HS2 : Hid (SW C w0 wc L2) := Lib.hid (by rw [H2.out, if_neg q]; exact HS.out)
                  clear q HT HS
                  go_wp2
                  go_meet; exact HS2
              case rest => as_aux_lemma =>
                clear HS HT
                obtain ⟨W2, hW2⟩ : ∃ W0, W0 = wc := ⟨_, rfl⟩
                have HS : Hid (SW C w0 W2 L2) := by rw [hW2]; exact hcut
                clear hcut
                rw [← hW2]
                clear hW2
                go_upto_region 43 with (fail)
                go_cut [213] (fun s wx => ∃ t : Bool, s = .bool t ∧ Hid (t = decide (mid < e ∧ e < b)) ∧ wx = W2)
                case first => as_aux_lemma =>
                  by_cases q1 : mid < e
                  · have z1 : (mid : Int) < (e : Int) := by omega
                    by_cases q2 : e < b
                    · have z2 : (e : Int) < (b : Int) := by omega
                      have HQ := Lib.hid (show true = decide (mid < e ∧ e < b) from (decide_eq_true ⟨q1, q2⟩).symm)
                      go_wp2
                      go_meet
                      exact ⟨true, rfl, HQ, rfl⟩
                    · have z2 : ¬ (e : Int) < (b : Int) := by omega
                      have HQ := Lib.hid (show false = decide (mid < e ∧ e < b) from (decide_eq_false (fun h => q2 h.2)).symm)
                      go_wp2
                      go_meet
                      exact ⟨false, rfl, HQ, rfl⟩
                  · have z1 : ¬ (mid : Int) < (e : Int) := by omega
                    have HQ := Lib.hid (show false = decide (mid < e ∧ e < b) from (decide_eq_false (fun h => q1 h.1)).symm)
                    go_wp2
                    go_meet
                    exact ⟨false, rfl, HQ, rfl⟩
                case rest => as_aux_lemma =>
                  obtain ⟨t, rfl, HT, rfl⟩ := hcut
                  cases t with
                  | true =>
                    have q := of_decide_eq_true HT.out.symm
                    have CR := Lib.hid (HI.out mid e b w0 wc L2 HS.out q.1 q.2 (by omega) (by omega))
                    have HX := Lib.hid q
                    clear q HT HS
                    go_wp2_with (go_at_call 26; refine CR.out.mono ?_; rintro e' W3 ⟨rfl, S2⟩; have HS : Hid (SW C w0 W3 L3) := Lib.hid (by rw [H3.out, if_pos HX.out]; exact S2); clear S2)
                    go_end0; exact ⟨rfl, by rw [HF.out]; exact HS.out⟩
                  | false =>
                    have q := of_decide_eq_false HT.out.symm
                    have HS2 : Hid (SW C w0 wc L3) := Lib.hid (by rw [H3.out, if_neg q]; exact HS.out)
                    clear q HT HS
                    go_wp2
                    go_end0; exact ⟨rfl, by rw [HF.out]; exact HS2.out⟩
end Go.Proofs.Ytknahgdeagcghaa
