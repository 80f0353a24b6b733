/- The walk of TokensAlone. -/
import Derived.Test.YtembgdjdljflhaaQ
import Derived.Test.YtembgdjdljflhaaA2
import Derived.Deep.RegionHeld3
import Derived.Deep.CutRange
namespace Go.Proofs.Ytembgdjdljflhaa.tokensAlone
open Go.RowKit
set_option linter.unusedVariables false
set_option linter.unusedSimpArgs false

theorem TokS.drew {w0 w : World} {b : Nat} {l : List TRow} (h : TokS w0 w b l) : TokS w0 w.drew b l := by
  obtain ⟨v, base, h1, h2, h3, h4, h5⟩ := h
  exact ⟨v, base, h1.drew, h2, h3, h4, h5.drew⟩

theorem TokS.drewN {w0 w : World} {b : Nat} {l : List TRow} (h : TokS w0 w b l) (n : Nat) : TokS w0 (w.drewN n) b l := by
  induction n with
  | zero => exact h
  | succ n ih => exact TokS.drew ih

set_option maxHeartbeats 8000000 in
set_option maxRecDepth 100000 in
theorem walk (a0 : Option Addr) (len0 cap0 : Nat) (f0 : Nat → TRow) (W : World) (w0 : len0 ≤ maxLen ∧ DeedsAt W W.heap.size a0 len0 f0) :
    Calls Try.prog 3 #[.slice a0 len0 cap0] W fun e W' => e = .returned (.bool true) ∧ Below W.heap.size W W' := by
  obtain ⟨hlen, hd⟩ := w0
  have CA := Lib.hid (awake_any W)
  have HD := Lib.hid hd
  clear hd
  by_cases h150 : 150 < len0
  · go_enter Try.func3, Try.ntmps3
    go_wp2_with fail
    refine CA.out.mono ?_
    rintro e w1 ⟨rfl, hb1⟩
    go_wp2
    go_ret
    exact ⟨rfl, hb1⟩
  · go_enter Try.func3, Try.ntmps3
    go_wp2_with fail
    refine CA.out.mono ?_
    rintro e w1 ⟨rfl, hb1⟩
    have CN := Lib.hid (new_s W w1 hb1)
    clear hb1 CA
    go_wp2_with fail
    refine CN.out.mono ?_
    rintro e w2 ⟨rfl, ht2, _⟩
    generalize w1.heap.size = b at *
    have HT := Lib.hid ht2
    clear CN ht2
    go_wp2
    go_loopg [4, 5, 6, 7, 8] len0 (fun g' s4 _ _ _ _ wr => ∃ (j : Nat) (l : List TRow), s4 = .int .i64 j ∧ j ≤ len0 ∧ len0 ≤ j + g' ∧ l.length ≤ j ∧ Hid (TokS W wr b l) ∧ Hid (Good l))
    case atStart => exact ⟨0, [], rfl, by omega, by omega, by simp, HT.out, good_nil⟩
    case round =>
      obtain ⟨j, l, rfl, hj, hjg, hlj, HS, HG⟩ := hrel
      by_cases hlt : j < len0
      · rcases HD.out with h0 | ⟨g, o, rfl, hg, hc⟩
        · omega
        have hjz : (j : Int) < (len0 : Int) := by omega
        have hjz0 : (0 : Int) ≤ (j : Int) := by omega
        have hjz1 : (j : Int).toNat = j := by omega
        obtain ⟨r, hr, c0, c1, c2, c3, d1, d2, d3⟩ : ∃ r, f0 j = r ∧ wr.cell? ⟨g, o + j * 4, none⟩ = some (.int .i64 r.c) ∧ wr.cell? ⟨g, o + j * 4 + 1, none⟩ = some (.int .i64 r.h) ∧
            wr.cell? ⟨g, o + j * 4 + 2, none⟩ = some (.int .i64 r.i) ∧ wr.cell? ⟨g, o + j * 4 + 3, none⟩ = some (.bool r.b) ∧
            W.cell? ⟨g, o + j * 4 + 1, none⟩ = some (.int .i64 r.h) ∧ W.cell? ⟨g, o + j * 4 + 2, none⟩ = some (.int .i64 r.i) ∧ W.cell? ⟨g, o + j * 4 + 3, none⟩ = some (.bool r.b) := by
          obtain ⟨c0, c1, c2, c3⟩ := hc j hlt
          have hb := HS.out.bel
          exact ⟨_, rfl, (hb.cell (p := ⟨g, o + j * 4, none⟩) hg).trans c0, (hb.cell (p := ⟨g, o + j * 4 + 1, none⟩) hg).trans c1, (hb.cell (p := ⟨g, o + j * 4 + 2, none⟩) hg).trans c2, (hb.cell (p := ⟨g, o + j * 4 + 3, none⟩) hg).trans c3, c1, c2, c3⟩
        clear hc hr
        have CO : Hid (∀ X, TokS W X b l → Calls Try.prog 10 #[.pointer (some ⟨b, 0, none⟩), .int .i64 r.h, .int .i64 r.i, .bool r.b] X fun e w' => (∃ z1 z2 : Int, e = .returned (.tuple #[.int .i64 z1, .int .i64 z2])) ∧ Hid (TokS W w' b (openR l r.h r.i r.b).2.2)) := by
          intro X hX
          refine (open_s hX (by omega) r.h r.i r.b).mono ?_
          rintro e w' ⟨rfl, h1, _⟩
          exact ⟨⟨_, _, rfl⟩, h1⟩
        have CC : Hid (∀ X, TokS W X b l → Calls Try.prog 11 #[.pointer (some ⟨b, 0, none⟩), .int .i64 r.h, .int .i64 r.i] X fun e w' => (∃ z1 : Int, e = .returned (.int .i64 z1)) ∧ Hid (TokS W w' b (closeL l (find l r.h r.i)))) := by
          intro X hX
          refine (close_s hX r.h r.i).mono ?_
          rintro e w' ⟨rfl, h1, _⟩
          exact ⟨⟨_, rfl⟩, h1⟩
        go_upto_if 28 with (fail)
        go_cut [] from 17 to 161 (fun wx => ∃ l2 : List TRow, l2.length ≤ j + 1 ∧ Hid (TokS W wx b l2) ∧ Hid (Good l2))
        case first =>
          by_cases h4 : r.c ≤ 4
          · go_wp2
            go_region_held3 (fun w' => w'.cell? ⟨g, o + j * 4 + 1, none⟩ = some (.int .i64 r.h) ∧ w'.cell? ⟨g, o + j * 4 + 2, none⟩ = some (.int .i64 r.i) ∧ w'.cell? ⟨g, o + j * 4 + 3, none⟩ = some (.bool r.b))
              (first
                | go_keep
                | exact ⟨e1, e2, e3⟩)
              (first
                | (go_at_call 10; refine (CO.out _ (by first | exact HS.out | exact TokS.drew HS.out)).mono ?_; rintro e w5 ⟨⟨y1, y2, rfl⟩, HS5⟩
                   have e1 := (World.cell?_of_block (w := W) (a := ⟨g, o + j * 4 + 1, none⟩) (HS5.out.bel.block g hg)).trans d1
                   have e2 := (World.cell?_of_block (w := W) (a := ⟨g, o + j * 4 + 2, none⟩) (HS5.out.bel.block g hg)).trans d2
                   have e3 := (World.cell?_of_block (w := W) (a := ⟨g, o + j * 4 + 3, none⟩) (HS5.out.bel.block g hg)).trans d3))
            all_goals
              go_wp2
              go_meet
              first
                | exact ⟨_, Nat.le_trans (open_len _ _ _ _) (by omega), HS5.out, HG.out.opens _ _ _⟩
                | exact ⟨_, Nat.le_trans (open_len _ _ _ _) (by omega), TokS.drew HS5.out, HG.out.opens _ _ _⟩
          · by_cases h6 : r.c ≤ 6
            · go_wp2
              go_region_held3 (fun w' => w'.cell? ⟨g, o + j * 4 + 1, none⟩ = some (.int .i64 r.h) ∧ w'.cell? ⟨g, o + j * 4 + 2, none⟩ = some (.int .i64 r.i))
                (first
                  | go_keep
                  | exact ⟨e1, e2⟩)
                (first
                  | (go_at_call 11; refine (CC.out _ (by first | exact HS.out | exact TokS.drew HS.out)).mono ?_; rintro e w5 ⟨⟨y1, rfl⟩, HS5⟩
                     have e1 := (World.cell?_of_block (w := W) (a := ⟨g, o + j * 4 + 1, none⟩) (HS5.out.bel.block g hg)).trans d1
                     have e2 := (World.cell?_of_block (w := W) (a := ⟨g, o + j * 4 + 2, none⟩) (HS5.out.bel.block g hg)).trans d2))
              all_goals
                go_wp2
                go_meet
                first
                  | exact ⟨_, Nat.le_trans (close_len _ _) (by omega), HS5.out, HG.out.close _ _⟩
                  | exact ⟨_, Nat.le_trans (close_len _ _) (by omega), TokS.drew HS5.out, HG.out.close _ _⟩
            · go_wp2
              go_meet
              exact ⟨l, by omega, HS.out, HG.out⟩
        case rest =>
          obtain ⟨l2, hl2, HS2, HG2⟩ := hcut
          have CR := Lib.hid (rows_s HS2.out)
          go_wp2_with fail
          refine CR.out.mono ?_
          rintro e w5 ⟨a5, c5, rfl, hr5, HS5, _⟩
          have HR5 := Lib.hid hr5
          have HS6 := Lib.hid HS5
          have hl150 : l2.length ≤ 151 := by omega
          clear hr5 HS5 CR HS2
          go_wp2
          obtain ⟨gko, rfl⟩ : ∃ gko : Nat, gko = gk := ⟨_, rfl⟩
          go_loopg [6, 7, 8] l2.length (fun g' s6 _ _ wr => ∃ (p n : Nat), s6 = .int .i64 p ∧ p ≤ l2.length ∧ l2.length ≤ p + g' ∧ wr = w5.drewN n)
          case atStart => exact ⟨0, 0, rfl, by omega, by omega, rfl⟩
          case round =>
            obtain ⟨p, n, rfl, hp, hpg, rfl⟩ := hrel
            by_cases hpl : p < l2.length
            · rcases HR5.out with h0 | ⟨g5, rfl, hg5, hc5⟩
              · omega
              have H5 := Lib.hid hc5
              clear hc5
              obtain ⟨rp, hrp⟩ : ∃ rp, l2.getD p default = rp := ⟨_, rfl⟩
              have HRP := Lib.hid hrp
              obtain ⟨a0, a1, a2, a3⟩ := H5.out p hpl
              simp only [hrp] at a0 a1 a2 a3
              have hrng := HG2.out.rng rp (by rw [← hrp, getD_getElem l2 p hpl]; exact List.getElem_mem hpl)
              have hpz : (p : Int) < (l2.length : Int) := by omega
              have hpz1 : (p : Int).toNat = p := by omega
              obtain ⟨cf, hcf⟩ : ∃ cf : Nat → Nat, cf = cm l2 rp.c := ⟨_, rfl⟩
              have hcf0 : cf 0 = 0 := by rw [hcf]; simp [cm]
              have CF4 : Hid (∀ q, cf q ≤ 4) := fun q => by rw [hcf]; exact HG2.out.few4 _ q
              have CFS : Hid (∀ q, q < l2.length → cf (q + 1) = cf q + if (l2.getD q default).c = rp.c then 1 else 0) := fun q hq => by rw [hcf]; exact cm_succ l2 rp.c q hq
              clear hrp hcf
              go_wp2
              obtain ⟨gko2, rfl⟩ : ∃ gko2 : Nat, gko2 = gk := ⟨_, rfl⟩
              go_loopg [7, 8] l2.length (fun g' s7 s8 wr => ∃ (q n : Nat), s8 = .int .i64 q ∧ q ≤ l2.length ∧ l2.length ≤ q + g' ∧ s7 = .int .i64 (cf q) ∧ wr = w5.drewN n)
              case atStart => exact ⟨0, n, rfl, by omega, by omega, by rw [hcf0]; rfl, rfl⟩
              case round =>
                obtain ⟨q, n, rfl, hq, hqg, rfl, rfl⟩ := hrel
                have hc4 := CF4.out q
                by_cases hql : q < l2.length
                · obtain ⟨rq, hrq⟩ : ∃ rq, l2.getD q default = rq := ⟨_, rfl⟩
                  obtain ⟨b0, b1, b2, b3⟩ := H5.out q hql
                  simp only [hrq] at b0 b1 b2 b3
                  have HFS := Lib.hid (CFS.out q hql)
                  rw [hrq] at HFS
                  have hqz : (q : Int) < (l2.length : Int) := by omega
                  have hqz1 : (q : Int).toNat = q := by omega
                  have HRQ := Lib.hid hrq
                  clear hrq
                  have hfacts : (((p : Int) != (q : Int)) = false) ∨ (((p : Int) != (q : Int)) = true ∧ (rp.i == rq.i) = false ∧ ((rp.c == rq.c) = true → (rp.h == rq.h) = false)) ∨
                      (((p : Int) != (q : Int)) = true ∧ (rp.i == rq.i) = true ∧ rp.b = false ∧ rq.b = false ∧ ((rp.c == rq.c) = true → (rp.h == rq.h) = false)) := by
                    by_cases hpq : p = q
                    · left; rw [hpq]; simp
                    · have hg := HG2.out.pair p q hpl hql hpq
                      rw [HRP.out, HRQ.out] at hg
                      obtain ⟨g1, g2⟩ := hg
                      have hne : ((p : Int) != (q : Int)) = true := by rw [bne_iff_ne]; omega
                      have hh : (rp.c == rq.c) = true → (rp.h == rq.h) = false := by
                        intro hc
                        rw [beq_iff_eq] at hc
                        rw [beq_eq_false_iff_ne]
                        exact fun hx => g2 ⟨hc, hx⟩
                      by_cases hi : rp.i = rq.i
                      · obtain ⟨k1, k2⟩ := g1 hi
                        exact .inr (.inr ⟨hne, by rw [beq_iff_eq]; exact hi, k1, k2, hh⟩)
                      · exact .inr (.inl ⟨hne, by rw [beq_eq_false_iff_ne]; exact hi, hh⟩)
                  have hccs : ((rq.c == rp.c) = true ∧ (rp.c == rq.c) = true ∧ Hid (cf (q + 1) = cf q + 1)) ∨ ((rq.c == rp.c) = false ∧ (rp.c == rq.c) = false ∧ Hid (cf (q + 1) = cf q)) := by
                    have hx := HFS.out
                    by_cases hcc : rq.c = rp.c
                    · rw [if_pos hcc] at hx
                      exact .inl ⟨by rw [beq_iff_eq]; exact hcc, by rw [beq_iff_eq]; exact hcc.symm, hx⟩
                    · rw [if_neg hcc] at hx
                      exact .inr ⟨by rw [beq_eq_false_iff_ne]; exact hcc, by rw [beq_eq_false_iff_ne]; exact fun h => hcc h.symm, hx⟩
                  clear HFS HRQ
                  rcases hccs with ⟨hc1, hc2, HN⟩ | ⟨hc1, hc2, HN⟩
                  all_goals
                    rcases hfacts with hf1 | ⟨hf1, hf2, hf3⟩ | ⟨hf1, hf2, hf4, hf5, hf3⟩
                    all_goals
                      try (have hf6 := hf3 hc2; clear hf3)
                      try clear hf3
                      go_wp2
                      go_quiet (fail)
                      go_wp2
                      go_quiet (fail)
                      go_wp2
                      go_roundg (gk - 1)
                      case measure => omega
                      case rel => exact ⟨q + 1, _, by go_num, by omega, by omega, by rw [HN.out] <;> go_num, rfl⟩
                · have hq9 : q = l2.length := by omega
                  have hx4 : decide ((4 : Int) < (cf q : Int)) = false := by simp; omega
                  have hx5 : decide ((4 : Int) ≤ rp.h) = false := by simp; omega
                  have HQ9 := Lib.hid hq9
                  clear hq9
                  go_wp2
                  go_roundg (gko2 - 1)
                  case measure => omega
                  case rel => exact ⟨p + 1, _, by go_num, by omega, by omega, rfl⟩
            · go_wp2
              go_roundg (gko - 1)
              case measure => omega
              case rel => exact ⟨j + 1, l2, rfl, by omega, by omega, by omega, TokS.drewN HS6.out n, HG2.out⟩
      · go_wp2
        go_ret
        exact ⟨rfl, HS.out.bel⟩
end Go.Proofs.Ytembgdjdljflhaa.tokensAlone
