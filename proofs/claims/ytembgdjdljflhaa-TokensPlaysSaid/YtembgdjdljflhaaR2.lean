/- The walk of Read. -/
import Derived.Test.YtembgdjdljflhaaR1
import Derived.Deep.AppendLies
import Derived.Deep.RegionHeld3
namespace Go.Proofs.Ytembgdjdljflhaa
open Go.RowKit
set_option linter.unusedVariables false
set_option linter.unusedSimpArgs false

theorem TokFrame.chg {w w' : World} {b : Nat} {v : Value} (h : TokFrame w w' b v) : W.Chg (b :: v.ownBlock.toList) w w' :=
  ⟨h.os, h.tape, h.output, h.size, fun k hk hn => h.block k hk (fun e => hn (by simp [e])) (fun e => hn (by rw [e]; simp))⟩
theorem IsTok.chg {w w' : World} {b base : Nat} {v : Value} {l : List TRow} {S : List Nat} (h : IsTok w b v base l) (hc : W.Chg S w w') (hS : ∀ x ∈ S, x < base) (hb : b ∉ S) : IsTok w' b v base l :=
  ⟨hc.keep h.head hb, W.row_keep h.rows (fun g hg => hc.block g (h.rows.lt g hg).2 (fun hm => by have := hS g hm; have := (h.rows.lt g hg).1; omega)), h.few⟩

/-- The row under way in block k, the eye in b. -/
structure St (wr X : World) (b g k : Nat) (cs : Array Value) (t : TypeId) (l : List UInt8) (bad : Int) : Prop where
  row : X.heap[k]? = some (.cells cs t (0, 0))
  eye : W.EyeAt X b g l bad
  chg : W.Chg [b] wr X
  new : wr.heap.size ≤ k
  nb : k ≠ b
  ng : k ≠ g
theorem St.call {wr X X' : World} {b g k : Nat} {cs : Array Value} {t : TypeId} {l l' : List UInt8} {bad bad' : Int} (h : St wr X b g k cs t l bad) (he : W.EyeAt X' b g l' bad') (hc : W.Chg [b] X X') : St wr X' b g k cs t l' bad' :=
  ⟨hc.keep h.row (by simp; exact h.nb), he, h.chg.trans hc (fun x hx => .inl hx), h.new, h.nb, h.ng⟩
theorem St.store {wr X : World} {b g k : Nat} {cs : Array Value} {t : TypeId} {l : List UInt8} {bad : Int} (h : St wr X b g k cs t l bad) (j : Nat) (u : Value) : St wr (X.setCell ⟨k, j, none⟩ u) b g k (cs.setIfInBounds j u) t l bad :=
  ⟨set_blk h.row, h.eye.keep ((W.Chg.refl [k] X).setCell (p := ⟨k, j, none⟩) (.inl (by simp)) u) (by simp; exact fun e => h.nb e.symm) (by simp; exact fun e => h.ng e.symm), h.chg.setCell (p := ⟨k, j, none⟩) (.inr h.new) u, h.new, h.nb, h.ng⟩
theorem St.at {wr X : World} {b g k : Nat} {cs : Array Value} {t : TypeId} {l : List UInt8} {bad : Int} (h : St wr X b g k cs t l bad) (j : Nat) (u : Value) (hj : cs[j]? = some u) : X.cell? ⟨k, j, none⟩ = some u ∧ X.frozen? ⟨k, j, none⟩ = false ∧ k < X.heap.size :=
  ⟨blk_cell h.row j u hj, blk_frozen h.row j, lt_of_block h.row⟩

/-- A row that was laid into a new block is appended to the rows. -/
theorem step_row {ops : Array Oper} {o : Oper} {a : Act} {K : Act → World → Prop} {Q : Exit → Act → World → Prop} {E : Prop} (hgd : o.guard = none) (s x : Operand)
    (ho : o.op = .call { callee := .builtin .append, args := #[s, x], argTypes := #[32, 32] })
    (w : World) (tb base : Nat) (v : Value) (acc : List TRow) (r : TRow) (ht : IsTok w tb v base acc) (hbase : base ≤ w.heap.size) (hl : acc.length ≤ 1000) (hs : a.eval s = v) (hx : a.eval x = .slice (some ⟨w.heap.size, 0, none⟩) 1 1)
    (h : ∀ g cap w', (∀ p : Addr, p.block < w.heap.size → v.ownBlock ≠ some p.block → w'.cell? p = w.cell? p) → w'.cell? ⟨tb, 1, none⟩ = some v → w'.frozen? ⟨tb, 1, none⟩ = false → tb < w'.heap.size → Hid (IsTok (w'.setCell ⟨tb, 1, none⟩ (.slice (some ⟨g, 0, none⟩) (acc.length + 1) cap)) tb (.slice (some ⟨g, 0, none⟩) (acc.length + 1) cap) base (acc ++ [r]) ∧
        TokFrame w (w'.setCell ⟨tb, 1, none⟩ (.slice (some ⟨g, 0, none⟩) (acc.length + 1) cap)) tb v) → K (a.put o.dst (.slice (some ⟨g, 0, none⟩) (acc.length + 1) cap)) w') :
    if Region.wanted o (yielded ops a.tmps) = true then Oper.wp Try.prog o a ((w.alloc (.cells #[.int .i64 r.c, .int .i64 r.h, .int .i64 r.i, .bool r.b] 35)).drew) K Q else E := by
  obtain ⟨i0, hi0, hz0, hz1, hz2⟩ := info_parts info35
  refine step_append_lies _ hgd s x 32 ho base 35 i0 _ 4 32 Try.underlying32 hi0 hz0 hz1 hz2 rfl (by decide) v acc.length (encs acc) hs ((ht.rows.alloc _).drew) ⟨w.heap.size, 0, none⟩ 1 1 (enc r) hx rfl
    (World.news_of_block (cs := #[.int .i64 r.c, .int .i64 r.h, .int .i64 r.i, .bool r.b]) (t := 35) (fr := (0, 0)) (heap_alloc_new w _)) (by simp [enc, Value.oneCell']) (by omega) (by unfold maxLen; omega) (by omega) (by simp; omega) _ rfl ?_
  intro g cap w1 hown hgrow hat hlt
  have hg : w.grownBy w1 v.ownBlock := grownBy_trans (World.grownBy_alloc w _ _) ⟨hgrow.os, hgrow.tape, hgrow.output, hgrow.size, hgrow.block⟩
  obtain ⟨k0, k1, k2⟩ := head_after ht hg
  refine h g cap w1 (fun p hp hn => World.cell?_of_block (hg.block p.block hp (fun e => hn e.symm))) k1 k2 (Nat.lt_of_lt_of_le ht.lt hg.size) ?_
  refine tok_store ht ?_ hg (by simp; omega)
  rw [encs_app, List.length_append]
  exact hown

/-- What Read answers. -/
def ReadPost (b g : Nat) (r : List TRow × List UInt8 × Int) (w : World) (e : Ending) (w' : World) : Prop :=
  (if r.2.2 = 0 then ∃ tb v, e = .returned (.tuple #[.pointer (some ⟨tb, 0, none⟩), .int .i64 0]) ∧ w.heap.size ≤ tb ∧ IsTok w' tb v w.heap.size r.1 ∧ W.EyeAt w' b g r.2.1 0
      else e = .returned (.tuple #[.pointer none, .int .i64 r.2.2])) ∧ W.Chg [b] w w'

set_option maxHeartbeats 4000000 in
set_option maxRecDepth 100000 in
theorem read_any (b g : Nat) (l : List UInt8) (w : World) (h : W.EyeAt w b g l 0) (hg : g < w.heap.size ∨ l = []) :
    Calls Try.prog 17 #[.pointer (some ⟨b, 0, none⟩)] w (ReadPost b g (rdTok l) w) := by
  have hbl : b < w.heap.size := by obtain ⟨v, h1, _⟩ := h; exact lt_of_block h1
  have CN := Lib.hid (new_any w)
  obtain ⟨w1, hw1⟩ : ∃ w1, w1 = w.alloc (.cells #[.bool true, .slice none 0 0] 72) := ⟨_, rfl⟩
  have hc1 : W.Chg [b] w w1 := by rw [hw1]; exact (W.Chg.refl _ _).alloc _
  have ht1 : IsTok w1 w.heap.size (.slice none 0 0) w.heap.size [] := by
    rw [hw1]; exact ⟨heap_alloc_new w _, World.ownsRow_nil _ _ _ _, by simp⟩
  have he1 : W.EyeAt w1 b g l 0 := by
    rw [hw1]
    obtain ⟨v, h1, h2, h3, h4, h5⟩ := h
    have hc : W.Chg [] w (w.alloc (.cells #[.bool true, .slice none 0 0] 72)) := (W.Chg.refl _ _).alloc _
    exact ⟨v, hc.keep h1 (by simp), h2.keepC h4 hc (by simp), h3, W.or_lt h4 hc, h5⟩
  rw [← hw1] at CN
  have C1 := Lib.hid (W.enum_any b g l 0 1 w1 he1 (by omega) (by omega))
  rw [show (1 : Int).toNat = 1 from rfl] at C1
  obtain ⟨R, hR⟩ : ∃ R, R = rdTok l := ⟨_, rfl⟩
  rw [← hR]
  have HR := Lib.hid hR
  have HT1 := Lib.hid ht1
  have HC1 := Lib.hid hc1
  have hrng := eyeNum_rng l 0 1
  obtain ⟨N1, hN1⟩ : ∃ N1, N1 = W.eyeNum l 0 1 := ⟨_, rfl⟩
  have HN := Lib.hid hN1
  rw [← hN1] at C1 hrng
  obtain ⟨n1, l1, bad1⟩ := N1
  simp only at C1 hrng
  have hl0 : bad1 = 0 → g < w.heap.size := by
    intro h0
    rcases hg with hg | rfl
    · exact hg
    · have := HN.out
      rw [h0] at this
      simp [W.eyeNum] at this
  have HL0 := Lib.hid hl0
  clear h hw1 hc1 ht1 he1 hR hN1 hl0 hg
  go_enter Try.func17, Try.ntmps17
  go_wp2_with fail
  refine CN.out.mono ?_
  rintro e w' ⟨rfl, rfl⟩
  go_wp2_with fail
  refine C1.out.mono ?_
  rintro e w2 ⟨rfl, he2, hc2⟩
  have HE2 := Lib.hid he2
  have HC2 := Lib.hid (HC1.out.trans hc2 (fun x hx => .inl hx))
  have HT2 := Lib.hid (HT1.out.chg hc2 (by simp; exact hbl) (by simp; omega))
  clear he2 hc2
  by_cases hbad : bad1 = 0
  · subst hbad
    obtain ⟨K, rfl⟩ := Int.eq_ofNat_of_zero_le hrng.1
    have hK : K < 256 := by have := hrng.2; omega
    have hgw := HL0.out rfl
    have HRR : Hid (R = rdRows K [] l1) := Lib.hid (by
      rw [HR.out]
      unfold rdTok
      rw [← HN.out]
      simp)
    clear hrng HL0
    go_wp2
    go_loopg [11] K (fun g' s11 wr => ∃ (j : Nat) (acc : List TRow) (lj : List UInt8), s11 = .int .i64 j ∧ j ≤ K ∧ K ≤ j + g' ∧ acc.length = j ∧ Hid (rdRows (K - j) acc lj = R) ∧ Hid (∃ v, IsTok wr w.heap.size v w.heap.size acc) ∧ Hid (W.EyeAt wr b g lj 0) ∧ Hid (W.Chg [b] w wr))
    case atStart => exact ⟨0, [], l1, rfl, by omega, by omega, rfl, Lib.hid HRR.out.symm, ⟨_, HT2.out⟩, HE2.out, HC2.out⟩
    case round =>
      obtain ⟨j, acc, lj, rfl, hj, hjg, hacc, HJ, HT, HE, HC⟩ := hrel
      have hws := HC.out.size
      have htb : w.heap.size < wr.heap.size := by obtain ⟨v, ht⟩ := HT.out; exact ht.lt
      have HA := Lib.hid hacc
      have hal : acc.length ≤ 255 := by omega
      clear hacc
      by_cases hlt : j < K
      · have S0 : Hid (St wr (wr.alloc (.cells #[.int .i64 0, .int .i64 0, .int .i64 0, .bool false] 35)) b g wr.heap.size #[.int .i64 0, .int .i64 0, .int .i64 0, .bool false] 35 lj 0) :=
          ⟨heap_alloc_new wr _, HE.out.keep ((W.Chg.refl [] wr).alloc _) (by simp) (by simp), (W.Chg.refl _ _).alloc _, Nat.le_refl _, by omega, by omega⟩
        have C2 := Lib.hid (W.enum_any b g lj 0 1 _ S0.out.eye (by omega) (by omega))
        rw [show (1 : Int).toNat = 1 from rfl] at C2
        obtain ⟨x2, hx2⟩ : ∃ x, x = W.eyeNum lj 0 1 := ⟨_, rfl⟩
        rw [← hx2] at C2
        obtain ⟨c, l2, b2⟩ := x2
        simp only at C2
        have H2 := Lib.hid hx2
        clear hx2
        obtain ⟨kk, hkk⟩ : ∃ kk, kk = wr.heap.size := ⟨_, rfl⟩
        have HKK := Lib.hid hkk
        go_wp2_with fail
        refine C2.out.mono ?_
        rintro e X1 ⟨rfl, he, hc⟩
        have S1 := Lib.hid (S0.out.call he hc)
        rw [← hkk] at S1
        obtain ⟨q0, q1, q2⟩ := S1.out.at 0 _ rfl
        have T1 := Lib.hid (S1.out.store 0 (.int .i64 c))
        have C3 := Lib.hid (W.enum_any b g l2 b2 1 _ T1.out.eye (by omega) (by omega))
        rw [show (1 : Int).toNat = 1 from rfl] at C3
        obtain ⟨x3, hx3⟩ : ∃ x, x = W.eyeNum l2 b2 1 := ⟨_, rfl⟩
        rw [← hx3] at C3
        obtain ⟨hh, l3, b3⟩ := x3
        simp only at C3
        have H3 := Lib.hid hx3
        clear hx3 he hc S0 C2
        rw [← hkk]
        clear hkk
        go_wp2_with fail
        refine C3.out.mono ?_
        rintro e X2 ⟨rfl, he, hc⟩
        have S2 := Lib.hid (T1.out.call he hc)
        clear q0 q1 q2
        obtain ⟨q0, q1, q2⟩ := S2.out.at 1 _ rfl
        have T2 := Lib.hid (S2.out.store 1 (.int .i64 hh))
        have C4 := Lib.hid (W.enum_any b g l3 b3 2 _ T2.out.eye (by omega) (by omega))
        rw [show (2 : Int).toNat = 2 from rfl] at C4
        obtain ⟨x4, hx4⟩ : ∃ x, x = W.eyeNum l3 b3 2 := ⟨_, rfl⟩
        rw [← hx4] at C4
        obtain ⟨ii, l4, b4⟩ := x4
        simp only at C4
        have H4 := Lib.hid hx4
        clear hx4 he hc T1 S1 C3
        go_wp2_with fail
        refine C4.out.mono ?_
        rintro e X3 ⟨rfl, he, hc⟩
        have S3 := Lib.hid (T2.out.call he hc)
        clear q0 q1 q2
        obtain ⟨q0, q1, q2⟩ := S3.out.at 2 _ rfl
        have T3 := Lib.hid (S3.out.store 2 (.int .i64 ii))
        have C5 := Lib.hid (W.ebool_any b g l4 b4 _ T3.out.eye)
        obtain ⟨x5, hx5⟩ : ∃ x, x = W.eyeBool l4 b4 := ⟨_, rfl⟩
        rw [← hx5] at C5
        obtain ⟨bb, l5, b5⟩ := x5
        simp only at C5
        have H5 := Lib.hid hx5
        clear hx5 he hc T2 S2 C4
        go_wp2_with fail
        refine C5.out.mono ?_
        rintro e X4 ⟨rfl, he, hc⟩
        have S4 := Lib.hid (T3.out.call he hc)
        clear q0 q1 q2
        obtain ⟨q0, q1, q2⟩ := S4.out.at 3 _ rfl
        have T4 := Lib.hid (S4.out.store 3 (.bool bb))
        clear he hc T3 S3 C5
        have hrow : Hid (rdRow lj = (⟨c, hh, ii, bb⟩, l5, b5)) := Lib.hid (by
          unfold rdRow
          rw [← H2.out]
          simp only
          rw [← H3.out]
          simp only
          rw [← H4.out]
          simp only
          rw [← H5.out])
        have C6 := Lib.hid (W.efail_any b g l5 b5 _ T4.out.eye)
        go_wp2_with fail
        refine C6.out.mono ?_
        rintro e X5 ⟨rfl, rfl⟩
        generalize X4.setCell ⟨kk, 3, none⟩ (.bool bb) = Y at *
        have HJ2 : Hid (R = if b5 ≠ 0 then (acc, l5, b5) else if badRow acc ⟨c, hh, ii, bb⟩ then (acc, l5, 4) else rdRows (K - (j + 1)) (acc ++ [⟨c, hh, ii, bb⟩]) l5) := Lib.hid (by
          rw [← HJ.out, show K - j = (K - (j + 1)) + 1 by omega]
          conv => lhs; unfold rdRows
          rw [hrow.out])
        have hrr := rdRow_rng lj
        rw [hrow.out] at hrr
        simp only at hrr
        have HCY : Hid (W.Chg [b] w Y) := Lib.hid (HC.out.trans T4.out.chg (fun x hx => .inl hx))
        clear HJ hrow C6 S4 q0 q1 q2 H2 H3 H4 H5
        by_cases hb5 : b5 = 0
        · subst hb5
          have HJ3 : Hid (R = if badRow acc ⟨c, hh, ii, bb⟩ then (acc, l5, 4) else rdRows (K - (j + 1)) (acc ++ [⟨c, hh, ii, bb⟩]) l5) := Lib.hid (by rw [HJ2.out, if_neg (by simp)])
          clear HJ2
          obtain ⟨r0, r1, r2⟩ := T4.out.at 0 (.int .i64 c) rfl
          obtain ⟨r3, r4, _⟩ := T4.out.at 1 (.int .i64 hh) rfl
          obtain ⟨r5, r6, _⟩ := T4.out.at 2 (.int .i64 ii) rfl
          obtain ⟨r7, r8, _⟩ := T4.out.at 3 (.bool bb) rfl
          obtain ⟨v, ht⟩ := HT.out
          have htY := ht.chg T4.out.chg (by simp; exact hbl) (by simp; omega)
          have HTY := Lib.hid htY
          obtain ⟨av, cv, rfl, hcap, hrows⟩ := own_rows htY.rows
          obtain ⟨t0, t1, t2⟩ := tok_cells htY
          have CB := Lib.hid (contains_any 45 #[.pointer (some ⟨kk, 0, none⟩)] enters45 (fun x => !besideB ⟨c, hh, ii, bb⟩ x) av cv kk acc Y hrows r2 (by omega) (tells45 kk ⟨c, hh, ii, bb⟩ Y T4.out.row))
          have htl : w.heap.size < Y.heap.size := htY.lt
          have HKN : Hid ((Value.slice av acc.length cv).ownBlock ≠ some kk) := Lib.hid (fun e => by
            have h1 := (ht.rows.lt kk e).2
            have h2 := HKK.out
            omega)
          have hmf : ∀ (fn : Fn) (first cap : Array Value) (w : World), (Instr.makeFunc fn first cap).run Try.prog w = .ok (.func fn first cap) w := fun _ _ _ _ => rfl
          have CM := Lib.hid (may_any c ii Y)
          clear ht htY hrows
          cases hmay : mayB c ii with
          | false =>
            have HB : Hid (R = (acc, l5, 4)) := Lib.hid (by rw [HJ3.out, if_pos (by unfold badRow; simp [hmay])])
            rw [hmay] at CM
            clear hmay
            go_wp2_with fail
            refine CM.out.mono ?_
            rintro e w5 ⟨rfl, rfl⟩
            go_wp2
            go_ret2
            rw [HB.out]
            exact ⟨rfl, HCY.out⟩
          | true =>
            rw [hmay] at CM
            by_cases h4 : 4 ≤ hh
            · have HB : Hid (R = (acc, l5, 4)) := Lib.hid (by rw [HJ3.out, if_pos (by unfold badRow; simp [h4])])
              clear hmay
              go_wp2_with fail
              refine CM.out.mono ?_
              rintro e w5 ⟨rfl, rfl⟩
              go_wp2
              go_ret2
              rw [HB.out]
              exact ⟨rfl, HCY.out⟩
            · cases hhas : has (fun x => !besideB ⟨c, hh, ii, bb⟩ x) acc with
              | true =>
                rw [hhas] at CB
                have HB : Hid (R = (acc, l5, 4)) := Lib.hid (by rw [HJ3.out, if_pos (by unfold badRow; simp [hhas])])
                clear hmay hhas
                go_wp2_with fail
                refine CM.out.mono ?_
                rintro e w5 ⟨rfl, rfl⟩
                go_wp2_with fail
                refine CB.out.mono ?_
                rintro e w6 ⟨rfl, hb6⟩
                have HB6 := Lib.hid hb6
                clear hb6
                go_wp2
                go_ret2
                rw [HB.out]
                exact ⟨rfl, HCY.out.trans (W.Chg.of_below (S := []) HB6.out) (by simp)⟩
              | false =>
                rw [hhas] at CB
                have HB : Hid (rdRows (K - (j + 1)) (acc ++ [⟨c, hh, ii, bb⟩]) l5 = R) := Lib.hid (by rw [HJ3.out, if_neg (by unfold badRow; simp [hhas, hmay]; omega)])
                clear hmay hhas
                go_wp2_with fail
                refine CM.out.mono ?_
                rintro e w5 ⟨rfl, rfl⟩
                go_wp2_with fail
                refine CB.out.mono ?_
                rintro e w6 ⟨rfl, hb6⟩
                have HB6 := Lib.hid hb6
                have HT6 := Lib.hid (HTY.out.below hb6)
                have hb6s := hb6.size
                have g0 := (hb6.cell (p := ⟨kk, 0, none⟩) r2).trans r0
                have g1 := (hb6.cell (p := ⟨kk, 1, none⟩) r2).trans r3
                have g2 := (hb6.cell (p := ⟨kk, 2, none⟩) r2).trans r5
                have g3 := (hb6.cell (p := ⟨kk, 3, none⟩) r2).trans r7
                have g4 : kk < w6.heap.size := Nat.lt_of_lt_of_le r2 hb6s
                obtain ⟨f0, f1, f2⟩ := tok_cells HT6.out
                have f3 : w.heap.size < w6.heap.size := Nat.lt_of_lt_of_le htl hb6s
                clear hb6 r0 r1 r3 r4 r5 r6 r7 r8 t0 t1 t2 CB CM
                go_wp2
                have y1 := (Below.heap_alloc w6 (.cells #[.int .i64 c, .int .i64 hh, .int .i64 ii, .bool bb] 35) w.heap.size f3)
                have z0 := (World.cell?_of_block (w := w6) (a := ⟨w.heap.size, 1, none⟩) y1).trans f1
                clear y1
                go_region_law (refine step_row (by rfl) _ _ (by rfl) w6 w.heap.size w.heap.size (.slice av acc.length cv) acc ⟨c, hh, ii, bb⟩ HT6.out (by omega) (by omega) (by rfl) (by rfl) ?_; intro g7 cap7 w7 zc z1 z2 z3 HT7)
                all_goals
                  go_wp2
                  go_roundg (gk - 1)
                  case measure => omega
                  case rel =>
                    have h7 := HT7.out
                    have hcf := h7.2.chg
                    have hS : ∀ x ∈ w.heap.size :: (Value.slice av acc.length cv).ownBlock.toList, w.heap.size ≤ x := by
                      intro x hx
                      rcases List.mem_cons.1 hx with rfl | hx
                      · exact Nat.le_refl _
                      · exact (HT6.out.rows.lt x (by simpa using hx)).1
                    have hE6 := T4.out.eye.keep (W.Chg.of_below (S := []) HB6.out) (by simp) (by simp)
                    have hE7 := hE6.keep hcf (fun hm => by have := hS b hm; omega) (fun hm => by have := hS g hm; omega)
                    have hC7 := (HCY.out.trans (W.Chg.of_below (S := []) HB6.out) (by simp)).trans hcf (fun x hx => .inr (hS x hx))
                    exact ⟨j + 1, acc ++ [⟨c, hh, ii, bb⟩], l5, by go_num, by omega, by omega, by simp [HA.out], HB, ⟨_, h7.1⟩, hE7, hC7⟩
        · have HB : Hid (R = (acc, l5, b5)) := Lib.hid (by rw [HJ2.out, if_pos hb5])
          have q5 : (b5 != 0) = true := by simp [hb5]
          have HB5 := Lib.hid hb5
          clear hb5
          go_wp2
          go_ret2
          rw [HB.out]
          refine ⟨?_, HCY.out⟩
          rw [if_neg HB5.out]
          rfl
      · have hjk : j = K := by omega
        have HB : Hid (R = (acc, lj, 0)) := Lib.hid (by
          rw [← HJ.out, hjk, Nat.sub_self]
          rfl)
        have C6 := Lib.hid (W.efail_any b g lj 0 _ HE.out)
        clear hjk
        go_wp2_with fail
        refine C6.out.mono ?_
        rintro e w5 ⟨rfl, rfl⟩
        go_wp2
        go_ret2
        rw [HB.out]
        obtain ⟨v, ht⟩ := HT.out
        exact ⟨⟨_, v, rfl, Nat.le_refl _, ht, HE.out⟩, HC.out⟩
  · have HB : Hid (R = ([], l1, bad1)) := Lib.hid (by
      rw [HR.out]
      unfold rdTok
      rw [← HN.out]
      simp [hbad])
    have hn1 : n1 = 0 := by
      have := HN.out
      unfold W.eyeNum at this
      rw [if_neg (by simp)] at this
      split at this
      · simp at this; exact this.1
      · simp at this; exact absurd this.2.2 hbad
    subst hn1
    have q1 : (bad1 != 0) = true := by simp [hbad]
    have HBAD := Lib.hid hbad
    have C6 := Lib.hid (W.efail_any b g l1 bad1 _ HE2.out)
    clear hbad
    go_wp2
    go_loopg [11] 0 (fun g' s11 wr => s11 = .int .i64 0 ∧ wr = w2)
    case atStart => exact ⟨rfl, rfl⟩
    case round =>
      obtain ⟨rfl, rfl⟩ := hrel
      go_wp2_with fail
      refine C6.out.mono ?_
      rintro e w5 ⟨rfl, rfl⟩
      go_wp2
      go_ret2
      rw [HB.out]
      refine ⟨?_, HC2.out⟩
      rw [if_neg HBAD.out]
      rfl
end Go.Proofs.Ytembgdjdljflhaa
