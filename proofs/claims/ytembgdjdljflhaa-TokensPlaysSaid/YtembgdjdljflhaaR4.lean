/- The walk of the reference's ReadTokens. -/
import Derived.Test.YtembgdjdljflhaaR3
import Derived.Deep.CutRange
namespace Go.Proofs.Ytembgdjdljflhaa
open Go.RowKit
set_option linter.unusedVariables false
set_option linter.unusedSimpArgs false

/-- The reference's rows: the struct in block b. -/
structure RTok (w : World) (b : Nat) (v : Value) (base : Nat) (l : List TRow) : Prop where
  head : w.heap[b]? = some (.cells #[v] 57 (0, 0))
  rows : w.ownsRow base 66 4 v l.length (encs l)
  apart : v.ownBlock ≠ some b
theorem RTok.lt {w : World} {b base : Nat} {v : Value} {l : List TRow} (h : RTok w b v base l) : b < w.heap.size := lt_of_block h.head
theorem RTok.chg {w w' : World} {b base : Nat} {v : Value} {l : List TRow} {S : List Nat} (h : RTok w b v base l) (hc : W.Chg S w w') (hS : ∀ x ∈ S, x < base) (hb : b ∉ S) : RTok w' b v base l :=
  ⟨hc.keep h.head hb, W.row_keep h.rows (fun g hg => hc.block g (h.rows.lt g hg).2 (fun hm => by have := hS g hm; have := (h.rows.lt g hg).1; omega)), h.apart⟩
theorem RTok.below {w w' : World} {b base : Nat} {v : Value} {l : List TRow} (h : RTok w b v base l) (hb : Below w.heap.size w w') : RTok w' b v base l :=
  h.chg (W.Chg.of_below (S := []) hb) (by simp) (by simp)
theorem rown_rows {w : World} {base : Nat} {v : Value} {l : List TRow} (h : w.ownsRow base 66 4 v l.length (encs l)) :
    ∃ a c, v = .slice a l.length c ∧ l.length ≤ c ∧ RowsAt w w.heap.size a l.length (fun i => l.getD i default) := by
  rcases h.2 with ⟨rfl, h0⟩ | ⟨g, cap, cur, rfl, hbg, hg, hnc, hcm, hcs, htake⟩
  · rw [h0]; exact ⟨none, 0, rfl, Nat.le_refl _, .inl rfl⟩
  · refine ⟨_, _, rfl, hnc, .inr ⟨g, rfl, (Array.getElem?_eq_some_iff.1 hg).1, fun i hi => ?_⟩⟩
    have key : ∀ j, j < 4 → ∀ u, (enc (l.getD i default))[j]? = some u → w.cell? ⟨g, i * 4 + j, none⟩ = some u := by
      intro j hj u hu
      have := h.cells (g := g) rfl (i * 4 + j) u (by rw [encs_at l i hi j hj]; exact hu)
      rw [add_none] at this
      simpa using this
    exact ⟨by simpa using key 0 (by omega) _ rfl, key 1 (by omega) _ rfl, key 2 (by omega) _ rfl, key 3 (by omega) _ rfl⟩
theorem rinfo : (Try.prog.info? 66).map (fun i => (i.zero, i.size, i.bytes)) = some (some (.agg #[.int .i64 0, .int .i64 0, .int .i64 0, .bool false]), 4, 32) := by kernel_rfl

theorem rtok_store {w W1 : World} {b base : Nat} {v v' : Value} {l l' : List TRow} (ht : RTok w b v base l) (hown : W1.ownsRow base 66 4 v' l'.length (encs l')) (hg : w.grownBy W1 v.ownBlock) (hat : v'.ownBlock = v.ownBlock ∨ ∃ k, v'.ownBlock = some k ∧ w.heap.size ≤ k) :
    RTok (W1.setCell ⟨b, 0, none⟩ v') b v' base l' ∧ W.Chg (b :: v.ownBlock.toList) w (W1.setCell ⟨b, 0, none⟩ v') := by
  have hb : W1.heap[b]? = some (.cells #[v] 57 (0, 0)) := (hg.block b ht.lt (fun e => ht.apart e.symm)).trans ht.head
  have hap : v'.ownBlock ≠ some b := by
    rcases hat with h | ⟨k, h, hk⟩
    · rw [h]; exact ht.apart
    · rw [h]; intro e; have := ht.lt; simp at e; omega
  refine ⟨⟨set_blk hb, W.row_keep hown (fun g hg => Below.heap_setCell _ _ _ g (fun e => hap (by rw [hg, e]))), hap⟩, ?_⟩
  exact ((W.Chg.refl _ w).grown hg (fun k hk => .inl (by rw [hk]; simp))).setCell (p := ⟨b, 0, none⟩) (.inl (by simp)) _

theorem step_rrow {ops : Array Oper} {o : Oper} {a : Act} {K : Act → World → Prop} {Q : Exit → Act → World → Prop} {E : Prop} (hgd : o.guard = none) (s x : Operand)
    (ho : o.op = .call { callee := .builtin .append, args := #[s, x], argTypes := #[54, 54] })
    (w : World) (tb base : Nat) (v : Value) (acc : List TRow) (r : TRow) (ht : RTok w tb v base acc) (hbase : base ≤ w.heap.size) (hl : acc.length ≤ 1000) (hs : a.eval s = v) (hx : a.eval x = .slice (some ⟨w.heap.size, 0, none⟩) 1 1)
    (h : ∀ g cap w', (∀ p : Addr, p.block < w.heap.size → v.ownBlock ≠ some p.block → w'.cell? p = w.cell? p) → w'.cell? ⟨tb, 0, none⟩ = some v → w'.frozen? ⟨tb, 0, none⟩ = false → tb < w'.heap.size →
        Hid (RTok (w'.setCell ⟨tb, 0, none⟩ (.slice (some ⟨g, 0, none⟩) (acc.length + 1) cap)) tb (.slice (some ⟨g, 0, none⟩) (acc.length + 1) cap) base (acc ++ [r]) ∧
        W.Chg (tb :: v.ownBlock.toList) w (w'.setCell ⟨tb, 0, none⟩ (.slice (some ⟨g, 0, none⟩) (acc.length + 1) cap))) → K (a.put o.dst (.slice (some ⟨g, 0, none⟩) (acc.length + 1) cap)) w') :
    if Region.wanted o (yielded ops a.tmps) = true then Oper.wp Try.prog o a ((w.alloc (.cells #[.int .i64 r.c, .int .i64 r.h, .int .i64 r.i, .bool r.b] 66)).drew) K Q else E := by
  obtain ⟨i0, hi0, hz0, hz1, hz2⟩ := info_parts rinfo
  refine step_append_lies _ hgd s x 54 ho base 66 i0 _ 4 32 Try.underlying54 hi0 hz0 hz1 hz2 rfl (by decide) v acc.length (encs acc) hs ((ht.rows.alloc _).drew) ⟨w.heap.size, 0, none⟩ 1 1 (enc r) hx rfl
    (World.news_of_block (cs := #[.int .i64 r.c, .int .i64 r.h, .int .i64 r.i, .bool r.b]) (t := 66) (fr := (0, 0)) (heap_alloc_new w _)) (by simp [enc, Value.oneCell']) (by omega) (by unfold maxLen; omega) (by omega) (by simp; omega) _ rfl ?_
  intro g cap w1 hown hgrow hat hlt
  have hg : w.grownBy w1 v.ownBlock := grownBy_trans (World.grownBy_alloc w _ _) ⟨hgrow.os, hgrow.tape, hgrow.output, hgrow.size, hgrow.block⟩
  have hb1 : w1.heap[tb]? = some (.cells #[v] 57 (0, 0)) := (hg.block tb ht.lt (fun e => ht.apart e.symm)).trans ht.head
  refine h g cap w1 (fun p hp hn => World.cell?_of_block (hg.block p.block hp (fun e => hn e.symm))) (blk_cell hb1 0 _ rfl) (blk_frozen hb1 0) (lt_of_block hb1) ?_
  refine rtok_store ht ?_ hg ?_
  · rw [encs_app, List.length_append]
    exact hown
  · rcases hat with h | h
    · left; rw [h]; rfl
    · right; exact ⟨g, rfl, by rw [h]; simp⟩

/-- The row under way in block k, the reference's eye in b. -/
structure RSt (wr X : World) (b g k : Nat) (cs : Array Value) (t : TypeId) (l : List UInt8) (bad : Int) : Prop where
  row : X.heap[k]? = some (.cells cs t (0, 0))
  eye : W.REyeAt X b g l bad
  chg : W.Chg [b] wr X
  new : wr.heap.size ≤ k
  nb : k ≠ b
  ng : k ≠ g
theorem RSt.call {wr X X' : World} {b g k : Nat} {cs : Array Value} {t : TypeId} {l l' : List UInt8} {bad bad' : Int} (h : RSt wr X b g k cs t l bad) (he : W.REyeAt X' b g l' bad') (hc : W.Chg [b] X X') : RSt wr X' b g k cs t l' bad' :=
  ⟨hc.keep h.row (by simp; exact h.nb), he, h.chg.trans hc (fun x hx => .inl hx), h.new, h.nb, h.ng⟩
theorem RSt.store {wr X : World} {b g k : Nat} {cs : Array Value} {t : TypeId} {l : List UInt8} {bad : Int} (h : RSt wr X b g k cs t l bad) (j : Nat) (u : Value) : RSt wr (X.setCell ⟨k, j, none⟩ u) b g k (cs.setIfInBounds j u) t l bad :=
  ⟨set_blk h.row, h.eye.keep ((W.Chg.refl [k] X).setCell (p := ⟨k, j, none⟩) (.inl (by simp)) u) (by simp; exact fun e => h.nb e.symm) (by simp; exact fun e => h.ng e.symm), h.chg.setCell (p := ⟨k, j, none⟩) (.inr h.new) u, h.new, h.nb, h.ng⟩
theorem RSt.at {wr X : World} {b g k : Nat} {cs : Array Value} {t : TypeId} {l : List UInt8} {bad : Int} (h : RSt wr X b g k cs t l bad) (j : Nat) (u : Value) (hj : cs[j]? = some u) : X.cell? ⟨k, j, none⟩ = some u ∧ X.frozen? ⟨k, j, none⟩ = false ∧ k < X.heap.size :=
  ⟨blk_cell h.row j u hj, blk_frozen h.row j, lt_of_block h.row⟩
theorem reye_bad {w : World} {b g : Nat} {l : List UInt8} {bad : Int} (h : W.REyeAt w b g l bad) : w.cell? ⟨b, 1, none⟩ = some (.int .i64 bad) := by
  obtain ⟨v, h1, _⟩ := h
  exact blk_cell h1 1 _ rfl

theorem tb_casesF (e : Bool) (y b r q : Bool) (h : q = ((e && (y || b)) || r)) : (e = true ∧ y = true ∧ Hid (q = true)) ∨ (e = true ∧ y = false ∧ b = true ∧ Hid (q = true)) ∨ (e = true ∧ y = false ∧ b = false ∧ Hid (q = r)) ∨ (e = false ∧ Hid (q = r)) := by
  unfold Hid
  subst h
  cases e <;> cases y <;> cases b <;> simp
theorem tb_casesG (A : Prop) [Decidable A] (e : Bool) (B : Prop) [Decidable B] (q : Bool) (h : Hid (q = (decide A || (e && decide B)))) : (decide A = true ∧ Hid (q = true)) ∨ (decide A = false ∧ e = false ∧ Hid (q = false)) ∨
    (decide A = false ∧ e = true ∧ decide B = true ∧ Hid (q = true)) ∨ (decide A = false ∧ e = true ∧ decide B = false ∧ Hid (q = false)) := by
  have h := h.out
  unfold Hid
  subst h
  by_cases hA : A <;> by_cases hB : B <;> cases e <;> simp [hA, hB]

/-- What ReadTokens answers. -/
def RReadPost (b g : Nat) (r : List TRow × List UInt8 × Int) (w : World) (e : Ending) (w' : World) : Prop :=
  ∃ tb v, e = .returned (.pointer (some ⟨tb, 0, none⟩)) ∧ w.heap.size ≤ tb ∧ (r.2.2 = 0 → RTok w' tb v w.heap.size r.1) ∧ W.REyeAt w' b g r.2.1 r.2.2 ∧ W.Chg [b] w w'

set_option maxHeartbeats 4000000 in
set_option maxRecDepth 100000 in
theorem rread_any (b g : Nat) (l : List UInt8) (w : World) (h : W.REyeAt w b g l 0) (hg : g < w.heap.size ∨ l = []) :
    Calls Try.prog 18 #[.pointer (some ⟨b, 0, none⟩)] w (RReadPost b g (rdTok l) w) := by
  have hbl : b < w.heap.size := by obtain ⟨v, h1, _⟩ := h; exact lt_of_block h1
  obtain ⟨w1, hw1⟩ : ∃ w1, w1 = w.alloc (.cells #[.slice none 0 0] 57) := ⟨_, rfl⟩
  have hc1 : W.Chg [b] w w1 := by rw [hw1]; exact (W.Chg.refl _ _).alloc _
  have ht1 : RTok w1 w.heap.size (.slice none 0 0) w.heap.size [] := by
    rw [hw1]; exact ⟨heap_alloc_new w _, World.ownsRow_nil _ _ _ _, by simp [Value.ownBlock]⟩
  have he1 : W.REyeAt w1 b g l 0 := by
    rw [hw1]
    obtain ⟨v, h1, h2, h3, h4⟩ := h
    have hc : W.Chg [] w (w.alloc (.cells #[.slice none 0 0] 57)) := (W.Chg.refl _ _).alloc _
    exact ⟨v, hc.keep h1 (by simp), h2.keepC hc (by simp), h3, h4⟩
  have C1 := W.rnum_any b g l 0 1 w1 he1 (by omega) (by omega)
  rw [show (1 : Int).toNat = 1 from rfl, hw1] at C1
  have HT1 := Lib.hid ht1
  have HC1 := Lib.hid hc1
  rw [hw1] at HT1 HC1
  obtain ⟨R, hR⟩ : ∃ R, R = rdTok l := ⟨_, rfl⟩
  rw [← hR]
  have HR := Lib.hid hR
  have hrng := eyeNum_rng l 0 1
  obtain ⟨N1, hN1⟩ : ∃ N1, N1 = W.eyeNum l 0 1 := ⟨_, rfl⟩
  have HN := Lib.hid hN1
  rw [← hN1] at C1 hrng
  obtain ⟨n1, l1, bad1⟩ := N1
  simp only at C1 hrng
  have HC := Lib.hid C1
  have hl0 : bad1 = 0 → g < w.heap.size := by
    intro h0
    rcases hg with hg | rfl
    · exact hg
    · have := HN.out
      rw [h0] at this
      simp [W.eyeNum] at this
  have HL0 := Lib.hid hl0
  clear h hw1 hc1 ht1 he1 hR hN1 hl0 hg C1 w1
  go_enter Try.func18, Try.ntmps18
  go_wp2_with fail
  refine HC.out.mono ?_
  rintro e w2 ⟨rfl, he2, hc2⟩
  have HE2 := Lib.hid he2
  have HC2 := Lib.hid (HC1.out.trans hc2 (fun x hx => .inl hx))
  have HT2 := Lib.hid (HT1.out.chg hc2 (by simp; exact hbl) (by simp; omega))
  clear he2 hc2 HC
  obtain ⟨K, rfl⟩ := Int.eq_ofNat_of_zero_le hrng.1
  have hK : K < 256 := by have := hrng.2; omega
  have HRR : Hid ((bad1 = 0 → rdRows K [] l1 = R) ∧ (bad1 ≠ 0 → R = ([], l1, bad1) ∧ K = 0)) := Lib.hid (by
    constructor
    · intro h0
      rw [HR.out]
      unfold rdTok
      rw [← HN.out]
      simp [h0]
    · intro h0
      refine ⟨?_, ?_⟩
      · rw [HR.out]
        unfold rdTok
        rw [← HN.out]
        simp [h0]
      · have := HN.out
        unfold W.eyeNum at this
        rw [if_neg (by simp)] at this
        split at this
        · simp at this; exact this.1
        · simp at this; exact absurd this.2.2 h0)
  clear hrng
  go_wp2
  go_loopg [5] K (fun g' s5 wr => ∃ (j : Nat) (acc : List TRow) (lj : List UInt8) (bd : Int), s5 = .int .i64 j ∧ j ≤ K ∧ K ≤ j + g' ∧ acc.length = j ∧ (∀ y ∈ acc, small y) ∧ Hid ((bd = 0 → rdRows (K - j) acc lj = R) ∧ (bd ≠ 0 → ∃ a', R = (a', lj, bd))) ∧ Hid (∃ v, RTok wr w.heap.size v w.heap.size acc) ∧ Hid (W.REyeAt wr b g lj bd) ∧ Hid (W.Chg [b] w wr))
  case atStart => exact ⟨0, [], l1, bad1, rfl, by omega, by omega, rfl, by simp, ⟨HRR.out.1, fun h => ⟨[], (HRR.out.2 h).1⟩⟩, ⟨_, HT2.out⟩, HE2.out, HC2.out⟩
  case round =>
    obtain ⟨j, acc, lj, bd, rfl, hj, hjg, hacc, hsm, HJ, HT, HE, HC⟩ := hrel
    have hws := HC.out.size
    have htb : w.heap.size < wr.heap.size := by obtain ⟨v, ht⟩ := HT.out; exact ht.lt
    have HA := Lib.hid hacc
    have HSM := Lib.hid hsm
    have hal : acc.length ≤ 255 := by omega
    have hbd := reye_bad HE.out
    clear hacc hsm
    by_cases hbz : bd = 0
    · subst hbz
      have HJ1 := Lib.hid (HJ.out.1 rfl)
      clear HJ
      by_cases hlt : j < K
      · have hgw : g < w.heap.size := by
          refine HL0.out ?_
          apply Classical.byContradiction
          intro h
          have := (HRR.out.2 h).2
          omega
        have S0 : Hid (RSt wr (wr.alloc (.cells #[.int .i64 0, .int .i64 0, .int .i64 0, .bool false] 66)) b g wr.heap.size #[.int .i64 0, .int .i64 0, .int .i64 0, .bool false] 66 lj 0) :=
          ⟨heap_alloc_new wr _, HE.out.keep ((W.Chg.refl [] wr).alloc _) (by simp) (by simp), (W.Chg.refl _ _).alloc _, Nat.le_refl _, by omega, by omega⟩
        have C2 := Lib.hid (W.rnum_any b g lj 0 1 _ S0.out.eye (by omega) (by omega))
        rw [show (1 : Int).toNat = 1 from rfl] at C2
        obtain ⟨x2, hx2⟩ : ∃ x, x = W.eyeNum lj 0 1 := ⟨_, rfl⟩
        rw [← hx2] at C2
        obtain ⟨c, l2, b2⟩ := x2
        simp only at C2
        have H2 := Lib.hid hx2
        clear hx2
        obtain ⟨kk, hkk⟩ : ∃ kk, kk = wr.heap.size := ⟨_, rfl⟩
        have HKK := Lib.hid hkk
        go_wp2_with fail
        refine C2.out.mono ?_
        rintro e X1 ⟨rfl, he, hc⟩
        have S1 := Lib.hid (S0.out.call he hc)
        rw [← hkk] at S1
        obtain ⟨q0, q1, q2⟩ := S1.out.at 0 _ rfl
        have T1 := Lib.hid (S1.out.store 0 (.int .i64 c))
        have C3 := Lib.hid (W.rnum_any b g l2 b2 1 _ T1.out.eye (by omega) (by omega))
        rw [show (1 : Int).toNat = 1 from rfl] at C3
        obtain ⟨x3, hx3⟩ : ∃ x, x = W.eyeNum l2 b2 1 := ⟨_, rfl⟩
        rw [← hx3] at C3
        obtain ⟨hh, l3, b3⟩ := x3
        simp only at C3
        have H3 := Lib.hid hx3
        clear hx3 he hc S0 C2
        rw [← hkk]
        clear hkk
        go_wp2_with fail
        refine C3.out.mono ?_
        rintro e X2 ⟨rfl, he, hc⟩
        have S2 := Lib.hid (T1.out.call he hc)
        clear q0 q1 q2
        obtain ⟨q0, q1, q2⟩ := S2.out.at 1 _ rfl
        have T2 := Lib.hid (S2.out.store 1 (.int .i64 hh))
        have C4 := Lib.hid (W.rnum_any b g l3 b3 2 _ T2.out.eye (by omega) (by omega))
        rw [show (2 : Int).toNat = 2 from rfl] at C4
        obtain ⟨x4, hx4⟩ : ∃ x, x = W.eyeNum l3 b3 2 := ⟨_, rfl⟩
        rw [← hx4] at C4
        obtain ⟨ii, l4, b4⟩ := x4
        simp only at C4
        have H4 := Lib.hid hx4
        clear hx4 he hc T1 S1 C3
        go_wp2_with fail
        refine C4.out.mono ?_
        rintro e X3 ⟨rfl, he, hc⟩
        have S3 := Lib.hid (T2.out.call he hc)
        clear q0 q1 q2
        obtain ⟨q0, q1, q2⟩ := S3.out.at 2 _ rfl
        have T3 := Lib.hid (S3.out.store 2 (.int .i64 ii))
        have C5 := Lib.hid (W.rbool_any b g l4 b4 _ T3.out.eye)
        obtain ⟨x5, hx5⟩ : ∃ x, x = W.eyeBool l4 b4 := ⟨_, rfl⟩
        rw [← hx5] at C5
        obtain ⟨bb, l5, b5⟩ := x5
        simp only at C5
        have H5 := Lib.hid hx5
        clear hx5 he hc T2 S2 C4
        go_wp2_with fail
        refine C5.out.mono ?_
        rintro e X4 ⟨rfl, he, hc⟩
        have S4 := Lib.hid (T3.out.call he hc)
        clear q0 q1 q2
        obtain ⟨q0, q1, q2⟩ := S4.out.at 3 _ rfl
        have T4 := Lib.hid (S4.out.store 3 (.bool bb))
        clear he hc T3 S3 C5
        have hrow : Hid (rdRow lj = (⟨c, hh, ii, bb⟩, l5, b5)) := Lib.hid (by
          unfold rdRow
          rw [← H2.out]
          simp only
          rw [← H3.out]
          simp only
          rw [← H4.out]
          simp only
          rw [← H5.out])
        have hbk : ¬ (b = kk) := fun e => T4.out.nb e.symm
        have hbd4 : X4.cell? ⟨b, 1, none⟩ = some (.int .i64 b5) := reye_bad S4.out.eye
        have HJ2 : Hid (R = if b5 ≠ 0 then (acc, l5, b5) else if badRow acc ⟨c, hh, ii, bb⟩ then (acc, l5, 4) else rdRows (K - (j + 1)) (acc ++ [⟨c, hh, ii, bb⟩]) l5) := Lib.hid (by
          rw [← HJ1.out, show K - j = (K - (j + 1)) + 1 by omega]
          conv => lhs; unfold rdRows
          rw [hrow.out])
        have hrr : small ⟨c, hh, ii, bb⟩ := by
          have := rdRow_rng lj
          rw [hrow.out] at this
          exact this
        have HRR2 := Lib.hid hrr
        have HCY : Hid (W.Chg [b] w (X4.setCell ⟨kk, 3, none⟩ (.bool bb))) := Lib.hid (HC.out.trans T4.out.chg (fun x hx => .inl hx))
        clear HJ1 hrow S4 H2 H3 H4 H5
        by_cases hb5 : b5 = 0
        · subst hb5
          have HB : Hid (R = if (bad0B ⟨c, hh, ii, bb⟩ || acc.any (tbB ⟨c, hh, ii, bb⟩)) = true then (acc, l5, 4) else rdRows (K - (j + 1)) (acc ++ [⟨c, hh, ii, bb⟩]) l5) := Lib.hid (by
            rw [HJ2.out, if_neg (by simp), badRow_eq acc _ HRR2.out HSM.out])
          clear HJ2
          go_upto_region 12 with (fail)
          generalize X4.setCell ⟨kk, 3, none⟩ (.bool bb) = Y at *
          obtain ⟨r0, r1, r2⟩ := T4.out.at 0 (.int .i64 c) rfl
          obtain ⟨r3, r4, _⟩ := T4.out.at 1 (.int .i64 hh) rfl
          obtain ⟨r5, r6, _⟩ := T4.out.at 2 (.int .i64 ii) rfl
          obtain ⟨r7, r8, _⟩ := T4.out.at 3 (.bool bb) rfl
          obtain ⟨B0, hB0⟩ : ∃ B0, B0 = bad0B ⟨c, hh, ii, bb⟩ := ⟨_, rfl⟩
          have HB0 := Lib.hid hB0
          rw [← hB0] at HB
          clear hB0 hbd4 q0 q1 q2
          go_cut [7] from 44 to 61 (fun s7 wx => s7 = .bool B0 ∧ wx = Y)
          case first =>
            by_cases a1 : 4 ≤ c
            · go_wp2
              go_meet
              exact ⟨by rw [HB0.out]; unfold bad0B; simp [a1], rfl⟩
            · by_cases a2 : 4 ≤ hh
              · go_wp2
                go_meet
                exact ⟨by rw [HB0.out]; unfold bad0B; simp [a2], rfl⟩
              · by_cases a3 : ii < 2
                · go_wp2
                  go_meet
                  exact ⟨by rw [HB0.out]; unfold bad0B; simp [a3], rfl⟩
                · by_cases a4 : 128 < ii
                  · go_wp2
                    go_meet
                    exact ⟨by rw [HB0.out]; unfold bad0B; simp [a4], rfl⟩
                  · go_wp2
                    go_meet
                    exact ⟨by rw [HB0.out]; unfold bad0B; simp; omega, rfl⟩
          case rest =>
            obtain ⟨rfl, rfl⟩ := hcut
            obtain ⟨v, ht⟩ := HT.out
            have htY := ht.chg T4.out.chg (by simp; exact hbl) (by simp; omega)
            have HTY := Lib.hid htY
            have HKN : Hid (v.ownBlock ≠ some kk) := Lib.hid (fun e => by
              have h1 := (ht.rows.lt kk e).2
              have h2 := HKK.out
              omega)
            obtain ⟨av, cv, rfl, hcap, hrows⟩ := rown_rows htY.rows
            have HROWS := Lib.hid hrows
            have htl : w.heap.size < wc.heap.size := htY.lt
            obtain ⟨Bf, hBf⟩ : ∃ Bf : Nat → Bool, Bf = fun k => (B0 || (acc.take k).any (tbB ⟨c, hh, ii, bb⟩)) := ⟨_, rfl⟩
            have hBf0 : Bf 0 = B0 := by rw [hBf]; simp
            have HBFL : Hid (Bf acc.length = (B0 || acc.any (tbB ⟨c, hh, ii, bb⟩))) := Lib.hid (by rw [hBf]; simp)
            have HBFS : Hid (∀ k, k < acc.length → Bf (k + 1) = (Bf k || tbB ⟨c, hh, ii, bb⟩ (acc.getD k default))) := Lib.hid (fun k hk => by
              rw [hBf]
              simp only
              rw [take_succ_getD acc k hk, List.any_append]
              simp [Bool.or_assoc])
            have HBF0 := Lib.hid hBf0
            clear hBf hBf0 ht htY hrows
            go_wp2
            obtain ⟨gko, rfl⟩ : ∃ gko : Nat, gko = gk := ⟨_, rfl⟩
            go_loopg [7, 8] acc.length (fun g' s7 s8 wx => ∃ k : Nat, s8 = .int .i64 k ∧ k ≤ acc.length ∧ acc.length ≤ k + g' ∧ s7 = .bool (Bf k) ∧ Hid (Below wc.heap.size wc wx))
            case atStart => exact ⟨0, rfl, by omega, by omega, by rw [HBF0.out], Below.refl _ _⟩
            case round =>
              obtain ⟨k, rfl, hk, hkg, rfl, HBE⟩ := hrel
              have hbe := HBE.out
              have hbs := hbe.size
              have t0 : wr.cell? ⟨w.heap.size, 0, none⟩ = some (.slice av acc.length cv) := blk_cell (HTY.out.below hbe).head 0 _ rfl
              have g0 := (hbe.cell (p := ⟨kk, 0, none⟩) r2).trans r0
              have g1 := (hbe.cell (p := ⟨kk, 1, none⟩) r2).trans r3
              have g2 := (hbe.cell (p := ⟨kk, 2, none⟩) r2).trans r5
              have g3 := (hbe.cell (p := ⟨kk, 3, none⟩) r2).trans r7
              have g4 : kk < wr.heap.size := Nat.lt_of_lt_of_le r2 hbs
              have g5 : w.heap.size < wr.heap.size := Nat.lt_of_lt_of_le htl hbs
              have HR1 := Lib.hid (HROWS.out.below hbe)
              clear hbe
              by_cases hkl : k < acc.length
              · rcases HR1.out with h0 | ⟨ga, rfl, hga, hcell⟩
                · omega
                obtain ⟨y, hy, c0, c1, c2, c3⟩ : ∃ y, acc.getD k default = y ∧ wr.cell? ⟨ga, k * 4, none⟩ = some (.int .i64 y.c) ∧ wr.cell? ⟨ga, k * 4 + 1, none⟩ = some (.int .i64 y.h) ∧
                    wr.cell? ⟨ga, k * 4 + 2, none⟩ = some (.int .i64 y.i) ∧ wr.cell? ⟨ga, k * 4 + 3, none⟩ = some (.bool y.b) := ⟨_, rfl, hcell k hkl⟩
                have HY := Lib.hid hy
                have hkz : (k : Int) < (acc.length : Int) := by omega
                have hkz1 : (k : Int).toNat = k := by omega
                have HS := Lib.hid (HBFS.out k hkl)
                rw [hy] at HS
                generalize hbk : Bf k = bk at *
                have HBK := Lib.hid hbk
                clear hy hcell hbk
                have HNEXT : Hid (Below wc.heap.size wc (wr.alloc (.cells #[.int .i64 y.c, .int .i64 y.h, .int .i64 y.i, .bool y.b] 66))) := Lib.hid (HBE.out.alloc HBE.out.size _)
                cases bk with
                | true =>
                  have HN : Hid (Bf (k + 1) = true) := Lib.hid (by rw [HS.out]; simp)
                  clear HS
                  go_wp2
                  go_roundg (gk - 1)
                  case measure => omega
                  case rel => exact ⟨k + 1, by go_num, by omega, by omega, by rw [HN.out], HNEXT.out⟩
                | false =>
                  obtain ⟨yc, yh, yi, yb⟩ := y
                  simp only at c0 c1 c2 c3 HNEXT
                  have HS2 : Hid (Bf (k + 1) = ((yi == ii && (yb || bb)) || (decide (c < yc) || (yc == c && decide (hh ≤ yh))))) := Lib.hid (by rw [HS.out]; unfold tbB; rw [Bool.false_or, Bool.or_assoc])
                  clear HS
                  have hF := tb_casesF _ _ _ _ _ HS2.out
                  have HG := Lib.hid (fun q h => tb_casesG (c < yc) (yc == c) (hh ≤ yh) q h)
                  clear HS2
                  rcases hF with ⟨p1, p2, HN⟩ | ⟨p1, p2, p3, HN⟩ | ⟨p1, p2, p3, HN⟩ | ⟨p1, HN⟩
                  · subst p2
                    go_wp2
                    go_roundg (gk - 1)
                    case measure => omega
                    case rel => exact ⟨k + 1, by go_num, by omega, by omega, by rw [HN.out], HNEXT.out⟩
                  · subst p2
                    go_wp2
                    go_roundg (gk - 1)
                    case measure => omega
                    case rel => exact ⟨k + 1, by go_num, by omega, by omega, by rw [HN.out], HNEXT.out⟩
                  all_goals
                    try subst p2
                    rcases HG.out _ HN with ⟨s1, HN⟩ | ⟨s1, s2, HN⟩ | ⟨s1, s2, s3, HN⟩ | ⟨s1, s2, s3, HN⟩
                    all_goals
                      go_wp2
                      go_roundg (gk - 1)
                      case measure => omega
                      case rel => exact ⟨k + 1, by go_num, by omega, by omega, by rw [HN.out], HNEXT.out⟩
              · have hke : k = acc.length := by omega
                have HKE := Lib.hid hke
                have HQ : Hid (Bf k = (B0 || acc.any (tbB ⟨c, hh, ii, bb⟩))) := Lib.hid (by rw [hke]; exact HBFL.out)
                generalize hbk : Bf k = bq at *
                have HE8 : Hid (W.REyeAt wr b g l5 0) := Lib.hid (T4.out.eye.keep (W.Chg.of_below (S := []) HBE.out) (by simp) (by simp))
                have CF := Lib.hid (W.rform_any b g l5 0 bq wr HE8.out)
                clear hke hbk
                obtain ⟨bd', hbd'⟩ : ∃ bd', bd' = (if bq = true ∧ (0 : Int) = 0 then (4 : Int) else 0) := ⟨_, rfl⟩
                rw [← hbd'] at CF
                have HBD := Lib.hid hbd'
                clear hbd'
                go_wp2_with fail
                refine CF.out.mono ?_
                rintro e w8 ⟨rfl, he8, hc8⟩
                have HE9 := Lib.hid he8
                have HC9 := Lib.hid hc8
                have HT8 := Lib.hid ((HTY.out.below HBE.out).chg hc8 (by simp; exact hbl) (by simp; omega))
                have u0 := hc8.cell g0 (by simp; exact fun e => hbk e.symm)
                have u1 := hc8.cell g1 (by simp; exact fun e => hbk e.symm)
                have u2 := hc8.cell g2 (by simp; exact fun e => hbk e.symm)
                have u3 := hc8.cell g3 (by simp; exact fun e => hbk e.symm)
                have u4 : kk < w8.heap.size := Nat.lt_of_lt_of_le g4 hc8.size
                have u5 : w.heap.size < w8.heap.size := Nat.lt_of_lt_of_le g5 hc8.size
                have u6 : w8.cell? ⟨w.heap.size, 0, none⟩ = some (.slice av acc.length cv) := blk_cell HT8.out.head 0 _ rfl
                have y1 := (Below.heap_alloc w8 (.cells #[.int .i64 c, .int .i64 hh, .int .i64 ii, .bool bb] 66) w.heap.size u5)
                have z0 := (World.cell?_of_block (w := w8) (a := ⟨w.heap.size, 0, none⟩) y1).trans u6
                clear y1 he8 hc8 g0 g1 g2 g3 g4 g5 t0
                go_wp2
                go_region_law (refine step_rrow (by rfl) _ _ (by rfl) w8 w.heap.size w.heap.size (.slice av acc.length cv) acc ⟨c, hh, ii, bb⟩ HT8.out (by omega) (by omega) (by rfl) (by rfl) ?_; intro g7 cap7 w7 zc z1 z2 z3 HT7)
                all_goals
                  go_wp2
                  go_roundg (gko - 1)
                  case measure => omega
                  case rel =>
                    have h7 := HT7.out
                    have hS : ∀ x ∈ w.heap.size :: (Value.slice av acc.length cv).ownBlock.toList, w.heap.size ≤ x := by
                      intro x hx
                      rcases List.mem_cons.1 hx with rfl | hx
                      · exact Nat.le_refl _
                      · exact (HT8.out.rows.lt x (by simpa using hx)).1
                    have hE7 := HE9.out.keep h7.2 (fun hm => by have := hS b hm; omega) (fun hm => by have := hS g hm; omega)
                    have hC7 := ((HCY.out.trans (W.Chg.of_below (S := []) HBE.out) (by simp)).trans HC9.out (fun x hx => .inl hx)).trans h7.2 (fun x hx => .inr (hS x hx))
                    refine ⟨j + 1, acc ++ [⟨c, hh, ii, bb⟩], l5, bd', by go_num, by omega, by omega, by simp [HA.out], ?_, ⟨?_, ?_⟩, ⟨_, h7.1⟩, hE7, hC7⟩
                    · intro y hy
                      rcases List.mem_append.1 hy with h | h
                      · exact HSM.out y h
                      · rw [List.mem_singleton] at h; rw [h]; exact HRR2.out
                    · intro h0
                      rw [HB.out, if_neg]
                      intro hq
                      rw [HQ.out.symm] at hq
                      rw [HBD.out, if_pos ⟨hq, by simp⟩] at h0
                      omega
                    · intro h0
                      have hq : bq = true := by
                        cases bq with
                        | true => rfl
                        | false => rw [HBD.out] at h0; simp at h0
                      refine ⟨acc, ?_⟩
                      rw [HB.out, if_pos (by rw [HQ.out.symm]; exact hq), HBD.out, if_pos ⟨hq, by simp⟩]
        · have HB : Hid (R = (acc, l5, b5)) := Lib.hid (by rw [HJ2.out, if_pos hb5])
          have q5 : (b5 != 0) = true := by simp [hb5]
          have HB5 := Lib.hid hb5
          clear hb5 hrr
          go_wp2
          go_ret
          exact ⟨_, .slice none 0 0, rfl, Nat.le_refl _, fun h => absurd (by rw [HB.out] at h; exact h) HB5.out, by rw [HB.out]; exact T4.out.eye, HCY.out⟩
      · have hjk : j = K := by omega
        have HB : Hid (R = (acc, lj, 0)) := Lib.hid (by
          rw [← HJ1.out, hjk, Nat.sub_self]
          rfl)
        clear hjk
        go_wp2
        go_ret
        obtain ⟨v, ht⟩ := HT.out
        exact ⟨_, v, rfl, Nat.le_refl _, fun _ => by rw [HB.out]; exact ht, by rw [HB.out]; exact HE.out, HC.out⟩
    · have q1 : (bd == 0) = false := by simp [hbz]
      have HBZ := Lib.hid hbz
      clear hbz
      by_cases hlt : j < K
      all_goals
        go_wp2
        go_ret
        obtain ⟨a', ha'⟩ := HJ.out.2 HBZ.out
        exact ⟨_, .slice none 0 0, rfl, Nat.le_refl _, fun h => absurd (by rw [ha'] at h; exact h) HBZ.out, by rw [ha']; exact HE.out, HC.out⟩
end Go.Proofs.Ytembgdjdljflhaa
