/- The walk of TokensReads. -/
import Derived.Test.YtembgdjdljflhaaR5
import Derived.Deep.RegionHeld3
import Derived.Deep.RegionWith
namespace Go.Proofs.Ytembgdjdljflhaa.tokensReads
open Go.RowKit
set_option linter.unusedVariables false
set_option linter.unusedSimpArgs false

theorem toU8 (z : Int) (h : (Lit.int .u8 z).wf = true) : .int .u8 z = W.bv (UInt8.ofNat z.toNat) := by
  simp [Lit.wf, IntKind.min, IntKind.max, IntKind.signed, IntKind.bits] at h
  unfold W.bv
  rw [UInt8.toNat_ofNat']
  congr 1
  omega
theorem row_bytes {w : World} {a : Option Addr} {len cap : Nat} {zs : List Int} (h : IsRow .u8 w a len cap zs) : len ≤ maxLen ∧ ∃ l : List UInt8, l.length = len ∧ W.BytesAt w (.slice a l.length cap) l ∧
    (l = [] ∨ ∃ g o, a = some ⟨g, o, none⟩ ∧ g < w.heap.size ∧ ∀ i, i < l.length → w.cell? ⟨g, o + i, none⟩ = some (W.bv (l.getD i 0))) := by
  have hr := h.rowAt
  obtain ⟨hrow, hm, hz, hwf⟩ := hr
  refine ⟨hm, (zs.take len).map (fun z => UInt8.ofNat z.toNat), by rw [List.length_map, List.length_take]; omega, ?_⟩
  have hl : ((zs.take len).map (fun z => UInt8.ofNat z.toNat)).length = len := by rw [List.length_map, List.length_take]; omega
  have hg : ∀ i, i < len → ((zs.take len).map (fun z => UInt8.ofNat z.toNat)).getD i 0 = UInt8.ofNat (zs.getD i 0).toNat := by
    intro i hi
    rw [List.getD_eq_getElem?_getD, List.getElem?_map, List.getElem?_take, if_pos hi, List.getD_eq_getElem?_getD, List.getElem?_eq_getElem (by omega)]
    rfl
  generalize (zs.take len).map (fun z => UInt8.ofNat z.toNat) = l at *
  have hcap : len ≤ cap ∧ cap ≤ maxLen ∧ (len = 0 → a = none → cap = 0) := by
    rcases h with ⟨rfl, rfl, rfl, rfl⟩ | ⟨x, rfl, h1, h2, _⟩
    · exact ⟨Nat.le_refl _, by unfold maxLen; omega, fun _ _ => rfl⟩
    · exact ⟨h1, h2, fun _ h => by cases h⟩
  have hcell : l = [] ∨ ∃ g o, a = some ⟨g, o, none⟩ ∧ g < w.heap.size ∧ ∀ i, i < l.length → w.cell? ⟨g, o + i, none⟩ = some (W.bv (l.getD i 0)) := by
    rcases hrow with h0 | ⟨g, o, rfl, hgl, hc⟩
    · left; exact List.eq_nil_of_length_eq_zero (by omega)
    · right
      refine ⟨g, o, rfl, hgl, fun i hi => ?_⟩
      rw [hc i (by omega), hg i (by omega), ← toU8 _ (hwf i)]
  refine ⟨?_, hcell⟩
  rcases hcell with h0 | ⟨g, o, rfl, hgl, hc⟩
  · subst h0
    have h00 : len = 0 := by simpa using hl.symm
    cases a with
    | none => exact ⟨none, cap, rfl, by simp, hcap.2.1, .inl ⟨rfl, hcap.2.2 h00 rfl⟩⟩
    | some x =>
      by_cases hc0 : cap = 0
      · exact ⟨some x, cap, rfl, by simp, hcap.2.1, .inl ⟨rfl, hc0⟩⟩
      · rcases h with ⟨h1, _⟩ | ⟨y, h1, _, _, h4, h5, _⟩
        · cases h1
        · obtain rfl : x = y := by simpa using h1
          obtain ⟨g, o, spot⟩ := x
          have hc := h5 0 (by omega)
          have hspot : spot = none := by simpa [Addr.add] using World.cell?_spot hc
          subst hspot
          exact ⟨_, cap, rfl, by simp, hcap.2.1, .inr ⟨g, o, rfl, fun i hi => by simp at hi⟩⟩
  · exact ⟨_, cap, rfl, by omega, hcap.2.1, .inr ⟨g, o, rfl, hc⟩⟩

theorem bel_drewN {B : Nat} {a w : World} (h : Below B a w) (n : Nat) : Below B a (w.drewN n) := ⟨h.os, h.tape, h.output, h.size, h.block⟩
theorem bytes_chg {w w' : World} {v : Value} {l : List UInt8} {S : List Nat} (h : W.BytesAt w v l) (hc : W.Chg S w w') (hS : ∀ g, v.ownBlock = some g → g ∉ S) : W.BytesAt w' v l := by
  obtain ⟨a, cap, rfl, h1, h2, h3⟩ := h
  refine ⟨a, cap, rfl, h1, h2, ?_⟩
  rcases h3 with h3 | ⟨g, o, rfl, hcell⟩
  · exact .inl h3
  · exact .inr ⟨g, o, rfl, fun i hi => hc.cell (hcell i hi) (hS g rfl)⟩

set_option maxHeartbeats 8000000 in
set_option maxRecDepth 100000 in
theorem walk (a0 : Option Addr) (len0 cap0 : Nat) (z0 : List Int) (w : World) (w0 : IsRow .u8 w a0 len0 cap0 z0) :
    Calls Try.prog 6 #[.slice a0 len0 cap0] w fun e w' => e = .returned (.bool true) ∧ Below w.heap.size w w' := by
  obtain ⟨hm, l, hl, hB, hG⟩ := row_bytes w0
  obtain rfl := hl
  unfold maxLen at hm
  have CA := Lib.hid (awake_any w)
  have HB := Lib.hid hB
  have HG := Lib.hid hG
  clear w0 hB hG
  by_cases h500 : 500 < l.length
  · go_enter Try.func6, Try.ntmps6
    go_wp2_with fail
    refine CA.out.mono ?_
    rintro e w1 ⟨rfl, hb1⟩
    go_wp2
    go_ret
    exact ⟨rfl, hb1⟩
  · go_enter Try.func6, Try.ntmps6
    go_wp2_with fail
    refine CA.out.mono ?_
    rintro e w1 ⟨rfl, hb1⟩
    have HB1 := Lib.hid hb1
    have hs1 := hb1.size
    have hc1 : W.Chg [] w w1 := W.Chg.of_below hb1
    have CN := Lib.hid (W.neweye_any _ l w1 (bytes_chg HB.out hc1 (by simp)) (by omega))
    clear hb1 hc1
    go_wp2_with fail
    refine CN.out.mono ?_
    rintro e w2 ⟨eb, eg, rfl, he2, hee, heg, hc2⟩
    have HE2 := Lib.hid he2
    have HC2 := Lib.hid hc2
    have hs2 := hc2.size
    clear he2 hc2 CN
    -- the reference's eye
    obtain ⟨w3, hw3⟩ : ∃ w3, w3 = w2.alloc (.cells #[.slice a0 l.length cap0, .int .i64 0] 48) := ⟨_, rfl⟩
    have hs3 : w3.heap.size = w2.heap.size + 1 := by rw [hw3]; simp
    have hc3 : W.Chg [] w2 w3 := by rw [hw3]; exact (W.Chg.refl _ _).alloc _
    have hmb : w3.heap[w2.heap.size]? = some (.cells #[.slice a0 l.length cap0, .int .i64 0] 48 (0, 0)) := by rw [hw3]; exact heap_alloc_new w2 _
    have heg2 : eg < w2.heap.size ∨ l = [] := by
      obtain ⟨v, h1, h2, h3, h4, h5⟩ := HE2.out
      rcases h4 with h4 | h4
      · exact .inl h4
      · right
        rcases h2 with ⟨_, h⟩ | ⟨o, c, h, _⟩
        · exact h
        · rw [h4] at h; cases h
    have heb2 : eb < w2.heap.size := by obtain ⟨v, h1, _⟩ := HE2.out; exact lt_of_block h1
    have hM : ∃ mg, W.REyeAt w3 w2.heap.size mg l 0 ∧ (mg < w3.heap.size ∨ l = []) ∧ mg ≠ eb := by
      rcases HG.out with h0 | ⟨g, o, h, hlt, hcell⟩
      · subst h0
        exact ⟨w2.heap.size + 1, ⟨_, hmb, .inl ⟨rfl, _, _, rfl⟩, by omega, by simp⟩, .inr rfl, by omega⟩
      · subst h
        obtain ⟨a', c', h1, h2, h3, _⟩ := HB.out
        obtain ⟨_, rfl⟩ : some (⟨g, o, none⟩ : Addr) = a' ∧ cap0 = c' := by simpa using h1
        have hcc : W.Chg [] w w3 := ((W.Chg.of_below HB1.out).trans HC2.out (by simp)).trans hc3 (by simp)
        exact ⟨g, ⟨_, hmb, .inr ⟨o, cap0, rfl, h2, h3, by omega, fun i hi => hcc.cell (hcell i hi) (by simp)⟩, by omega, by omega⟩, .inl (by omega), by omega⟩
    obtain ⟨mg, hM, hmg, hmgb⟩ := hM
    have HM := Lib.hid hM
    have HE3 := Lib.hid (HE2.out.keep hc3 (by simp) (by simp))
    have heg3 : eg < w3.heap.size ∨ l = [] := by
      obtain ⟨v, h1, h2, h3, h4, h5⟩ := HE3.out
      rcases h4 with h4 | h4
      · exact .inl h4
      · right
        rcases h2 with ⟨_, h⟩ | ⟨o, c, h, _⟩
        · exact h
        · rw [h4] at h; cases h
    have CR := Lib.hid (read_any eb eg l w3 HE3.out heg3)
    have HW3 := Lib.hid hw3
    have hbl3 : Below w.heap.size w w3 := by
      have h1 := W.Chg.to_below HB1.out HC2.out (by omega) (by simp)
      exact W.Chg.to_below h1 hc3 (by omega) (by simp)
    have HBL3 := Lib.hid hbl3
    clear hw3 hc3 hmb hM hbl3
    go_wp2_with fail
    rw [← HW3.out]
    refine CR.out.mono ?_
    intro e w4 hpost
    unfold ReadPost at hpost
    obtain ⟨hres, hc4⟩ := hpost
    have HC4 := Lib.hid hc4
    have hs4 := hc4.size
    have HM4 := Lib.hid (HM.out.keep hc4 (by simp; omega) (by simp; exact hmgb))
    have CQ := Lib.hid (rread_any w2.heap.size mg l w4 HM4.out (by rcases hmg with h | h; exact .inl (by omega); exact .inr h))
    obtain ⟨R, hR⟩ : ∃ R, R = rdTok l := ⟨_, rfl⟩
    rw [← hR] at hres CQ
    have HRD := Lib.hid hR
    clear hR hc4 CR
    by_cases hbad : R.2.2 = 0
    · rw [if_pos hbad] at hres
      obtain ⟨tb, v, rfl, htb, ht, he⟩ := hres
      have HT4 := Lib.hid ht
      have HE4 := Lib.hid he
      have HBAD := Lib.hid hbad
      clear ht he hbad
      go_wp2_with fail
      refine CQ.out.mono ?_
      intro e w5 hpost
      unfold RReadPost at hpost
      obtain ⟨rb, rv, rfl, hrb, hrt, hre, hc5⟩ := hpost
      have hrt := hrt HBAD.out
      have hs5 := hc5.size
      have HT5 := Lib.hid (HT4.out.chg hc5 (by simp; omega) (by simp; omega))
      have hne : eg ≠ w2.heap.size := by
        rcases heg2 with h | h
        · omega
        · exfalso
          have h1 := HRD.out
          have h2 := HBAD.out
          rw [h] at h1
          rw [h1] at h2
          simp [rdTok, W.eyeNum] at h2
      have HE5 := Lib.hid (HE4.out.keep hc5 (by simp; omega) (by simp; exact hne))
      have HRE := Lib.hid hre
      have hbz := reye_bad hre
      rw [HBAD.out] at hbz
      obtain ⟨am, cm, hm0⟩ : ∃ am cm, w5.cell? ⟨w2.heap.size, 0, none⟩ = some (.slice am R.2.1.length cm) := by
        obtain ⟨v, h1, h2, _⟩ := hre
        obtain ⟨a, c, rfl⟩ := h2.slice
        exact ⟨a, c, blk_cell h1 0 _ rfl⟩
      obtain ⟨ar, cr, rfl, hcr, hrr⟩ := rown_rows hrt.rows
      have hr0 : w5.cell? ⟨rb, 0, none⟩ = some (.slice ar R.1.length cr) := blk_cell hrt.head 0 _ rfl
      have hfew : R.1.length ≤ 100000 := HT5.out.few
      have hmlt : w2.heap.size < w5.heap.size := by omega
      have hrblt : rb < w5.heap.size := hrt.lt
      have HB5 : Hid (Below w.heap.size w w5) := Lib.hid (by
        have h1 := W.Chg.to_below HBL3.out HC4.out (by omega) (by intro x hx; simp at hx; omega)
        exact W.Chg.to_below h1 hc5 (by omega) (by intro x hx; simp at hx; omega))
      have HRR := Lib.hid hrr
      have CO12 : Hid (∀ X, Below w5.heap.size w5 X → Calls Try.prog 12 #[.pointer (some ⟨tb, 0, none⟩)] X fun e w' => ∃ a c, e = .returned (.slice a R.1.length c) ∧ Hid (RowsAt w' w'.heap.size a R.1.length (fun i => R.1.getD i default)) ∧ Hid (Below w5.heap.size w5 w')) := by
        intro X hX
        refine (copy_any tb v w3.heap.size R.1 X (HT5.out.below hX)).mono ?_
        rintro e w' ⟨v', rfl, ho, hb⟩
        obtain ⟨a, c, rfl, _, hr⟩ := own_rows ho
        exact ⟨a, c, rfl, hr, hX.trans (hb.mono hX.size)⟩
      have CO20 : Hid (∀ X a c, RowsAt X X.heap.size a R.1.length (fun i => R.1.getD i default) → Below w5.heap.size w5 X → Calls Try.prog 20 #[.slice a R.1.length c] X fun e w' => ∃ a c, e = .returned (.slice a R.1.length c) ∧ Hid (RowsAt w' w'.heap.size a R.1.length (fun i => R.1.getD i default)) ∧ Hid (Below w5.heap.size w5 w')) := by
        intro X a c h1 hX
        refine (model_any a c R.1 X h1 hfew).mono ?_
        rintro e w' ⟨v', rfl, ho, hb⟩
        obtain ⟨a, c, rfl, _, hr⟩ := rown_rows ho
        exact ⟨a, c, rfl, hr, hX.trans (hb.mono hX.size)⟩
      have CO19 : Hid (∀ X a c, RowsAt X X.heap.size a R.1.length (fun i => R.1.getD i default) → Below w5.heap.size w5 X → Calls Try.prog 19 #[.slice a R.1.length c, .slice ar R.1.length cr] X fun e w' => e = .returned (.bool true) ∧ Hid (Below w5.heap.size w5 w')) := by
        intro X a c h1 hX
        refine (samet_any a ar c cr R.1 X h1 ?_ hfew).mono ?_
        · rcases HRR.out.below hX with h | ⟨g, h1, h2, h3⟩
          · exact .inl h
          · exact .inr ⟨g, h1, Nat.lt_of_lt_of_le h2 hX.size, h3⟩
        · rintro e w' ⟨rfl, n, rfl⟩
          exact ⟨rfl, bel_drewN hX n⟩
      have CO21 : Hid (∀ X, Below w5.heap.size w5 X → Calls Try.prog 21 #[.pointer (some ⟨eb, 0, none⟩)] X fun e w' => e = .returned (.int .i64 R.2.1.length) ∧ Hid (Below w5.heap.size w5 w')) := by
        intro X hX
        refine (W.eleft_any eb eg R.2.1 0 X (HE5.out.keep (W.Chg.of_below (S := []) hX) (by simp) (by simp))).mono ?_
        rintro e w' ⟨rfl, rfl⟩
        exact ⟨rfl, hX⟩
      clear hrt hre hc5 hrr
      go_wp2
      --REGION 11, operation by operation (printed by gen_reads.py)
      refine wp_region_held_drew (S := fun w' => w'.cell? ⟨w2.heap.size, 1, none⟩ = some (.int .i64 0) ∧ w'.cell? ⟨w2.heap.size, 0, none⟩ = some (.slice am R.2.1.length cm) ∧ w'.cell? ⟨rb, 0, none⟩ = some (.slice ar R.1.length cr)) (by kernel_rfl) ?_ (fun hHeld => ?_)
      · go_keep
      refine wpAnyH_take (i := 0) (oi := _) (v := ?_) rfl (by kernel_rfl) (by kernel_rfl) (by kernel_rfl) (fun _ _ _ h => h) (Or.inl ⟨by rfl, ?_⟩) (by assumption) ?_
      rotate_left
      · intro w hSw
        (try dsimp only at hSw)
        go_simp
        try with_reducible rfl
      try simp only [List.getElem_toArray, List.getElem_cons_succ, List.getElem_cons_zero, Act.put, List.setIfInBounds_toArray, List.set_cons_zero, List.set_cons_succ]
      refine wpAnyH_take (i := 1) (oi := _) (v := ?_) rfl (by kernel_rfl) (by kernel_rfl) (by kernel_rfl) (fun _ _ _ h => h) (Or.inl ⟨by rfl, ?_⟩) (by assumption) ?_
      rotate_left
      · intro w hSw
        (try dsimp only at hSw)
        go_simp
        try with_reducible rfl
      try simp only [List.getElem_toArray, List.getElem_cons_succ, List.getElem_cons_zero, Act.put, List.setIfInBounds_toArray, List.set_cons_zero, List.set_cons_succ]
      refine wpAnyH_take (i := 2) (oi := _) (v := ?_) rfl (by kernel_rfl) (by kernel_rfl) (by kernel_rfl) (fun _ _ _ h => h) (Or.inl ⟨by rfl, ?_⟩) (by assumption) ?_
      rotate_left
      · intro w hSw
        (try dsimp only at hSw)
        go_simp
        try with_reducible rfl
      try simp only [List.getElem_toArray, List.getElem_cons_succ, List.getElem_cons_zero, Act.put, List.setIfInBounds_toArray, List.set_cons_zero, List.set_cons_succ]
      refine wpAnyH_take (i := 3) (oi := _) (v := ?_) rfl (by kernel_rfl) (by kernel_rfl) (by kernel_rfl) (fun _ _ _ h => h) (Or.inl ⟨by rfl, ?_⟩) (by assumption) ?_
      rotate_left
      · intro w hSw
        (try dsimp only at hSw)
        go_simp
        try with_reducible rfl
      try simp only [List.getElem_toArray, List.getElem_cons_succ, List.getElem_cons_zero, Act.put, List.setIfInBounds_toArray, List.set_cons_zero, List.set_cons_succ]
      refine wpAnyH_take (i := 4) (oi := _) (v := ?_) rfl (by kernel_rfl) (by kernel_rfl) (by kernel_rfl) (fun _ _ _ h => h) (Or.inl ⟨by rfl, ?_⟩) (by assumption) ?_
      rotate_left
      · intro w hSw
        (try dsimp only at hSw)
        go_simp
        try with_reducible rfl
      try simp only [List.getElem_toArray, List.getElem_cons_succ, List.getElem_cons_zero, Act.put, List.setIfInBounds_toArray, List.set_cons_zero, List.set_cons_succ]
      refine wpAnyH_take (i := 5) (oi := _) (v := ?_) rfl (by kernel_rfl) (by kernel_rfl) (by kernel_rfl) (fun _ _ _ h => h) (Or.inl ⟨by rfl, ?_⟩) (by assumption) ?_
      rotate_left
      · intro w hSw
        (try dsimp only at hSw)
        go_simp
        try with_reducible rfl
      try simp only [List.getElem_toArray, List.getElem_cons_succ, List.getElem_cons_zero, Act.put, List.setIfInBounds_toArray, List.set_cons_zero, List.set_cons_succ]
      refine wpAnyH_take (i := 6) (oi := _) (v := _) rfl (by kernel_rfl) (by kernel_rfl) (by kernel_rfl) (fun _ _ _ h => h) (Or.inr ⟨by rfl, rfl⟩) (by assumption) ?_
      try simp only [List.getElem_toArray, List.getElem_cons_succ, List.getElem_cons_zero, Act.put, List.setIfInBounds_toArray, List.set_cons_zero, List.set_cons_succ]
      refine wpAnyH_take (i := 7) (oi := _) (v := _) rfl (by kernel_rfl) (by kernel_rfl) (by kernel_rfl) (fun _ _ _ h => h) (Or.inr ⟨by rfl, rfl⟩) (by assumption) ?_
      try simp only [List.getElem_toArray, List.getElem_cons_succ, List.getElem_cons_zero, Act.put, List.setIfInBounds_toArray, List.set_cons_zero, List.set_cons_succ]
      refine wpAnyH_take (i := 8) (oi := _) (v := ?_) rfl (by kernel_rfl) (by kernel_rfl) (by kernel_rfl) (fun _ _ _ h => h) (Or.inl ⟨by rfl, ?_⟩) (by assumption) ?_
      rotate_left
      · intro w hSw
        (try dsimp only at hSw)
        go_simp
        try with_reducible rfl
      try simp only [List.getElem_toArray, List.getElem_cons_succ, List.getElem_cons_zero, Act.put, List.setIfInBounds_toArray, List.set_cons_zero, List.set_cons_succ]
      refine wpAnyH_take (i := 9) (oi := _) (v := ?_) rfl (by kernel_rfl) (by kernel_rfl) (by kernel_rfl) (fun _ _ _ h => h) (Or.inl ⟨by rfl, ?_⟩) (by assumption) ?_
      rotate_left
      · intro w hSw
        (try dsimp only at hSw)
        go_simp
        try with_reducible rfl
      try simp only [List.getElem_toArray, List.getElem_cons_succ, List.getElem_cons_zero, Act.put, List.setIfInBounds_toArray, List.set_cons_zero, List.set_cons_succ]
      refine wpAnyH_take (i := 10) (oi := _) (v := ?_) rfl (by kernel_rfl) (by kernel_rfl) (by kernel_rfl) (fun _ _ _ h => h) (Or.inl ⟨by rfl, ?_⟩) (by assumption) ?_
      rotate_left
      · intro w hSw
        (try dsimp only at hSw)
        go_simp
        try with_reducible rfl
      try simp only [List.getElem_toArray, List.getElem_cons_succ, List.getElem_cons_zero, Act.put, List.setIfInBounds_toArray, List.set_cons_zero, List.set_cons_succ]
      refine wpAnyH_take (i := 11) (oi := _) (v := ?_) rfl (by kernel_rfl) (by kernel_rfl) (by kernel_rfl) (fun _ _ _ h => h) (Or.inl ⟨by rfl, ?_⟩) (by assumption) ?_
      rotate_left
      · intro w hSw
        (try dsimp only at hSw)
        go_simp
        try with_reducible rfl
      try simp only [List.getElem_toArray, List.getElem_cons_succ, List.getElem_cons_zero, Act.put, List.setIfInBounds_toArray, List.set_cons_zero, List.set_cons_succ]
      refine wpAnyH_take (i := 12) (oi := _) (v := ?_) rfl (by kernel_rfl) (by kernel_rfl) (by kernel_rfl) (fun _ _ _ h => h) (Or.inl ⟨by rfl, ?_⟩) (by assumption) ?_
      rotate_left
      · intro w hSw
        (try dsimp only at hSw)
        go_simp
        try with_reducible rfl
      try simp only [List.getElem_toArray, List.getElem_cons_succ, List.getElem_cons_zero, Act.put, List.setIfInBounds_toArray, List.set_cons_zero, List.set_cons_succ]
      refine wpAnyH_take (i := 13) (oi := _) (v := ?_) rfl (by kernel_rfl) (by kernel_rfl) (by kernel_rfl) (fun _ _ _ h => h) (Or.inl ⟨by rfl, ?_⟩) (by assumption) ?_
      rotate_left
      · intro w hSw
        (try dsimp only at hSw)
        go_simp
        try with_reducible rfl
      try simp only [List.getElem_toArray, List.getElem_cons_succ, List.getElem_cons_zero, Act.put, List.setIfInBounds_toArray, List.set_cons_zero, List.set_cons_succ]
      refine wpAnyH_take (i := 14) (oi := _) (v := ?_) rfl (by kernel_rfl) (by kernel_rfl) (by kernel_rfl) (fun _ _ _ h => h) (Or.inl ⟨by rfl, ?_⟩) (by assumption) ?_
      rotate_left
      · intro w hSw
        (try dsimp only at hSw)
        go_simp
        try with_reducible rfl
      try simp only [List.getElem_toArray, List.getElem_cons_succ, List.getElem_cons_zero, Act.put, List.setIfInBounds_toArray, List.set_cons_zero, List.set_cons_succ]
      refine wpAnyH_take (i := 15) (oi := _) (v := ?_) rfl (by kernel_rfl) (by kernel_rfl) (by kernel_rfl) (fun _ _ _ h => h) (Or.inl ⟨by rfl, ?_⟩) (by assumption) ?_
      rotate_left
      · intro w hSw
        (try dsimp only at hSw)
        go_simp
        try with_reducible rfl
      try simp only [List.getElem_toArray, List.getElem_cons_succ, List.getElem_cons_zero, Act.put, List.setIfInBounds_toArray, List.set_cons_zero, List.set_cons_succ]
      refine wpAnyH_take (i := 16) (oi := _) (v := ?_) rfl (by kernel_rfl) (by kernel_rfl) (by kernel_rfl) (fun _ _ _ h => h) (Or.inl ⟨by rfl, ?_⟩) (by assumption) ?_
      rotate_left
      · intro w hSw
        (try dsimp only at hSw)
        go_simp
        try with_reducible rfl
      try simp only [List.getElem_toArray, List.getElem_cons_succ, List.getElem_cons_zero, Act.put, List.setIfInBounds_toArray, List.set_cons_zero, List.set_cons_succ]
      refine wpAnyH_take (i := 19) (oi := _) (v := ?_) rfl (by kernel_rfl) (by kernel_rfl) (by kernel_rfl) (fun _ _ _ h => h) (Or.inl ⟨by rfl, ?_⟩) (by assumption) ?_
      rotate_left
      · intro w hSw
        (try dsimp only at hSw)
        go_simp
        try with_reducible rfl
      try simp only [List.getElem_toArray, List.getElem_cons_succ, List.getElem_cons_zero, Act.put, List.setIfInBounds_toArray, List.set_cons_zero, List.set_cons_succ]
      refine wpAnyH_take (i := 20) (oi := _) (v := ?_) rfl (by kernel_rfl) (by kernel_rfl) (by kernel_rfl) (fun _ _ _ h => h) (Or.inl ⟨by rfl, ?_⟩) (by assumption) ?_
      rotate_left
      · intro w hSw
        (try dsimp only at hSw)
        go_simp
        try with_reducible rfl
      try simp only [List.getElem_toArray, List.getElem_cons_succ, List.getElem_cons_zero, Act.put, List.setIfInBounds_toArray, List.set_cons_zero, List.set_cons_succ]
      refine wpAnyH_take (i := 21) (oi := _) (v := ?_) rfl (by kernel_rfl) (by kernel_rfl) (by kernel_rfl) (fun _ _ _ h => h) (Or.inl ⟨by rfl, ?_⟩) (by assumption) ?_
      rotate_left
      · intro w hSw
        (try dsimp only at hSw)
        go_simp
        try with_reducible rfl
      try simp only [List.getElem_toArray, List.getElem_cons_succ, List.getElem_cons_zero, Act.put, List.setIfInBounds_toArray, List.set_cons_zero, List.set_cons_succ]
      refine wpAnyH_take (i := 22) (oi := _) (v := ?_) rfl (by kernel_rfl) (by kernel_rfl) (by kernel_rfl) (fun _ _ _ h => h) (Or.inl ⟨by rfl, ?_⟩) (by assumption) ?_
      rotate_left
      · intro w hSw
        (try dsimp only at hSw)
        go_simp
        try with_reducible rfl
      try simp only [List.getElem_toArray, List.getElem_cons_succ, List.getElem_cons_zero, Act.put, List.setIfInBounds_toArray, List.set_cons_zero, List.set_cons_succ]
      refine wpAnyH_ready (rs := [17]) (by kernel_rfl) (by simp) ?_
      refine AllReadyH.cons (o := _) rfl (fun K hK => ?_) AllReadyH.nil
      try simp only [List.getElem_toArray, List.getElem_cons_succ, List.getElem_cons_zero]
      go_simp
      refine (CO12.out _ ((Below.refl _ _).drew)).mono ?_; rintro e w6 ⟨a6, c6, rfl, HR6, HB6⟩
      have s1 := (HB6.out.cell (p := ⟨w2.heap.size, 1, none⟩) hmlt).trans hbz
      have s2 := (HB6.out.cell (p := ⟨w2.heap.size, 0, none⟩) hmlt).trans hm0
      have s3 := (HB6.out.cell (p := ⟨rb, 0, none⟩) hrblt).trans hr0
      try go_wp2_with fail
      refine hK.out _ _ ?_ (fun hHeld => ?_)
      · exact ⟨s1, s2, s3⟩
      clear hK K s1 s2 s3
      try simp only [List.getElem_toArray, List.getElem_cons_succ, List.getElem_cons_zero, Act.put, List.setIfInBounds_toArray, List.set_cons_zero, List.set_cons_succ]
      refine wpAnyH_ready (rs := [18]) (by kernel_rfl) (by simp) ?_
      refine AllReadyH.cons (o := _) rfl (fun K hK => ?_) AllReadyH.nil
      try simp only [List.getElem_toArray, List.getElem_cons_succ, List.getElem_cons_zero]
      go_simp
      refine (CO20.out _ _ _ HR6.out HB6.out).mono ?_; rintro e w7 ⟨a7, c7, rfl, HR7, HB7⟩
      have s1 := (HB7.out.cell (p := ⟨w2.heap.size, 1, none⟩) hmlt).trans hbz
      have s2 := (HB7.out.cell (p := ⟨w2.heap.size, 0, none⟩) hmlt).trans hm0
      have s3 := (HB7.out.cell (p := ⟨rb, 0, none⟩) hrblt).trans hr0
      try go_wp2_with fail
      refine hK.out _ _ ?_ (fun hHeld => ?_)
      · exact ⟨s1, s2, s3⟩
      clear hK K s1 s2 s3
      try simp only [List.getElem_toArray, List.getElem_cons_succ, List.getElem_cons_zero, Act.put, List.setIfInBounds_toArray, List.set_cons_zero, List.set_cons_succ]
      refine wpAnyH_ready (rs := [23]) (by kernel_rfl) (by simp) ?_
      refine AllReadyH.cons (o := _) rfl (fun K hK => ?_) AllReadyH.nil
      try simp only [List.getElem_toArray, List.getElem_cons_succ, List.getElem_cons_zero]
      go_simp
      refine (CO19.out _ _ _ HR7.out HB7.out).mono ?_; rintro e w8 ⟨rfl, HB8⟩
      have s1 := (HB8.out.cell (p := ⟨w2.heap.size, 1, none⟩) hmlt).trans hbz
      have s2 := (HB8.out.cell (p := ⟨w2.heap.size, 0, none⟩) hmlt).trans hm0
      have s3 := (HB8.out.cell (p := ⟨rb, 0, none⟩) hrblt).trans hr0
      try go_wp2_with fail
      refine hK.out _ _ ?_ (fun hHeld => ?_)
      · exact ⟨s1, s2, s3⟩
      clear hK K s1 s2 s3
      try simp only [List.getElem_toArray, List.getElem_cons_succ, List.getElem_cons_zero, Act.put, List.setIfInBounds_toArray, List.set_cons_zero, List.set_cons_succ]
      refine wpAnyH_take (i := 24) (oi := _) (v := ?_) rfl (by kernel_rfl) (by kernel_rfl) (by kernel_rfl) (fun _ _ _ h => h) (Or.inl ⟨by rfl, ?_⟩) (by assumption) ?_
      rotate_left
      · intro w hSw
        (try dsimp only at hSw)
        go_simp
        try with_reducible rfl
      try simp only [List.getElem_toArray, List.getElem_cons_succ, List.getElem_cons_zero, Act.put, List.setIfInBounds_toArray, List.set_cons_zero, List.set_cons_succ]
      refine wpAnyH_take (i := 25) (oi := _) (v := ?_) rfl (by kernel_rfl) (by kernel_rfl) (by kernel_rfl) (fun _ _ _ h => h) (Or.inl ⟨by rfl, ?_⟩) (by assumption) ?_
      rotate_left
      · intro w hSw
        (try dsimp only at hSw)
        go_simp
        try with_reducible rfl
      try simp only [List.getElem_toArray, List.getElem_cons_succ, List.getElem_cons_zero, Act.put, List.setIfInBounds_toArray, List.set_cons_zero, List.set_cons_succ]
      refine wpAnyH_take (i := 26) (oi := _) (v := ?_) rfl (by kernel_rfl) (by kernel_rfl) (by kernel_rfl) (fun _ _ _ h => h) (Or.inl ⟨by rfl, ?_⟩) (by assumption) ?_
      rotate_left
      · intro w hSw
        (try dsimp only at hSw)
        go_simp
        try with_reducible rfl
      try simp only [List.getElem_toArray, List.getElem_cons_succ, List.getElem_cons_zero, Act.put, List.setIfInBounds_toArray, List.set_cons_zero, List.set_cons_succ]
      refine wpAnyH_take (i := 28) (oi := _) (v := ?_) rfl (by kernel_rfl) (by kernel_rfl) (by kernel_rfl) (fun _ _ _ h => h) (Or.inl ⟨by rfl, ?_⟩) (by assumption) ?_
      rotate_left
      · intro w hSw
        (try dsimp only at hSw)
        go_simp
        try with_reducible rfl
      try simp only [List.getElem_toArray, List.getElem_cons_succ, List.getElem_cons_zero, Act.put, List.setIfInBounds_toArray, List.set_cons_zero, List.set_cons_succ]
      refine wpAnyH_take (i := 29) (oi := _) (v := ?_) rfl (by kernel_rfl) (by kernel_rfl) (by kernel_rfl) (fun _ _ _ h => h) (Or.inl ⟨by rfl, ?_⟩) (by assumption) ?_
      rotate_left
      · intro w hSw
        (try dsimp only at hSw)
        go_simp
        try with_reducible rfl
      try simp only [List.getElem_toArray, List.getElem_cons_succ, List.getElem_cons_zero, Act.put, List.setIfInBounds_toArray, List.set_cons_zero, List.set_cons_succ]
      refine wpAnyH_take (i := 30) (oi := _) (v := ?_) rfl (by kernel_rfl) (by kernel_rfl) (by kernel_rfl) (fun _ _ _ h => h) (Or.inl ⟨by rfl, ?_⟩) (by assumption) ?_
      rotate_left
      · intro w hSw
        (try dsimp only at hSw)
        go_simp
        try with_reducible rfl
      try simp only [List.getElem_toArray, List.getElem_cons_succ, List.getElem_cons_zero, Act.put, List.setIfInBounds_toArray, List.set_cons_zero, List.set_cons_succ]
      refine wpAnyH_take (i := 31) (oi := _) (v := ?_) rfl (by kernel_rfl) (by kernel_rfl) (by kernel_rfl) (fun _ _ _ h => h) (Or.inl ⟨by rfl, ?_⟩) (by assumption) ?_
      rotate_left
      · intro w hSw
        (try dsimp only at hSw)
        go_simp
        try with_reducible rfl
      try simp only [List.getElem_toArray, List.getElem_cons_succ, List.getElem_cons_zero, Act.put, List.setIfInBounds_toArray, List.set_cons_zero, List.set_cons_succ]
      refine wpAnyH_take (i := 32) (oi := _) (v := ?_) rfl (by kernel_rfl) (by kernel_rfl) (by kernel_rfl) (fun _ _ _ h => h) (Or.inl ⟨by rfl, ?_⟩) (by assumption) ?_
      rotate_left
      · intro w hSw
        (try dsimp only at hSw)
        go_simp
        try with_reducible rfl
      try simp only [List.getElem_toArray, List.getElem_cons_succ, List.getElem_cons_zero, Act.put, List.setIfInBounds_toArray, List.set_cons_zero, List.set_cons_succ]
      refine wpAnyH_ready (rs := [27]) (by kernel_rfl) (by simp) ?_
      refine AllReadyH.cons (o := _) rfl (fun K hK => ?_) AllReadyH.nil
      try simp only [List.getElem_toArray, List.getElem_cons_succ, List.getElem_cons_zero]
      go_simp
      refine (CO21.out _ HB8.out).mono ?_; rintro e w9 ⟨rfl, HB9⟩
      have s1 := (HB9.out.cell (p := ⟨w2.heap.size, 1, none⟩) hmlt).trans hbz
      have s2 := (HB9.out.cell (p := ⟨w2.heap.size, 0, none⟩) hmlt).trans hm0
      have s3 := (HB9.out.cell (p := ⟨rb, 0, none⟩) hrblt).trans hr0
      try go_wp2_with fail
      refine hK.out _ _ ?_ (fun hHeld => ?_)
      · exact ⟨s1, s2, s3⟩
      clear hK K s1 s2 s3
      try simp only [List.getElem_toArray, List.getElem_cons_succ, List.getElem_cons_zero, Act.put, List.setIfInBounds_toArray, List.set_cons_zero, List.set_cons_succ]
      refine wpAnyH_take (i := 33) (oi := _) (v := ?_) rfl (by kernel_rfl) (by kernel_rfl) (by kernel_rfl) (fun _ _ _ h => h) (Or.inl ⟨by rfl, ?_⟩) (by assumption) ?_
      rotate_left
      · intro w hSw
        (try dsimp only at hSw)
        go_simp
        try with_reducible rfl
      try simp only [List.getElem_toArray, List.getElem_cons_succ, List.getElem_cons_zero, Act.put, List.setIfInBounds_toArray, List.set_cons_zero, List.set_cons_succ]
      refine wpAnyH_take (i := 34) (oi := _) (v := ?_) rfl (by kernel_rfl) (by kernel_rfl) (by kernel_rfl) (fun _ _ _ h => h) (Or.inl ⟨by rfl, ?_⟩) (by assumption) ?_
      rotate_left
      · intro w hSw
        (try dsimp only at hSw)
        go_simp
        try with_reducible rfl
      try simp only [List.getElem_toArray, List.getElem_cons_succ, List.getElem_cons_zero, Act.put, List.setIfInBounds_toArray, List.set_cons_zero, List.set_cons_succ]
      refine wpAnyH_take (i := 35) (oi := _) (v := ?_) rfl (by kernel_rfl) (by kernel_rfl) (by kernel_rfl) (fun _ _ _ h => h) (Or.inl ⟨by rfl, ?_⟩) (by assumption) ?_
      rotate_left
      · intro w hSw
        (try dsimp only at hSw)
        go_simp
        try with_reducible rfl
      try simp only [List.getElem_toArray, List.getElem_cons_succ, List.getElem_cons_zero, Act.put, List.setIfInBounds_toArray, List.set_cons_zero, List.set_cons_succ]
      refine wpAnyH_take (i := 36) (oi := _) (v := ?_) rfl (by kernel_rfl) (by kernel_rfl) (by kernel_rfl) (fun _ _ _ h => h) (Or.inl ⟨by rfl, ?_⟩) (by assumption) ?_
      rotate_left
      · intro w hSw
        (try dsimp only at hSw)
        go_simp
        try with_reducible rfl
      try simp only [List.getElem_toArray, List.getElem_cons_succ, List.getElem_cons_zero, Act.put, List.setIfInBounds_toArray, List.set_cons_zero, List.set_cons_succ]
      refine wpAnyH_done (by kernel_rfl) ?_ _
      have HB10 : Hid (Below w.heap.size w w9) := Lib.hid (HB5.out.trans (HB9.out.mono (by omega)))
      go_wp2
      go_ret
      exact ⟨rfl, HB10.out⟩
    · rw [if_neg hbad] at hres
      subst hres
      have HBAD := Lib.hid hbad
      clear hbad
      go_wp2_with fail
      refine CQ.out.mono ?_
      intro e w5 hpost
      unfold RReadPost at hpost
      obtain ⟨rb, rv, rfl, hrb, hrt, hre, hc5⟩ := hpost
      have hbz := reye_bad hre
      obtain ⟨bd, hbd⟩ : ∃ bd, bd = R.2.2 := ⟨_, rfl⟩
      rw [← hbd] at hbz ⊢
      have q1 : (bd != 0) = true := by rw [hbd]; simp; exact HBAD.out
      have HB5 : Hid (Below w.heap.size w w5) := Lib.hid (by
        have h1 := W.Chg.to_below HBL3.out HC4.out (by omega) (by intro x hx; simp at hx; omega)
        exact W.Chg.to_below h1 hc5 (by omega) (by intro x hx; simp at hx; omega))
      clear hrt hre hc5 hbd
      go_wp2
      go_quiet (fail)
      go_wp2
      go_ret
      exact ⟨rfl, bel_drewN HB5.out _⟩
end Go.Proofs.Ytembgdjdljflhaa.tokensReads
