/- The reference's eye: Num, Bool, Form, Fall; Same. -/
import Derived.Test.YtembgdjdljflhaaNum
import Derived.Test.YtembgdjdljflhaaEBool
namespace Go.Proofs.Ytembgdjdljflhaa.W
open Go.RowKit
set_option linter.unusedVariables false
set_option linter.unusedSimpArgs false

def REyeV (w : World) (v : Value) (g : Nat) (l : List UInt8) : Prop :=
  (l = [] ∧ ∃ a cap, v = .slice a 0 cap) ∨ ∃ o cap, v = .slice (some ⟨g, o, none⟩) l.length cap ∧ l.length ≤ cap ∧ cap ≤ maxLen ∧ g < w.heap.size ∧ ∀ i, i < l.length → w.cell? ⟨g, o + i, none⟩ = some (bv (l.getD i 0))
theorem REyeV.keepC {w w' : World} {v : Value} {g : Nat} {l : List UInt8} {S : List Nat} (h : REyeV w v g l) (hc : Chg S w w') (hn : g ∉ S) : REyeV w' v g l := by
  rcases h with h | ⟨o, cap, rfl, h1, h2, h3, hcell⟩
  · exact .inl h
  · exact .inr ⟨o, cap, rfl, h1, h2, Nat.lt_of_lt_of_le h3 hc.size, fun i hi => hc.cell (hcell i hi) hn⟩
theorem REyeV.slice {w : World} {v : Value} {g : Nat} {l : List UInt8} (h : REyeV w v g l) : ∃ a cap, v = .slice a l.length cap := by
  rcases h with ⟨rfl, a, cap, rfl⟩ | ⟨o, cap, rfl, _⟩
  · exact ⟨_, _, rfl⟩
  · exact ⟨_, _, rfl⟩
/-- The reference's eye in block b, its bytes in block g. -/
def REyeAt (w : World) (b g : Nat) (l : List UInt8) (bad : Int) : Prop :=
  ∃ v, w.heap[b]? = some (.cells #[v, .int .i64 bad] 48 (0, 0)) ∧ REyeV w v g l ∧ g ≠ b ∧ l.length ≤ 1000000
theorem REyeAt.keep {w w' : World} {b g : Nat} {l : List UInt8} {bad : Int} {S : List Nat} (h : REyeAt w b g l bad) (hc : Chg S w w') (hb : b ∉ S) (hg : g ∉ S) : REyeAt w' b g l bad := by
  obtain ⟨v, h1, h2, h3, h4⟩ := h
  exact ⟨v, hc.keep h1 hb, h2.keepC hc hg, h3, h4⟩
theorem REyeV.dropped {w : World} {g o cap n : Nat} {l : List UInt8} (hl : l.length ≤ cap) (hc : cap ≤ maxLen) (hg : g < w.heap.size) (hcell : ∀ i, i < l.length → w.cell? ⟨g, o + i, none⟩ = some (bv (l.getD i 0))) (hn : n ≤ l.length) :
    REyeV w (.slice (some ⟨g, if cap = n then o else o + n, none⟩) (l.length - n) (cap - n)) g (l.drop n) := by
  right
  have hdl : (l.drop n).length = l.length - n := List.length_drop ..
  refine ⟨if cap = n then o else o + n, cap - n, by rw [hdl], by omega, by omega, hg, fun i hi => ?_⟩
  have h2 : ¬ (cap = n) := by omega
  rw [if_neg h2, getD_drop, Nat.add_assoc]
  exact hcell (n + i) (by omega)

set_option maxHeartbeats 4000000 in
set_option maxRecDepth 100000 in
theorem rnum_ok (b g o cap : Nat) (l : List UInt8) (n : Nat) (w : World) (h : w.heap[b]? = some (.cells #[.slice (some ⟨g, o, none⟩) l.length cap, .int .i64 0] 48 (0, 0)))
    (hl : l.length ≤ cap) (hc : cap ≤ maxLen) (hcell : ∀ i, i < l.length → w.cell? ⟨g, o + i, none⟩ = some (bv (l.getD i 0))) (h1 : 1 ≤ n) (h7 : n ≤ 7) (hn : n ≤ l.length) (hll : l.length ≤ 1000000) :
    Calls Try.prog 47 #[.pointer (some ⟨b, 0, none⟩), .int .i64 n] w fun e w' => e = .returned (.int .i64 (beNum (l.take n))) ∧
      w' = w.setCell ⟨b, 0, none⟩ (.slice (some ⟨g, if cap = n then o else o + n, none⟩) (l.length - n) (cap - n)) := by
  have b0 := blk_cell h 0 _ rfl
  have b1 := blk_cell h 1 _ rfl
  have f0 := blk_frozen h 0
  have hbl := blk_lt h
  have HC := Lib.hid hcell
  have HL := Lib.hid hl
  unfold maxLen at hc
  have hcapn : n ≤ cap := by omega
  have hn1 : ¬ ((n : Int) < 1) := by omega
  have hn7 : ¬ ((7 : Int) < (n : Int)) := by omega
  have q1 : decide ((n : Int) < 1) = false := by simpa using hn1
  have q7 : decide ((7 : Int) < (n : Int)) = false := by simpa using hn7
  have ql : decide (l.length < n) = false := by simp; omega
  clear h hcell
  obtain rfl | hcn := Decidable.em (n = cap)
  all_goals
    try (have hcn' : ¬ (cap = n) := fun h => hcn h.symm)
    try clear hcn
    go_enter Try.func47, Try.ntmps47
    go_wp2
    go_loop [5, 6] (fun x i => ∃ k : Nat, k ≤ n ∧ i = .int .i64 k ∧ x = .int .i64 (beNum (l.take k))) (fun _ i => n - (intOf i).toNat)
    case atStart => exact ⟨0, Nat.zero_le _, rfl, rfl⟩
    case round =>
      obtain ⟨k, hk, rfl, rfl⟩ := hrel
      by_cases hlt : k < n
      · have hcl := HC.out k (by omega)
        have hb := beNum_take_le l k (by omega)
        have hkz : (k : Int) < (n : Int) := by omega
        have hkl : (k : Int) < (l.length : Int) := by omega
        have hkz1 : (k : Int).toNat = k := by omega
        obtain ⟨c, hcc⟩ : ∃ c, c = l.getD k 0 := ⟨_, rfl⟩
        rw [← hcc] at hcl
        have hc8 := c.toNat_lt
        have HX : Hid (beNum (l.take (k + 1)) = beNum (l.take k) * 256 + c.toNat) := Lib.hid (by rw [take_snocU l k (by omega), beNum_snoc, hcc])
        clear hcc
        obtain ⟨x, hx⟩ : ∃ x, x = beNum (l.take k) := ⟨_, rfl⟩
        rw [← hx] at hb HX ⊢
        clear hx
        unfold bv at hcl
        have hor : bits .or .i64 ((x : Int) * 256) (c.toNat : Int) = ((x * 256 + c.toNat : Nat) : Int) := by
          have := i64_or_nat (x * 256) c.toNat (by omega) (by omega)
          rw [or_byte] at this
          simpa using this
        go_wp2
        go_round
        case rel => exact ⟨k + 1, by omega, by go_num, by rw [HX.out]; go_num⟩
        case measure => simp [intOf]; omega
      · have hk9 : k = n := by omega
        have HK := Lib.hid hk9
        clear hk9
        go_wp2
        go_ret
        exact ⟨by rw [HK.out]; rfl, rfl⟩

set_option maxHeartbeats 2000000 in
set_option maxRecDepth 100000 in
theorem rnum_short (b : Nat) (a : Option Addr) (L cap : Nat) (n : Nat) (w : World) (h : w.heap[b]? = some (.cells #[.slice a L cap, .int .i64 0] 48 (0, 0)))
    (h1 : 1 ≤ n) (h7 : n ≤ 7) (hn : L < n) :
    Calls Try.prog 47 #[.pointer (some ⟨b, 0, none⟩), .int .i64 n] w fun e w' => e = .returned (.int .i64 0) ∧ w' = w.setCell ⟨b, 1, none⟩ (.int .i64 2) := by
  have b0 := blk_cell h 0 _ rfl
  have b1 := blk_cell h 1 _ rfl
  have f1 := blk_frozen h 1
  have hbl := blk_lt h
  have q1 : decide ((n : Int) < 1) = false := by simp; omega
  have q7 : decide ((7 : Int) < (n : Int)) = false := by simp; omega
  have ql : decide (L < n) = true := by simp; omega
  clear h
  go_enter Try.func47, Try.ntmps47
  go_wp2
  go_ret
  exact ⟨rfl, rfl⟩

set_option maxHeartbeats 2000000 in
set_option maxRecDepth 100000 in
theorem rnum_bad (b : Nat) (v : Value) (bad n : Int) (w : World) (h : w.heap[b]? = some (.cells #[v, .int .i64 bad] 48 (0, 0))) (hb : bad ≠ 0) :
    Calls Try.prog 47 #[.pointer (some ⟨b, 0, none⟩), .int .i64 n] w fun e w' => e = .returned (.int .i64 0) ∧ w = w' := by
  have b1 := blk_cell h 1 _ rfl
  have hbl := blk_lt h
  have q1 : (bad == 0) = false := by simp [hb]
  have q2 : (bad != 0) = true := by simp [hb]
  clear h hb
  go_enter Try.func47, Try.ntmps47
  go_wp2
  go_ret
  exact ⟨rfl, rfl⟩

/-- The reference's Num. -/
theorem rnum_any (b g : Nat) (l : List UInt8) (bad : Int) (width : Int) (w : World) (h : REyeAt w b g l bad) (h1 : 1 ≤ width) (h7 : width ≤ 7) :
    Calls Try.prog 47 #[.pointer (some ⟨b, 0, none⟩), .int .i64 width] w fun e w' => e = .returned (.int .i64 (eyeNum l bad width.toNat).1) ∧
      REyeAt w' b g (eyeNum l bad width.toNat).2.1 (eyeNum l bad width.toNat).2.2 ∧ Chg [b] w w' := by
  obtain ⟨n, rfl⟩ := Int.eq_ofNat_of_zero_le (show 0 ≤ width by omega)
  rw [Int.toNat_natCast]
  have hE := h
  obtain ⟨v, hb, hv, hgb, hll⟩ := h
  by_cases hbad : bad = 0
  · subst hbad
    by_cases hlen : l.length < n
    · obtain ⟨a, cap, rfl⟩ := hv.slice
      rw [show eyeNum l 0 n = (0, l, 2) by unfold eyeNum; rw [if_neg (by simp), if_pos hlen]]
      refine (rnum_short b a _ cap n w hb (by omega) (by omega) hlen).mono ?_
      rintro e w' ⟨rfl, rfl⟩
      have hc := (Chg.refl [b] w).setCell (p := ⟨b, 1, none⟩) (.inl (by simp)) (.int .i64 2)
      exact ⟨rfl, ⟨_, set_blk hb, hv.keepC hc (by simp; exact hgb), hgb, hll⟩, hc⟩
    · rw [show eyeNum l 0 n = ((beNum (l.take n) : Int), l.drop n, 0) by unfold eyeNum; rw [if_neg (by simp), if_neg hlen]]
      rcases hv with ⟨rfl, _⟩ | ⟨o, cap, rfl, hlc, hcm, hg, hcell⟩
      · simp at hlen; omega
      refine (rnum_ok b g o cap l n w hb hlc hcm hcell (by omega) (by omega) (by omega) hll).mono ?_
      rintro e w' ⟨rfl, rfl⟩
      have hc := (Chg.refl [b] w).setCell (p := ⟨b, 0, none⟩) (.inl (by simp)) (.slice (some ⟨g, if cap = n then o else o + n, none⟩) (l.length - n) (cap - n))
      exact ⟨rfl, ⟨_, set_blk hb, (REyeV.dropped hlc hcm hg hcell (by omega)).keepC hc (by simp; exact hgb), hgb, by show (l.drop n).length ≤ _; rw [List.length_drop]; omega⟩, hc⟩
  · rw [show eyeNum l bad n = (0, l, bad) by unfold eyeNum; rw [if_pos hbad]]
    refine (rnum_bad b v bad n w hb hbad).mono ?_
    rintro e w' ⟨rfl, rfl⟩
    exact ⟨rfl, hE, Chg.refl _ _⟩

set_option maxHeartbeats 2000000 in
set_option maxRecDepth 100000 in
/-- Fall. -/
theorem rfall_any (b g : Nat) (l : List UInt8) (bad x : Int) (w : World) (h : REyeAt w b g l bad) :
    Calls Try.prog 63 #[.pointer (some ⟨b, 0, none⟩), .int .i64 x] w fun e w' => e = .returned (.tuple #[]) ∧ REyeAt w' b g l (if bad = 0 then x else bad) ∧ Chg [b] w w' := by
  have hE := Lib.hid h
  obtain ⟨v, hb, hv, hgb, hll⟩ := h
  have b1 := blk_cell hb 1 _ rfl
  have f1 := blk_frozen hb 1
  have hbl := blk_lt hb
  by_cases hbad : bad = 0
  · subst hbad
    have HF : Hid (REyeAt (w.setCell ⟨b, 1, none⟩ (.int .i64 x)) b g l x ∧ Chg [b] w (w.setCell ⟨b, 1, none⟩ (.int .i64 x))) := by
      have hc := (Chg.refl [b] w).setCell (p := ⟨b, 1, none⟩) (.inl (by simp)) (.int .i64 x)
      exact ⟨⟨_, set_blk hb, hv.keepC hc (by simp; exact hgb), hgb, hll⟩, hc⟩
    rw [if_pos rfl]
    clear hb hv
    go_enter Try.func63, Try.ntmps63
    go_wp2
    go_end0
    exact ⟨rfl, HF.out⟩
  · rw [if_neg hbad]
    have q1 : (bad == 0) = false := by simp [hbad]
    clear hb hv hbad
    go_enter Try.func63, Try.ntmps63
    go_wp2
    go_end0
    exact ⟨rfl, hE.out, Chg.refl _ _⟩

set_option maxHeartbeats 2000000 in
set_option maxRecDepth 100000 in
/-- Form. -/
theorem rform_any (b g : Nat) (l : List UInt8) (bad : Int) (q : Bool) (w : World) (h : REyeAt w b g l bad) :
    Calls Try.prog 49 #[.pointer (some ⟨b, 0, none⟩), .bool q] w fun e w' => e = .returned (.tuple #[]) ∧ REyeAt w' b g l (if q = true ∧ bad = 0 then 4 else bad) ∧ Chg [b] w w' := by
  have hE := Lib.hid h
  have CF := Lib.hid (rfall_any b g l bad 4 w h)
  rw [show (if q = true ∧ bad = 0 then (4 : Int) else bad) = if q = true then (if bad = 0 then 4 else bad) else bad by cases q <;> simp]
  generalize (if bad = 0 then (4 : Int) else bad) = x4 at *
  clear h
  cases q
  · rw [if_neg (by simp)]
    go_enter Try.func49, Try.ntmps49
    go_wp2
    go_end0
    exact ⟨rfl, hE.out, Chg.refl _ _⟩
  · rw [if_pos rfl]
    go_enter Try.func49, Try.ntmps49
    go_wp2_with fail
    refine CF.out.mono ?_
    rintro e w' ⟨rfl, H⟩
    have HH := Lib.hid H
    clear H
    go_wp2
    go_end0
    exact ⟨rfl, HH.out⟩

set_option maxHeartbeats 4000000 in
set_option maxRecDepth 100000 in
/-- The reference's Bool. -/
theorem rbool_any (b g : Nat) (l : List UInt8) (bad : Int) (w : World) (h : REyeAt w b g l bad) :
    Calls Try.prog 48 #[.pointer (some ⟨b, 0, none⟩)] w fun e w' => e = .returned (.bool (eyeBool l bad).1) ∧
      REyeAt w' b g (eyeBool l bad).2.1 (eyeBool l bad).2.2 ∧ Chg [b] w w' := by
  have hE := Lib.hid h
  obtain ⟨v, hb, hv, hgb, hll⟩ := h
  have b0 := blk_cell hb 0 _ rfl
  obtain ⟨av, Lv, cv, rfl⟩ : ∃ a L cap, v = .slice a L cap := by obtain ⟨a, cap, h⟩ := hv.slice; exact ⟨a, _, cap, h⟩
  by_cases hbad : bad = 0
  · subst hbad
    cases l with
    | nil =>
      have hL : Lv = 0 := by
        obtain ⟨a, cap, h⟩ := hv.slice
        simp at h
        exact h.2.1
      have CN := Lib.hid (rnum_short b av Lv cv 1 w hb (by omega) (by omega) (by omega))
      have HF : Hid (REyeAt (w.setCell ⟨b, 1, none⟩ (.int .i64 2)) b g [] 2 ∧ Chg [b] w (w.setCell ⟨b, 1, none⟩ (.int .i64 2))) := by
        have hc := (Chg.refl [b] w).setCell (p := ⟨b, 1, none⟩) (.inl (by simp)) (.int .i64 2)
        exact ⟨⟨_, set_blk hb, hv.keepC hc (by simp; exact hgb), hgb, hll⟩, hc⟩
      have HR : Hid (eyeBool [] 0 = (false, [], 2)) := Lib.hid rfl
      rw [HR.out]
      have b1 := blk_cell (set_blk (j := 1) (u := .int .i64 2) hb) 1 _ rfl
      clear hb hv hL
      go_enter Try.func48, Try.ntmps48
      go_wp2_with fail
      refine CN.out.mono ?_
      rintro e w' ⟨rfl, rfl⟩
      go_wp2
      go_ret
      exact ⟨rfl, HF.out⟩
    | cons c l =>
      rcases hv with ⟨h0, _⟩ | ⟨o, cap, hs, hlc, hcm, hg, hcell⟩
      · cases h0
      obtain ⟨rfl, rfl, rfl⟩ : av = some ⟨g, o, none⟩ ∧ Lv = (c :: l).length ∧ cv = cap := by simpa using hs
      have CN := rnum_ok b g o cv (c :: l) 1 w hb hlc hcm hcell (by omega) (by omega) (by simp) hll
      have hc := (Chg.refl [b] w).setCell (p := ⟨b, 0, none⟩) (.inl (by simp)) (.slice (some ⟨g, if cv = 1 then o else o + 1, none⟩) ((c :: l).length - 1) (cv - 1))
      have hb1 := set_blk (j := 0) (u := .slice (some ⟨g, if cv = 1 then o else o + 1, none⟩) ((c :: l).length - 1) (cv - 1)) hb
      have hd := (REyeV.dropped (n := 1) hlc hcm hg hcell (by simp)).keepC hc (by simp; exact hgb)
      generalize w.setCell ⟨b, 0, none⟩ (.slice (some ⟨g, if cv = 1 then o else o + 1, none⟩) ((c :: l).length - 1) (cv - 1)) = w1 at *
      have hnum : beNum ((c :: l).take 1) = c.toNat := by simp [beNum]
      rw [hnum] at CN
      have HCN := Lib.hid CN
      have d0 := blk_cell hb1 0 _ rfl
      have d1 := blk_cell hb1 1 _ rfl
      have e0 := blk_frozen hb1 0
      have e1 := blk_frozen hb1 1
      have l1 := blk_lt hb1
      by_cases hc1 : 1 < c.toNat
      · have HR : Hid (eyeBool (c :: l) 0 = (false, c :: l, 4)) := Lib.hid (by unfold eyeBool; simp [hc1])
        rw [HR.out]
        have q1 : decide ((1 : Int) < (c.toNat : Int)) = true := by simp; omega
        have HF : Hid (REyeAt ((w1.setCell ⟨b, 1, none⟩ (.int .i64 4)).setCell ⟨b, 0, none⟩ (.slice (some ⟨g, o, none⟩) (c :: l).length cv)) b g (c :: l) 4 ∧ Chg [b] w ((w1.setCell ⟨b, 1, none⟩ (.int .i64 4)).setCell ⟨b, 0, none⟩ (.slice (some ⟨g, o, none⟩) (c :: l).length cv))) := by
          have hc2 := (hc.setCell (p := ⟨b, 1, none⟩) (.inl (by simp)) (.int .i64 4)).setCell (p := ⟨b, 0, none⟩) (.inl (by simp)) (.slice (some ⟨g, o, none⟩) (c :: l).length cv)
          refine ⟨⟨_, set_blk (set_blk hb1), ?_, hgb, hll⟩, hc2⟩
          exact REyeV.keepC (S := [b]) (.inr ⟨o, cv, rfl, hlc, hcm, hg, hcell⟩) hc2 (by simp; exact hgb)
        clear hb hb1 hd hc hcell hnum CN hs hlc hcm hc1
        go_enter Try.func48, Try.ntmps48
        go_wp2_with fail
        refine HCN.out.mono ?_
        rintro e w' ⟨rfl, rfl⟩
        go_wp2
        go_ret
        exact ⟨rfl, HF.out⟩
      · have HR : Hid (eyeBool (c :: l) 0 = (c.toNat == 1, l, 0)) := Lib.hid (by unfold eyeBool; simp [hc1])
        rw [HR.out]
        have q1 : decide ((1 : Int) < (c.toNat : Int)) = false := by simp; omega
        have hbq : ((c.toNat : Int) == 1) = (c.toNat == 1) := by
          rw [Bool.eq_iff_iff, beq_iff_eq, beq_iff_eq]; omega
        have HF : Hid (REyeAt w1 b g l 0 ∧ Chg [b] w w1) := by
          refine ⟨⟨_, hb1, hd, hgb, ?_⟩, hc⟩
          simp at hll; omega
        clear hb hb1 hd hc hcell hnum CN hs hlc hcm hc1
        go_enter Try.func48, Try.ntmps48
        go_wp2_with fail
        refine HCN.out.mono ?_
        rintro e w' ⟨rfl, rfl⟩
        go_wp2
        go_ret
        exact ⟨rfl, HF.out⟩
  · have HR : Hid (eyeBool l bad = (false, l, bad)) := Lib.hid (by unfold eyeBool; rw [if_pos hbad])
    rw [HR.out]
    have CN := Lib.hid (rnum_bad b _ bad 1 w hb hbad)
    have b1 := blk_cell hb 1 _ rfl
    have q1 : (bad == 0) = false := by simp [hbad]
    clear hb hv hbad
    go_enter Try.func48, Try.ntmps48
    go_wp2_with fail
    refine CN.out.mono ?_
    rintro e w' ⟨rfl, rfl⟩
    go_wp2
    go_ret
    exact ⟨rfl, hE.out, Chg.refl _ _⟩
end Go.Proofs.Ytembgdjdljflhaa.W
