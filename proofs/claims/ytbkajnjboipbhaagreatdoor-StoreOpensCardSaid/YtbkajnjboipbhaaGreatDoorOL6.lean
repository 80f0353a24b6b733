/- Texts laid together. -/
import Derived.Test.YtbkajnjboipbhaaGreatDoorOL1
import Derived.Test.YtbkajnjboipbhaaGreatDoorOL2
import Derived.LoopTactic
import Derived.Test.YtbkajnjboipbhaaGreatDoorOL5
import Derived.Test.YtbkajnjboipbhaaGreatDoorOL3
import Derived.Test.YtbkajnjboipbhaaGreatDoorOL4
import Derived.Deep.MidRow
/- The reference's eye: Num. -/
namespace Go.Proofs.YtbkajnjboipbhaaGreatDoor.W
open Go.RowKit
set_option linter.unusedVariables false
set_option linter.unusedSimpArgs false

def REyeV (w : World) (v : Value) (g : Nat) (l : List UInt8) : Prop :=
  (l = [] ∧ ∃ a cap, v = .slice a 0 cap) ∨ ∃ o cap, v = .slice (some ⟨g, o, none⟩) l.length cap ∧ l.length ≤ cap ∧ cap ≤ maxLen ∧ g < w.heap.size ∧ ∀ i, i < l.length → w.cell? ⟨g, o + i, none⟩ = some (bv (l.getD i 0))
theorem REyeV.keepC {w w' : World} {v : Value} {g : Nat} {l : List UInt8} {S : List Nat} (h : REyeV w v g l) (hc : Chg S w w') (hn : g ∉ S) : REyeV w' v g l := by
  rcases h with h | ⟨o, cap, rfl, h1, h2, h3, hcell⟩
  · exact .inl h
  · exact .inr ⟨o, cap, rfl, h1, h2, Nat.lt_of_lt_of_le h3 hc.size, fun i hi => hc.cell (hcell i hi) hn⟩
theorem REyeV.slice {w : World} {v : Value} {g : Nat} {l : List UInt8} (h : REyeV w v g l) : ∃ a cap, v = .slice a l.length cap := by
  rcases h with ⟨rfl, a, cap, rfl⟩ | ⟨o, cap, rfl, _⟩
  · exact ⟨_, _, rfl⟩
  · exact ⟨_, _, rfl⟩
/-- The reference's eye in block b, its bytes in block g. -/
def REyeAt (w : World) (b g : Nat) (l : List UInt8) (bad : Int) : Prop :=
  ∃ v, w.heap[b]? = some (.cells #[v, .int .i64 bad] 166 (0, 0)) ∧ REyeV w v g l ∧ g ≠ b ∧ l.length ≤ 1000000
theorem REyeAt.keep {w w' : World} {b g : Nat} {l : List UInt8} {bad : Int} {S : List Nat} (h : REyeAt w b g l bad) (hc : Chg S w w') (hb : b ∉ S) (hg : g ∉ S) : REyeAt w' b g l bad := by
  obtain ⟨v, h1, h2, h3, h4⟩ := h
  exact ⟨v, hc.keep h1 hb, h2.keepC hc hg, h3, h4⟩
theorem REyeV.dropped {w : World} {g o cap n : Nat} {l : List UInt8} (hl : l.length ≤ cap) (hc : cap ≤ maxLen) (hg : g < w.heap.size) (hcell : ∀ i, i < l.length → w.cell? ⟨g, o + i, none⟩ = some (bv (l.getD i 0))) (hn : n ≤ l.length) :
    REyeV w (.slice (some ⟨g, if cap = n then o else o + n, none⟩) (l.length - n) (cap - n)) g (l.drop n) := by
  right
  have hdl : (l.drop n).length = l.length - n := List.length_drop ..
  refine ⟨if cap = n then o else o + n, cap - n, by rw [hdl], by omega, by omega, hg, fun i hi => ?_⟩
  have h2 : ¬ (cap = n) := by omega
  rw [if_neg h2, getD_drop, Nat.add_assoc]
  exact hcell (n + i) (by omega)

set_option maxHeartbeats 4000000 in
set_option maxRecDepth 100000 in
theorem rnum_ok (b g o cap : Nat) (l : List UInt8) (n : Nat) (w : World) (h : w.heap[b]? = some (.cells #[.slice (some ⟨g, o, none⟩) l.length cap, .int .i64 0] 166 (0, 0)))
    (hl : l.length ≤ cap) (hc : cap ≤ maxLen) (hcell : ∀ i, i < l.length → w.cell? ⟨g, o + i, none⟩ = some (bv (l.getD i 0))) (h1 : 1 ≤ n) (h7 : n ≤ 7) (hn : n ≤ l.length) (hll : l.length ≤ 1000000) :
    Calls Tryz.prog 119 #[.pointer (some ⟨b, 0, none⟩), .int .i64 n] w fun e w' => e = .returned (.int .i64 (beNum (l.take n))) ∧
      w' = w.setCell ⟨b, 0, none⟩ (.slice (some ⟨g, if cap = n then o else o + n, none⟩) (l.length - n) (cap - n)) := by
  have b0 := blk_cell h 0 _ rfl
  have b1 := blk_cell h 1 _ rfl
  have f0 := blk_frozen h 0
  have hbl := blk_lt h
  have HC := Lib.hid hcell
  have HL := Lib.hid hl
  unfold maxLen at hc
  have hcapn : n ≤ cap := by omega
  have hn1 : ¬ ((n : Int) < 1) := by omega
  have hn7 : ¬ ((7 : Int) < (n : Int)) := by omega
  have q1 : decide ((n : Int) < 1) = false := by simpa using hn1
  have q7 : decide ((7 : Int) < (n : Int)) = false := by simpa using hn7
  have ql : decide (l.length < n) = false := by simp; omega
  clear h hcell
  obtain rfl | hcn := Decidable.em (n = cap)
  all_goals
    try (have hcn' : ¬ (cap = n) := fun h => hcn h.symm)
    try clear hcn
    go_enter Tryz.func119, Tryz.ntmps119
    go_wp2
    go_loop [5, 6] (fun x i => ∃ k : Nat, k ≤ n ∧ i = .int .i64 k ∧ x = .int .i64 (beNum (l.take k))) (fun _ i => n - (intOf i).toNat)
    case atStart => exact ⟨0, Nat.zero_le _, rfl, rfl⟩
    case round =>
      obtain ⟨k, hk, rfl, rfl⟩ := hrel
      by_cases hlt : k < n
      · have hcl := HC.out k (by omega)
        have hb := beNum_take_le l k (by omega)
        have hkz : (k : Int) < (n : Int) := by omega
        have hkl : (k : Int) < (l.length : Int) := by omega
        have hkz1 : (k : Int).toNat = k := by omega
        obtain ⟨c, hcc⟩ : ∃ c, c = l.getD k 0 := ⟨_, rfl⟩
        rw [← hcc] at hcl
        have hc8 := c.toNat_lt
        have HX : Hid (beNum (l.take (k + 1)) = beNum (l.take k) * 256 + c.toNat) := Lib.hid (by rw [take_snocU l k (by omega), beNum_snoc, hcc])
        clear hcc
        obtain ⟨x, hx⟩ : ∃ x, x = beNum (l.take k) := ⟨_, rfl⟩
        rw [← hx] at hb HX ⊢
        clear hx
        unfold bv at hcl
        have hor : bits .or .i64 ((x : Int) * 256) (c.toNat : Int) = ((x * 256 + c.toNat : Nat) : Int) := by
          have := i64_or_nat (x * 256) c.toNat (by omega) (by omega)
          rw [or_byte] at this
          simpa using this
        go_wp2
        go_round
        case rel => exact ⟨k + 1, by omega, by go_num, by rw [HX.out]; go_num⟩
        case measure => simp [intOf]; omega
      · have hk9 : k = n := by omega
        have HK := Lib.hid hk9
        clear hk9
        go_wp2
        go_ret
        exact ⟨by rw [HK.out]; rfl, rfl⟩

set_option maxHeartbeats 2000000 in
set_option maxRecDepth 100000 in
theorem rnum_short (b : Nat) (a : Option Addr) (L cap : Nat) (n : Nat) (w : World) (h : w.heap[b]? = some (.cells #[.slice a L cap, .int .i64 0] 166 (0, 0)))
    (h1 : 1 ≤ n) (h7 : n ≤ 7) (hn : L < n) :
    Calls Tryz.prog 119 #[.pointer (some ⟨b, 0, none⟩), .int .i64 n] w fun e w' => e = .returned (.int .i64 0) ∧ w' = w.setCell ⟨b, 1, none⟩ (.int .i64 2) := by
  have b0 := blk_cell h 0 _ rfl
  have b1 := blk_cell h 1 _ rfl
  have f1 := blk_frozen h 1
  have hbl := blk_lt h
  have q1 : decide ((n : Int) < 1) = false := by simp; omega
  have q7 : decide ((7 : Int) < (n : Int)) = false := by simp; omega
  have ql : decide (L < n) = true := by simp; omega
  clear h
  go_enter Tryz.func119, Tryz.ntmps119
  go_wp2
  go_ret
  exact ⟨rfl, rfl⟩

set_option maxHeartbeats 2000000 in
set_option maxRecDepth 100000 in
theorem rnum_bad (b : Nat) (v : Value) (bad n : Int) (w : World) (h : w.heap[b]? = some (.cells #[v, .int .i64 bad] 166 (0, 0))) (hb : bad ≠ 0) :
    Calls Tryz.prog 119 #[.pointer (some ⟨b, 0, none⟩), .int .i64 n] w fun e w' => e = .returned (.int .i64 0) ∧ w = w' := by
  have b1 := blk_cell h 1 _ rfl
  have hbl := blk_lt h
  have q1 : (bad == 0) = false := by simp [hb]
  have q2 : (bad != 0) = true := by simp [hb]
  clear h hb
  go_enter Tryz.func119, Tryz.ntmps119
  go_wp2
  go_ret
  exact ⟨rfl, rfl⟩

/-- The reference's Num. -/
theorem rnum_any (b g : Nat) (l : List UInt8) (bad : Int) (width : Int) (w : World) (h : REyeAt w b g l bad) (h1 : 1 ≤ width) (h7 : width ≤ 7) :
    Calls Tryz.prog 119 #[.pointer (some ⟨b, 0, none⟩), .int .i64 width] w fun e w' => e = .returned (.int .i64 (eyeNum l bad width.toNat).1) ∧
      REyeAt w' b g (eyeNum l bad width.toNat).2.1 (eyeNum l bad width.toNat).2.2 ∧ Chg [b] w w' := by
  obtain ⟨n, rfl⟩ := Int.eq_ofNat_of_zero_le (show 0 ≤ width by omega)
  rw [Int.toNat_natCast]
  have hE := h
  obtain ⟨v, hb, hv, hgb, hll⟩ := h
  by_cases hbad : bad = 0
  · subst hbad
    by_cases hlen : l.length < n
    · obtain ⟨a, cap, rfl⟩ := hv.slice
      rw [show eyeNum l 0 n = (0, l, 2) by unfold eyeNum; rw [if_neg (by simp), if_pos hlen]]
      refine (rnum_short b a _ cap n w hb (by omega) (by omega) hlen).mono ?_
      rintro e w' ⟨rfl, rfl⟩
      have hc := (Chg.refl [b] w).setCell (p := ⟨b, 1, none⟩) (.inl (by simp)) (.int .i64 2)
      exact ⟨rfl, ⟨_, set_blk hb, hv.keepC hc (by simp; exact hgb), hgb, hll⟩, hc⟩
    · rw [show eyeNum l 0 n = ((beNum (l.take n) : Int), l.drop n, 0) by unfold eyeNum; rw [if_neg (by simp), if_neg hlen]]
      rcases hv with ⟨rfl, _⟩ | ⟨o, cap, rfl, hlc, hcm, hg, hcell⟩
      · simp at hlen; omega
      refine (rnum_ok b g o cap l n w hb hlc hcm hcell (by omega) (by omega) (by omega) hll).mono ?_
      rintro e w' ⟨rfl, rfl⟩
      have hc := (Chg.refl [b] w).setCell (p := ⟨b, 0, none⟩) (.inl (by simp)) (.slice (some ⟨g, if cap = n then o else o + n, none⟩) (l.length - n) (cap - n))
      exact ⟨rfl, ⟨_, set_blk hb, (REyeV.dropped hlc hcm hg hcell (by omega)).keepC hc (by simp; exact hgb), hgb, by show (l.drop n).length ≤ _; rw [List.length_drop]; omega⟩, hc⟩
  · rw [show eyeNum l bad n = (0, l, bad) by unfold eyeNum; rw [if_pos hbad]]
    refine (rnum_bad b v bad n w hb hbad).mono ?_
    rintro e w' ⟨rfl, rfl⟩
    exact ⟨rfl, hE, Chg.refl _ _⟩

end Go.Proofs.YtbkajnjboipbhaaGreatDoor.W

/- The reference's eye: Raw. -/
namespace Go.Proofs.YtbkajnjboipbhaaGreatDoor.W
open Go.RowKit
set_option linter.unusedVariables false
set_option linter.unusedSimpArgs false

theorem REyeV.bytes {w : World} {v : Value} {g : Nat} {l : List UInt8} (h : REyeV w v g l) : ∃ a cap, v = .slice a l.length cap ∧ (l = [] ∨ ∃ o, a = some ⟨g, o, none⟩ ∧ l.length ≤ cap ∧ cap ≤ maxLen ∧ g < w.heap.size ∧ ∀ i, i < l.length → w.cell? ⟨g, o + i, none⟩ = some (bv (l.getD i 0))) := by
  rcases h with ⟨rfl, a, cap, rfl⟩ | ⟨o, cap, rfl, h1, h2, h3, hc⟩
  · exact ⟨a, cap, rfl, .inl rfl⟩
  · exact ⟨_, cap, rfl, .inr ⟨o, rfl, h1, h2, h3, hc⟩⟩

/-- What the reference's Raw leaves. -/
def RRawLeft (w : World) (b g : Nat) (r : List UInt8 × List UInt8 × Int) (e : Ending) (w' : World) : Prop :=
  ∃ v, e = .returned v ∧ BRow w' v r.1 ∧ (∀ k, v.ownBlock = some k → w.heap.size ≤ k) ∧ REyeAt w' b g r.2.1 r.2.2 ∧ Chg [b] w w'

set_option maxHeartbeats 4000000 in
set_option maxRecDepth 100000 in
theorem rraw_any (b g : Nat) (l : List UInt8) (bad : Int) (most : Nat) (w : World) (h : REyeAt w b g l bad) (hmo : most ≤ 1000000) :
    Calls Tryz.prog 146 #[.pointer (some ⟨b, 0, none⟩), .int .i64 (most : Int)] w (RRawLeft w b g (eyeRaw l bad most)) := by
  have CN := Lib.hid (rnum_any b g l bad 2 w h (by omega) (by omega))
  have HE := Lib.hid h
  obtain ⟨v, hb, hv, hgb, hll⟩ := h
  have b0 := blk_cell hb 0 _ rfl
  have b1 := blk_cell hb 1 _ rfl
  have hbl := blk_lt hb
  have HV := Lib.hid hv
  obtain ⟨a, cap, rfl⟩ := hv.slice
  rw [show (2 : Int).toNat = 2 from rfl] at CN
  have hmz : ¬ ((most : Nat) : Int) < 0 := by omega
  have hmd : decide (((most : Nat) : Int) < 0) = false := decide_eq_false hmz
  -- it fails with error x, the bytes as they were
  have hfail : ∀ (x y : Int) (v2 : Value) (w2 : World), eyeRaw l bad most = ([], l, x) → w2.heap[b]? = some (.cells #[v2, .int .i64 y] 166 (0, 0)) → Chg [b] w w2 →
      Hid (RRawLeft w b g (eyeRaw l bad most) (.returned (.slice none 0 0)) ((w2.setCell ⟨b, 1, none⟩ (.int .i64 x)).setCell ⟨b, 0, none⟩ (.slice a l.length cap))) ∧
      (y = x → Hid (RRawLeft w b g (eyeRaw l bad most) (.returned (.slice none 0 0)) (w2.setCell ⟨b, 0, none⟩ (.slice a l.length cap)))) := by
    intro x y v2 w2 hr h2 hc
    have hc1 : Chg [b] w ((w2.setCell ⟨b, 1, none⟩ (.int .i64 x)).setCell ⟨b, 0, none⟩ (.slice a l.length cap)) := (hc.setCell (.inl (by simp)) _).setCell (.inl (by simp)) _
    have hc2 : Chg [b] w (w2.setCell ⟨b, 0, none⟩ (.slice a l.length cap)) := hc.setCell (.inl (by simp)) _
    refine ⟨Lib.hid ?_, fun hyx => Lib.hid ?_⟩
    · rw [hr]
      exact ⟨_, rfl, BRow.nil _, by simp [Value.ownBlock], ⟨_, set_blk (set_blk h2), hv.keepC hc1 (by simp; exact hgb), hgb, hll⟩, hc1⟩
    · rw [hr]
      subst hyx
      exact ⟨_, rfl, BRow.nil _, by simp [Value.ownBlock], ⟨_, set_blk h2, hv.keepC hc2 (by simp; exact hgb), hgb, hll⟩, hc2⟩
  have HFAIL := Lib.hid hfail
  clear hfail hv
  by_cases hbad : bad = 0
  · subst hbad
    by_cases hlen : l.length < 2
    · have hr : eyeRaw l 0 most = ([], l, 2) := by unfold eyeRaw; rw [if_neg (by simp), if_pos hlen]
      rw [show eyeNum l 0 2 = (0, l, 2) by unfold eyeNum; rw [if_neg (by simp), if_pos hlen]] at CN
      have HR := Lib.hid hr
      clear hb hr HE
      go_enter Tryz.func146, Tryz.ntmps146
      go_wp2_with fail
      refine CN.out.mono ?_
      rintro e w2 ⟨rfl, ⟨v2, hb2, hv2, _, _⟩, hc2⟩
      have HF := (HFAIL.out 2 2 v2 w2 HR.out hb2 hc2).2 rfl
      obtain ⟨a2, c2, rfl⟩ := hv2.slice
      have b02 := blk_cell hb2 0 _ rfl
      have b12 := blk_cell hb2 1 _ rfl
      have f02 := blk_frozen hb2 0
      have hbl2 := blk_lt hb2
      clear hb2 hv2 hc2 CN HFAIL
      go_wp2
      go_ret
      exact HF.out
    · rw [show eyeNum l 0 2 = ((beNum (l.take 2) : Int), l.drop 2, 0) by unfold eyeNum; rw [if_neg (by simp), if_neg hlen]] at CN
      have hbn := beNum_take_le l 2 (by omega)
      have hrr : eyeRaw l 0 most = if most < beNum (l.take 2) then ([], l, 3) else if (l.drop 2).length < beNum (l.take 2) then ([], l, 2) else ((l.drop 2).take (beNum (l.take 2)), (l.drop 2).drop (beNum (l.take 2)), 0) := by
        unfold eyeRaw; rw [if_neg (by simp), if_neg hlen]
      have hdl : (l.drop 2).length = l.length - 2 := List.length_drop ..
      generalize beNum (l.take 2) = n at *
      generalize l.drop 2 = l2 at *
      have HDL := Lib.hid hdl
      have hl2 : l2.length ≤ 1000000 := by omega
      by_cases hlong : most < n
      · have hr : eyeRaw l 0 most = ([], l, 3) := by rw [hrr, if_pos hlong]
        have HR := Lib.hid hr
        have hz : ((most : Nat) : Int) < (n : Int) := by omega
        clear hb hr hrr HE hdl
        go_enter Tryz.func146, Tryz.ntmps146
        go_wp2_with fail
        refine CN.out.mono ?_
        rintro e w2 ⟨rfl, ⟨v2, hb2, hv2, _, _⟩, hc2⟩
        have HF := (HFAIL.out 3 0 v2 w2 HR.out hb2 hc2).1
        obtain ⟨a2, c2, rfl⟩ := hv2.slice
        have b02 := blk_cell hb2 0 _ rfl
        have b12 := blk_cell hb2 1 _ rfl
        have f02 := blk_frozen hb2 0
        have f12 := blk_frozen hb2 1
        have hbl2 := blk_lt hb2
        clear hb2 hv2 hc2 CN HFAIL
        go_wp2
        go_ret
        exact HF.out
      · have hz : ¬ ((most : Nat) : Int) < (n : Int) := by omega
        by_cases hsh : l2.length < n
        · have hr : eyeRaw l 0 most = ([], l, 2) := by rw [hrr, if_neg hlong, if_pos hsh]
          have HR := Lib.hid hr
          have hsz : (l2.length : Int) < (n : Int) := by omega
          clear hb hr hrr HE hdl
          go_enter Tryz.func146, Tryz.ntmps146
          go_wp2_with fail
          refine CN.out.mono ?_
          rintro e w2 ⟨rfl, ⟨v2, hb2, hv2, _, _⟩, hc2⟩
          have HF := (HFAIL.out 2 0 v2 w2 HR.out hb2 hc2).1
          obtain ⟨a2, c2, rfl⟩ := hv2.slice
          have b02 := blk_cell hb2 0 _ rfl
          have b12 := blk_cell hb2 1 _ rfl
          have f02 := blk_frozen hb2 0
          have f12 := blk_frozen hb2 1
          have hbl2 := blk_lt hb2
          clear hb2 hv2 hc2 CN HFAIL
          go_wp2
          go_ret
          exact HF.out
        · have hr : eyeRaw l 0 most = (l2.take n, l2.drop n, 0) := by rw [hrr, if_neg hlong, if_neg hsh]
          have HR := Lib.hid hr
          have hsz : ¬ (l2.length : Int) < (n : Int) := by omega
          have hsz2 : n ≤ l2.length := by omega
          clear hb hr hrr HE hdl HFAIL
          go_enter Tryz.func146, Tryz.ntmps146
          go_wp2_with fail
          refine CN.out.mono ?_
          rintro e w2 ⟨rfl, ⟨v2, hb2, hv2, _, _⟩, hc2⟩
          rcases hv2 with ⟨rfl, a2, c2, rfl⟩ | ⟨o2, c2, rfl, h21, h22, h23, hcell⟩
          · obtain rfl : n = 0 := by simpa using hsz2
            have b02 := blk_cell hb2 0 _ rfl
            have b12 := blk_cell hb2 1 _ rfl
            have hbl2 := blk_lt hb2
            have HB2 := Lib.hid hb2
            have HC2 := Lib.hid hc2
            have hfin : ∀ (w3 : World) (v3 : Value) (a9 : Option Addr) (c9 : Nat), Chg [] w2 w3 → BRow w3 v3 [] → (∀ k, v3.ownBlock = some k → w2.heap.size ≤ k) → Hid (RRawLeft w b g (eyeRaw l 0 most) (.returned v3) (w3.setCell ⟨b, 0, none⟩ (.slice a9 0 c9))) := by
              intro w3 v3 a9 c9 hc3 hr3 hn3
              refine Lib.hid ?_
              rw [HR.out]
              have hs : Chg [b] w2 (w3.setCell ⟨b, 0, none⟩ (.slice a9 0 c9)) := (hc3.mono (by simp)).setCell (.inl (by simp)) _
              exact ⟨_, rfl, hr3.keep (fun k hk => Below.heap_setCell w3 _ _ k (fun e => by have h9 := hn3 k hk; have e2 : k = b := e; omega)), fun k hk => Nat.le_trans HC2.out.size (hn3 k hk), ⟨_, set_blk (hc3.keep HB2.out (by simp)), .inl ⟨rfl, a9, c9, rfl⟩, hgb, by simp⟩, HC2.out.trans hs (fun x hx => .inl hx)⟩
            have HFIN := Lib.hid hfin
            have f02 := blk_frozen hb2 0
            clear hb2 hc2 hfin CN hl2 HDL
            cases a2 with
            | none =>
              go_wp2_with fail
              refine (rcopy_zero _ _ _).mono ?_
              rintro e w3 ⟨rfl, rfl⟩
              go_wp2
              go_ret
              exact (HFIN.out w2 _ _ _ (Chg.refl _ _) (BRow.nil _) (by simp [Value.ownBlock])).out
            | some x =>
              by_cases hc0 : c2 = 0
              · subst hc0
                go_wp2_with fail
                refine (rcopy_zero _ _ _).mono ?_
                rintro e w3 ⟨rfl, rfl⟩
                go_wp2
                go_ret
                exact (HFIN.out w2 _ _ _ (Chg.refl _ _) (BRow.nil _) (by simp [Value.ownBlock])).out
              · have hc1 : 0 < c2 := by omega
                go_wp2_with fail
                refine (rcopy_zero _ _ _).mono ?_
                rintro e w3 ⟨rfl, rfl⟩
                go_wp2
                go_ret
                exact (HFIN.out w2 _ _ _ (Chg.refl _ _) (BRow.nil _) (by simp [Value.ownBlock])).out
          · have b02 := blk_cell hb2 0 _ rfl
            have b12 := blk_cell hb2 1 _ rfl
            have hbl2 := blk_lt hb2
            have HB2 := Lib.hid hb2
            have HC2 := Lib.hid hc2
            have hlt2 : (l2.take n).length = n := by rw [List.length_take]; omega
            have hB : BytesAt w2 (.slice (some ⟨g, o2, none⟩) n c2) (l2.take n) := by
              refine ⟨_, c2, by rw [hlt2], by omega, h22, .inr ⟨g, o2, rfl, fun i hi => ?_⟩⟩
              rw [hlt2] at hi
              rw [getD_take _ _ _ hi]
              exact hcell i (by omega)
            have CC := Lib.hid (rcopy_any _ _ w2 hB (by omega))
            have HCL := Lib.hid hcell
            have HL2 := Lib.hid hlt2
            have h22b := h22
            unfold maxLen at h22b
            clear hb2 hc2 hB hcell hlt2 CN
            go_wp2_with fail
            refine CC.out.mono ?_
            rintro e w3 ⟨v3, rfl, hr3, hn3, hc3⟩
            have hb3 := hc3.keep HB2.out (by simp)
            have b03 := blk_cell hb3 0 _ rfl
            have b13 := blk_cell hb3 1 _ rfl
            have f03 := blk_frozen hb3 0
            have hbl3 := blk_lt hb3
            obtain ⟨a3, c3, he3, _⟩ := hr3.bytes
            rw [HL2.out] at he3
            obtain rfl := he3
            have HR3 := Lib.hid hr3
            have HN3 := Lib.hid hn3
            have HC3 := Lib.hid hc3
            have HB3 := Lib.hid hb3
            clear hr3 hn3 hc3 hb3 CC
            have hset : ∀ u, Chg [b] w2 (w3.setCell ⟨b, 0, none⟩ u) := fun u => (HC3.out.mono (by simp)).setCell (.inl (by simp)) _
            have hdn : (l2.drop n).length = l2.length - n := List.length_drop ..
            have hgw2 : g < w2.heap.size := h23
            have hfin : ∀ o3, (n < l2.length → o3 = o2 + n) → Hid (RRawLeft w b g (eyeRaw l 0 most) (.returned (.slice a3 n c3)) (w3.setCell ⟨b, 0, none⟩ (.slice (some ⟨g, o3, none⟩) (l2.length - n) (c2 - n)))) := by
              intro o3 ho3
              have hs := hset (.slice (some ⟨g, o3, none⟩) (l2.length - n) (c2 - n))
              have hgk : (w3.setCell ⟨b, 0, none⟩ (.slice (some ⟨g, o3, none⟩) (l2.length - n) (c2 - n))).heap[g]? = w2.heap[g]? := hs.block g hgw2 (by simp; exact hgb)
              refine Lib.hid ?_
              rw [HR.out]
              refine ⟨_, rfl, HR3.out.keep (fun k hk => Below.heap_setCell w3 _ _ k (fun e => by have h9 := HN3.out k hk; have e2 : k = b := e; omega)), fun k hk => Nat.le_trans HC2.out.size (HN3.out k hk), ⟨_, set_blk HB3.out, .inr ⟨o3, c2 - n, by rw [hdn], by (show (l2.drop n).length ≤ _; rw [hdn]; omega), by omega, Nat.lt_of_lt_of_le hgw2 hs.size, fun i hi => ?_⟩, hgb, by show (l2.drop n).length ≤ 1000000; rw [hdn]; omega⟩, HC2.out.trans hs (fun x hx => .inl hx)⟩
              rw [hdn] at hi
              obtain rfl := ho3 (by omega)
              rw [getD_drop, Nat.add_assoc]
              exact (World.cell?_of_block (w := w2) (a := ⟨g, o2 + (n + i), none⟩) hgk).trans (HCL.out (n + i) (by omega))
            have HFIN := Lib.hid hfin
            clear hfin hset hdn
            by_cases hcn : c2 = n
            · subst hcn
              go_wp2
              go_ret
              have h9 := (HFIN.out o2 (fun h => by omega)).out
              rw [Nat.sub_self, show l2.length - c2 = 0 by omega] at h9
              exact h9
            · go_wp2
              go_ret
              exact (HFIN.out (o2 + n) (fun h => rfl)).out
  · have hr : eyeRaw l bad most = ([], l, bad) := by unfold eyeRaw; rw [if_pos hbad]
    rw [show eyeNum l bad 2 = (0, l, bad) by unfold eyeNum; rw [if_pos hbad]] at CN
    have HR := Lib.hid hr
    have q1 : (bad == 0) = false := by simp [hbad]
    have q2 : (bad != 0) = true := by simp [hbad]
    clear hb hr HE hbad
    go_enter Tryz.func146, Tryz.ntmps146
    go_wp2_with fail
    refine CN.out.mono ?_
    rintro e w2 ⟨rfl, ⟨v2, hb2, hv2, _, _⟩, hc2⟩
    have HF := (HFAIL.out bad bad v2 w2 HR.out hb2 hc2).2 rfl
    obtain ⟨a2, c2, rfl⟩ := hv2.slice
    have b02 := blk_cell hb2 0 _ rfl
    have b12 := blk_cell hb2 1 _ rfl
    have f02 := blk_frozen hb2 0
    have hbl2 := blk_lt hb2
    clear hb2 hv2 hc2 CN HFAIL
    go_wp2
    go_ret
    exact HF.out
end Go.Proofs.YtbkajnjboipbhaaGreatDoor.W

/- The reference's noughts. -/
namespace Go.Proofs.YtbkajnjboipbhaaGreatDoor.W
open Go.RowKit
set_option linter.unusedVariables false
set_option linter.unusedSimpArgs false

theorem allZ_true (l : List UInt8) (h : ∀ q, q < l.length → l.getD q 0 = 0) : allZ l = true := by
  rw [← ltrim_nil, ltrim_at l l.length (Nat.le_refl _) h (fun h => absurd h (by omega))]
  simp
theorem allZ_false (l : List UInt8) (k : Nat) (hk : k < l.length) (h : l.getD k 0 ≠ 0) : allZ l = false := by
  unfold allZ
  rw [List.all_eq_false]
  refine ⟨l[k], List.getElem_mem hk, ?_⟩
  rw [List.getD_eq_getElem?_getD, List.getElem?_eq_getElem hk] at h
  simpa using h

set_option maxHeartbeats 4000000 in
set_option maxRecDepth 100000 in
theorem rnought_any (v : Value) (l : List UInt8) (w : World) (h : BytesAt w v l) (hl : l.length ≤ 1000000000) :
    Calls Tryz.prog 73 #[v] w fun e w' => e = .returned (.bool (allZ l)) ∧ w = w' := by
  obtain ⟨a, cap, rfl, h1, h2, h3⟩ := h
  have H3 := Lib.hid h3
  clear h3
  go_enter Tryz.func73, Tryz.ntmps73
  go_wp2
  go_loop [3] (fun i => ∃ k : Nat, k ≤ l.length ∧ i = .int .i64 k ∧ Hid (∀ q, q < k → l.getD q 0 = 0)) (fun i => l.length - (intOf i).toNat)
  case atStart => exact ⟨0, Nat.zero_le _, rfl, Lib.hid (fun q hq => absurd hq (by omega))⟩
  case round =>
    obtain ⟨k, hk, rfl, HZ⟩ := hrel
    by_cases hlt : k < l.length
    · rcases H3.out with ⟨h0, _⟩ | ⟨g, o, rfl, hcell⟩
      · rw [h0] at hlt; simp at hlt
      have hcl : w.cell? ⟨g, o + k, none⟩ = some (.int .u8 ((l.getD k 0).toNat : Int)) := hcell k hlt
      obtain ⟨c, hc⟩ : ∃ c, c = l.getD k 0 := ⟨_, rfl⟩
      rw [← hc] at hcl
      have HC := Lib.hid hc
      have hkz : (k : Int) < (l.length : Int) := by omega
      have hkz1 : (k : Int).toNat = k := by omega
      clear hc hcell
      by_cases hc0 : c = 0
      · have hq : (((c.toNat : Int)) != 0) = false := by rw [hc0]; rfl
        have HZ1 : Hid (∀ q, q < k + 1 → l.getD q 0 = 0) := Lib.hid (fun q hq => by
          rcases Nat.lt_or_ge q k with h | h
          · exact HZ.out q h
          · obtain rfl : q = k := by omega
            rw [← HC.out, hc0])
        clear hc0
        go_wp2
        go_round
        case rel => exact ⟨k + 1, by omega, by go_num, HZ1⟩
        case measure => simp [intOf]; omega
      · have hq : (((c.toNat : Int)) != 0) = true := by
          rw [bne_iff_ne]
          intro h
          exact hc0 (UInt8.toNat_inj.1 (by simpa using h))
        have HF : Hid (allZ l = false) := Lib.hid (allZ_false l k hlt (by rw [← HC.out]; exact hc0))
        clear hc0
        go_wp2
        go_ret
        exact ⟨by rw [HF.out]; rfl, rfl⟩
    · have hkn : k = l.length := by omega
      have HF : Hid (allZ l = true) := Lib.hid (allZ_true l (by rw [← hkn]; exact HZ.out))
      clear hkn
      go_wp2
      go_ret
      exact ⟨by rw [HF.out]; rfl, rfl⟩
end Go.Proofs.YtbkajnjboipbhaaGreatDoor.W

/- The reference's readHead. -/
namespace Go.Proofs.YtbkajnjboipbhaaGreatDoor.W
open Go.RowKit
set_option linter.unusedVariables false
set_option linter.unusedSimpArgs false

set_option maxHeartbeats 2000000 in
set_option maxRecDepth 100000 in
theorem rnought_nil (a : Option Addr) (cap : Nat) (w : World) : Calls Tryz.prog 73 #[.slice a 0 cap] w fun e w' => e = .returned (.bool true) ∧ w = w' := by
  go_enter Tryz.func73, Tryz.ntmps73
  go_wp2
  go_loop [3] (fun i => i = .int .i64 0) (fun i => 0)
  case atStart => rfl
  case round =>
    subst hrel
    go_wp2
    go_ret
    exact ⟨rfl, rfl⟩
theorem rnought_eye (v : Value) (g : Nat) (l : List UInt8) (w : World) (h : REyeV w v g l) (hl : l.length ≤ 1000000) :
    Calls Tryz.prog 73 #[v] w fun e w' => e = .returned (.bool (allZ l)) ∧ w = w' := by
  rcases h with ⟨rfl, a, cap, rfl⟩ | ⟨o, cap, rfl, h1, h2, h3, hc⟩
  · exact rnought_nil a cap w
  · exact rnought_any _ l w ⟨_, cap, rfl, h1, h2, .inr ⟨g, o, rfl, hc⟩⟩ (by omega)
/-- What readHead answers. -/
def RHeadPost (b : List UInt8) (w : World) (e : Ending) (w' : World) : Prop :=
  Chg [] w w' ∧ match headOf b with
  | some r => ∃ kv, e = .returned (.tuple #[.agg #[.bool r.used, kv, .int .i64 (r.n : Int)], .bool true]) ∧ BRow w' kv r.key ∧ ∀ k, kv.ownBlock = some k → w.heap.size ≤ k
  | none => e = .returned (.tuple #[.agg #[.bool false, .slice none 0 0, .int .i64 0], .bool false])

set_option maxHeartbeats 8000000 in
set_option maxRecDepth 100000 in
theorem rhead_any (v : Value) (b : List UInt8) (w : World) (h : BytesAt w v b) (hl : b.length ≤ 1000000) :
    Calls Tryz.prog 118 #[v] w (RHeadPost b w) := by
  obtain ⟨a, cap, rfl⟩ := h.slice
  obtain ⟨w0, hw0⟩ : ∃ w0, w0 = w.alloc (.cells #[.bool false, .slice none 0 0, .int .i64 0] 125) := ⟨_, rfl⟩
  have hc0 : Chg [] w w0 := by rw [hw0]; exact (Chg.refl _ _).alloc _
  have hr0 : w0.heap[w.heap.size]? = some (.cells #[.bool false, .slice none 0 0, .int .i64 0] 125 (0, 0)) := by rw [hw0]; exact heap_alloc_new w _
  have h0 : BytesAt w0 (.slice a b.length cap) b := h.chg hc0 (by simp)
  have CZ := Lib.hid (rnought_any _ b w0 h0 (by omega))
  have HW0 := Lib.hid hw0
  have hfin : ∀ (w5 : World) (u0 u1 u2 : Value), Chg [] w w5 → Chg [] w (((w5.setCell ⟨w.heap.size, 0, none⟩ u0).setCell ⟨w.heap.size, 1, none⟩ u1).setCell ⟨w.heap.size, 2, none⟩ u2) := fun w5 u0 u1 u2 hc =>
    Chg.mono (S := [w.heap.size]) ((((hc.mono (by simp)).setCell (.inl (by simp)) _).setCell (.inl (by simp)) _).setCell (.inl (by simp)) _) (fun x hx => .inr (by simp at hx; omega))
  have HFIN := Lib.hid hfin
  clear hfin
  obtain ⟨rb, hrb⟩ : ∃ rb, rb = w.heap.size := ⟨_, rfl⟩
  have HRB := Lib.hid hrb
  by_cases hz : allZ b = true
  · have hh : headOf b = some noRow := by unfold headOf; rw [if_pos hz]
    have hP : ∀ w', Chg [] w w' → RHeadPost b w (.returned (.tuple #[.agg #[.bool false, .slice none 0 0, .int .i64 0], .bool true])) w' := fun w' hc => by
      refine ⟨hc, ?_⟩
      rw [hh]
      exact ⟨.slice none 0 0, rfl, BRow.nil _, by simp [Value.ownBlock]⟩
    have HP := Lib.hid hP
    have HC0 := Lib.hid hc0
    have HR0 := Lib.hid hr0
    rw [← hrb] at HR0 HFIN
    rw [hz] at CZ
    clear h h0 hz hh hP hc0 hr0 hw0 hrb
    go_enter Tryz.func118, Tryz.ntmps118
    go_wp2_with fail
    rw [← HW0.out, ← HRB.out]
    refine CZ.out.mono ?_
    rintro e w1 ⟨rfl, rfl⟩
    have c0 := blk_cell HR0.out 0 _ rfl
    have f0 := blk_frozen HR0.out 0
    have c1 := blk_cell HR0.out 1 _ rfl
    have f1 := blk_frozen HR0.out 1
    have c2 := blk_cell HR0.out 2 _ rfl
    have f2 := blk_frozen HR0.out 2
    have hl6 := blk_lt HR0.out
    go_wp2
    have hb3 := set3 (u0 := .bool false) (u1 := .slice none 0 0) (u2 := .int .i64 0) HR0.out
    refine bodyPost_ret (v := .tuple #[.agg #[.bool false, .slice none 0 0, .int .i64 0], .bool true]) (by simp [results, Tryz.results118, go_sem, blk_cell hb3 0 _ rfl, blk_cell hb3 1 _ rfl, blk_cell hb3 2 _ rfl]) rfl (HP.out _ (HFIN.out _ _ _ _ HC0.out))
  · have hzf : allZ b = false := by simpa using hz
    have hhd : headOf b = if (eyeRaw (eyeNum (eyeNum b 0 1).2.1 (eyeNum b 0 1).2.2 2).2.1 (eyeNum (eyeNum b 0 1).2.1 (eyeNum b 0 1).2.2 2).2.2 40).2.2 ≠ 0 ∨ (eyeNum b 0 1).1 ≠ 1 ∨ 448 < (eyeNum (eyeNum b 0 1).2.1 (eyeNum b 0 1).2.2 2).1 ∨
      allZ (eyeRaw (eyeNum (eyeNum b 0 1).2.1 (eyeNum b 0 1).2.2 2).2.1 (eyeNum (eyeNum b 0 1).2.1 (eyeNum b 0 1).2.2 2).2.2 40).2.1 = false then none
    else some ⟨true, (eyeNum (eyeNum b 0 1).2.1 (eyeNum b 0 1).2.2 2).1.toNat, (eyeRaw (eyeNum (eyeNum b 0 1).2.1 (eyeNum b 0 1).2.2 2).2.1 (eyeNum (eyeNum b 0 1).2.1 (eyeNum b 0 1).2.2 2).2.2 40).1⟩ := by
      unfold headOf; rw [if_neg hz]
    rw [hzf] at CZ
    have hn2 := eyeNum_nonneg (eyeNum b 0 1).2.1 (eyeNum b 0 1).2.2 2
    have CN1 := fun (b' g : Nat) (w' : World) (h : REyeAt w' b' g b 0) => rnum_any b' g b 0 1 w' h (by omega) (by omega)
    rw [show (1 : Int).toNat = 1 from rfl] at CN1
    generalize hr1 : eyeNum b 0 1 = r1 at *
    have CN2 := fun (b' g : Nat) (w' : World) (h : REyeAt w' b' g r1.2.1 r1.2.2) => rnum_any b' g r1.2.1 r1.2.2 2 w' h (by omega) (by omega)
    rw [show (2 : Int).toNat = 2 from rfl] at CN2
    generalize hr2 : eyeNum r1.2.1 r1.2.2 2 = r2 at *
    have CR3 := fun (b' g : Nat) (w' : World) (h : REyeAt w' b' g r2.2.1 r2.2.2) => rraw_any b' g r2.2.1 r2.2.2 40 w' h (by omega)
    generalize hr3 : eyeRaw r2.2.1 r2.2.2 40 = r3 at *
    obtain ⟨k1, l1, e1⟩ := r1
    obtain ⟨k2, l2, e2⟩ := r2
    obtain ⟨key, l3, e3⟩ := r3
    dsimp only at hhd hn2 CN1 CN2 CR3
    clear hr1 hr2 hr3
    have HHD := Lib.hid hhd
    have HN1 := Lib.hid CN1
    have HN2 := Lib.hid CN2
    have HR3 := Lib.hid CR3
    have HC0 := Lib.hid hc0
    have HR0 := Lib.hid hr0
    rw [← hrb] at HR0 HFIN
    have hbn : b ≠ [] := fun e => hz (by rw [e]; rfl)
    have hE0 : ∃ g, g < w0.heap.size ∧ REyeV w0 (.slice a b.length cap) g b := by
      obtain ⟨a', c', he, h1, h2, h3⟩ := h0
      obtain ⟨rfl, rfl⟩ : a = a' ∧ cap = c' := by simpa using he
      rcases h3 with ⟨h3, _⟩ | ⟨g, o, rfl, hcell⟩
      · exact absurd h3 hbn
      · have hg := World.block_lt_of_cell? w0 _ (hcell 0 (List.length_pos_iff.2 hbn))
        exact ⟨g, hg, .inr ⟨o, cap, rfl, h1, h2, hg, hcell⟩⟩
    obtain ⟨eg, heg, hEV⟩ := hE0
    obtain ⟨w1, hw1⟩ : ∃ w1, w1 = w0.alloc (.cells #[.slice a b.length cap, .int .i64 0] 166) := ⟨_, rfl⟩
    have hc1 : Chg [] w0 w1 := by rw [hw1]; exact (Chg.refl _ _).alloc _
    obtain ⟨eb, heb⟩ : ∃ eb, eb = w0.heap.size := ⟨_, rfl⟩
    have HEB := Lib.hid heb
    have HE1 : Hid (REyeAt w1 eb eg b 0) := Lib.hid ⟨_, by rw [hw1, heb]; exact heap_alloc_new w0 _, hEV.keepC hc1 (by simp), by omega, hl⟩
    have hrlt := blk_lt hr0
    rw [← hrb] at hrlt
    have hreb : rb < eb := by omega
    have hweb : w.heap.size ≤ eb := by omega
    have HRW1 : Hid (w1.heap[rb]? = some (.cells #[.bool false, .slice none 0 0, .int .i64 0] 125 (0, 0))) := Lib.hid (hc1.keep HR0.out (by simp))
    have HC1 : Hid (Chg [] w w1) := Lib.hid (hc0.trans hc1 (by simp))
    have HW1 := Lib.hid hw1
    have HWE := Lib.hid hweb
    have hne : rb ∉ [eb] := by simp; omega
    have HNE := Lib.hid hne
    have HNW : Hid (∀ x, x ∈ [eb] → x ∈ ([] : List Nat) ∨ w.heap.size ≤ x) := Lib.hid (fun x hx => .inr (by simp at hx; omega))
    clear h h0 hz hzf hhd CN1 CN2 CR3 hc0 hr0 hw0 hbn heg hEV hw1 hc1 heb hrlt hreb hweb hne hrb
    go_enter Tryz.func118, Tryz.ntmps118
    go_wp2_with fail
    rw [← HW0.out, ← HRB.out]
    refine CZ.out.mono ?_
    rintro e w' ⟨rfl, rfl⟩
    go_wp2_with fail
    rw [← HW1.out, ← HEB.out]
    refine (HN1.out eb eg w1 HE1.out).mono ?_
    rintro e w3 ⟨rfl, hE3, hc3⟩
    have HC3 := Lib.hid (HC1.out.trans hc3 HNW.out)
    have HRW3 := Lib.hid (hc3.keep HRW1.out HNE.out)
    have HE3 := Lib.hid hE3
    clear hE3 hc3 HE1 HC1 HRW1
    go_wp2_with fail
    refine (HN2.out eb eg w3 HE3.out).mono ?_
    rintro e w4 ⟨rfl, hE4, hc4⟩
    have HC4 := Lib.hid (HC3.out.trans hc4 HNW.out)
    have HRW4 := Lib.hid (hc4.keep HRW3.out HNE.out)
    have HE4 := Lib.hid hE4
    clear hE4 hc4 HE3 HC3 HRW3
    go_wp2_with fail
    refine (HR3.out eb eg w4 HE4.out).mono ?_
    rintro e w5 ⟨kv, rfl, hkr, hkn, hE5, hc5⟩
    have HC5 := Lib.hid (HC4.out.trans hc5 HNW.out)
    have HRW5 := Lib.hid (hc5.keep HRW4.out HNE.out)
    have HKN : Hid (∀ k, kv.ownBlock = some k → w.heap.size < k) := Lib.hid (fun k hk => by
      have h1 := hkn k hk
      have h2 := blk_lt HRW4.out
      rw [HRB.out] at h2
      omega)
    have hkform : ∃ a5 c5, kv = .slice a5 key.length c5 := by
      obtain ⟨a5, c5, h5, _⟩ := hkr.bytes
      exact ⟨a5, c5, h5⟩
    obtain ⟨a5, c5, hkv⟩ := hkform
    have HKV := Lib.hid hkv
    have HK5 := Lib.hid hkr
    obtain ⟨ev, heh, hev, _, hl3⟩ := hE5
    have d0 := blk_cell heh 0 _ rfl
    have d1 := blk_cell heh 1 _ rfl
    have CZ3 := Lib.hid (rnought_eye ev eg l3 w5 hev hl3)
    obtain ⟨av, lv, cv, hevv⟩ : ∃ a L cap, ev = .slice a L cap := by obtain ⟨a, c, h⟩ := hev.slice; exact ⟨a, _, c, h⟩
    subst hevv
    clear hc5 HC4 HRW4 HE4 hkr hkn hkv heh hev hl3
    have hPn : ∀ (w' : World), (e3 ≠ 0 ∨ k1 ≠ 1 ∨ 448 < k2 ∨ allZ l3 = false) → Chg [] w w' → RHeadPost b w (.returned (.tuple #[.agg #[.bool false, .slice none 0 0, .int .i64 0], .bool false])) w' := fun w' h1 h3 => by
      refine ⟨h3, ?_⟩
      rw [HHD.out, if_pos h1]
    have hPs : ∀ (kv : Value) (w' : World), ¬ (e3 ≠ 0 ∨ k1 ≠ 1 ∨ 448 < k2 ∨ allZ l3 = false) → Chg [] w w' → BRow w' kv key → (∀ k, kv.ownBlock = some k → w.heap.size ≤ k) → RHeadPost b w (.returned (.tuple #[.agg #[.bool true, kv, .int .i64 k2], .bool true])) w' := fun kv w' h1 h2 h3 h4 => by
      refine ⟨h2, ?_⟩
      rw [HHD.out, if_neg h1]
      exact ⟨kv, by rw [show ((k2.toNat : Nat) : Int) = k2 by omega], h3, h4⟩
    have HPN := Lib.hid hPn
    have HPS := Lib.hid hPs
    clear hPn hPs
    have c0 := blk_cell HRW5.out 0 _ rfl
    have f0 := blk_frozen HRW5.out 0
    have c1 := blk_cell HRW5.out 1 _ rfl
    have f1 := blk_frozen HRW5.out 1
    have c2 := blk_cell HRW5.out 2 _ rfl
    have f2 := blk_frozen HRW5.out 2
    have hl6 := blk_lt HRW5.out
    by_cases he3 : e3 = 0
    · have q1 : (e3 != 0) = false := by simp [he3]
      by_cases hk1 : k1 = 1
      · have q2 : (k1 != 1) = false := by simp [hk1]
        by_cases hk2 : 448 < k2
        · have q3 : decide (k2 > 448) = true := decide_eq_true hk2
          have HPX := Lib.hid (HPN.out · (.inr (.inr (.inl hk2))))
          clear he3 hk1 hk2
          go_wp2
          have hb3 := set3 (u0 := .bool false) (u1 := .slice none 0 0) (u2 := .int .i64 0) HRW5.out
          exact bodyPost_ret (v := .tuple #[.agg #[.bool false, .slice none 0 0, .int .i64 0], .bool false]) (by simp [results, Tryz.results118, go_sem, blk_cell hb3 0 _ rfl, blk_cell hb3 1 _ rfl, blk_cell hb3 2 _ rfl]) rfl (HPX.out _ (HFIN.out _ _ _ _ HC5.out))
        · have q3 : decide (k2 > 448) = false := decide_eq_false hk2
          have HK := Lib.hid (And.intro he3 (And.intro hk1 hk2))
          clear he3 hk1 hk2
          go_wp2_with fail
          refine CZ3.out.mono ?_
          rintro e w' ⟨rfl, rfl⟩
          by_cases hz3 : allZ l3 = true
          · have hno : ¬ (e3 ≠ 0 ∨ k1 ≠ 1 ∨ 448 < k2 ∨ allZ l3 = false) := by
              obtain ⟨h1, h2, h3⟩ := HK.out
              rw [hz3]; simp [h1, h2]; omega
            have HPX := Lib.hid (HPS.out · · hno)
            rw [hz3]
            clear hz3 hno
            obtain rfl := HKV.out
            go_wp2
            have hb3 := set3 (u0 := .bool true) (u1 := .slice a5 key.length c5) (u2 := .int .i64 k2) HRW5.out
            refine bodyPost_ret (v := .tuple #[.agg #[.bool true, .slice a5 key.length c5, .int .i64 k2], .bool true]) (by simp [results, Tryz.results118, go_sem, blk_cell hb3 0 _ rfl, blk_cell hb3 1 _ rfl, blk_cell hb3 2 _ rfl]) rfl (HPX.out _ _ (HFIN.out _ _ _ _ HC5.out) ?_ (fun k hk => Nat.le_of_lt (HKN.out k hk)))
            exact HK5.out.keep (fun k hk => by
              have hne := HKN.out k hk
              have hrb := HRB.out
              exact ((Below.heap_setCell _ ⟨rb, 2, none⟩ _ k (by show k ≠ rb; omega)).trans (Below.heap_setCell _ ⟨rb, 1, none⟩ _ k (by show k ≠ rb; omega))).trans (Below.heap_setCell _ ⟨rb, 0, none⟩ _ k (by show k ≠ rb; omega)))
          · have hzf : allZ l3 = false := by simpa using hz3
            have HPX := Lib.hid (HPN.out · (.inr (.inr (.inr hzf))))
            rw [hzf]
            clear hz3 hzf
            go_wp2
            have hb3 := set3 (u0 := .bool false) (u1 := .slice none 0 0) (u2 := .int .i64 0) HRW5.out
            exact bodyPost_ret (v := .tuple #[.agg #[.bool false, .slice none 0 0, .int .i64 0], .bool false]) (by simp [results, Tryz.results118, go_sem, blk_cell hb3 0 _ rfl, blk_cell hb3 1 _ rfl, blk_cell hb3 2 _ rfl]) rfl (HPX.out _ (HFIN.out _ _ _ _ HC5.out))
      · have q2 : (k1 != 1) = true := by simp [hk1]
        have HPX := Lib.hid (HPN.out · (.inr (.inl hk1)))
        clear he3 hk1
        go_wp2
        have hb3 := set3 (u0 := .bool false) (u1 := .slice none 0 0) (u2 := .int .i64 0) HRW5.out
        exact bodyPost_ret (v := .tuple #[.agg #[.bool false, .slice none 0 0, .int .i64 0], .bool false]) (by simp [results, Tryz.results118, go_sem, blk_cell hb3 0 _ rfl, blk_cell hb3 1 _ rfl, blk_cell hb3 2 _ rfl]) rfl (HPX.out _ (HFIN.out _ _ _ _ HC5.out))
    · have q1 : (e3 != 0) = true := by simp [he3]
      have HPX := Lib.hid (HPN.out · (.inl he3))
      clear he3
      go_wp2
      have hb3 := set3 (u0 := .bool false) (u1 := .slice none 0 0) (u2 := .int .i64 0) HRW5.out
      exact bodyPost_ret (v := .tuple #[.agg #[.bool false, .slice none 0 0, .int .i64 0], .bool false]) (by simp [results, Tryz.results118, go_sem, blk_cell hb3 0 _ rfl, blk_cell hb3 1 _ rfl, blk_cell hb3 2 _ rfl]) rfl (HPX.out _ (HFIN.out _ _ _ _ HC5.out))
end Go.Proofs.YtbkajnjboipbhaaGreatDoor.W

/- The reference's slots: Get. -/
namespace Go.Proofs.YtbkajnjboipbhaaGreatDoor.W
open Go.RowKit
set_option linter.unusedVariables false
set_option linter.unusedSimpArgs false

/-- What is read of the disk. -/
theorem RDiskAt.read {w : World} {m : Nat} {V F : List Nat} {d : DS} (h : RDiskAt w m V F d) :
    w.cell? ⟨m, 6, none⟩ = some (.bool d.dead) ∧ d.n ≤ 4160 ∧ ∃ a cap, w.cell? ⟨m, 0, none⟩ = some (.slice a d.n cap) ∧ ∀ k, k < d.n → ∃ g ax cx, a = some ⟨g, 0, none⟩ ∧ w.cell? ⟨g, k, none⟩ = some (.slice ax 64 cx) ∧ BytesAt w (.slice ax 64 cx) (d.now k) ∧ (d.now k).length = 64 := by
  obtain ⟨nv, lv, av, wv, NV, LV, AV, WV, H⟩ := h
  have hrow := H.row.1
  have c0 : w.cell? ⟨m, 0, none⟩ = some nv := blk_cell H.head 0 _ rfl
  refine ⟨blk_cell H.head 6 _ rfl, H.few, ?_⟩
  by_cases hn : 0 < d.n
  · obtain ⟨⟨gn, cn, hnv⟩, _⟩ := H.form hn
    refine ⟨_, cn, by rw [c0, hnv], fun k hk => ?_⟩
    rw [hnv] at hrow
    obtain ⟨hNl, k0, _, _⟩ := own_cell hrow k hk
    obtain ⟨b1, b2, b3⟩ := H.now k hk
    obtain ⟨ax, cx, hx⟩ := b2.slice
    rw [b1] at hx
    rw [hx] at k0 b2
    exact ⟨gn, ax, cx, rfl, k0, b2, b1⟩
  · rcases hrow.2 with ⟨h1, h2⟩ | ⟨g, cap, cur, h1, _⟩
    · exact ⟨none, 0, by rw [c0, h1]; simp; omega, fun k hk => by omega⟩
    · exact ⟨_, cap, by rw [c0, h1], fun k hk => by omega⟩

set_option maxHeartbeats 8000000 in
set_option maxRecDepth 100000 in
theorem rget_any (q m : Nat) (W A : List Nat) (s : SS) (i : Int) (w : World) (h : RSlotsAt w q m W A s) : Calls Tryz.prog 86 #[.pointer (some ⟨q, 0, none⟩), .int .i64 i] w (GetPost (s.get i) w) := by
  obtain ⟨V, F, rv, R, H⟩ := h
  have HH := Lib.hid H
  have c0 : w.cell? ⟨q, 0, none⟩ = some (.pointer (some ⟨m, 0, none⟩)) := blk_cell H.obj.head 0 _ rfl
  have c1 : w.cell? ⟨q, 1, none⟩ = some (.int .i64 (s.first : Int)) := blk_cell H.obj.head 1 _ rfl
  have c2 : w.cell? ⟨q, 2, none⟩ = some rv := blk_cell H.obj.head 2 _ rfl
  obtain ⟨a0, cap0, hrv0, hcap0⟩ := H.form
  have hfew := H.few
  by_cases hi : s.has i
  · have hi' := hi
    obtain ⟨h0, h1⟩ := hi'
    obtain ⟨j, rfl⟩ := Int.eq_ofNat_of_zero_le h0
    have hjl : j < s.rows.length := by omega
    obtain ⟨g, cap, kv, hrv, hcap, hcm, k0, k1, k2, k3, k4⟩ := H.at j hjl
    have hrow : s.row (j : Int) = s.rows.getD j noRow := rfl
    have hn448 : (s.rows.getD j noRow).n ≤ 448 := by
      rw [List.getD_eq_getElem?_getD, List.getElem?_eq_getElem hjl]
      exact (H.ok.rows _ (List.getElem_mem _)).1
    have hroom := H.ok.room
    have q0 : decide ((j : Int) < 0) = false := decide_eq_false (by omega)
    have q1 : decide ((j : Int) ≥ (s.rows.length : Int)) = false := decide_eq_false (by omega)
    by_cases hu : (s.row (j : Int)).used = false
    · have hg : s.get (j : Int) = ([], 6) := by unfold SS.get; rw [if_neg (by simpa using hi), if_pos hu]
      have HP := Lib.hid (fun (w' : World) (hc : Chg [] w w') => GetPost.nil (c := 6) hc)
      have HG := Lib.hid hg
      rw [HG.out]
      rw [hrow] at hu
      rw [hu] at k0
      subst hrv
      generalize s.rows.getD j noRow = r at *
      generalize s.rows.length = n at *
      have hjz : (j : Int) < (n : Int) := by omega
      have hjz1 : (j : Int).toNat = j := by omega
      clear H HH c0 c1 k1 k2 k3 k4 hu hg hi hrow hroom hrv0
      go_enter Tryz.func86, Tryz.ntmps86
      go_wp2
      go_ret2
      exact HP.out _ (Chg.refl _ _)
    · have hu' : (s.rows.getD j noRow).used = true := by rw [← hrow]; simpa using hu
      have hg : s.get (j : Int) = if s.d.dead then ([], 14) else (s.data (j : Int), 0) := by
        unfold SS.get; rw [if_neg (by simpa using hi), if_neg hu]
      have hdat : s.data (j : Int) = (flat (nsec (s.rows.getD j noRow).n) (fun k => s.d.now (s.pos j + 1 + k))).take (s.rows.getD j noRow).n := rfl
      have hpos : s.pos (j : Int) = s.first + 8 * j := rfl
      rw [hu'] at k0
      obtain ⟨p6, hnd, an, cn, p0, hsec⟩ := H.disk.read
      subst hrv
      have HG := Lib.hid hg
      have HDAT := Lib.hid hdat
      have HSEC := Lib.hid (fun wr (hc : Chg [] w wr) => ((H.keep hc (by simp)).disk.read).2.2)
      have hfj : ((s.first : Int) + (j : Int) * 8) = ((s.pos (j : Int) : Nat) : Int) := by rw [hpos]; omega
      have hpl : s.pos (j : Int) + 8 ≤ s.d.n := by rw [hpos]; omega
      have hff : s.first ≤ 4160 := by omega
      generalize hrr : s.rows.getD j noRow = r at *
      generalize s.pos (j : Int) = pos at *
      generalize hrl : s.rows.length = n at *
      generalize s.first = fst at *
      have hjz : (j : Int) < (n : Int) := by omega
      have hjz1 : (j : Int).toNat = j := by omega
      have hj5 : j ≤ 1000 := by omega
      have hnj : ¬ n ≤ j := by omega
      have hm7 : nsec r.n ≤ 7 := by unfold nsec; omega
      have hmn : r.n ≤ nsec r.n * 64 := by unfold nsec; omega
      have hmm : ∀ k, k < nsec r.n ↔ k * 64 < r.n := fun k => by unfold nsec; omega
      obtain ⟨M, hM⟩ : ∃ M, M = nsec r.n := ⟨_, rfl⟩
      rw [← hM] at hm7 hmn hmm
      have HM := Lib.hid hM
      obtain ⟨rn, hrn⟩ : ∃ rn, rn = r.n := ⟨_, rfl⟩
      rw [← hrn] at hmn k2 hn448 hmm
      have HRN := Lib.hid hrn
      have HMM := Lib.hid hmm
      clear H k1 k3 k4 hu' hg hi hrow hdat hroom hM hrn hrr hrl hu hfew hpos hmm hsec hrv0
      by_cases hd : s.d.dead = true
      · have HP := Lib.hid (fun (w' : World) (hc : Chg [] w w') => GetPost.nil (c := 14) hc)
        have HGG : Hid (s.get (j : Int) = ([], 14)) := Lib.hid (by rw [HG.out, if_pos hd])
        rw [HGG.out]
        rw [hd] at p6
        clear hd
        go_enter Tryz.func86, Tryz.ntmps86
        go_wp2
        go_ret2
        exact HP.out _ (Chg.refl _ _)
      · have hd' : s.d.dead = false := by simpa using hd
        have HGG : Hid (s.get (j : Int) = (s.data (j : Int), 0)) := Lib.hid (by rw [HG.out, if_neg hd])
        rw [HGG.out]
        rw [hd'] at p6
        have HC := Lib.hid (And.intro c0 (And.intro c2 (And.intro k0 k2)))
        have HP0 := Lib.hid p0
        clear hd hd'
        go_enter Tryz.func86, Tryz.ntmps86
        go_wp2_with fail
        go_loopg [6, 8] M (fun g' s6 s8 wr => ∃ (k : Nat) (a6 : Option Addr) (c6 : Nat), s6 = .slice a6 (k * 64) c6 ∧ s8 = .int .i64 (k : Int) ∧ k ≤ M ∧ M ≤ k + g' ∧ Hid (BRow wr s6 (flat k (fun k => s.d.now (pos + 1 + k))) ∧ (∀ g, s6.ownBlock = some g → w.heap.size ≤ g) ∧ Chg [] w wr))
        case atStart => exact ⟨0, none, 0, rfl, rfl, by omega, by omega, Lib.hid ⟨BRow.nil _, by simp [Value.ownBlock], Chg.refl _ _⟩⟩
        case round =>
          obtain ⟨k, a6, c6, rfl, rfl, hk, hkg, HR⟩ := hrel
          obtain ⟨s6, hs6⟩ : ∃ s6, s6 = Value.slice a6 (k * 64) c6 := ⟨_, rfl⟩
          have HS6 := Lib.hid hs6
          rw [← hs6] at HR
          clear hs6 c0 c2 k0 k2 p0 p6 c1
          have c0 := HR.out.2.2.cell HC.out.1 (by simp)
          have c2 := HR.out.2.2.cell HC.out.2.1 (by simp)
          have k2 := HR.out.2.2.cell HC.out.2.2.2 (by simp)
          have p0 := HR.out.2.2.cell HP0.out (by simp)
          have hmk := HMM.out k
          by_cases hlt : k < M
          · have hk64 : decide ((k : Int) * 64 < (rn : Int)) = true := decide_eq_true (by have := hmk.1 hlt; omega)
            obtain ⟨a', c', e', hsec⟩ := HSEC.out wr HR.out.2.2
            obtain ⟨rfl, rfl⟩ : an = a' ∧ cn = c' := by
              have := p0.symm.trans e'
              simpa using this
            obtain ⟨gn, ax, cx, rfl, e1, b1, l1⟩ := hsec (pos + 1 + k) (by omega)
            have HB3 := Lib.hid b1
            have HL1 := Lib.hid l1
            have hpk : ((pos : Int) + 1 + (k : Int)).toNat = pos + 1 + k := by omega
            have hpz : (0 : Int) ≤ (pos : Int) + 1 + (k : Int) := by omega
            have hpn : (pos : Int) + 1 + (k : Int) < (s.d.n : Int) := by omega
            have hlen64 : Hid (∀ x, x < s.d.n → (s.d.now x).length = 64) := Lib.hid (fun x hx => by
              obtain ⟨_, _, _, _, _, _, h9⟩ := hsec x hx
              exact h9)
            have hsz : Hid ((flat k (fun k => s.d.now (pos + 1 + k))).length + (s.d.now (pos + 1 + k)).length ≤ 140737488355328) := Lib.hid (by
              rw [flat_len k _ (fun i hi => hlen64.out _ (by omega)), HL1.out]; omega)
            clear e' hsec b1 l1
            go_wp2_with (at_builtin; refine wpList_appB rfl (.tmp 57) (.tmp 69) rfl s6 (flat k (fun k => s.d.now (pos + 1 + k))) HS6.out.symm HR.out.1 _ (s.d.now (pos + 1 + k)) (by rfl) HB3.out hsz.out ?_; intro v4 w4 ho4 hg4 hat4)
            have HO4 := Lib.hid ho4
            have HG4 := Lib.hid hg4
            have HA4 := Lib.hid hat4
            clear ho4 hg4 hat4
            go_roundg (gk - 1)
            case measure => omega
            case rel =>
              have hr : BRow w4 v4 (flat (k + 1) (fun k => s.d.now (pos + 1 + k))) := by rw [flat_succ]; exact HO4.out
              obtain ⟨a, c4, he, _⟩ := hr.bytes
              rw [flat_len (k + 1) _ (fun i hi => hlen64.out _ (by omega))] at he
              refine ⟨k + 1, a, c4, he, by go_num, by omega, by omega, Lib.hid ⟨hr, fun g hg => ?_, HR.out.2.2.grown HG4.out (fun g hg => .inr (HR.out.2.1 g hg))⟩⟩
              rcases HA4.out with h | h
              · exact HR.out.2.1 g (by rw [← h]; exact hg)
              · rw [h] at hg
                have h1 := HR.out.2.2.size
                have h2 : wr.heap.size = g := by simpa using hg
                omega
          · have hkm : k = M := by omega
            have hk64 : decide ((k : Int) * 64 < (rn : Int)) = false := decide_eq_false (by
              have := fun h => hlt (hmk.2 h)
              omega)
            obtain rfl := hkm.symm
            obtain ⟨a', c', e', hsec⟩ := HSEC.out wr HR.out.2.2
            have hlen64 : Hid (∀ x, x < s.d.n → (s.d.now x).length = 64) := Lib.hid (fun x hx => by
              obtain ⟨_, _, _, _, _, _, h9⟩ := hsec x hx
              exact h9)
            have hfl := flat_len M (fun k => s.d.now (pos + 1 + k)) (fun i hi => hlen64.out _ (by omega))
            have hlt2 : ((flat M (fun k => s.d.now (pos + 1 + k))).take rn).length = rn := by rw [List.length_take]; omega
            have hcb : M * 64 ≤ c6 := by
              obtain ⟨_, c, he, h1, _⟩ := HR.out.1.bytes
              rw [HS6.out] at he
              have e1 := (Value.slice.inj he).2.1
              have e2 := (Value.slice.inj he).2.2
              omega
            have hcm6 : c6 ≤ maxLen := by
              obtain ⟨_, c, he, h1, h2, _⟩ := HR.out.1.bytes
              rw [HS6.out] at he
              have e2 := (Value.slice.inj he).2.2
              omega
            have hb : BytesAt wr (.slice a6 rn c6) (s.data (j : Int)) := by
              obtain ⟨a, c, he, h1, h2, h3⟩ := HR.out.1.bytes
              rw [HS6.out] at he
              obtain rfl := (Value.slice.inj he).1
              obtain rfl := (Value.slice.inj he).2.2
              rw [HDAT.out, ← HM.out, ← HRN.out]
              refine ⟨a6, c6, by rw [hlt2], by rw [hlt2]; omega, h2, ?_⟩
              rcases h3 with ⟨h3, h4⟩ | ⟨g, o, e, hcell⟩
              · left
                exact ⟨by rw [h3]; simp, h4⟩
              · right
                refine ⟨g, o, e, fun x hx => ?_⟩
                rw [hlt2] at hx
                rw [getD_take _ _ _ hx]
                exact hcell x (by omega)
            have hdl : (s.data (j : Int)).length ≤ 1000000000 := by rw [HDAT.out, ← HM.out, ← HRN.out, hlt2]; omega
            have CC := Lib.hid (rcopy_any (.slice a6 rn c6) (s.data (j : Int)) wr hb hdl)
            unfold maxLen at hcm6
            have hrz : (rn : Int) ≤ (c6 : Int) := by omega
            have hrz1 : (rn : Int).toNat = rn := by omega
            obtain rfl := HS6.out
            clear e' hsec hfl hlt2 hb hdl
            go_wp2_with fail
            refine CC.out.mono ?_
            rintro e w5 ⟨v5, rfl, hb5, ho5, hc5⟩
            have HFIN : Hid (GetPost (s.data (j : Int), 0) w (.returned (.tuple #[v5, .int .i64 0])) w5) := Lib.hid ⟨⟨_, rfl, hb5.bytes, fun g hg => Nat.le_trans HR.out.2.2.size (ho5 g hg)⟩, HR.out.2.2.trans hc5 (by simp)⟩
            clear hb5 ho5 hc5
            go_wp2
            go_ret2
            exact HFIN.out
  · have hg : s.get i = ([], 1) := by unfold SS.get; rw [if_pos (by simpa using hi)]
    have HP := Lib.hid (fun (w' : World) (hc : Chg [] w w') => GetPost.nil (c := 1) hc)
    have HG := Lib.hid hg
    rw [HG.out]
    have HI := Lib.hid hi
    subst hrv0
    generalize hnn : s.rows.length = n at *
    have HNN := Lib.hid hnn
    clear H HH hg hi hfew c0 c1
    by_cases h0 : i < 0
    · have q0 : decide (i < 0) = true := decide_eq_true h0
      go_enter Tryz.func86, Tryz.ntmps86
      go_wp2
      go_ret2
      exact HP.out _ (Chg.refl _ _)
    · have q0 : decide (i < 0) = false := decide_eq_false h0
      have q1 : decide (i ≥ (n : Int)) = true := decide_eq_true (by
        have h9 := HI.out
        unfold SS.has at h9
        have h8 := HNN.out
        omega)
      go_enter Tryz.func86, Tryz.ntmps86
      go_wp2
      go_ret2
      exact HP.out _ (Chg.refl _ _)
end Go.Proofs.YtbkajnjboipbhaaGreatDoor.W

/- The reference's store: plainly; in memory; unkey. -/
namespace Go.Proofs.YtbkajnjboipbhaaGreatDoor.W
open Go.RowKit
set_option linter.unusedVariables false
set_option linter.unusedSimpArgs false

/-! ### Plainly -/
theorem upto_none {rows : List SRow} {k : List UInt8} : ∀ n : Nat, (∀ j, j < n → rowIs rows k j = false) → upto rows n k = [] := fun n h => by
  unfold upto
  rw [List.filter_eq_nil_iff]
  intro j hj
  rw [h j (List.mem_range.1 hj)]
  simp
theorem upto_first {rows : List SRow} {k : List UInt8} {i : Nat} (hi : rowIs rows k i = true) (h0 : ∀ j, j < i → rowIs rows k j = false) : ∀ n : Nat, i < n → ∃ r, upto rows n k = i :: r
  | 0, h => by omega
  | n + 1, h => by
    rw [upto_succ]
    by_cases hin : i < n
    · obtain ⟨r, hr⟩ := upto_first hi h0 n hin
      exact ⟨_, by rw [hr, List.cons_append]⟩
    · obtain rfl : i = n := by omega
      rw [upto_none i h0, hi]
      exact ⟨[], rfl⟩
theorem rowFind_spec (key : List UInt8) : ∀ (l : List SRow) (k : Nat), (rowFind key l k = -1 ∧ ∀ j, j < l.length → rowIs l key j = false) ∨ ∃ n, n < l.length ∧ rowFind key l k = ((k + n : Nat) : Int) ∧ rowIs l key n = true ∧ ∀ j, j < n → rowIs l key j = false
  | [], k => .inl ⟨rfl, fun j hj => by simp at hj⟩
  | r :: rs, k => by
    unfold rowFind
    by_cases h : (r.used && decide (r.key = key)) = true
    · rw [if_pos h]
      exact .inr ⟨0, by simp, by simp, h, fun j hj => by omega⟩
    · rw [if_neg h]
      have h' : (r.used && decide (r.key = key)) = false := by simpa using h
      rcases rowFind_spec key rs (k + 1) with ⟨h1, h2⟩ | ⟨n, h1, h2, h3, h4⟩
      · refine .inl ⟨h1, fun j hj => ?_⟩
        cases j with
        | zero => exact h'
        | succ j => exact h2 j (by simpa using hj)
      · refine .inr ⟨n + 1, by simpa using h1, by rw [h2]; congr 1; omega, h3, fun j hj => ?_⟩
        cases j with
        | zero => exact h'
        | succ j => exact h4 j (by omega)
def headI (l : List Nat) : Int := match l with | [] => -1 | i :: _ => (i : Int)
theorem find_upto (s : SS) (key : List UInt8) : s.find key = headI (upto s.rows s.rows.length key) := by
  unfold SS.find
  rcases rowFind_spec key s.rows 0 with ⟨h1, h2⟩ | ⟨n, h1, h2, h3, h4⟩
  · rw [h1, upto_none _ h2]; rfl
  · obtain ⟨r, hr⟩ := upto_first h3 h4 _ h1
    rw [h2, hr, Nat.zero_add]; rfl
theorem Sto.find {t : Sto} {x : Id} (h : mayId x = true) : t.s.find (idKey x) = headI (t.at x) := by rw [find_upto, Sto.at_may h]

/-! ### In memory -/
structure RStOk (w : World) (q sp m : Nat) (W A : List Nat) (t : Sto) : Prop where
  head : w.heap[q]? = some (.cells #[.pointer (some ⟨m, 0, none⟩), .pointer (some ⟨sp, 0, none⟩), .bool t.whole] 127 (0, 0))
  slots : RSlotsAt w sp m W A t.s
  out : q ∉ A
  ok : keysOk t.s.rows
/-- The reference's store in block q, its disk in block m; U: what may be written; B: all its blocks. -/
def RStAt (w : World) (q m : Nat) (U B : List Nat) (t : Sto) : Prop := ∃ sp W A, RStOk w q sp m W A t ∧ U = q :: W ∧ B = q :: A
theorem RStOk.lt {w : World} {q sp m : Nat} {W A : List Nat} {t : Sto} (h : RStOk w q sp m W A t) : (∀ x ∈ q :: A, x < w.heap.size) ∧ (∀ x ∈ q :: W, x ∈ q :: A) ∧ ∀ x ∈ q :: W, NoU8 w x := by
  obtain ⟨h1, h2, h3⟩ := h.slots.lim
  refine ⟨fun x hx => ?_, fun x hx => ?_, fun x hx => ?_⟩
  · rcases List.mem_cons.1 hx with rfl | hx
    · exact blk_lt h.head
    · exact h1 x hx
  · rcases List.mem_cons.1 hx with rfl | hx
    · simp
    · exact List.mem_cons_of_mem _ (h2 x hx)
  · rcases List.mem_cons.1 hx with rfl | hx
    · exact NoU8.mk h.head (no8_list (by simp [no8_ptr, no8_bool]))
    · exact h3 x hx
theorem RStAt.lim {w : World} {q m : Nat} {U B : List Nat} {t : Sto} (h : RStAt w q m U B t) : (∀ x ∈ B, x < w.heap.size) ∧ (∀ x ∈ U, x ∈ B) ∧ ∀ x ∈ U, NoU8 w x := by
  obtain ⟨sp, W, A, h, rfl, rfl⟩ := h
  exact h.lt
theorem RStOk.keep {w w' : World} {q sp m : Nat} {W A T : List Nat} {t : Sto} (h : RStOk w q sp m W A t) (hc : Chg T w w') (ha : ∀ x ∈ q :: A, x ∉ T) : RStOk w' q sp m W A t :=
  ⟨hc.keep h.head (ha q (by simp)), h.slots.keep hc (fun x hx => ha x (List.mem_cons_of_mem _ hx)), h.out, h.ok⟩
theorem RStAt.keep {w w' : World} {q m : Nat} {U B T : List Nat} {t : Sto} (h : RStAt w q m U B t) (hc : Chg T w w') (ha : ∀ x ∈ B, x ∉ T) : RStAt w' q m U B t := by
  obtain ⟨sp, W, A, h, rfl, rfl⟩ := h
  exact ⟨sp, W, A, h.keep hc ha, rfl, rfl⟩
/-- What doing with it leaves. -/
def RStd (w w' : World) (q m : Nat) (U B : List Nat) (t : Sto) : Prop := ∃ U' B', RStAt w' q m U' B' t ∧ (∀ x ∈ U', x ∈ U ∨ w.heap.size ≤ x) ∧ (∀ x ∈ B', x ∈ B ∨ w.heap.size ≤ x) ∧ Chg U w w'
theorem RStd.same {w : World} {q m : Nat} {U B : List Nat} {t : Sto} (h : RStAt w q m U B t) : RStd w w q m U B t := ⟨U, B, h, fun x hx => .inl hx, fun x hx => .inl hx, Chg.refl _ _⟩
theorem RStd.glue {w w1 w2 : World} {q m : Nat} {U B U1 B1 : List Nat} {t : Sto} (hv : ∀ x ∈ U1, x ∈ U ∨ w.heap.size ≤ x) (hf : ∀ x ∈ B1, x ∈ B ∨ w.heap.size ≤ x) (hc : Chg U w w1) (h : RStd w1 w2 q m U1 B1 t) : RStd w w2 q m U B t := by
  obtain ⟨V2, F2, b1, b2, b3, b4⟩ := h
  refine ⟨V2, F2, b1, fun x hx => ?_, fun x hx => ?_, hc.trans b4 hv⟩
  · rcases b2 x hx with h | h
    · exact hv x h
    · exact .inr (Nat.le_trans hc.size h)
  · rcases b3 x hx with h | h
    · exact hf x h
    · exact .inr (Nat.le_trans hc.size h)
theorem RStd.pre {w0 w w' : World} {q m : Nat} {U B : List Nat} {t : Sto} (hc : Chg [] w0 w) (h : RStd w w' q m U B t) : RStd w0 w' q m U B t := RStd.glue (fun x hx => .inl hx) (fun x hx => .inl hx) (hc.mono (by simp)) h
theorem RStd.post {w w1 w' : World} {q m : Nat} {U B : List Nat} {t : Sto} (h : RStd w w1 q m U B t) (hc : Chg [] w1 w') : RStd w w' q m U B t := by
  obtain ⟨W1, A1, a1, a2, a3, a4⟩ := h
  exact ⟨W1, A1, a1.keep hc (by simp), a2, a3, a4.trans hc (by simp)⟩
/-- The slots have been worked on. -/
theorem RStOk.did {w w' : World} {q sp m : Nat} {W A : List Nat} {t : Sto} {s : SS} (h : RStOk w q sp m W A t) (hd : RSid w w' sp m W A s) (hk : keysOk s.rows) : RStd w w' q m (q :: W) (q :: A) { t with s := s } := by
  obtain ⟨W', A', a1, a2, a3, a4⟩ := hd
  have hl := h.lt
  have hq : q < w.heap.size := hl.1 q (by simp)
  have hW : q ∉ W := fun hm => h.out (h.slots.lim.2.1 q hm)
  refine ⟨q :: W', q :: A', ⟨sp, W', A', ⟨a4.keep h.head hW, a1, fun hm => ?_, hk⟩, rfl, rfl⟩, fun x hx => ?_, fun x hx => ?_, a4.mono (fun x hx => .inl (List.mem_cons_of_mem _ hx))⟩
  · rcases a3 q hm with h4 | h4
    · exact h.out h4
    · omega
  · rcases List.mem_cons.1 hx with rfl | hx
    · exact .inl (by simp)
    · rcases a2 x hx with h4 | h4
      · exact .inl (List.mem_cons_of_mem _ h4)
      · exact .inr h4
  · rcases List.mem_cons.1 hx with rfl | hx
    · exact .inl (by simp)
    · rcases a3 x hx with h4 | h4
      · exact .inl (List.mem_cons_of_mem _ h4)
      · exact .inr h4
theorem RStOk.cells {w : World} {q sp m : Nat} {W A : List Nat} {t : Sto} (h : RStOk w q sp m W A t) : w.cell? ⟨q, 0, none⟩ = some (.pointer (some ⟨m, 0, none⟩)) ∧ w.cell? ⟨q, 1, none⟩ = some (.pointer (some ⟨sp, 0, none⟩)) ∧ w.cell? ⟨q, 2, none⟩ = some (.bool t.whole) :=
  ⟨blk_cell h.head 0 _ rfl, blk_cell h.head 1 _ rfl, blk_cell h.head 2 _ rfl⟩
theorem RSlotsAt.okk {w : World} {q m : Nat} {W A : List Nat} {s : SS} (h : RSlotsAt w q m W A s) : s.Ok := by
  obtain ⟨V, F, rv, R, H⟩ := h
  exact H.ok
theorem RSlotsAt.fewR {w : World} {q m : Nat} {W A : List Nat} {s : SS} (h : RSlotsAt w q m W A s) : s.first + 8 * s.rows.length ≤ s.d.n ∧ s.d.n ≤ 4160 := by
  obtain ⟨V, F, rv, R, H⟩ := h
  exact H.few

/-! ### unkey -/
set_option maxHeartbeats 2000000 in
theorem rend_any (b g : Nat) (l : List UInt8) (bad : Int) (w : World) (h : REyeAt w b g l bad) :
    Calls Tryz.prog 120 #[.pointer (some ⟨b, 0, none⟩)] w fun e w' => e = .returned (.int .i64 (endOf l bad)) ∧ w = w' := by
  obtain ⟨v, hb, hv, _, _⟩ := h
  obtain ⟨a, cap, rfl⟩ := hv.slice
  have h0 := blk_cell hb 0 _ rfl
  have h1 := blk_cell hb 1 _ rfl
  unfold endOf
  clear hb hv
  by_cases hbad : bad = 0
  · subst hbad
    rw [if_neg (by simp)]
    by_cases hl : l = []
    · subst hl
      rw [if_pos rfl]
      go_enter Tryz.func120, Tryz.ntmps120
      go_wp2
      go_ret
      exact ⟨rfl, rfl⟩
    · rw [if_neg hl]
      have hp : 0 < l.length := List.length_pos_iff.2 hl
      clear hl
      go_enter Tryz.func120, Tryz.ntmps120
      go_wp2
      go_ret
      exact ⟨rfl, rfl⟩
  · rw [if_pos hbad]
    have q : (bad != 0) = true := by simp [hbad]
    clear hbad
    go_enter Tryz.func120, Tryz.ntmps120
    go_wp2
    go_ret
    exact ⟨rfl, rfl⟩
/-- An eye of the reference that is read while an id is filled in block N. -/
structure REyeNew (w0 w : World) (b g N : Nat) (x : Id) (r : Int × List UInt8 × Int) : Prop where
  eye : REyeAt w b g r.2.1 r.2.2
  chg : Chg [] w0 w
  own : w0.heap.size ≤ b
  blk : w.heap[N]? = some (.cells (idC x) 25 (0, 0))
  own2 : w0.heap.size ≤ N
  ne : N ≠ b ∧ N ≠ g
theorem REyeNew.num {w0 w : World} {b g N : Nat} {x : Id} {r : Int × List UInt8 × Int} (h : REyeNew w0 w b g N x r) (n : Nat) (h1 : 1 ≤ n) (h7 : n ≤ 7) (r' : Int × List UInt8 × Int) (hr : r' = eyeNum r.2.1 r.2.2 n) :
    Calls Tryz.prog 119 #[.pointer (some ⟨b, 0, none⟩), .int .i64 n] w fun e w' => e = .returned (.int .i64 r'.1) ∧ REyeNew w0 w' b g N x r' := by
  subst hr
  refine (rnum_any b g r.2.1 r.2.2 n w h.eye (by omega) (by omega)).mono ?_
  rintro e w' ⟨rfl, h2, h3⟩
  refine ⟨rfl, h2, h.chg.trans h3 (fun x hx => .inr ?_), h.own, h3.keep h.blk (by simpa using h.ne.1), h.own2, h.ne⟩
  rw [List.mem_singleton.1 hx]; exact h.own
theorem REyeNew.set {w0 w : World} {b g N : Nat} {x y : Id} {r : Int × List UInt8 × Int} (h : REyeNew w0 w b g N x r) (j : Nat) (u : Value) (hy : (idC x).setIfInBounds j u = idC y) : REyeNew w0 (w.setCell ⟨N, j, none⟩ u) b g N y r := by
  have hc : Chg [N] w (w.setCell ⟨N, j, none⟩ u) := (Chg.refl [N] w).setCell (p := ⟨N, j, none⟩) (.inl (by simp)) u
  refine ⟨h.eye.keep hc (by simpa using Ne.symm h.ne.1) (by simpa using Ne.symm h.ne.2), h.chg.setCell (p := ⟨N, j, none⟩) (.inr h.own2) u, h.own, ?_, h.own2, h.ne⟩
  rw [← hy]; exact set_blk h.blk
theorem REyeNew.cells {w0 w : World} {b g N : Nat} {a c d e : Int} {r : Int × List UInt8 × Int} (h : REyeNew w0 w b g N ⟨a, c, d, e⟩ r) : (w.cell? ⟨N, 0, none⟩ = some (.int .i64 a) ∧ w.cell? ⟨N, 1, none⟩ = some (.int .i64 c) ∧ w.cell? ⟨N, 2, none⟩ = some (.int .i64 d) ∧ w.cell? ⟨N, 3, none⟩ = some (.int .i64 e)) ∧
    w.frozen? ⟨N, 0, none⟩ = false ∧ w.frozen? ⟨N, 1, none⟩ = false ∧ w.frozen? ⟨N, 2, none⟩ = false ∧ w.frozen? ⟨N, 3, none⟩ = false :=
  ⟨id_cells h.blk, blk_frozen h.blk 0, blk_frozen h.blk 1, blk_frozen h.blk 2, blk_frozen h.blk 3⟩
theorem BytesAt.reye {w : World} {v : Value} {l : List UInt8} (h : BytesAt w v l) (M : Nat) : ∃ g, REyeV w v g l ∧ (g < w.heap.size ∨ g = M) := by
  obtain ⟨a, cap, rfl, h1, h2, h3⟩ := h
  by_cases hl : l = []
  · subst hl
    exact ⟨M, .inl ⟨rfl, a, cap, rfl⟩, .inr rfl⟩
  · rcases h3 with ⟨h3, _⟩ | ⟨g, o, rfl, hc⟩
    · exact absurd h3 hl
    · have hp : 0 < l.length := List.length_pos_iff.2 hl
      have hg := World.block_lt_of_cell? w _ (hc 0 hp)
      exact ⟨g, .inr ⟨o, cap, rfl, h1, h2, hg, hc⟩, .inl hg⟩

set_option maxHeartbeats 4000000 in
set_option maxRecDepth 100000 in
theorem runkey_any (v : Value) (l : List UInt8) (w : World) (h : BytesAt w v l) (hl : l.length ≤ 100000) :
    Calls Tryz.prog 75 #[v] w fun e w' => e = .returned (.tuple #[idV (unId l), .bool (unOk l)]) ∧ Chg [] w w' := by
  obtain ⟨w1, hw1⟩ : ∃ w1, w1 = w.alloc (.cells (idC ⟨0, 0, 0, 0⟩) 25) := ⟨_, rfl⟩
  have hc1 : Chg [] w w1 := by rw [hw1]; exact (Chg.refl [] w).alloc _
  have hb1 : w1.heap[w.heap.size]? = some (.cells (idC ⟨0, 0, 0, 0⟩) 25 (0, 0)) := by rw [hw1]; exact heap_alloc_new w _
  have hs1 : w1.heap.size = w.heap.size + 1 := by rw [hw1]; simp
  obtain ⟨w2, hw2⟩ : ∃ w2, w2 = w1.alloc (.cells #[v, .int .i64 0] 166) := ⟨_, rfl⟩
  have hc2 : Chg [] w1 w2 := by rw [hw2]; exact (Chg.refl [] w1).alloc _
  have hb2 : w2.heap[w1.heap.size]? = some (.cells #[v, .int .i64 0] 166 (0, 0)) := by rw [hw2]; exact heap_alloc_new w1 _
  have hs2 : w2.heap.size = w.heap.size + 1 + 1 := by rw [hw2]; simp [hs1]
  obtain ⟨w3, hw3⟩ : ∃ w3, w3 = w2.alloc (.cells (idC ⟨0, 0, 0, 0⟩) 25) := ⟨_, rfl⟩
  have hc3 : Chg [] w2 w3 := by rw [hw3]; exact (Chg.refl [] w2).alloc _
  have hb3 : w3.heap[w2.heap.size]? = some (.cells (idC ⟨0, 0, 0, 0⟩) 25 (0, 0)) := by rw [hw3]; exact heap_alloc_new w2 _
  obtain ⟨g, hev, hgg⟩ := h.reye w.heap.size
  have hc13 : Chg [] w1 w3 := hc2.trans hc3 (by simp)
  have hen : REyeNew w1 w3 w1.heap.size g w2.heap.size ⟨0, 0, 0, 0⟩ (0, l, 0) := ⟨⟨v, hc3.keep hb2 (by simp), hev.keepC (hc1.trans hc13 (by simp)) (by simp), by omega, by dsimp only; omega⟩, hc13, Nat.le_refl _, hb3, hc2.size, by omega, by omega⟩
  have CN := Lib.hid (hen.num 1 (by omega) (by omega) (un1 l) rfl)
  have HB := Lib.hid hb1
  have HB2 := Lib.hid (hc13.keep hb1 (by simp))
  have HC1 := Lib.hid hc1
  have HW1 := Lib.hid hw1
  have HW2 := Lib.hid hw2
  have HW3 := Lib.hid hw3
  have HS1 := Lib.hid hs1
  have HS2 := Lib.hid hs2
  obtain ⟨a, cap, hv⟩ := h.slice
  subst hv
  have HU : Hid (unId l = ⟨(un1 l).1, (un2 l).1, (un3 l).1, (un4 l).1⟩ ∧ unOk l = (decide (endOf (un4 l).2.1 (un4 l).2.2 = 0) && mayId (unId l))) := Lib.hid ⟨rfl, by
    unfold unOk endOf
    by_cases h1 : (un4 l).2.2 = 0
    · by_cases h2 : (un4 l).2.1 = [] <;> simp [h1, h2]
    · simp [h1]⟩
  have hlt : w.heap.size < w2.heap.size := by omega
  rw [hs1, hs2] at CN
  rw [hs2] at hlt
  clear h hw1 hb1 hc1 hw2 hc2 hb2 hw3 hc3 hb3 hen hev hc13 hgg hs1 hs2
  obtain ⟨b, hbb⟩ : ∃ b, b = w.heap.size + 1 := ⟨_, rfl⟩
  obtain ⟨N, hNN⟩ : ∃ N, N = w.heap.size + 1 + 1 := ⟨_, rfl⟩
  rw [← hNN, ← hbb] at CN
  have HBB := Lib.hid hbb
  have HNN := Lib.hid hNN
  rw [← hNN] at hlt
  clear hbb hNN
  go_enter Tryz.func75, Tryz.ntmps75
  go_wp2_with fail
  rw [← HW1.out, ← HW2.out, ← HW3.out]
  try rw [HS1.out]
  try rw [HS2.out]
  try rw [← HNN.out]
  try rw [← HBB.out]
  refine CN.out.mono ?_
  rintro e w4 ⟨rfl, h4⟩
  obtain ⟨⟨m0, m1, m2, m3⟩, f0, f1, f2, f3⟩ := h4.cells
  have h4' := h4.set 0 (.int .i64 (un1 l).1) (y := ⟨(un1 l).1, 0, 0, 0⟩) rfl
  have CN4 := Lib.hid (h4'.num 3 (by omega) (by omega) (un2 l) rfl)
  clear h4 h4' CN
  go_wp2_with fail
  refine CN4.out.mono ?_
  rintro e w5 ⟨rfl, h5⟩
  obtain ⟨⟨m0, m1, m2, m3⟩, f0, f1, f2, f3⟩ := h5.cells
  have h5' := h5.set 1 (.int .i64 (un2 l).1) (y := ⟨(un1 l).1, (un2 l).1, 0, 0⟩) rfl
  have CN5 := Lib.hid (h5'.num 4 (by omega) (by omega) (un3 l) rfl)
  clear h5 h5' CN4
  go_wp2_with fail
  refine CN5.out.mono ?_
  rintro e w6 ⟨rfl, h6⟩
  obtain ⟨⟨m0, m1, m2, m3⟩, f0, f1, f2, f3⟩ := h6.cells
  have h6' := h6.set 2 (.int .i64 (un3 l).1) (y := ⟨(un1 l).1, (un2 l).1, (un3 l).1, 0⟩) rfl
  have CN6 := Lib.hid (h6'.num 1 (by omega) (by omega) (un4 l) rfl)
  clear h6 h6' CN5
  go_wp2_with fail
  refine CN6.out.mono ?_
  rintro e w7 ⟨rfl, h7⟩
  obtain ⟨⟨m0, m1, m2, m3⟩, f0, f1, f2, f3⟩ := h7.cells
  have h7' := h7.set 3 (.int .i64 (un4 l).1) (y := ⟨(un1 l).1, (un2 l).1, (un3 l).1, (un4 l).1⟩) rfl
  rw [← HU.out.1] at h7'
  have HE := Lib.hid h7'
  have HUI := Lib.hid HU.out.2
  clear h7 h7' CN6 HU
  generalize un4 l = z4 at *
  obtain ⟨x, hx⟩ : ∃ x, x = unId l := ⟨_, rfl⟩
  obtain ⟨ok, hok⟩ : ∃ ok, ok = unOk l := ⟨_, rfl⟩
  rw [← hx] at HE HUI
  rw [← hok] at HUI
  have HX := Lib.hid hx
  have HOK := Lib.hid hok
  clear hx hok
  go_wp2_with fail
  obtain ⟨xc, xl, xn, xi⟩ := x
  generalize hw8 : w7.setCell _ _ = w8 at *
  have HE8 := Lib.hid (show REyeNew w1 w8.drew b g N _ z4 from ⟨HE.out.eye.keep ((Chg.refl [] _).drew) (by simp) (by simp), HE.out.chg.drew, HE.out.own, HE.out.blk, HE.out.own2, HE.out.ne⟩)
  have HR8 := Lib.hid (HE8.out.chg.keep HB.out (by simp))
  have CF := Lib.hid (rend_any b g _ _ _ HE8.out.eye)
  have mm := id_cells HE8.out.blk
  obtain ⟨r, hr⟩ : ∃ r, r = endOf z4.2.1 z4.2.2 := ⟨_, rfl⟩
  rw [← hr] at CF HUI
  clear hr HE hw8 m0 m1 m2 m3 f0 f1 f2 f3
  by_cases hr0 : r = 0
  · subst hr0
    have CM := Lib.hid (rmayid_any ⟨xc, xl, xn, xi⟩ w8.drew)
    have hk : ok = mayId ⟨xc, xl, xn, xi⟩ := by simpa using HUI.out
    subst hk
    refine wp_region_L [(8, fun w' => (w'.cell? ⟨N, 0, none⟩ = some (.int .i64 xc) ∧ w'.cell? ⟨N, 1, none⟩ = some (.int .i64 xl) ∧ w'.cell? ⟨N, 2, none⟩ = some (.int .i64 xn) ∧ w'.cell? ⟨N, 3, none⟩ = some (.int .i64 xi))), (6, fun w' => (w'.cell? ⟨N, 0, none⟩ = some (.int .i64 xc) ∧ w'.cell? ⟨N, 1, none⟩ = some (.int .i64 xl) ∧ w'.cell? ⟨N, 2, none⟩ = some (.int .i64 xn) ∧ w'.cell? ⟨N, 3, none⟩ = some (.int .i64 xi)))] (by kernel_rfl) ?_ (fun hHeld => ?_)
    · exact (HoldC.cons (mm) (HoldC.cons (mm) HoldC.nil))
    refine wpAnyL_load 0 (i := 0) (oi := _) (v := ?_) rfl rfl (by kernel_rfl) (by kernel_rfl) (by kernel_rfl) (by kernel_rfl) (by kernel_rfl) (by kernel_rfl) (fun _ _ _ h => h) (Or.inl ⟨by rfl, ?_⟩) (by assumption) (fun hNew => ?_)
    rotate_left
    · intro w hSw
      (try dsimp only at hSw)
      go_simp
      try with_reducible rfl
    clear hHeld
    have hHeld := hNew
    clear hNew
    try simp only [List.getElem_toArray, List.getElem_cons_succ, List.getElem_cons_zero, Act.put, List.setIfInBounds_toArray, List.set_cons_zero, List.set_cons_succ]
    refine wpAnyL_take (i := 1) (oi := _) (v := ?_) rfl (by kernel_rfl) (by kernel_rfl) (by kernel_rfl) (by kernel_rfl) (by kernel_rfl) (fun _ _ _ h => h) (Or.inl ⟨by rfl, ?_⟩) (by assumption) (fun hNew => ?_)
    rotate_left
    · intro w _
      go_simp
      try with_reducible rfl
    clear hHeld
    have hHeld := hNew
    clear hNew
    try simp only [List.getElem_toArray, List.getElem_cons_succ, List.getElem_cons_zero, Act.put, List.setIfInBounds_toArray, List.set_cons_zero, List.set_cons_succ]
    refine wpAnyL_ready (rs := [2]) (by kernel_rfl) (by simp) ?_
    refine AllReadyL.cons (o := _) rfl (fun K hK => ?_) AllReadyL.nil
    try simp only [List.getElem_toArray, List.getElem_cons_succ, List.getElem_cons_zero]
    go_simp
    refine (CF.out).mono ?_
    rintro e w9 ⟨rfl, hw9⟩
    subst hw9
    clear hHeld
    refine hK.out _ _ ?_ (fun hHeld => ?_)
    · exact (HoldC.cons (mm) (HoldC.cons (mm) HoldC.nil))
    clear hK K
    try simp only [List.getElem_toArray, List.getElem_cons_succ, List.getElem_cons_zero, Act.put, List.setIfInBounds_toArray, List.set_cons_zero, List.set_cons_succ]
    refine wpAnyL_take (i := 3) (oi := _) (v := ?_) rfl (by kernel_rfl) (by kernel_rfl) (by kernel_rfl) (by kernel_rfl) (by kernel_rfl) (fun _ _ _ h => h) (Or.inl ⟨by rfl, ?_⟩) (by assumption) (fun hNew => ?_)
    rotate_left
    · intro w _
      go_simp
      try with_reducible rfl
    clear hHeld
    have hHeld := hNew
    clear hNew
    try simp only [List.getElem_toArray, List.getElem_cons_succ, List.getElem_cons_zero, Act.put, List.setIfInBounds_toArray, List.set_cons_zero, List.set_cons_succ]
    refine wpAnyL_take (i := 4) (oi := _) (v := ?_) rfl (by kernel_rfl) (by kernel_rfl) (by kernel_rfl) (by kernel_rfl) (by kernel_rfl) (fun _ _ _ h => h) (Or.inl ⟨by rfl, ?_⟩) (by assumption) (fun hNew => ?_)
    rotate_left
    · intro w _
      go_simp
      try with_reducible rfl
    clear hHeld
    have hHeld := hNew
    clear hNew
    try simp only [List.getElem_toArray, List.getElem_cons_succ, List.getElem_cons_zero, Act.put, List.setIfInBounds_toArray, List.set_cons_zero, List.set_cons_succ]
    refine wpAnyL_load 1 (i := 5) (oi := _) (v := ?_) rfl rfl (by kernel_rfl) (by kernel_rfl) (by kernel_rfl) (by kernel_rfl) (by kernel_rfl) (by kernel_rfl) (fun _ _ _ h => h) (Or.inl ⟨by rfl, ?_⟩) (by assumption) (fun hNew => ?_)
    rotate_left
    · intro w hSw
      (try dsimp only at hSw)
      go_simp
      try with_reducible rfl
    clear hHeld
    have hHeld := hNew
    clear hNew
    try simp only [List.getElem_toArray, List.getElem_cons_succ, List.getElem_cons_zero, Act.put, List.setIfInBounds_toArray, List.set_cons_zero, List.set_cons_succ]
    refine wpAnyL_ready (rs := [6]) (by kernel_rfl) (by simp) ?_
    refine AllReadyL.cons (o := _) rfl (fun K hK => ?_) AllReadyL.nil
    try simp only [List.getElem_toArray, List.getElem_cons_succ, List.getElem_cons_zero]
    go_simp
    refine CM.out.mono ?_
    rintro e w10 ⟨rfl, hc10⟩
    have HC10 := Lib.hid hc10
    have mm := id_cells (hc10.keep HE8.out.blk (by simp))
    clear hc10
    clear hHeld
    refine hK.out _ _ ?_ (fun hHeld => ?_)
    · exact (HoldC.cons (mm) (HoldC.past (by kernel_rfl) HoldC.nil))
    clear hK K
    try simp only [List.getElem_toArray, List.getElem_cons_succ, List.getElem_cons_zero, Act.put, List.setIfInBounds_toArray, List.set_cons_zero, List.set_cons_succ]
    refine wpAnyL_take (i := 7) (oi := _) (v := ?_) rfl (by kernel_rfl) (by kernel_rfl) (by kernel_rfl) (by kernel_rfl) (by kernel_rfl) (fun _ _ _ h => h) (Or.inl ⟨by rfl, ?_⟩) (by assumption) (fun hNew => ?_)
    rotate_left
    · intro w _
      go_simp
      try with_reducible rfl
    clear hHeld
    have hHeld := hNew
    clear hNew
    try simp only [List.getElem_toArray, List.getElem_cons_succ, List.getElem_cons_zero, Act.put, List.setIfInBounds_toArray, List.set_cons_zero, List.set_cons_succ]
    obtain ⟨v0, v1, v2, v3⟩ := id_cells (HC10.out.keep HR8.out (by simp))
    have y0 := blk_frozen (HC10.out.keep HR8.out (by simp)) 0
    have y1 := blk_frozen (HC10.out.keep HR8.out (by simp)) 1
    have y2 := blk_frozen (HC10.out.keep HR8.out (by simp)) 2
    have y3 := blk_frozen (HC10.out.keep HR8.out (by simp)) 3
    refine wpAnyL_ready (rs := [8]) (by kernel_rfl) (by simp) ?_
    refine AllReadyL.cons (o := _) rfl (fun K hK => ?_) AllReadyL.nil
    try simp only [List.getElem_toArray, List.getElem_cons_succ, List.getElem_cons_zero]
    go_simp
    clear hHeld
    refine hK.out _ _ ?_ (fun hHeld => ?_)
    · exact (HoldC.past (by kernel_rfl) (HoldC.past (by kernel_rfl) HoldC.nil))
    clear hK K
    try simp only [List.getElem_toArray, List.getElem_cons_succ, List.getElem_cons_zero, Act.put, List.setIfInBounds_toArray, List.set_cons_zero, List.set_cons_succ]
    refine wpAnyL_take (i := 9) (oi := _) (v := ?_) rfl (by kernel_rfl) (by kernel_rfl) (by kernel_rfl) (by kernel_rfl) (by kernel_rfl) (fun _ _ _ h => h) (Or.inl ⟨by rfl, ?_⟩) (by assumption) (fun hNew => ?_)
    rotate_left
    · intro w _
      go_simp
      try with_reducible rfl
    clear hHeld
    have hHeld := hNew
    clear hNew
    try simp only [List.getElem_toArray, List.getElem_cons_succ, List.getElem_cons_zero, Act.put, List.setIfInBounds_toArray, List.set_cons_zero, List.set_cons_succ]
    refine wpAnyL_done (by kernel_rfl) ?_ _
    clear hHeld
    go_wp2_with fail
    have HW := Lib.hid (id_written (HC10.out.keep HR8.out (by simp)) ⟨xc, xl, xn, xi⟩)
    refine bodyPost_ret (ret_id rfl _ rfl rfl HW.out) rfl ?_
    refine ⟨by rw [← HX.out, ← HOK.out]; rfl, ?_⟩
    have hc := (HC1.out.trans (HE8.out.chg.trans HC10.out (by simp)) (by simp))
    exact (((hc.setCell (.inr (Nat.le_refl _)) _).setCell (.inr (Nat.le_refl _)) _).setCell (.inr (Nat.le_refl _)) _).setCell (.inr (Nat.le_refl _)) _
  · have hk : ok = false := by simpa [hr0] using HUI.out
    subst hk
    have qr : (r == 0) = false := by simpa using hr0
    refine wp_region_L [(8, fun w' => (w'.cell? ⟨N, 0, none⟩ = some (.int .i64 xc) ∧ w'.cell? ⟨N, 1, none⟩ = some (.int .i64 xl) ∧ w'.cell? ⟨N, 2, none⟩ = some (.int .i64 xn) ∧ w'.cell? ⟨N, 3, none⟩ = some (.int .i64 xi)))] (by kernel_rfl) ?_ (fun hHeld => ?_)
    · exact (HoldC.cons (mm) HoldC.nil)
    refine wpAnyL_load 0 (i := 0) (oi := _) (v := ?_) rfl rfl (by kernel_rfl) (by kernel_rfl) (by kernel_rfl) (by kernel_rfl) (by kernel_rfl) (by kernel_rfl) (fun _ _ _ h => h) (Or.inl ⟨by rfl, ?_⟩) (by assumption) (fun hNew => ?_)
    rotate_left
    · intro w hSw
      (try dsimp only at hSw)
      go_simp
      try with_reducible rfl
    clear hHeld
    have hHeld := hNew
    clear hNew
    try simp only [List.getElem_toArray, List.getElem_cons_succ, List.getElem_cons_zero, Act.put, List.setIfInBounds_toArray, List.set_cons_zero, List.set_cons_succ]
    refine wpAnyL_take (i := 1) (oi := _) (v := ?_) rfl (by kernel_rfl) (by kernel_rfl) (by kernel_rfl) (by kernel_rfl) (by kernel_rfl) (fun _ _ _ h => h) (Or.inl ⟨by rfl, ?_⟩) (by assumption) (fun hNew => ?_)
    rotate_left
    · intro w _
      go_simp
      try with_reducible rfl
    clear hHeld
    have hHeld := hNew
    clear hNew
    try simp only [List.getElem_toArray, List.getElem_cons_succ, List.getElem_cons_zero, Act.put, List.setIfInBounds_toArray, List.set_cons_zero, List.set_cons_succ]
    refine wpAnyL_ready (rs := [2]) (by kernel_rfl) (by simp) ?_
    refine AllReadyL.cons (o := _) rfl (fun K hK => ?_) AllReadyL.nil
    try simp only [List.getElem_toArray, List.getElem_cons_succ, List.getElem_cons_zero]
    go_simp
    refine (CF.out).mono ?_
    rintro e w9 ⟨rfl, hw9⟩
    subst hw9
    clear hHeld
    refine hK.out _ _ ?_ (fun hHeld => ?_)
    · exact (HoldC.cons (mm) HoldC.nil)
    clear hK K
    try simp only [List.getElem_toArray, List.getElem_cons_succ, List.getElem_cons_zero, Act.put, List.setIfInBounds_toArray, List.set_cons_zero, List.set_cons_succ]
    refine wpAnyL_take (i := 3) (oi := _) (v := ?_) rfl (by kernel_rfl) (by kernel_rfl) (by kernel_rfl) (by kernel_rfl) (by kernel_rfl) (fun _ _ _ h => h) (Or.inl ⟨by rfl, ?_⟩) (by assumption) (fun hNew => ?_)
    rotate_left
    · intro w _
      go_simp
      try with_reducible rfl
    clear hHeld
    have hHeld := hNew
    clear hNew
    try simp only [List.getElem_toArray, List.getElem_cons_succ, List.getElem_cons_zero, Act.put, List.setIfInBounds_toArray, List.set_cons_zero, List.set_cons_succ]
    refine wpAnyL_take (i := 4) (oi := _) (v := ?_) rfl (by kernel_rfl) (by kernel_rfl) (by kernel_rfl) (by kernel_rfl) (by kernel_rfl) (fun _ _ _ h => h) (Or.inl ⟨by rfl, ?_⟩) (by assumption) (fun hNew => ?_)
    rotate_left
    · intro w _
      go_simp
      try with_reducible rfl
    clear hHeld
    have hHeld := hNew
    clear hNew
    try simp only [List.getElem_toArray, List.getElem_cons_succ, List.getElem_cons_zero, Act.put, List.setIfInBounds_toArray, List.set_cons_zero, List.set_cons_succ]
    refine wpAnyL_take (i := 5) (oi := _) (v := _) rfl (by kernel_rfl) (by kernel_rfl) (by kernel_rfl) (by kernel_rfl) (by kernel_rfl) (fun _ _ _ h => h) (Or.inr ⟨by rfl, rfl⟩) (by assumption) (fun hNew => ?_)
    clear hHeld
    have hHeld := hNew
    clear hNew
    try simp only [List.getElem_toArray, List.getElem_cons_succ, List.getElem_cons_zero, Act.put, List.setIfInBounds_toArray, List.set_cons_zero, List.set_cons_succ]
    refine wpAnyL_take (i := 6) (oi := _) (v := _) rfl (by kernel_rfl) (by kernel_rfl) (by kernel_rfl) (by kernel_rfl) (by kernel_rfl) (fun _ _ _ h => h) (Or.inr ⟨by rfl, rfl⟩) (by assumption) (fun hNew => ?_)
    clear hHeld
    have hHeld := hNew
    clear hNew
    try simp only [List.getElem_toArray, List.getElem_cons_succ, List.getElem_cons_zero, Act.put, List.setIfInBounds_toArray, List.set_cons_zero, List.set_cons_succ]
    refine wpAnyL_take (i := 7) (oi := _) (v := ?_) rfl (by kernel_rfl) (by kernel_rfl) (by kernel_rfl) (by kernel_rfl) (by kernel_rfl) (fun _ _ _ h => h) (Or.inl ⟨by rfl, ?_⟩) (by assumption) (fun hNew => ?_)
    rotate_left
    · intro w _
      go_simp
      try with_reducible rfl
    clear hHeld
    have hHeld := hNew
    clear hNew
    try simp only [List.getElem_toArray, List.getElem_cons_succ, List.getElem_cons_zero, Act.put, List.setIfInBounds_toArray, List.set_cons_zero, List.set_cons_succ]
    have HR9 : w8.heap[w.heap.size]? = some (.cells (idC ⟨0, 0, 0, 0⟩) 25 (0, 0)) := HR8.out
    obtain ⟨v0, v1, v2, v3⟩ := id_cells HR9
    have y0 := blk_frozen HR9 0
    have y1 := blk_frozen HR9 1
    have y2 := blk_frozen HR9 2
    have y3 := blk_frozen HR9 3
    clear HR9
    refine wpAnyL_ready (rs := [8]) (by kernel_rfl) (by simp) ?_
    refine AllReadyL.cons (o := _) rfl (fun K hK => ?_) AllReadyL.nil
    try simp only [List.getElem_toArray, List.getElem_cons_succ, List.getElem_cons_zero]
    go_simp
    clear hHeld
    refine hK.out _ _ ?_ (fun hHeld => ?_)
    · exact (HoldC.past (by kernel_rfl) HoldC.nil)
    clear hK K
    try simp only [List.getElem_toArray, List.getElem_cons_succ, List.getElem_cons_zero, Act.put, List.setIfInBounds_toArray, List.set_cons_zero, List.set_cons_succ]
    refine wpAnyL_take (i := 9) (oi := _) (v := ?_) rfl (by kernel_rfl) (by kernel_rfl) (by kernel_rfl) (by kernel_rfl) (by kernel_rfl) (fun _ _ _ h => h) (Or.inl ⟨by rfl, ?_⟩) (by assumption) (fun hNew => ?_)
    rotate_left
    · intro w _
      go_simp
      try with_reducible rfl
    clear hHeld
    have hHeld := hNew
    clear hNew
    try simp only [List.getElem_toArray, List.getElem_cons_succ, List.getElem_cons_zero, Act.put, List.setIfInBounds_toArray, List.set_cons_zero, List.set_cons_succ]
    refine wpAnyL_done (by kernel_rfl) ?_ _
    clear hHeld
    go_wp2_with fail
    have HW := Lib.hid (id_written HR8.out ⟨xc, xl, xn, xi⟩)
    refine bodyPost_ret (ret_id rfl _ rfl rfl HW.out) rfl ?_
    refine ⟨by rw [← HX.out, ← HOK.out]; rfl, ?_⟩
    have hc := HC1.out.trans HE8.out.chg (by simp)
    exact (((hc.setCell (.inr (Nat.le_refl _)) _).setCell (.inr (Nat.le_refl _)) _).setCell (.inr (Nat.le_refl _)) _).setCell (.inr (Nat.le_refl _)) _
end Go.Proofs.YtbkajnjboipbhaaGreatDoor.W

/- The reference's slots: Clear. -/
namespace Go.Proofs.YtbkajnjboipbhaaGreatDoor.W
open Go.RowKit
set_option linter.unusedVariables false
set_option linter.unusedSimpArgs false

/-- What a change of the slots answers. -/
def RSidPost (w : World) (q m : Nat) (W A : List Nat) (r : Int × SS) (e : Ending) (w' : World) : Prop := e = .returned (.int .i64 r.1) ∧ RSid w w' q m W A r.2
theorem RSidPost.same {w : World} {q m : Nat} {W A : List Nat} {s : SS} {c : Int} (h : RSlotsAt w q m W A s) : RSidPost w q m W A (c, s) (.returned (.int .i64 c)) w := ⟨rfl, RSid.same h⟩
end Go.Proofs.YtbkajnjboipbhaaGreatDoor.W

/- The reference's padded. -/
namespace Go.Proofs.YtbkajnjboipbhaaGreatDoor.W
open Go.RowKit
set_option linter.unusedVariables false
set_option linter.unusedSimpArgs false

/-- Sectors in a row of rows. -/
structure PadAt (w0 w : World) (v : Value) (b : List UInt8) (j : Nat) (PV : List Value) : Prop where
  row : w.ownsRow 0 27 1 v j PV
  secs : ∀ k, k < j → BytesAt w (PV.getD k undef) (secAt b k) ∧ ∀ g, (PV.getD k undef).ownBlock = some g → w0.heap.size ≤ g ∧ v.ownBlock ≠ some g
  new : ∀ g, v.ownBlock = some g → w0.heap.size ≤ g
theorem PadAt.keep {w0 w w' : World} {v : Value} {b : List UInt8} {j : Nat} {PV : List Value} (h : PadAt w0 w v b j PV) (hc : Chg [] w w') : PadAt w0 w' v b j PV :=
  ⟨row_keep h.row (fun g hg => hc.block g (World.ownsRow.lt h.row g hg).2 (by simp)), fun k hk => ⟨(h.secs k hk).1.chg hc (by simp), (h.secs k hk).2⟩, h.new⟩
end Go.Proofs.YtbkajnjboipbhaaGreatDoor.W

/- The reference's slots: Put. -/
namespace Go.Proofs.YtbkajnjboipbhaaGreatDoor.W
open Go.RowKit
set_option linter.unusedVariables false
set_option linter.unusedSimpArgs false

theorem PadAt.form {w0 w : World} {v : Value} {b : List UInt8} {j : Nat} {PV : List Value} (h : PadAt w0 w v b j PV) : ∃ a cap, v = .slice a j cap := by
  rcases h.row.2 with ⟨h1, h2⟩ | ⟨g, cap, cur, h1, _⟩
  · exact ⟨none, 0, by rw [h1, h2]⟩
  · exact ⟨_, cap, h1⟩
theorem PadAt.at {w0 w : World} {v : Value} {b : List UInt8} {j : Nat} {PV : List Value} (h : PadAt w0 w v b j PV) (k : Nat) (hk : k < j) : ∃ g cap ax cx, v = .slice (some ⟨g, 0, none⟩) j cap ∧ w.cell? ⟨g, k, none⟩ = some (.slice ax 64 cx) ∧ BytesAt w (.slice ax 64 cx) (secAt b k) ∧ ∀ x, (Value.slice ax 64 cx).ownBlock = some x → w0.heap.size ≤ x := by
  rcases h.row.2 with ⟨h1, h2⟩ | ⟨g, cap, cur, h1, _⟩
  · omega
  · have hr := h.row
    rw [h1] at hr
    obtain ⟨_, k0, _⟩ := own_cell hr k hk
    obtain ⟨b1, b2⟩ := h.secs k hk
    obtain ⟨ax, cx, hx⟩ := b1.slice
    rw [secAt_len] at hx
    rw [hx] at k0 b1 b2
    exact ⟨g, cap, ax, cx, h1, k0, b1, fun x hx => (b2 x hx).1⟩
end Go.Proofs.YtbkajnjboipbhaaGreatDoor.W

/- The reference's store: Get, Put. -/
namespace Go.Proofs.YtbkajnjboipbhaaGreatDoor.W
open Go.RowKit
set_option linter.unusedVariables false
set_option linter.unusedSimpArgs false

set_option maxHeartbeats 4000000 in
set_option maxRecDepth 100000 in
theorem rstget_any (q m : Nat) (U B : List Nat) (t : Sto) (x : Id) (w : World) (h : RStAt w q m U B t) (hxo : okD x) : Calls Tryz.prog 76 #[.pointer (some ⟨q, 0, none⟩), idV x] w (GetPost (t.get x) w) := by
  obtain ⟨sp, W, A, h, rfl, rfl⟩ := h
  obtain ⟨w1, hw1⟩ : ∃ w1, w1 = w.alloc (.cells (idC x) 25) := ⟨_, rfl⟩
  have hc1 : Chg [] w w1 := by rw [hw1]; exact (Chg.refl [] w).alloc _
  have hb1 : w1.heap[w.heap.size]? = some (.cells (idC x) 25 (0, 0)) := by rw [hw1]; exact heap_alloc_new w _
  have CK := Lib.hid (rkey_any x w1)
  have mm := id_cells hb1
  have HH1 := Lib.hid (h.keep hc1 (by simp))
  have HC1 := Lib.hid hc1
  have HW1 := Lib.hid hw1
  rw [hw1] at mm
  unfold KeyPost at CK
  clear hw1 hb1 hc1 h
  by_cases hm : mayId x = true
  · have HG : Hid (t.get x = match t.at x with | [] => ([], 6) | i :: _ => t.s.get i) := Lib.hid (by unfold Sto.get; rw [if_neg (by simp [hm])]; try rfl)
    have HM := Lib.hid hm
    simp only [hm, if_true] at CK
    clear hm
    obtain ⟨xc, xl, xn, xi⟩ := x
    obtain ⟨m0, m1, m2, m3⟩ := mm
    go_enter Tryz.func76, Tryz.ntmps76
    go_wp2_with fail
    rw [← HW1.out]
    refine CK.out.mono ?_
    rintro e w2 ⟨hc2, kv, rfl, hkr, hkf⟩
    have HH2 := Lib.hid (HH1.out.keep hc2 (by simp))
    have HC2 := Lib.hid (HC1.out.trans hc2 (by simp))
    have CF := Lib.hid (rfind_any sp m W A t.s kv _ w2 HH2.out.slots hkr.bytes (by rw [idKey_len]; omega))
    rw [Sto.find HM.out] at CF
    obtain ⟨_, k1, _⟩ := HH2.out.cells
    clear hc2 hkr hkf m0 m1 m2 m3 CK
    go_wp2_with fail
    refine CF.out.mono ?_
    rintro e w3 ⟨rfl, hc3⟩
    have HH3 := Lib.hid (HH2.out.keep hc3 (by simp))
    have HC3 := Lib.hid (HC2.out.trans hc3 (by simp))
    clear hc3 k1 CF
    cases hat : t.at ⟨xc, xl, xn, xi⟩ with
    | nil =>
      rw [hat] at HG
      dsimp only at HG
      have HR : Hid (∀ w', Chg [] w w' → GetPost ([], 6) w (.returned (.tuple #[.slice none 0 0, .int .i64 6])) w') := Lib.hid (fun w' hc => GetPost.nil hc)
      rw [← HG.out] at HR
      dsimp only [headI]
      clear hat
      go_wp2
      go_ret2
      exact HR.out _ HC3.out
    | cons i rest =>
      rw [hat] at HG
      dsimp only at HG
      dsimp only [headI]
      have CG := Lib.hid (rget_any sp m W A t.s (i : Int) w3 HH3.out.slots)
      rw [← HG.out] at CG
      obtain ⟨_, k1, _⟩ := HH3.out.cells
      have hn0 : decide ((i : Int) < 0) = false := decide_eq_false (by omega)
      have hn1 : ¬ (i : Int) < 0 := by omega
      clear hat HG
      generalize t.get ⟨xc, xl, xn, xi⟩ = r at *
      obtain ⟨rb, re⟩ := r
      go_wp2_with fail
      refine CG.out.mono ?_
      rintro e w4 ⟨⟨v, rfl, hv, hvf⟩, hc4⟩
      have HF : Hid (GetPost (rb, re) w (.returned (.tuple #[v, .int .i64 re])) w4) := Lib.hid ⟨⟨v, rfl, hv, fun k hk => Nat.le_trans HC3.out.size (hvf k hk)⟩, HC3.out.trans hc4 (by simp)⟩
      clear hv hvf hc4 CG k1
      go_wp2
      go_ret2
      exact HF.out
  · have HG : Hid (t.get x = ([], 1)) := Lib.hid (by unfold Sto.get; rw [if_pos (by simpa using hm)])
    simp only [if_neg hm] at CK
    have HR : Hid (∀ w', Chg [] w w' → GetPost ([], 1) w (.returned (.tuple #[.slice none 0 0, .int .i64 1])) w') := Lib.hid (fun w' hc => GetPost.nil hc)
    rw [← HG.out] at HR
    clear hm HG
    obtain ⟨xc, xl, xn, xi⟩ := x
    obtain ⟨m0, m1, m2, m3⟩ := mm
    go_enter Tryz.func76, Tryz.ntmps76
    go_wp2_with fail
    rw [← HW1.out]
    refine CK.out.mono ?_
    rintro e w2 ⟨hc2, rfl⟩
    have HC2 := Lib.hid (HC1.out.trans hc2 (by simp))
    clear hc2 CK m0 m1 m2 m3
    go_wp2
    go_ret2
    exact HR.out _ HC2.out

end Go.Proofs.YtbkajnjboipbhaaGreatDoor.W

/- What the store's laws share. -/
namespace Go.Proofs.YtbkajnjboipbhaaGreatDoor.W
end Go.Proofs.YtbkajnjboipbhaaGreatDoor.W

/- StoreFull, plainly. -/
namespace Go.Proofs.YtbkajnjboipbhaaGreatDoor.W
set_option linter.unusedVariables false
set_option linter.unusedSimpArgs false

theorem range_getD (l : List SRow) : (List.range l.length).map (fun j => l.getD j noRow) = l := by
  apply List.ext_getElem (by simp)
  intro i h1 h2
  simp [List.getD_eq_getElem?_getD, List.getElem?_eq_getElem h2]
theorem used_len (l : List SRow) (P : Nat → Bool) (hP : ∀ j, j < l.length → P j = (l.getD j noRow).used) : ((List.range l.length).filter P).length + l.countP (fun r => !r.used) = l.length := by
  have h1 : ((List.range l.length).filter P).length = l.countP (fun r => r.used) := by
    rw [← List.countP_eq_length_filter]
    conv => rhs; rw [← range_getD l]
    rw [List.countP_map]
    refine List.countP_congr (fun j hj => ?_)
    rw [hP j (List.mem_range.1 hj)]
    rfl
  have h2 := List.length_eq_countP_add_countP (fun r : SRow => r.used) (l := l)
  rw [h1]
  have h3 : l.countP (fun r => decide ¬ r.used = true) = l.countP (fun r => !r.used) := List.countP_congr (fun r _ => by cases r.used <;> simp)
  omega
/-- How many ids there are. -/
theorem Kept.ids_len {t : Sto} {F : Frag} (h : Kept t F) : t.ids.length + t.room = t.s.rows.length := by
  unfold Sto.ids firsts Sto.room
  rw [List.length_mergeSort, List.length_map]
  refine used_len t.s.rows _ (fun j hj => ?_)
  cases hu : (t.s.rows.getD j noRow).used with
  | false => unfold isFirst; rw [hu]; rfl
  | true =>
    refine mem_isFirst.2 ⟨hu, fun k hk hh => ?_⟩
    obtain ⟨hm, he⟩ := un_back (h.keys _ (row_mem hj) hu)
    obtain ⟨u, v, _, h2⟩ := h.told
    have hjm : j ∈ t.at (unId (t.s.rows.getD j noRow).key) := by rw [Sto.at_may hm]; exact upto_mem.2 ⟨hj, hu, he⟩
    have hkm : k ∈ t.at (unId (t.s.rows.getD j noRow).key) := by rw [Sto.at_may hm]; exact upto_mem.2 ⟨by omega, hh.1, by rw [hh.2]; exact he⟩
    rcases h2 _ hm with ⟨_, h4⟩ | ⟨i, b, _, h4, _⟩
    · rw [h4] at hjm; cases hjm
    · rw [h4, List.mem_singleton] at hjm hkm
      omega
theorem SS.clears_ok : ∀ (l : List Nat) (s : SS), (s.clears l).2.d.ops ≤ s.d.ops + 2 * l.length ∧ (s.clears l).2.d.since.length ≤ s.d.since.length + l.length
  | [], s => ⟨Nat.le_refl _, Nat.le_refl _⟩
  | i :: r, s => by
    obtain ⟨h1, h2, _⟩ := s.clear_ok (i : Int)
    obtain ⟨g1, g2⟩ := SS.clears_ok r (s.clear (i : Int)).2
    rw [clears_cons, List.length_cons]
    split
    · exact ⟨by omega, by omega⟩
    · exact ⟨by omega, by omega⟩
theorem Sto.at_len (t : Sto) (x : Id) : (t.at x).length ≤ t.s.rows.length := by
  unfold Sto.at
  split
  · exact upto_len _ _ _
  · simp
theorem Sto.del_ok (t : Sto) (x : Id) : (t.del x).2.s.d.ops ≤ t.s.d.ops + 2 * t.s.rows.length ∧ (t.del x).2.s.d.since.length ≤ t.s.d.since.length + t.s.rows.length := by
  have hl := t.at_len x
  obtain ⟨h1, h2⟩ := SS.clears_ok (t.at x) t.s
  unfold Sto.del
  split
  · exact ⟨by dsimp only; omega, by dsimp only; omega⟩
  · exact ⟨by dsimp only; omega, by dsimp only; omega⟩
def idn (j : Nat) : Id := ⟨1, 0, (j : Int), 0⟩
theorem may_idn {j : Nat} (h : j ≤ 1000) : mayId (idn j) = true := may_iff.2 (by unfold idn; dsimp only; omega)
def fillF (b : List UInt8) (i : Nat) : Frag := fun x => if x.c = 1 ∧ x.l = 0 ∧ x.i = 0 ∧ 0 ≤ x.n ∧ x.n < i then some b else none
structure FullAt (t : Sto) (b : List UInt8) (n i : Nat) : Prop where
  kept : Kept t (fillF b i)
  room : t.room + i = n
  rows : t.s.rows.length = n
  small : t.s.d.ops ≤ 200 + 20 * i ∧ t.s.d.since.length = 0
theorem fillF_self (b : List UInt8) (i : Nat) : fillF b i (idn i) = none := if_neg (by unfold idn; dsimp only; omega)
theorem fillF_next (b : List UInt8) (i : Nat) : setF (fillF b i) (idn i) (some b) = fillF b (i + 1) := by
  funext x
  unfold setF
  by_cases e : x = idn i
  · subst e
    rw [if_pos rfl]
    exact (if_pos (by unfold idn; dsimp only; omega)).symm
  · rw [if_neg e]
    unfold fillF
    by_cases h : x.c = 1 ∧ x.l = 0 ∧ x.i = 0 ∧ 0 ≤ x.n ∧ x.n < i
    · rw [if_pos h, if_pos (by omega)]
    · rw [if_neg h, if_neg (fun h2 => ?_)]
      have : x.n = (i : Int) := by omega
      obtain ⟨a, b', c, d⟩ := x
      refine e ?_
      unfold idn
      simp only [Id.mk.injEq]
      dsimp only at *
      omega
theorem FullAt.step {t : Sto} {b : List UInt8} {n i : Nat} (h : FullAt t b n i) (hi : i < n) (hn : n ≤ 100) (hb : b.length ≤ 448) : (t.put (idn i) b).1 = 0 ∧ FullAt (t.put (idn i) b).2 b n (i + 1) := by
  obtain ⟨o1, o2, _, o4, _⟩ := t.put_ok (idn i) b
  have hr := h.room
  have hs := h.small
  obtain ⟨p1, p2, p3⟩ := h.kept.put_new (may_idn (by omega)) (fillF_self b i) hb (by omega)
  rw [fillF_next] at p2
  exact ⟨p1, p2, by omega, by rw [o4, h.rows], by omega, by rw [p2.since]; rfl⟩
theorem FullAt.new (b : List UInt8) (n : Nat) (h1 : 1 ≤ n) (h2 : n ≤ 12) : ∃ t d, (DS.new (1 + 8 * n)).format = ((0, some t), d) ∧ FullAt t b n 0 := by
  obtain ⟨t, d, f1, f2, f3, f4, f5, f6, _⟩ := Kept.new (1 + 8 * n) (by omega)
  have hrow : (1 + 8 * n - 1) / 8 = n := by omega
  rw [hrow] at f4
  refine ⟨t, d, f1, ?_, ?_, by rw [f4, List.length_replicate], by rw [f3]; omega, by rw [f2.since]; rfl⟩
  · have : fillF b 0 = fun _ => none := by
      funext x
      exact if_neg (by omega)
    rw [this]; exact f2
  · unfold Sto.room
    rw [f4]
    have := List.countP_replicate (p := fun r : SRow => !r.used) (a := noRow) (n := n)
    simp [noRow] at this ⊢
    first | omega | exact this
/-- When it is full. -/
theorem FullAt.after {t : Sto} {b : List UInt8} {n k : Nat} (h : FullAt t b n n) (hk : k < n) (hn : n ≤ 100) (hb : b.length ≤ 448) : t.put (idn n) b = (5, t) ∧ (t.del (idn k)).1 = 0 ∧ (((t.del (idn k)).2).put (idn n) b).1 = 0 ∧ (((t.del (idn k)).2).put (idn n) b).2.room = 0 ∧ (((t.del (idn k)).2).put (idn n) b).2.ids.length = n ∧ (t.del (idn k)).2.s.d.since.length = 0 := by
  have hr := h.room
  have e1 := h.kept.put_full (may_idn (by omega)) (fillF_self b n) hb (by omega)
  obtain ⟨d1, d2, d3, _, d5, d6⟩ := h.kept.del (may_idn (j := k) (by omega))
  have hF : fillF b n (idn k) = some b := if_pos (by unfold idn; dsimp only; omega)
  rw [hF] at d3
  simp only [Option.isSome_some, if_true] at d3
  have hne : idn n ≠ idn k := fun e => by
    have := congrArg Id.n e
    unfold idn at this
    dsimp only at this
    omega
  obtain ⟨p1, p2, p3⟩ := d2.put_new (may_idn (j := n) (by omega)) (by rw [setF_other _ _ hne]; exact fillF_self b n) hb (by omega)
  have hl := p2.ids_len
  obtain ⟨_, _, _, o4, _⟩ := ((t.del (idn k)).2).put_ok (idn n) b
  have hrows := h.rows
  exact ⟨e1, d1, p1, by omega, by omega, by rw [d2.since]; rfl⟩
end Go.Proofs.YtbkajnjboipbhaaGreatDoor.W

/- The reference's store: Delete, Room. -/
namespace Go.Proofs.YtbkajnjboipbhaaGreatDoor.W
open Go.RowKit
set_option linter.unusedVariables false
set_option linter.unusedSimpArgs false

/-- The rows of the reference's slots, to be read. -/
structure RLook (w : World) (sp : Nat) (s : SS) (a : Option Addr) (cap : Nat) : Prop where
  c2 : w.cell? ⟨sp, 2, none⟩ = some (.slice a s.rows.length cap)
  few : s.rows.length ≤ 1000
  big : s.rows.length ≤ cap
  row : ∀ i, i < s.rows.length → ∃ g kv, a = some ⟨g, 0, none⟩ ∧ w.cell? ⟨g, i * 3, none⟩ = some (.bool (s.rows.getD i noRow).used) ∧ w.cell? ⟨g, i * 3 + 1, none⟩ = some kv ∧ BytesAt w kv (s.rows.getD i noRow).key ∧ (s.rows.getD i noRow).key.length ≤ 40
theorem RSlotsAt.look {w : World} {sp m : Nat} {W A : List Nat} {s : SS} (h : RSlotsAt w sp m W A s) : ∃ a cap, RLook w sp s a cap := by
  obtain ⟨V, F, rv, R, H⟩ := h
  obtain ⟨a, cap, hrv, hcap⟩ := H.form
  have hfew := H.few
  refine ⟨a, cap, by rw [← hrv]; exact blk_cell H.obj.head 2 _ rfl, by omega, hcap, fun i hi => ?_⟩
  obtain ⟨g, cap', kv, h1, h2, _, h3, h4, _, h5, _⟩ := H.at i hi
  rw [hrv] at h1
  obtain ⟨rfl, _, _⟩ := Value.slice.inj h1
  refine ⟨g, kv, rfl, h3, h4, h5, ?_⟩
  rw [List.getD_eq_getElem?_getD, List.getElem?_eq_getElem hi]
  exact (H.ok.rows _ (List.getElem_mem hi)).2
theorem RLook.keep {w w' : World} {sp m : Nat} {W A : List Nat} {s : SS} {a : Option Addr} {cap : Nat} (h : RLook w sp s a cap) (hc : Chg [] w w') : RLook w' sp s a cap :=
  ⟨hc.cell h.c2 (by simp), h.few, h.big, fun i hi => by
    obtain ⟨g, kv, h1, h2, h3, h4, h5⟩ := h.row i hi
    exact ⟨g, kv, h1, hc.cell h2 (by simp), hc.cell h3 (by simp), h4.chg hc (by simp), h5⟩⟩

set_option maxHeartbeats 4000000 in
set_option maxRecDepth 100000 in
theorem rstroom_any (q m : Nat) (U B : List Nat) (t : Sto) (w : World) (h : RStAt w q m U B t) : Calls Tryz.prog 79 #[.pointer (some ⟨q, 0, none⟩)] w fun e w' => e = .returned (.int .i64 (t.room : Int)) ∧ w = w' := by
  obtain ⟨sp, W, A, h, rfl, rfl⟩ := h
  obtain ⟨_, k1, _⟩ := h.cells
  obtain ⟨a, cap, HLk⟩ := h.slots.look
  have hfew := HLk.few
  have c2 := HLk.c2
  have HRM : Hid (t.room = t.s.rows.countP (fun r => !r.used)) := Lib.hid rfl
  have HL := Lib.hid HLk.row
  have hbig := HLk.big
  generalize t.room = R at *
  obtain ⟨m0, hm⟩ : ∃ m0, m0 = t.s.rows.length := ⟨_, rfl⟩
  rw [← hm] at hfew c2 hbig
  have HM := Lib.hid hm
  clear hm h HLk
  go_enter Tryz.func79, Tryz.ntmps79
  go_wp2
  go_loopg [3, 4] m0 (fun g' s3 s4 wr => ∃ (i n : Nat), s4 = .int .i64 (i : Int) ∧ s3 = .int .i64 (n : Int) ∧ i ≤ m0 ∧ m0 ≤ i + g' ∧ n ≤ i ∧ wr = w ∧ Hid (n = (t.s.rows.take i).countP (fun r => !r.used)))
  case atStart => exact ⟨0, 0, rfl, rfl, by omega, by omega, by omega, rfl, Lib.hid (by simp)⟩
  case round =>
    obtain ⟨i, n, rfl, rfl, hi, hig, hni, rfl, HN⟩ := hrel
    by_cases hlt : i < m0
    · have hl2 : i < t.s.rows.length := by rw [← HM.out]; exact hlt
      obtain ⟨g, kv, rfl, r0, r1, _, _⟩ := HL.out i hl2
      have hus : (t.s.rows.getD i noRow).used = (t.s.rows[i]).used := by rw [List.getD_eq_getElem?_getD, List.getElem?_eq_getElem hl2]; rfl
      have HC := Lib.hid (count_take (fun r => !r.used) t.s.rows i hl2)
      rw [hus] at r0
      have hiz : (i : Int) < (m0 : Int) := by omega
      have hiz1 : (i : Int).toNat = i := by omega
      clear hus r1
      generalize (t.s.rows[i]).used = u at *
      cases u with
      | true =>
        go_wp2
        go_roundg (gk - 1)
        case measure => omega
        case rel => exact ⟨i + 1, n, by go_num, rfl, by omega, by omega, by omega, rfl, Lib.hid (by rw [HC.out, ← HN.out]; simp)⟩
      | false =>
        go_wp2
        go_roundg (gk - 1)
        case measure => omega
        case rel => exact ⟨i + 1, n + 1, by go_num, by go_num, by omega, by omega, by omega, rfl, Lib.hid (by rw [HC.out, ← HN.out]; simp)⟩
    · have him : i = m0 := by omega
      have hiz : ¬ (i : Int) < (m0 : Int) := by omega
      have HE : Hid (R = n) := Lib.hid (by rw [HRM.out, HN.out, him, HM.out, List.take_length])
      go_wp2
      go_ret
      rw [HE.out]
      exact ⟨rfl, rfl⟩

end Go.Proofs.YtbkajnjboipbhaaGreatDoor.W

/- The reference's List, plainly. -/
namespace Go.Proofs.YtbkajnjboipbhaaGreatDoor.W
open Go.RowKit
set_option linter.unusedVariables false
set_option linter.unusedSimpArgs false

def firstsTo (rows : List SRow) (i : Nat) : List Id := ((List.range i).filter (isFirst rows)).map (fun j => unId (rows.getD j noRow).key)
theorem firstsTo_succ (rows : List SRow) (i : Nat) : firstsTo rows (i + 1) = firstsTo rows i ++ if isFirst rows i then [unId (rows.getD i noRow).key] else [] := by
  unfold firstsTo
  rw [List.range_succ, List.filter_append, List.map_append]
  congr 1
  by_cases h : isFirst rows i = true
  · rw [if_pos h]; simp [h]
  · rw [if_neg h]; simp [h]
theorem find_first {s : SS} {i : Nat} (hi : i < s.rows.length) (hu : (s.rows.getD i noRow).used = true) : (s.find (s.rows.getD i noRow).key = (i : Int)) ↔ isFirst s.rows i = true := by
  have hr : rowIs s.rows (s.rows.getD i noRow).key i = true := by unfold rowIs; rw [hu]; simp
  rw [find_upto, mem_isFirst]
  constructor
  · intro h
    refine ⟨hu, fun k hk hh => ?_⟩
    cases hl : upto s.rows s.rows.length (s.rows.getD i noRow).key with
    | nil => rw [hl] at h; simp [headI] at h
    | cons j r =>
      rw [hl] at h
      have hji : j = i := by have h' : (j : Int) = (i : Int) := h; omega
      subst hji
      have hk2 : k ∈ upto s.rows s.rows.length (s.rows.getD j noRow).key := upto_mem.2 ⟨by omega, hh.1, hh.2⟩
      have hpw : (upto s.rows s.rows.length (s.rows.getD j noRow).key).Pairwise (· < ·) := List.pairwise_lt_range.filter _
      rw [hl] at hpw hk2
      rcases List.mem_cons.1 hk2 with h3 | h3
      · omega
      · have := (List.pairwise_cons.1 hpw).1 k h3
        omega
  · rintro ⟨_, h⟩
    obtain ⟨r, hr2⟩ := upto_first hr (fun j hj => by
      have := h j hj
      unfold rowIs
      rw [Bool.eq_false_iff]
      intro hc
      simp only [Bool.and_eq_true, decide_eq_true_eq] at hc
      exact this hc) _ hi
    rw [hr2]; rfl
/-- What is known of the list so far. -/
structure Sorted (rows : List SRow) (i : Nat) (L : List Id) : Prop where
  rise : L.Pairwise idLt
  mem : ∀ x, x ∈ L ↔ x ∈ firstsTo rows i
  len : L.length ≤ i
theorem Sorted.zero (rows : List SRow) : Sorted rows 0 [] := ⟨List.Pairwise.nil, fun x => by simp [firstsTo], Nat.le_refl _⟩
theorem Sorted.skip {rows : List SRow} {i : Nat} {L : List Id} (h : Sorted rows i L) (hf : isFirst rows i = false) : Sorted rows (i + 1) L :=
  ⟨h.rise, fun x => by rw [firstsTo_succ, hf, h.mem]; simp, by have := h.len; omega⟩
theorem Sorted.fresh {rows : List SRow} (hk : keysOk rows) {i : Nat} (hi : i < rows.length) {L : List Id} (h : Sorted rows i L) (hf : isFirst rows i = true) : unId (rows.getD i noRow).key ∉ L := by
  intro hm
  have := (h.mem _).1 hm
  unfold firstsTo at this
  obtain ⟨j, hj, he⟩ := List.mem_map.1 this
  obtain ⟨h1, h2⟩ := List.mem_filter.1 hj
  have hji := List.mem_range.1 h1
  obtain ⟨hju, _⟩ := mem_isFirst.1 h2
  obtain ⟨hiu, hi3⟩ := mem_isFirst.1 hf
  have e1 := (un_back (hk _ (row_mem (show j < rows.length by omega)) hju)).2
  have e2 := (un_back (hk _ (row_mem hi) hiu)).2
  exact hi3 j hji ⟨hju, by rw [e1, e2, he]⟩
theorem Sorted.put {rows : List SRow} (hk : keysOk rows) {i : Nat} (hi : i < rows.length) {L : List Id} (h : Sorted rows i L) (hf : isFirst rows i = true) {k : Nat} (hkL : k ≤ L.length) (hgt : ∀ x ∈ L.drop k, idLt (unId (rows.getD i noRow).key) x)
    (hlt : ∀ x, 0 < k → L[k - 1]? = some x → ¬ idLt (unId (rows.getD i noRow).key) x) : Sorted rows (i + 1) (L.take k ++ unId (rows.getD i noRow).key :: L.drop k) := by
  have hfr := h.fresh hk hi hf
  obtain ⟨y, hy⟩ : ∃ y, y = unId (rows.getD i noRow).key := ⟨_, rfl⟩
  rw [← hy] at hgt hlt hfr ⊢
  have hsplit : L = L.take k ++ L.drop k := (List.take_append_drop k L).symm
  have hpw := h.rise
  have hlow : ∀ x ∈ L.take k, idLt x y := fun x hx => by
    have hxL : x ∈ L := List.mem_of_mem_take hx
    have hk0 : 0 < k := by
      rcases Nat.eq_zero_or_pos k with h0 | h0
      · rw [h0] at hx; simp at hx
      · exact h0
    obtain ⟨z, hz⟩ : ∃ z, L[k - 1]? = some z := ⟨_, List.getElem?_eq_getElem (by omega)⟩
    have h1 := hlt z hk0 hz
    have hzL : z ∈ L := List.mem_of_getElem? hz
    have hzy : idLt z y := by
      rcases idLt_or y z with h2 | h2 | h2
      · exact absurd h2 h1
      · rw [h2] at hfr; exact absurd hzL hfr
      · exact h2
    obtain ⟨j, hj, rfl⟩ := List.mem_iff_getElem.1 hx
    rw [List.length_take] at hj
    rw [List.getElem_take]
    by_cases hjk : j = k - 1
    · subst hjk
      have : L[k - 1] = z := by rw [List.getElem?_eq_getElem (by omega)] at hz; exact Option.some.inj hz
      rw [this]; exact hzy
    · have hlt2 := (List.pairwise_iff_getElem.1 hpw) j (k - 1) (by omega) (by omega) (by omega)
      have : L[k - 1] = z := by rw [List.getElem?_eq_getElem (by omega)] at hz; exact Option.some.inj hz
      rw [this] at hlt2
      exact idLt_trans hlt2 hzy
  refine ⟨?_, fun x => ?_, ?_⟩
  · rw [List.pairwise_append]
    rw [hsplit, List.pairwise_append] at hpw
    refine ⟨hpw.1, List.pairwise_cons.2 ⟨hgt, hpw.2.1⟩, fun a ha b hb => ?_⟩
    rcases List.mem_cons.1 hb with rfl | hb
    · exact hlow a ha
    · exact hpw.2.2 a ha b hb
  · rw [firstsTo_succ, if_pos hf, ← hy, List.mem_append, List.mem_append, ← h.mem]
    constructor
    · rintro (hx | hx)
      · exact .inl (List.mem_of_mem_take hx)
      · rcases List.mem_cons.1 hx with rfl | hx
        · exact .inr (by simp)
        · exact .inl (List.mem_of_mem_drop hx)
    · rintro (hx | hx)
      · rw [hsplit] at hx
        rcases List.mem_append.1 hx with hx | hx
        · exact .inl hx
        · exact .inr (List.mem_cons_of_mem _ hx)
      · rw [List.mem_singleton.1 hx]
        exact .inr (by simp)
  · have := h.len
    simp only [List.length_append, List.length_take, List.length_cons, List.length_drop]
    omega
theorem Sorted.done {t : Sto} (hk : keysOk t.s.rows) {L : List Id} (h : Sorted t.s.rows t.s.rows.length L) : L = t.ids := by
  have hn : L.Nodup := h.rise.imp (fun hab e => by rw [e] at hab; exact idLt_irrefl _ hab)
  have h1 : L.mergeSort leI = L := List.mergeSort_of_pairwise (h.rise.imp (fun hab => (leI_iff _ _).2 (.inl hab)))
  rw [← h1]
  exact sortedI_eq hn (firsts_nodup hk) (fun x => h.mem x)
/-! ### A row of ids that is set -/
theorem ids_set : ∀ (R : List Id) (i : Nat) (x : Id), i < R.length → (R.set i x).flatMap idE = ((((R.flatMap idE).set (i * 4) (.int .i64 x.c)).set (i * 4 + 1) (.int .i64 x.l)).set (i * 4 + 2) (.int .i64 x.n)).set (i * 4 + 3) (.int .i64 x.i)
  | [], i, x, h => by simp at h
  | r :: R, 0, x, h => by simp [idE]
  | r :: R, i + 1, x, h => by
    rw [List.set_cons_succ, List.flatMap_cons, List.flatMap_cons, ids_set R i x (by simpa using h)]
    have e : ∀ (a b c d : Value) (M : List Value) (k : Nat) (v : Value), (a :: b :: c :: d :: M).set (k + 4) v = a :: b :: c :: d :: M.set k v := fun a b c d M k v => rfl
    simp only [idE, List.cons_append, List.nil_append]
    rw [show (i + 1) * 4 = i * 4 + 4 by omega, show i * 4 + 4 + 1 = i * 4 + 1 + 4 by omega, show i * 4 + 4 + 2 = i * 4 + 2 + 4 by omega, show i * 4 + 4 + 3 = i * 4 + 3 + 4 by omega, e, e, e, e]
theorem row_setId {w : World} {base g cap : Nat} {l : List Id} (h : w.ownsRow base 25 4 (.slice (some ⟨g, 0, none⟩) l.length cap) l.length (l.flatMap idE)) (k : Nat) (hk : k < l.length) (x : Id) :
    (w.setCells g (k * 4) [.int .i64 x.c, .int .i64 x.l, .int .i64 x.n, .int .i64 x.i]).ownsRow base 25 4 (.slice (some ⟨g, 0, none⟩) (l.set k x).length cap) (l.set k x).length ((l.set k x).flatMap idE) := by
  rw [List.length_set, ids_set l k x hk]
  exact row_set (row_set (row_set (row_set h (k * 4) _ (by omega)) (k * 4 + 1) _ (by omega)) (k * 4 + 2) _ (by omega)) (k * 4 + 3) _ (by omega)
theorem row_thereId {w : World} {base g cap n : Nat} {xs : List Value} (h : w.ownsRow base 25 4 (.slice (some ⟨g, 0, none⟩) n cap) n xs) (k : Nat) (hk : k < n) : w.there g (k * 4) 4 := by
  rcases h.2 with ⟨h1, h2⟩ | ⟨g', cap', cur, h1, _, hb, h3, h4, h5, _⟩
  · omega
  · obtain ⟨rfl, -, rfl⟩ : g = g' ∧ True ∧ cap = cap' := by simpa using h1
    intro j hj
    have hlt : k * 4 + j < cur.size := by
      have : (k + 1) * 4 ≤ cap * 4 := Nat.mul_le_mul_right _ (by omega)
      omega
    exact ⟨by rw [blk_cell hb _ _ (Array.getElem?_eq_getElem hlt)]; rfl, blk_frozen hb _⟩
/-- The hole moves down. -/
theorem hole_down (L : List Id) (k : Nat) (g y : Id) (hy : L[k]? = some y) : (L.take (k + 1) ++ g :: L.drop (k + 1)).set (k + 1) y = L.take k ++ y :: L.drop k ∧ (L.take (k + 1) ++ g :: L.drop (k + 1))[k]? = some y := by
  have hk : k < L.length := (List.getElem?_eq_some_iff.1 hy).1
  have hlen : (L.take (k + 1)).length = k + 1 := by rw [List.length_take]; omega
  have hyk : L[k] = y := by rw [List.getElem?_eq_getElem hk] at hy; exact Option.some.inj hy
  constructor
  · rw [List.set_append_right _ _ (by omega), hlen, Nat.sub_self, List.set_cons_zero, List.take_succ_eq_append_getElem hk, hyk, List.append_assoc]
    congr 1
    rw [List.drop_eq_getElem_cons hk, hyk]
    simp
  · rw [List.getElem?_append_left (by omega), List.getElem?_take_of_lt (by omega)]
    exact hy
theorem hole_at (L : List Id) (k : Nat) (g : Id) (hk : k ≤ L.length) : (L.take k ++ g :: L.drop k)[k]? = some g := by
  have hlen : (L.take k).length = k := by rw [List.length_take]; omega
  rw [List.getElem?_append_right (by omega), hlen, Nat.sub_self]
  rfl
theorem hole_put (L : List Id) (k : Nat) (g y : Id) (hk : k ≤ L.length) : (L.take k ++ g :: L.drop k).set k y = L.take k ++ y :: L.drop k := by
  have hlen : (L.take k).length = k := by rw [List.length_take]; omega
  rw [List.set_append_right _ _ (by omega), hlen, Nat.sub_self, List.set_cons_zero]
end Go.Proofs.YtbkajnjboipbhaaGreatDoor.W

/- StoreOrder: ids that came in; Less; plainly. -/
namespace Go.Proofs.YtbkajnjboipbhaaGreatDoor.W
open Go.RowKit Go.ChangeShapes Go.WideShapes
set_option linter.unusedVariables false
set_option linter.unusedSimpArgs false

/-- Ids that came in. -/
def IdsIn (w : World) (a : Option Addr) (n : Nat) (f : Nat → Id) : Prop :=
  n = 0 ∨ ∃ g o, a = some ⟨g, o, none⟩ ∧ ∀ i, i < n → okD (f i) ∧ w.cell? ⟨g, o + i * 4, none⟩ = some (.int .i64 (f i).c) ∧ w.cell? ⟨g, o + i * 4 + 1, none⟩ = some (.int .i64 (f i).l) ∧ w.cell? ⟨g, o + i * 4 + 2, none⟩ = some (.int .i64 (f i).n) ∧ w.cell? ⟨g, o + i * 4 + 3, none⟩ = some (.int .i64 (f i).i)
theorem IdsIn.keep {w w' : World} {a : Option Addr} {n : Nat} {f : Nat → Id} (h : IdsIn w a n f) (hc : Chg [] w w') : IdsIn w' a n f := by
  rcases h with h | ⟨g, o, rfl, h⟩
  · exact .inl h
  · refine .inr ⟨g, o, rfl, fun i hi => ?_⟩
    obtain ⟨h1, h2, h3, h4, h5⟩ := h i hi
    exact ⟨h1, hc.cell h2 (by simp), hc.cell h3 (by simp), hc.cell h4 (by simp), hc.cell h5 (by simp)⟩
section
variable {H : Type} {enc : TypeId × Value → H} {w : World} {base : Nat} {held : Bool}
end
theorem lt_cases (a b : Id) : decide (idLt a b) = if a.c ≠ b.c then decide (a.c < b.c) else if a.l ≠ b.l then decide (a.l < b.l) else if a.n ≠ b.n then decide (a.n < b.n) else decide (a.i < b.i) := by
  by_cases h1 : a.c = b.c
  · rw [if_neg (by simpa using h1)]
    by_cases h2 : a.l = b.l
    · rw [if_neg (by simpa using h2)]
      by_cases h3 : a.n = b.n
      · rw [if_neg (by simpa using h3)]
        rw [Bool.eq_iff_iff, decide_eq_true_eq, decide_eq_true_eq]; unfold idLt; exact ⟨fun h => by omega, fun h => by omega⟩
      · rw [if_pos h3, Bool.eq_iff_iff, decide_eq_true_eq, decide_eq_true_eq]; unfold idLt; exact ⟨fun h => by omega, fun h => by omega⟩
    · rw [if_pos h2, Bool.eq_iff_iff, decide_eq_true_eq, decide_eq_true_eq]; unfold idLt; exact ⟨fun h => by omega, fun h => by omega⟩
  · rw [if_pos h1, Bool.eq_iff_iff, decide_eq_true_eq, decide_eq_true_eq]; unfold idLt; exact ⟨fun h => by omega, fun h => by omega⟩
set_option maxHeartbeats 4000000 in
set_option maxRecDepth 100000 in
theorem rless_any (a b : Id) (w : World) : Calls Tryz.prog 21 #[idV a, idV b] w fun e w' => e = .returned (.bool (decide (idLt a b))) ∧ Chg [] w w' := by
  rw [lt_cases]
  obtain ⟨ac, al, an, ai⟩ := a
  obtain ⟨bc, bl, bn, bi⟩ := b
  dsimp only
  by_cases h1 : ac = bc
  · subst h1
    rw [if_neg (by simp)]
    by_cases h2 : al = bl
    · subst h2
      rw [if_neg (by simp)]
      by_cases h3 : an = bn
      · subst h3
        rw [if_neg (by simp)]
        go_enter Tryz.func21, Tryz.ntmps21
        go_wp2
        go_ret
        exact ⟨rfl, ((Chg.refl [] w).alloc _).alloc _⟩
      · rw [if_pos h3]
        have q : (an != bn) = true := by simp [h3]
        go_enter Tryz.func21, Tryz.ntmps21
        go_wp2
        go_ret
        exact ⟨rfl, ((Chg.refl [] w).alloc _).alloc _⟩
    · rw [if_pos h2]
      have q : (al != bl) = true := by simp [h2]
      go_enter Tryz.func21, Tryz.ntmps21
      go_wp2
      go_ret
      exact ⟨rfl, ((Chg.refl [] w).alloc _).alloc _⟩
  · rw [if_pos h1]
    have q : (ac != bc) = true := by simp [h1]
    go_enter Tryz.func21, Tryz.ntmps21
    go_wp2
    go_ret
    exact ⟨rfl, ((Chg.refl [] w).alloc _).alloc _⟩

/-! ### Plainly -/
structure Ord (t : Sto) (F : Frag) (f : Nat → Id) (j : Nat) : Prop where
  kept : Kept t F
  one : ∀ x b, F x = some b → b = [1]
  has : ∀ i, i < j → mayId (f i) = true → F (f i) = some [1]
  room : 12 ≤ t.room + j
  small : t.s.d.ops ≤ 97 + 20 * j ∧ t.s.d.since.length = 0
theorem Ord.step {t : Sto} {F : Frag} {f : Nat → Id} {j : Nat} (h : Ord t F f j) (hj : j < 12) : ∃ F', Ord (t.put (f j) [1]).2 F' f (j + 1) := by
  obtain ⟨o1, o2, _⟩ := t.put_ok (f j) [1]
  have hsm := h.small
  cases hm : mayId (f j) with
  | false =>
    obtain ⟨_, h2⟩ := h.kept.put_bad (b := [1]) (.inl hm)
    refine ⟨F, ?_⟩
    rw [h2]
    refine ⟨h.kept, h.one, fun i hi hmi => ?_, by have := h.room; omega, by omega, hsm.2⟩
    rcases Nat.lt_or_ge i j with h3 | h3
    · exact h.has i h3 hmi
    · obtain rfl : i = j := by omega
      rw [hm] at hmi; cases hmi
  | true =>
    cases hF : F (f j) with
    | some b =>
      have hb := h.one _ _ hF
      have h2 := h.kept.put_there hF [1] (by simp)
      refine ⟨F, ?_⟩
      rw [h2]
      refine ⟨h.kept, h.one, fun i hi hmi => ?_, by have := h.room; show 12 ≤ t.room + (j + 1); omega, by show t.s.d.ops ≤ _; omega, hsm.2⟩
      rcases Nat.lt_or_ge i j with h3 | h3
      · exact h.has i h3 hmi
      · obtain rfl : i = j := by omega
        rw [hF, hb]
    | none =>
      have hr := h.room
      obtain ⟨p1, p2, p3⟩ := h.kept.put_new hm hF (b := [1]) (by simp) (by omega)
      refine ⟨_, p2, fun x b hx => ?_, fun i hi hmi => ?_, by omega, by omega, by rw [p2.since]; rfl⟩
      · unfold setF at hx
        split at hx
        · exact (Option.some.inj hx).symm
        · exact h.one _ _ hx
      · by_cases e : f i = f j
        · rw [e, setF_self]
        · rw [setF_other _ _ e]
          rcases Nat.lt_or_ge i j with h3 | h3
          · exact h.has i h3 hmi
          · obtain rfl : i = j := by omega
            exact absurd rfl e
theorem Ord.new : ∃ t d, (DS.new 97).format = ((0, some t), d) ∧ ∀ f, Ord t (fun _ => none) f 0 := by
  obtain ⟨t, d, h1, h2, h3, h4, h5, h6, _⟩ := Kept.new 97 (by omega)
  refine ⟨t, d, h1, fun f => ⟨h2, fun x b h => (by cases h), fun i hi => (by omega), ?_, by rw [h3]; omega, by rw [h2.since]; rfl⟩⟩
  unfold Sto.room
  rw [h4]
  decide
end Go.Proofs.YtbkajnjboipbhaaGreatDoor.W

/- The reference's List. -/
namespace Go.Proofs.YtbkajnjboipbhaaGreatDoor.W
open Go.RowKit Go.Sort
set_option linter.unusedVariables false
set_option linter.unusedSimpArgs false

theorem wpList_app1L {P : Program} {w : World} {ops : Array Oper} {rest : List Oper} {o : Oper} {a : Act} {Q : Exit → Act → World → Prop} (hgd : o.guard = none) (s x : Operand) (t : TypeId)
    (ho : o.op = .call { callee := .builtin .append, args := #[s, x], argTypes := #[t, t] })
    (base : Nat) {e : TypeId} {z : Value} {size bytes : Nat} (hE : El P t e z size bytes)
    (v : Value) (n : Nat) (xs : List Value) (hs : a.eval s = v) (hown : w.ownsRow base e size v n xs)
    (c : Nat) (news : Array Value) (hx : a.eval x = .slice (some ⟨w.heap.size, 0, none⟩) 1 c) (hl : news.size = size) (h1 : ∀ u ∈ news.toList, u.oneCell' = true)
    (h63 : n + 1 ≤ maxLen) (hbytes : (n + 1) * bytes ≤ 140737488355328) (hbase : base ≤ w.heap.size)
    (h : ∀ g cap w', w'.ownsRow base e size (.slice (some ⟨g, 0, none⟩) (n + 1) cap) (n + 1) (xs ++ news.toList) → w.grownBy w' v.ownBlock → (v.ownBlock = some g ∨ g = w.heap.size + 1) → wpList P ops Q rest (a.put o.dst (.slice (some ⟨g, 0, none⟩) (n + 1) cap)) w') : wpList P ops Q (o :: rest) a (w.alloc (.cells news e)) := by
  obtain ⟨ht, ⟨i, hi, hz, hsize, hby⟩, hzs, hsz⟩ := hE
  refine wpList_append_lies _ hgd s x t ho base e i z size bytes ht hi hz hsize hby hzs hsz v n xs hs (hown.alloc _) ⟨w.heap.size, 0, none⟩ 1 c news.toList hx (by simpa using hl) (World.news_of_block (heap_alloc_new w _)) h1 (by omega) h63 hbytes (by simp; omega) (w.heap.size + 1) (by simp) ?_
  intro g cap w' h2 h3 h4 _
  exact h g cap w' h2 (grownBy_trans (World.grownBy_alloc w _ _) h3) h4

set_option maxHeartbeats 16000000 in
set_option maxRecDepth 100000 in
theorem rstlist_any (q m : Nat) (U B : List Nat) (t : Sto) (w : World) (h : RStAt w q m U B t) : Calls Tryz.prog 78 #[.pointer (some ⟨q, 0, none⟩)] w (ListPost w t.ids) := by
  obtain ⟨sp, W, A, h, rfl, rfl⟩ := h
  obtain ⟨a, cap, hlk⟩ := h.slots.look
  have hfew := hlk.few
  have hbig := hlk.big
  have HOK := Lib.hid h
  have HLK := Lib.hid hlk
  have HKO := Lib.hid h.ok
  have HID : Hid (∀ L, Sorted t.s.rows t.s.rows.length L → L = t.ids) := Lib.hid (fun L hL => hL.done h.ok)
  generalize t.ids = LL at *
  obtain ⟨M, hM⟩ : ∃ M, M = t.s.rows.length := ⟨_, rfl⟩
  rw [← hM] at hfew hbig
  have HM := Lib.hid hM
  clear h hlk hM
  go_enter Tryz.func78, Tryz.ntmps78
  go_wp2
  go_loopg [3, 4] M (fun g' s3 s4 wr => ∃ (i : Nat) (L : List Id) (v : Value), v = s3 ∧ s4 = .int .i64 (i : Int) ∧ i ≤ M ∧ M ≤ i + g' ∧ L.length ≤ i ∧ Hid (wr.ownsRow w.heap.size 25 4 v L.length (L.flatMap idE) ∧ Chg [] w wr ∧ Sorted t.s.rows i L))
  case atStart => exact ⟨0, [], _, rfl, rfl, by omega, by omega, by simp, Lib.hid ⟨World.ownsRow_nil _ _ _ _, Chg.refl _ _, Sorted.zero _⟩⟩
  case round =>
    obtain ⟨i, L, v3, rfl, rfl, hi, hig, hLi, HJ⟩ := hrel
    have HOr := Lib.hid (HOK.out.keep HJ.out.2.1 (by simp))
    have HLr := Lib.hid (HLK.out.keep (m := m) (W := W) (A := A) HJ.out.2.1)
    obtain ⟨_, c1, _⟩ := HOr.out.cells
    have c2 := HLr.out.c2
    rw [← HM.out] at c2
    by_cases hlt : i < M
    · have hl2 : i < t.s.rows.length := by rw [← HM.out]; exact hlt
      obtain ⟨g, kv, rfl, r0, r1, hkb, hkl⟩ := HLr.out.row i hl2
      have hiz : (i : Int) < (M : Int) := by omega
      have hiz1 : (i : Int).toNat = i := by omega
      obtain ⟨u, hu⟩ : ∃ u, u = (t.s.rows.getD i noRow).used := ⟨_, rfl⟩
      rw [← hu] at r0
      have HU := Lib.hid hu
      cases u with
      | false =>
        have HF : Hid (isFirst t.s.rows i = false) := Lib.hid (by unfold isFirst; rw [← HU.out, Bool.false_and])
        clear hkb hkl r1 hu
        go_wp2_with fail
        go_quiet (fail)
        have HN := Lib.hid (And.intro (row_keep HJ.out.1 (w' := wr.drewN nq) (fun gq hq => rfl)) (And.intro (HJ.out.2.1.drewN nq) (HJ.out.2.2.skip HF.out)))
        go_wp2
        go_roundg (gk - 1)
        case measure => omega
        case rel => exact ⟨i + 1, L, _, rfl, by go_num, by omega, by omega, by omega, HN⟩
      | true =>
        have HFF := Lib.hid (find_first (s := t.s) hl2 hu.symm)
        have CF := Lib.hid (rfind_any sp m W A t.s kv _ wr.drew (HOr.out.slots.keep ((Chg.refl [] wr).drew) (by simp)) (hkb.chg ((Chg.refl [] wr).drew) (by simp)) (by omega))
        obtain ⟨key, hkey⟩ : ∃ key, key = (t.s.rows.getD i noRow).key := ⟨_, rfl⟩
        rw [← hkey] at CF hkb hkl HFF
        have HKEY := Lib.hid hkey
        obtain ⟨fd, hfd⟩ : ∃ fd, fd = t.s.find key := ⟨_, rfl⟩
        rw [← hfd] at CF HFF
        have HKB := Lib.hid (And.intro hkb hkl)
        clear hu hkb hkl hkey hfd
        go_wp2_with fail
        refine wp_region_L [(28, fun w' => w'.cell? ⟨q, 1, none⟩ = some (.pointer (some ⟨sp, 0, none⟩))), (28, fun w' => w'.cell? ⟨sp, 2, none⟩ = some (.slice (some ⟨g, 0, none⟩) M cap)), (28, fun w' => w'.cell? ⟨g, i * 3, none⟩ = some (.bool true)), (28, fun w' => w'.cell? ⟨g, i * 3 + 1, none⟩ = some kv)] (by kernel_rfl) ?_ (fun hHeld => ?_)
        · exact (HoldC.cons (c1) (HoldC.cons (c2) (HoldC.cons (r0) (HoldC.cons (r1) HoldC.nil))))
        refine wpAnyL_take (i := 0) (oi := _) (v := ?_) rfl (by kernel_rfl) (by kernel_rfl) (by kernel_rfl) (by kernel_rfl) (by kernel_rfl) (fun _ _ _ h => h) (Or.inl ⟨by rfl, ?_⟩) (by assumption) (fun hNew => ?_)
        rotate_left
        · intro w _
          go_simp
          try with_reducible rfl
        clear hHeld
        have hHeld := hNew
        clear hNew
        try simp only [List.getElem_toArray, List.getElem_cons_succ, List.getElem_cons_zero, Act.put, List.setIfInBounds_toArray, List.set_cons_zero, List.set_cons_succ]
        refine wpAnyL_take (i := 1) (oi := _) (v := ?_) rfl (by kernel_rfl) (by kernel_rfl) (by kernel_rfl) (by kernel_rfl) (by kernel_rfl) (fun _ _ _ h => h) (Or.inl ⟨by rfl, ?_⟩) (by assumption) (fun hNew => ?_)
        rotate_left
        · intro w _
          go_simp
          try with_reducible rfl
        clear hHeld
        have hHeld := hNew
        clear hNew
        try simp only [List.getElem_toArray, List.getElem_cons_succ, List.getElem_cons_zero, Act.put, List.setIfInBounds_toArray, List.set_cons_zero, List.set_cons_succ]
        refine wpAnyL_take (i := 2) (oi := _) (v := ?_) rfl (by kernel_rfl) (by kernel_rfl) (by kernel_rfl) (by kernel_rfl) (by kernel_rfl) (fun _ _ _ h => h) (Or.inl ⟨by rfl, ?_⟩) (by assumption) (fun hNew => ?_)
        rotate_left
        · intro w _
          go_simp
          try with_reducible rfl
        clear hHeld
        have hHeld := hNew
        clear hNew
        try simp only [List.getElem_toArray, List.getElem_cons_succ, List.getElem_cons_zero, Act.put, List.setIfInBounds_toArray, List.set_cons_zero, List.set_cons_succ]
        refine wpAnyL_loadP 0 [12, 11, 10, 9, 8, 6, 5, 4] (i := 3) (oi := _) (v := ?_) rfl rfl (by kernel_rfl) (by kernel_rfl) (by kernel_rfl) (by kernel_rfl) (by kernel_rfl) (by kernel_rfl) (fun _ _ _ h => h) (Or.inl ⟨by rfl, ?_⟩) (by assumption) (fun hNew => ?_)
        rotate_left
        · intro w hSw
          (try dsimp only at hSw)
          go_simp
          try with_reducible rfl
        clear hHeld
        have hHeld := hNew
        clear hNew
        try simp only [List.getElem_toArray, List.getElem_cons_succ, List.getElem_cons_zero, Act.put, List.setIfInBounds_toArray, List.set_cons_zero, List.set_cons_succ]
        refine wpAnyL_take (i := 4) (oi := _) (v := ?_) rfl (by kernel_rfl) (by kernel_rfl) (by kernel_rfl) (by kernel_rfl) (by kernel_rfl) (fun _ _ _ h => h) (Or.inl ⟨by rfl, ?_⟩) (by assumption) (fun hNew => ?_)
        rotate_left
        · intro w _
          go_simp
          try with_reducible rfl
        clear hHeld
        have hHeld := hNew
        clear hNew
        try simp only [List.getElem_toArray, List.getElem_cons_succ, List.getElem_cons_zero, Act.put, List.setIfInBounds_toArray, List.set_cons_zero, List.set_cons_succ]
        refine wpAnyL_take (i := 5) (oi := _) (v := ?_) rfl (by kernel_rfl) (by kernel_rfl) (by kernel_rfl) (by kernel_rfl) (by kernel_rfl) (fun _ _ _ h => h) (Or.inl ⟨by rfl, ?_⟩) (by assumption) (fun hNew => ?_)
        rotate_left
        · intro w _
          go_simp
          try with_reducible rfl
        clear hHeld
        have hHeld := hNew
        clear hNew
        try simp only [List.getElem_toArray, List.getElem_cons_succ, List.getElem_cons_zero, Act.put, List.setIfInBounds_toArray, List.set_cons_zero, List.set_cons_succ]
        refine wpAnyL_loadP 1 [12, 11, 10, 9, 8] (i := 6) (oi := _) (v := ?_) rfl rfl (by kernel_rfl) (by kernel_rfl) (by kernel_rfl) (by kernel_rfl) (by kernel_rfl) (by kernel_rfl) (fun _ _ _ h => h) (Or.inl ⟨by rfl, ?_⟩) (by assumption) (fun hNew => ?_)
        rotate_left
        · intro w hSw
          (try dsimp only at hSw)
          go_simp
          try with_reducible rfl
        clear hHeld
        have hHeld := hNew
        clear hNew
        try simp only [List.getElem_toArray, List.getElem_cons_succ, List.getElem_cons_zero, Act.put, List.setIfInBounds_toArray, List.set_cons_zero, List.set_cons_succ]
        refine wpAnyL_take (i := 7) (oi := _) (v := ?_) rfl (by kernel_rfl) (by kernel_rfl) (by kernel_rfl) (by kernel_rfl) (by kernel_rfl) (fun _ _ _ h => h) (Or.inl ⟨by rfl, ?_⟩) (by assumption) (fun hNew => ?_)
        rotate_left
        · intro w _
          go_simp
          try with_reducible rfl
        clear hHeld
        have hHeld := hNew
        clear hNew
        try simp only [List.getElem_toArray, List.getElem_cons_succ, List.getElem_cons_zero, Act.put, List.setIfInBounds_toArray, List.set_cons_zero, List.set_cons_succ]
        refine wpAnyL_take (i := 8) (oi := _) (v := ?_) rfl (by kernel_rfl) (by kernel_rfl) (by kernel_rfl) (by kernel_rfl) (by kernel_rfl) (fun _ _ _ h => h) (Or.inl ⟨by rfl, ?_⟩) (by assumption) (fun hNew => ?_)
        rotate_left
        · intro w _
          go_simp
          try with_reducible rfl
        clear hHeld
        have hHeld := hNew
        clear hNew
        try simp only [List.getElem_toArray, List.getElem_cons_succ, List.getElem_cons_zero, Act.put, List.setIfInBounds_toArray, List.set_cons_zero, List.set_cons_succ]
        refine wpAnyL_take (i := 9) (oi := _) (v := ?_) rfl (by kernel_rfl) (by kernel_rfl) (by kernel_rfl) (by kernel_rfl) (by kernel_rfl) (fun _ _ _ h => h) (Or.inl ⟨by rfl, ?_⟩) (by assumption) (fun hNew => ?_)
        rotate_left
        · intro w _
          go_simp
          try with_reducible rfl
        clear hHeld
        have hHeld := hNew
        clear hNew
        try simp only [List.getElem_toArray, List.getElem_cons_succ, List.getElem_cons_zero, Act.put, List.setIfInBounds_toArray, List.set_cons_zero, List.set_cons_succ]
        refine wpAnyL_loadP 2 [12, 11] (i := 10) (oi := _) (v := ?_) rfl rfl (by kernel_rfl) (by kernel_rfl) (by kernel_rfl) (by kernel_rfl) (by kernel_rfl) (by kernel_rfl) (fun _ _ _ h => h) (Or.inl ⟨by rfl, ?_⟩) (by assumption) (fun hNew => ?_)
        rotate_left
        · intro w hSw
          (try dsimp only at hSw)
          go_simp
          try with_reducible rfl
        clear hHeld
        have hHeld := hNew
        clear hNew
        try simp only [List.getElem_toArray, List.getElem_cons_succ, List.getElem_cons_zero, Act.put, List.setIfInBounds_toArray, List.set_cons_zero, List.set_cons_succ]
        refine wpAnyL_take (i := 11) (oi := _) (v := ?_) rfl (by kernel_rfl) (by kernel_rfl) (by kernel_rfl) (by kernel_rfl) (by kernel_rfl) (fun _ _ _ h => h) (Or.inl ⟨by rfl, ?_⟩) (by assumption) (fun hNew => ?_)
        rotate_left
        · intro w _
          go_simp
          try with_reducible rfl
        clear hHeld
        have hHeld := hNew
        clear hNew
        try simp only [List.getElem_toArray, List.getElem_cons_succ, List.getElem_cons_zero, Act.put, List.setIfInBounds_toArray, List.set_cons_zero, List.set_cons_succ]
        refine wpAnyL_take (i := 12) (oi := _) (v := ?_) rfl (by kernel_rfl) (by kernel_rfl) (by kernel_rfl) (by kernel_rfl) (by kernel_rfl) (fun _ _ _ h => h) (Or.inl ⟨by rfl, ?_⟩) (by assumption) (fun hNew => ?_)
        rotate_left
        · intro w _
          go_simp
          try with_reducible rfl
        clear hHeld
        have hHeld := hNew
        clear hNew
        try simp only [List.getElem_toArray, List.getElem_cons_succ, List.getElem_cons_zero, Act.put, List.setIfInBounds_toArray, List.set_cons_zero, List.set_cons_succ]
        refine wpAnyL_take (i := 13) (oi := _) (v := ?_) rfl (by kernel_rfl) (by kernel_rfl) (by kernel_rfl) (by kernel_rfl) (by kernel_rfl) (fun _ _ _ h => h) (Or.inl ⟨by rfl, ?_⟩) (by assumption) (fun hNew => ?_)
        rotate_left
        · intro w _
          go_simp
          try with_reducible rfl
        clear hHeld
        have hHeld := hNew
        clear hNew
        try simp only [List.getElem_toArray, List.getElem_cons_succ, List.getElem_cons_zero, Act.put, List.setIfInBounds_toArray, List.set_cons_zero, List.set_cons_succ]
        refine wpAnyL_take (i := 14) (oi := _) (v := ?_) rfl (by kernel_rfl) (by kernel_rfl) (by kernel_rfl) (by kernel_rfl) (by kernel_rfl) (fun _ _ _ h => h) (Or.inl ⟨by rfl, ?_⟩) (by assumption) (fun hNew => ?_)
        rotate_left
        · intro w _
          go_simp
          try with_reducible rfl
        clear hHeld
        have hHeld := hNew
        clear hNew
        try simp only [List.getElem_toArray, List.getElem_cons_succ, List.getElem_cons_zero, Act.put, List.setIfInBounds_toArray, List.set_cons_zero, List.set_cons_succ]
        refine wpAnyL_take (i := 15) (oi := _) (v := ?_) rfl (by kernel_rfl) (by kernel_rfl) (by kernel_rfl) (by kernel_rfl) (by kernel_rfl) (fun _ _ _ h => h) (Or.inl ⟨by rfl, ?_⟩) (by assumption) (fun hNew => ?_)
        rotate_left
        · intro w _
          go_simp
          try with_reducible rfl
        clear hHeld
        have hHeld := hNew
        clear hNew
        try simp only [List.getElem_toArray, List.getElem_cons_succ, List.getElem_cons_zero, Act.put, List.setIfInBounds_toArray, List.set_cons_zero, List.set_cons_succ]
        refine wpAnyL_load 0 (i := 16) (oi := _) (v := ?_) rfl rfl (by kernel_rfl) (by kernel_rfl) (by kernel_rfl) (by kernel_rfl) (by kernel_rfl) (by kernel_rfl) (fun _ _ _ h => h) (Or.inl ⟨by rfl, ?_⟩) (by assumption) (fun hNew => ?_)
        rotate_left
        · intro w hSw
          (try dsimp only at hSw)
          go_simp
          try with_reducible rfl
        clear hHeld
        have hHeld := hNew
        clear hNew
        try simp only [List.getElem_toArray, List.getElem_cons_succ, List.getElem_cons_zero, Act.put, List.setIfInBounds_toArray, List.set_cons_zero, List.set_cons_succ]
        refine wpAnyL_take (i := 17) (oi := _) (v := ?_) rfl (by kernel_rfl) (by kernel_rfl) (by kernel_rfl) (by kernel_rfl) (by kernel_rfl) (fun _ _ _ h => h) (Or.inl ⟨by rfl, ?_⟩) (by assumption) (fun hNew => ?_)
        rotate_left
        · intro w _
          go_simp
          try with_reducible rfl
        clear hHeld
        have hHeld := hNew
        clear hNew
        try simp only [List.getElem_toArray, List.getElem_cons_succ, List.getElem_cons_zero, Act.put, List.setIfInBounds_toArray, List.set_cons_zero, List.set_cons_succ]
        refine wpAnyL_take (i := 18) (oi := _) (v := ?_) rfl (by kernel_rfl) (by kernel_rfl) (by kernel_rfl) (by kernel_rfl) (by kernel_rfl) (fun _ _ _ h => h) (Or.inl ⟨by rfl, ?_⟩) (by assumption) (fun hNew => ?_)
        rotate_left
        · intro w _
          go_simp
          try with_reducible rfl
        clear hHeld
        have hHeld := hNew
        clear hNew
        try simp only [List.getElem_toArray, List.getElem_cons_succ, List.getElem_cons_zero, Act.put, List.setIfInBounds_toArray, List.set_cons_zero, List.set_cons_succ]
        refine wpAnyL_take (i := 19) (oi := _) (v := ?_) rfl (by kernel_rfl) (by kernel_rfl) (by kernel_rfl) (by kernel_rfl) (by kernel_rfl) (fun _ _ _ h => h) (Or.inl ⟨by rfl, ?_⟩) (by assumption) (fun hNew => ?_)
        rotate_left
        · intro w _
          go_simp
          try with_reducible rfl
        clear hHeld
        have hHeld := hNew
        clear hNew
        try simp only [List.getElem_toArray, List.getElem_cons_succ, List.getElem_cons_zero, Act.put, List.setIfInBounds_toArray, List.set_cons_zero, List.set_cons_succ]
        refine wpAnyL_loadP 0 [27, 26, 25, 23, 22, 21] (i := 20) (oi := _) (v := ?_) rfl rfl (by kernel_rfl) (by kernel_rfl) (by kernel_rfl) (by kernel_rfl) (by kernel_rfl) (by kernel_rfl) (fun _ _ _ h => h) (Or.inl ⟨by rfl, ?_⟩) (by assumption) (fun hNew => ?_)
        rotate_left
        · intro w hSw
          (try dsimp only at hSw)
          go_simp
          try with_reducible rfl
        clear hHeld
        have hHeld := hNew
        clear hNew
        try simp only [List.getElem_toArray, List.getElem_cons_succ, List.getElem_cons_zero, Act.put, List.setIfInBounds_toArray, List.set_cons_zero, List.set_cons_succ]
        refine wpAnyL_take (i := 21) (oi := _) (v := ?_) rfl (by kernel_rfl) (by kernel_rfl) (by kernel_rfl) (by kernel_rfl) (by kernel_rfl) (fun _ _ _ h => h) (Or.inl ⟨by rfl, ?_⟩) (by assumption) (fun hNew => ?_)
        rotate_left
        · intro w _
          go_simp
          try with_reducible rfl
        clear hHeld
        have hHeld := hNew
        clear hNew
        try simp only [List.getElem_toArray, List.getElem_cons_succ, List.getElem_cons_zero, Act.put, List.setIfInBounds_toArray, List.set_cons_zero, List.set_cons_succ]
        refine wpAnyL_take (i := 22) (oi := _) (v := ?_) rfl (by kernel_rfl) (by kernel_rfl) (by kernel_rfl) (by kernel_rfl) (by kernel_rfl) (fun _ _ _ h => h) (Or.inl ⟨by rfl, ?_⟩) (by assumption) (fun hNew => ?_)
        rotate_left
        · intro w _
          go_simp
          try with_reducible rfl
        clear hHeld
        have hHeld := hNew
        clear hNew
        try simp only [List.getElem_toArray, List.getElem_cons_succ, List.getElem_cons_zero, Act.put, List.setIfInBounds_toArray, List.set_cons_zero, List.set_cons_succ]
        refine wpAnyL_loadP 1 [27, 26, 25] (i := 23) (oi := _) (v := ?_) rfl rfl (by kernel_rfl) (by kernel_rfl) (by kernel_rfl) (by kernel_rfl) (by kernel_rfl) (by kernel_rfl) (fun _ _ _ h => h) (Or.inl ⟨by rfl, ?_⟩) (by assumption) (fun hNew => ?_)
        rotate_left
        · intro w hSw
          (try dsimp only at hSw)
          go_simp
          try with_reducible rfl
        clear hHeld
        have hHeld := hNew
        clear hNew
        try simp only [List.getElem_toArray, List.getElem_cons_succ, List.getElem_cons_zero, Act.put, List.setIfInBounds_toArray, List.set_cons_zero, List.set_cons_succ]
        refine wpAnyL_take (i := 24) (oi := _) (v := ?_) rfl (by kernel_rfl) (by kernel_rfl) (by kernel_rfl) (by kernel_rfl) (by kernel_rfl) (fun _ _ _ h => h) (Or.inl ⟨by rfl, ?_⟩) (by assumption) (fun hNew => ?_)
        rotate_left
        · intro w _
          go_simp
          try with_reducible rfl
        clear hHeld
        have hHeld := hNew
        clear hNew
        try simp only [List.getElem_toArray, List.getElem_cons_succ, List.getElem_cons_zero, Act.put, List.setIfInBounds_toArray, List.set_cons_zero, List.set_cons_succ]
        refine wpAnyL_take (i := 25) (oi := _) (v := ?_) rfl (by kernel_rfl) (by kernel_rfl) (by kernel_rfl) (by kernel_rfl) (by kernel_rfl) (fun _ _ _ h => h) (Or.inl ⟨by rfl, ?_⟩) (by assumption) (fun hNew => ?_)
        rotate_left
        · intro w _
          go_simp
          try with_reducible rfl
        clear hHeld
        have hHeld := hNew
        clear hNew
        try simp only [List.getElem_toArray, List.getElem_cons_succ, List.getElem_cons_zero, Act.put, List.setIfInBounds_toArray, List.set_cons_zero, List.set_cons_succ]
        refine wpAnyL_take (i := 26) (oi := _) (v := ?_) rfl (by kernel_rfl) (by kernel_rfl) (by kernel_rfl) (by kernel_rfl) (by kernel_rfl) (fun _ _ _ h => h) (Or.inl ⟨by rfl, ?_⟩) (by assumption) (fun hNew => ?_)
        rotate_left
        · intro w _
          go_simp
          try with_reducible rfl
        clear hHeld
        have hHeld := hNew
        clear hNew
        try simp only [List.getElem_toArray, List.getElem_cons_succ, List.getElem_cons_zero, Act.put, List.setIfInBounds_toArray, List.set_cons_zero, List.set_cons_succ]
        refine wpAnyL_load 3 (i := 27) (oi := _) (v := ?_) rfl rfl (by kernel_rfl) (by kernel_rfl) (by kernel_rfl) (by kernel_rfl) (by kernel_rfl) (by kernel_rfl) (fun _ _ _ h => h) (Or.inl ⟨by rfl, ?_⟩) (by assumption) (fun hNew => ?_)
        rotate_left
        · intro w hSw
          (try dsimp only at hSw)
          go_simp
          try with_reducible rfl
        clear hHeld
        have hHeld := hNew
        clear hNew
        try simp only [List.getElem_toArray, List.getElem_cons_succ, List.getElem_cons_zero, Act.put, List.setIfInBounds_toArray, List.set_cons_zero, List.set_cons_succ]
        refine wpAnyL_take (i := 29) (oi := _) (v := ?_) rfl (by kernel_rfl) (by kernel_rfl) (by kernel_rfl) (by kernel_rfl) (by kernel_rfl) (fun _ _ _ h => h) (Or.inl ⟨by rfl, ?_⟩) (by assumption) (fun hNew => ?_)
        rotate_left
        · intro w _
          go_simp
          try with_reducible rfl
        clear hHeld
        have hHeld := hNew
        clear hNew
        try simp only [List.getElem_toArray, List.getElem_cons_succ, List.getElem_cons_zero, Act.put, List.setIfInBounds_toArray, List.set_cons_zero, List.set_cons_succ]
        refine wpAnyL_ready (rs := [28]) (by kernel_rfl) (by simp) ?_
        refine AllReadyL.cons (o := _) rfl (fun K hK => ?_) AllReadyL.nil
        try simp only [List.getElem_toArray, List.getElem_cons_succ, List.getElem_cons_zero]
        go_simp
        refine CF.out.mono ?_
        rintro e w2 ⟨rfl, hc2⟩
        have HC2 := Lib.hid (((Chg.refl [] wr).drew).trans hc2 (by simp))
        clear hc2 CF c1 c2 r0 r1
        clear hHeld
        refine hK.out _ _ ?_ (fun hHeld => ?_)
        · exact (HoldC.past (by kernel_rfl) (HoldC.past (by kernel_rfl) (HoldC.past (by kernel_rfl) (HoldC.past (by kernel_rfl) HoldC.nil))))
        clear hK K
        try simp only [List.getElem_toArray, List.getElem_cons_succ, List.getElem_cons_zero, Act.put, List.setIfInBounds_toArray, List.set_cons_zero, List.set_cons_succ]
        refine wpAnyL_take (i := 30) (oi := _) (v := ?_) rfl (by kernel_rfl) (by kernel_rfl) (by kernel_rfl) (by kernel_rfl) (by kernel_rfl) (fun _ _ _ h => h) (Or.inl ⟨by rfl, ?_⟩) (by assumption) (fun hNew => ?_)
        rotate_left
        · intro w _
          go_simp
          try with_reducible rfl
        clear hHeld
        have hHeld := hNew
        clear hNew
        try simp only [List.getElem_toArray, List.getElem_cons_succ, List.getElem_cons_zero, Act.put, List.setIfInBounds_toArray, List.set_cons_zero, List.set_cons_succ]
        refine wpAnyL_take (i := 31) (oi := _) (v := ?_) rfl (by kernel_rfl) (by kernel_rfl) (by kernel_rfl) (by kernel_rfl) (by kernel_rfl) (fun _ _ _ h => h) (Or.inl ⟨by rfl, ?_⟩) (by assumption) (fun hNew => ?_)
        rotate_left
        · intro w _
          go_simp
          try with_reducible rfl
        clear hHeld
        have hHeld := hNew
        clear hNew
        try simp only [List.getElem_toArray, List.getElem_cons_succ, List.getElem_cons_zero, Act.put, List.setIfInBounds_toArray, List.set_cons_zero, List.set_cons_succ]
        refine wpAnyL_done (by kernel_rfl) ?_ _
        clear hHeld
        by_cases hfi : fd = (i : Int)
        · have HF : Hid (isFirst t.s.rows i = true) := Lib.hid (HFF.out.1 hfi)
          have q0 : (fd != (i : Int)) = false := by simp [hfi]
          have HO2 := Lib.hid (HOr.out.keep HC2.out (by simp))
          have HL2 := Lib.hid (HLr.out.keep (m := m) (W := W) (A := A) HC2.out)
          obtain ⟨_, c1, _⟩ := HO2.out.cells
          have c2 := HL2.out.c2
          rw [← HM.out] at c2
          obtain ⟨g', kv2, hg', r0, r1, hkb2, hkl2⟩ := HL2.out.row i hl2
          obtain rfl : g = g' := by simpa using hg'
          rw [← HKEY.out] at hkb2 hkl2
          have CU := Lib.hid (runkey_any kv2 _ w2 hkb2 (by omega))
          have HY : Hid (unId key = unId (t.s.rows.getD i noRow).key) := Lib.hid (by rw [HKEY.out])
          generalize unId key = y at *
          obtain ⟨yc, yl, yn, yi⟩ := y
          generalize unOk key = ok at *
          clear hg' r0 hkb2 hkl2 hfi HFF HKB
          go_wp2_with fail
          refine CU.out.mono ?_
          rintro e w3 ⟨rfl, hc3⟩
          have HC3 := Lib.hid (HC2.out.trans hc3 (by simp))
          obtain ⟨w4, hw4⟩ : ∃ w4, w4 = w3.alloc (.cells #[.int .i64 yc, .int .i64 yl, .int .i64 yn, .int .i64 yi] 25) := ⟨_, rfl⟩
          have hb4 : w4.heap[w3.heap.size]? = some (.cells (idC ⟨yc, yl, yn, yi⟩) 25 (0, 0)) := by rw [hw4]; exact heap_alloc_new w3 _
          have hc4 : Chg [] wr w4 := by rw [hw4]; exact HC3.out.alloc _
          have hs4 : w4.heap.size = w3.heap.size + 1 := by rw [hw4]; simp
          have m4 := id_cells hb4
          rw [hw4] at m4
          obtain ⟨m0, m1, m2, m3⟩ := m4
          obtain ⟨av, capv, rfl⟩ : ∃ a c, v3 = .slice a L.length c := by
            rcases HJ.out.1.2 with ⟨h1, h2⟩ | ⟨g, cap, cur, h1, _⟩
            · exact ⟨none, 0, by rw [h1, h2]⟩
            · exact ⟨_, cap, h1⟩
          have hown4 := row_keep HJ.out.1 (w' := w4) (fun gq hq => hc4.block gq (World.ownsRow.lt HJ.out.1 gq hq).2 (by simp))
          have hbase : w.heap.size ≤ w3.heap.size := Nat.le_trans HJ.out.2.1.size HC3.out.size
          have HW4 := Lib.hid hw4
          have HB4 := Lib.hid (And.intro hb4 (And.intro hc4 hs4))
          have HOWN4 := Lib.hid hown4
          rw [hw4] at hown4
          clear hw4 hb4 hc4 hs4 hc3 CU c1 c2 r1
          go_wp2_with (at_builtin; refine wpList_app1L rfl _ _ _ rfl w.heap.size elIds _ _ _ rfl hown4 1 #[.int .i64 yc, .int .i64 yl, .int .i64 yn, .int .i64 yi] (by rw [show (w3.alloc (.cells #[.int .i64 yc, .int .i64 yl, .int .i64 yn, .int .i64 yi] 25)).heap.size = w3.heap.size + 1 by simp]; rfl) rfl (by intro u hu; simp at hu; rcases hu with rfl | rfl | rfl | rfl <;> rfl) (by unfold maxLen; omega) (by omega) (by simp; omega) ?_; intro g5 cap5 w5 hown6 hg6 hat6)
          have hat : g5 ≠ w3.heap.size ∧ w.heap.size ≤ g5 := by
            refine ⟨?_, (World.ownsRow.lt hown6 g5 rfl).1⟩
            rcases hat6 with h4 | h4
            · have := (World.ownsRow.lt HJ.out.1 g5 h4).2
              have := HC3.out.size
              omega
            · simp at h4
              omega
          have HC5 : Hid (Chg [] w w5 ∧ w5.heap[w3.heap.size]? = some (.cells (idC ⟨yc, yl, yn, yi⟩) 25 (0, 0))) := Lib.hid (by
            have hc45 : ∀ T, (∀ k, (Value.slice av L.length capv).ownBlock = some k → k ∈ T) → Chg T w4 w5 := fun T hT => by
              rw [HW4.out]
              exact (Chg.refl T _).grown hg6 (fun k hk => .inl (hT k hk))
            cases hv : (Value.slice av L.length capv).ownBlock with
            | none => exact ⟨(HJ.out.2.1.trans HB4.out.2.1 (by simp)).trans (hc45 [] (by rw [hv]; simp)) (by simp), (hc45 [] (by rw [hv]; simp)).keep HB4.out.1 (by simp)⟩
            | some k =>
              have h5 := World.ownsRow.lt HJ.out.1 k hv
              have h6 := HC3.out.size
              have h7 := hc45 [k] (by rw [hv]; simp)
              exact ⟨(HJ.out.2.1.trans HB4.out.2.1 (by simp)).trans h7 (by simp; omega), h7.keep HB4.out.1 (by simp; omega)⟩)
          have HOWN5 := Lib.hid hown6
          obtain ⟨n1, hn1⟩ : ∃ n1, n1 = L.length + 1 := ⟨_, rfl⟩
          rw [← hn1]
          have HN1 := Lib.hid hn1
          have hnl : L.length < n1 := by omega
          have hnu : n1 ≤ L.length + 1 := by omega
          have HLEN : Hid (∀ k gid, (L.take k ++ gid :: L.drop k).length = n1) := Lib.hid (fun k gid => by
            rw [HN1.out, List.length_append, List.length_cons, List.length_take, List.length_drop]
            omega)
          have HPUT : Hid (∀ k, k ≤ L.length → (∀ x ∈ L.drop k, idLt ⟨yc, yl, yn, yi⟩ x) → (∀ x, 0 < k → L[k - 1]? = some x → ¬ idLt ⟨yc, yl, yn, yi⟩ x) → Sorted t.s.rows (i + 1) (L.take k ++ ⟨yc, yl, yn, yi⟩ :: L.drop k)) := Lib.hid (fun k h1 h2 h3 => by
            rw [HY.out] at h2 h3 ⊢
            exact HJ.out.2.2.put HKO.out hl2 HF.out h1 h2 h3)
          obtain ⟨gko, hgko⟩ : ∃ x, x = gk := ⟨_, rfl⟩
          clear hg6 hat6 hown6 hn1 m0 m1 m2 m3
          go_wp2_with fail
          go_loopg [7] L.length (fun g'' s7 wi => ∃ (k : Nat) (gid : Id), s7 = .int .i64 (k : Int) ∧ k ≤ L.length ∧ k ≤ g'' ∧ Hid (wi.ownsRow w.heap.size 25 4 (.slice (some ⟨g5, 0, none⟩) (L.take k ++ gid :: L.drop k).length cap5) (L.take k ++ gid :: L.drop k).length ((L.take k ++ gid :: L.drop k).flatMap idE) ∧ Chg [g5] w5 wi ∧ ∀ x ∈ L.drop k, idLt ⟨yc, yl, yn, yi⟩ x))
          case atStart => exact ⟨L.length, ⟨yc, yl, yn, yi⟩, rfl, Nat.le_refl _, Nat.le_refl _, Lib.hid ⟨by
            rw [HLEN.out, HN1.out, List.take_length, List.drop_length, List.flatMap_append]
            exact HOWN5.out, Chg.refl _ _, fun x hx => by rw [List.drop_length] at hx; cases hx⟩⟩
          case round =>
            obtain ⟨k, gid, rfl, hkL, hkg, HI⟩ := hrel
            have hbi := HI.out.2.1.keep HC5.out.2 (by simp; exact Ne.symm hat.1)
            have hg5w : g5 < wr.heap.size := (World.ownsRow.lt HI.out.1 g5 rfl).2
            by_cases hk0 : k = 0
            · obtain ⟨m0, m1, m2, m3⟩ := id_cells hbi
              have hkz : ¬ (0 : Int) < (k : Int) := by omega
              have hk00 : k ≤ 0 := by omega
              have hk01 : ¬ 0 < k := by omega
              clear hk0
              go_wp2_with fail
              go_quiet (fail)
              clear m0 m1 m2 m3
              have HT : Hid (∀ x, 0 < k → L[k - 1]? = some x → ¬ idLt ⟨yc, yl, yn, yi⟩ x) := Lib.hid (fun x h0 => by omega)
              have HS := Lib.hid (HPUT.out k hkL HI.out.2.2 HT.out)
              have hcW : Chg [] wr (wr.drewN nq) := (Chg.refl [] wr).drewN nq
              have hrow := row_keep HI.out.1 (w' := (wr.drewN nq)) (fun gq hq => hcW.block gq (World.ownsRow.lt HI.out.1 gq hq).2 (by simp))
              obtain ⟨p0, p1, p2, p3⟩ := id_row hrow k (by rw [HLEN.out]; omega) gid (hole_at L k gid hkL)
              have hth := row_thereId hrow k (by rw [HLEN.out]; omega)
              have hset := row_setId hrow k (by rw [HLEN.out]; omega) ⟨yc, yl, yn, yi⟩
              rw [hole_put L k gid _ hkL] at hset
              have f0 : ((wr.drewN nq)).frozen? ⟨g5, k * 4, none⟩ = false := (hth 0 (by omega)).2
              have f1 : ((wr.drewN nq)).frozen? ⟨g5, k * 4 + 1, none⟩ = false := (hth 1 (by omega)).2
              have f2 : ((wr.drewN nq)).frozen? ⟨g5, k * 4 + 2, none⟩ = false := (hth 2 (by omega)).2
              have f3 : ((wr.drewN nq)).frozen? ⟨g5, k * 4 + 3, none⟩ = false := (hth 3 (by omega)).2
              obtain ⟨m0, m1, m2, m3⟩ := id_cells (hcW.keep hbi (by simp))
              have HCW : Hid (Chg [] w (((wr.drewN nq)).setCells g5 (k * 4) [.int .i64 yc, .int .i64 yl, .int .i64 yn, .int .i64 yi])) := Lib.hid (((HC5.out.1.trans HI.out.2.1 (by simp; exact hat.2)).trans hcW (by simp)).setCells (.inr hat.2) _)
              have HROW := Lib.hid hset
              have hkn : (k : Int) < (n1 : Int) := by have := HN1.out; omega
              have hkk : (k : Int).toNat = k := by omega
              have hl1 : n1 ≤ i + 1 := by have := HN1.out; omega
              clear hrow hth hset hbi
              generalize wr.drewN nq = wz at *
              go_wp2_with fail
              go_roundg (gko - 1)
              case measure => omega
              case rel => exact ⟨i + 1, _, _, rfl, by go_num, by omega, by omega, by rw [HLEN.out]; exact hl1, Lib.hid ⟨by rw [HLEN.out]; rw [HLEN.out] at HROW; exact HROW.out, HCW.out, HS.out⟩⟩
            · obtain ⟨mm, hmm⟩ : ∃ mm, k = mm + 1 := ⟨k - 1, by omega⟩
              obtain ⟨z, hz⟩ : ∃ z, L[mm]? = some z := ⟨_, List.getElem?_eq_getElem (by omega)⟩
              have hdn := hole_down L mm gid z hz
              rw [← hmm] at hdn
              obtain ⟨zc, zl, zn, zi⟩ := z
              have hzc := id_row HI.out.1 mm (by rw [HLEN.out]; omega) _ hdn.2
              have hmb := id_cells hbi
              have hm1 : (k : Int) - 1 = (mm : Int) := by omega
              have hmp : (0 : Int) < (k : Int) := by omega
              have hwm : IntKind.i64.wrap (mm : Int) = (mm : Int) := IntWalk.i64_in _ (by omega)
              have hml : (mm : Int) < (n1 : Int) := by have := HN1.out; omega
              have h0m : (0 : Int) ≤ (mm : Int) := by omega
              have hmt : (mm : Int).toNat = mm := by omega
              have CLS := Lib.hid (rless_any ⟨yc, yl, yn, yi⟩ ⟨zc, zl, zn, zi⟩ wr.drew)
              have HDN := Lib.hid hdn.1
              have HMM := Lib.hid hmm
              have hkp : 0 < k := by omega
              have hk1 : k ≤ mm + 1 := by omega
              have hk2 : mm + 1 ≤ k := by omega
              clear hdn hmm
              go_wp2_with fail
              refine wp_region_L [(9, fun w' => (w'.cell? ⟨w3.heap.size, 0, none⟩ = some (.int .i64 yc) ∧ w'.cell? ⟨w3.heap.size, 1, none⟩ = some (.int .i64 yl) ∧ w'.cell? ⟨w3.heap.size, 2, none⟩ = some (.int .i64 yn) ∧ w'.cell? ⟨w3.heap.size, 3, none⟩ = some (.int .i64 yi))), (9, fun w' => (w'.cell? ⟨g5, mm * 4, none⟩ = some (.int .i64 zc) ∧ w'.cell? ⟨g5, mm * 4 + 1, none⟩ = some (.int .i64 zl) ∧ w'.cell? ⟨g5, mm * 4 + 2, none⟩ = some (.int .i64 zn) ∧ w'.cell? ⟨g5, mm * 4 + 3, none⟩ = some (.int .i64 zi)))] (by kernel_rfl) ?_ (fun hHeld => ?_)
              · exact (HoldC.cons (hmb) (HoldC.cons (hzc) HoldC.nil))
              refine wpAnyL_take (i := 0) (oi := _) (v := ?_) rfl (by kernel_rfl) (by kernel_rfl) (by kernel_rfl) (by kernel_rfl) (by kernel_rfl) (fun _ _ _ h => h) (Or.inl ⟨by rfl, ?_⟩) (by assumption) (fun hNew => ?_)
              rotate_left
              · intro w _
                go_simp
                try with_reducible rfl
              clear hHeld
              have hHeld := hNew
              clear hNew
              try simp only [List.getElem_toArray, List.getElem_cons_succ, List.getElem_cons_zero, Act.put, List.setIfInBounds_toArray, List.set_cons_zero, List.set_cons_succ]
              refine wpAnyL_take (i := 1) (oi := _) (v := ?_) rfl (by kernel_rfl) (by kernel_rfl) (by kernel_rfl) (by kernel_rfl) (by kernel_rfl) (fun _ _ _ h => h) (Or.inl ⟨by rfl, ?_⟩) (by assumption) (fun hNew => ?_)
              rotate_left
              · intro w _
                go_simp
                try with_reducible rfl
              clear hHeld
              have hHeld := hNew
              clear hNew
              try simp only [List.getElem_toArray, List.getElem_cons_succ, List.getElem_cons_zero, Act.put, List.setIfInBounds_toArray, List.set_cons_zero, List.set_cons_succ]
              refine wpAnyL_take (i := 2) (oi := _) (v := ?_) rfl (by kernel_rfl) (by kernel_rfl) (by kernel_rfl) (by kernel_rfl) (by kernel_rfl) (fun _ _ _ h => h) (Or.inl ⟨by rfl, ?_⟩) (by assumption) (fun hNew => ?_)
              rotate_left
              · intro w _
                go_simp
                try with_reducible rfl
              clear hHeld
              have hHeld := hNew
              clear hNew
              try simp only [List.getElem_toArray, List.getElem_cons_succ, List.getElem_cons_zero, Act.put, List.setIfInBounds_toArray, List.set_cons_zero, List.set_cons_succ]
              refine wpAnyL_load 0 (i := 3) (oi := _) (v := ?_) rfl rfl (by kernel_rfl) (by kernel_rfl) (by kernel_rfl) (by kernel_rfl) (by kernel_rfl) (by kernel_rfl) (fun _ _ _ h => h) (Or.inl ⟨by rfl, ?_⟩) (by assumption) (fun hNew => ?_)
              rotate_left
              · intro w hSw
                (try dsimp only at hSw)
                go_simp
                try with_reducible rfl
              clear hHeld
              have hHeld := hNew
              clear hNew
              try simp only [List.getElem_toArray, List.getElem_cons_succ, List.getElem_cons_zero, Act.put, List.setIfInBounds_toArray, List.set_cons_zero, List.set_cons_succ]
              refine wpAnyL_take (i := 4) (oi := _) (v := ?_) rfl (by kernel_rfl) (by kernel_rfl) (by kernel_rfl) (by kernel_rfl) (by kernel_rfl) (fun _ _ _ h => h) (Or.inl ⟨by rfl, ?_⟩) (by assumption) (fun hNew => ?_)
              rotate_left
              · intro w _
                go_simp
                try with_reducible rfl
              clear hHeld
              have hHeld := hNew
              clear hNew
              try simp only [List.getElem_toArray, List.getElem_cons_succ, List.getElem_cons_zero, Act.put, List.setIfInBounds_toArray, List.set_cons_zero, List.set_cons_succ]
              refine wpAnyL_take (i := 5) (oi := _) (v := ?_) rfl (by kernel_rfl) (by kernel_rfl) (by kernel_rfl) (by kernel_rfl) (by kernel_rfl) (fun _ _ _ h => h) (Or.inl ⟨by rfl, ?_⟩) (by assumption) (fun hNew => ?_)
              rotate_left
              · intro w _
                go_simp
                try with_reducible rfl
              clear hHeld
              have hHeld := hNew
              clear hNew
              try simp only [List.getElem_toArray, List.getElem_cons_succ, List.getElem_cons_zero, Act.put, List.setIfInBounds_toArray, List.set_cons_zero, List.set_cons_succ]
              refine wpAnyL_take (i := 6) (oi := _) (v := ?_) rfl (by kernel_rfl) (by kernel_rfl) (by kernel_rfl) (by kernel_rfl) (by kernel_rfl) (fun _ _ _ h => h) (Or.inl ⟨by rfl, ?_⟩) (by assumption) (fun hNew => ?_)
              rotate_left
              · intro w _
                go_simp
                try with_reducible rfl
              clear hHeld
              have hHeld := hNew
              clear hNew
              try simp only [List.getElem_toArray, List.getElem_cons_succ, List.getElem_cons_zero, Act.put, List.setIfInBounds_toArray, List.set_cons_zero, List.set_cons_succ]
              refine wpAnyL_take (i := 7) (oi := _) (v := ?_) rfl (by kernel_rfl) (by kernel_rfl) (by kernel_rfl) (by kernel_rfl) (by kernel_rfl) (fun _ _ _ h => h) (Or.inl ⟨by rfl, ?_⟩) (by assumption) (fun hNew => ?_)
              rotate_left
              · intro w _
                go_simp
                try with_reducible rfl
              clear hHeld
              have hHeld := hNew
              clear hNew
              try simp only [List.getElem_toArray, List.getElem_cons_succ, List.getElem_cons_zero, Act.put, List.setIfInBounds_toArray, List.set_cons_zero, List.set_cons_succ]
              refine wpAnyL_load 1 (i := 8) (oi := _) (v := ?_) rfl rfl (by kernel_rfl) (by kernel_rfl) (by kernel_rfl) (by kernel_rfl) (by kernel_rfl) (by kernel_rfl) (fun _ _ _ h => h) (Or.inl ⟨by rfl, ?_⟩) (by assumption) (fun hNew => ?_)
              rotate_left
              · intro w hSw
                (try dsimp only at hSw)
                go_simp
                try with_reducible rfl
              clear hHeld
              have hHeld := hNew
              clear hNew
              try simp only [List.getElem_toArray, List.getElem_cons_succ, List.getElem_cons_zero, Act.put, List.setIfInBounds_toArray, List.set_cons_zero, List.set_cons_succ]
              refine wpAnyL_ready (rs := [9]) (by kernel_rfl) (by simp) ?_
              refine AllReadyL.cons (o := _) rfl (fun K hK => ?_) AllReadyL.nil
              try simp only [List.getElem_toArray, List.getElem_cons_succ, List.getElem_cons_zero]
              go_simp
              refine CLS.out.mono ?_
              rintro e wj ⟨rfl, hcj⟩
              have HCj := Lib.hid (((Chg.refl [] wr).drew).trans hcj (by simp))
              clear hcj CLS
              clear hHeld
              refine hK.out _ _ ?_ (fun hHeld => ?_)
              · exact (HoldC.past (by kernel_rfl) (HoldC.past (by kernel_rfl) HoldC.nil))
              clear hK K
              try simp only [List.getElem_toArray, List.getElem_cons_succ, List.getElem_cons_zero, Act.put, List.setIfInBounds_toArray, List.set_cons_zero, List.set_cons_succ]
              refine wpAnyL_take (i := 10) (oi := _) (v := ?_) rfl (by kernel_rfl) (by kernel_rfl) (by kernel_rfl) (by kernel_rfl) (by kernel_rfl) (fun _ _ _ h => h) (Or.inl ⟨by rfl, ?_⟩) (by assumption) (fun hNew => ?_)
              rotate_left
              · intro w _
                go_simp
                try with_reducible rfl
              clear hHeld
              have hHeld := hNew
              clear hNew
              try simp only [List.getElem_toArray, List.getElem_cons_succ, List.getElem_cons_zero, Act.put, List.setIfInBounds_toArray, List.set_cons_zero, List.set_cons_succ]
              refine wpAnyL_done (by kernel_rfl) ?_ _
              clear hHeld
              by_cases hid : idLt ⟨yc, yl, yn, yi⟩ ⟨zc, zl, zn, zi⟩
              · rw [decide_eq_true hid]
                have HLT : Hid (∀ x ∈ L.drop mm, idLt ⟨yc, yl, yn, yi⟩ x) := Lib.hid (fun x hx => by
                  have hml2 := (List.getElem?_eq_some_iff.1 hz).1
                  have hgz : L[mm] = ⟨zc, zl, zn, zi⟩ := by rw [List.getElem?_eq_getElem hml2] at hz; exact Option.some.inj hz
                  rw [List.drop_eq_getElem_cons hml2, hgz, ← HMM.out] at hx
                  rcases List.mem_cons.1 hx with rfl | hx
                  · exact hid
                  · exact HI.out.2.2 x hx)
                have hrow := row_keep HI.out.1 (w' := wj) (fun gq hq => HCj.out.block gq (World.ownsRow.lt HI.out.1 gq hq).2 (by simp))
                obtain ⟨p0, p1, p2, p3⟩ := id_row hrow k (by rw [HLEN.out]; omega) gid (hole_at L k gid hkL)
                obtain ⟨m0, m1, m2, m3⟩ := hzc
                have m0 := HCj.out.cell m0 (by simp)
                have m1 := HCj.out.cell m1 (by simp)
                have m2 := HCj.out.cell m2 (by simp)
                have m3 := HCj.out.cell m3 (by simp)
                have hth := row_thereId hrow k (by rw [HLEN.out]; omega)
                have hset := row_setId hrow k (by rw [HLEN.out]; omega) ⟨zc, zl, zn, zi⟩
                rw [HDN.out] at hset
                have f0 : wj.frozen? ⟨g5, k * 4, none⟩ = false := (hth 0 (by omega)).2
                have f1 : wj.frozen? ⟨g5, k * 4 + 1, none⟩ = false := (hth 1 (by omega)).2
                have f2 : wj.frozen? ⟨g5, k * 4 + 2, none⟩ = false := (hth 2 (by omega)).2
                have f3 : wj.frozen? ⟨g5, k * 4 + 3, none⟩ = false := (hth 3 (by omega)).2
                have HCW : Hid (Chg [g5] w5 (wj.setCells g5 (k * 4) [.int .i64 zc, .int .i64 zl, .int .i64 zn, .int .i64 zi])) := Lib.hid ((HI.out.2.1.trans HCj.out (by simp)).setCells (.inl (by simp)) _)
                have HROW := Lib.hid hset
                have hkn : (k : Int) < (n1 : Int) := by have := HN1.out; omega
                have hkk : (k : Int).toNat = k := by omega
                clear hrow hth hset hbi hmb hid HDN
                go_wp2_with fail
                go_roundg (gk - 1)
                case measure => omega
                case rel => exact ⟨mm, _, by go_num, by omega, by omega, Lib.hid ⟨HROW.out, HCW.out, HLT.out⟩⟩
              · rw [decide_eq_false hid]
                clear hmb hzc
                have HT : Hid (∀ x, 0 < k → L[k - 1]? = some x → ¬ idLt ⟨yc, yl, yn, yi⟩ x) := Lib.hid (fun x h0 hx => by
                  rw [show k - 1 = mm by omega, hz] at hx
                  obtain rfl := Option.some.inj hx
                  exact hid)
                have HS := Lib.hid (HPUT.out k hkL HI.out.2.2 HT.out)
                have hcW : Chg [] wr wj := HCj.out
                have hrow := row_keep HI.out.1 (w' := wj) (fun gq hq => hcW.block gq (World.ownsRow.lt HI.out.1 gq hq).2 (by simp))
                obtain ⟨p0, p1, p2, p3⟩ := id_row hrow k (by rw [HLEN.out]; omega) gid (hole_at L k gid hkL)
                have hth := row_thereId hrow k (by rw [HLEN.out]; omega)
                have hset := row_setId hrow k (by rw [HLEN.out]; omega) ⟨yc, yl, yn, yi⟩
                rw [hole_put L k gid _ hkL] at hset
                have f0 : (wj).frozen? ⟨g5, k * 4, none⟩ = false := (hth 0 (by omega)).2
                have f1 : (wj).frozen? ⟨g5, k * 4 + 1, none⟩ = false := (hth 1 (by omega)).2
                have f2 : (wj).frozen? ⟨g5, k * 4 + 2, none⟩ = false := (hth 2 (by omega)).2
                have f3 : (wj).frozen? ⟨g5, k * 4 + 3, none⟩ = false := (hth 3 (by omega)).2
                obtain ⟨m0, m1, m2, m3⟩ := id_cells (hcW.keep hbi (by simp))
                have HCW : Hid (Chg [] w ((wj).setCells g5 (k * 4) [.int .i64 yc, .int .i64 yl, .int .i64 yn, .int .i64 yi])) := Lib.hid (((HC5.out.1.trans HI.out.2.1 (by simp; exact hat.2)).trans hcW (by simp)).setCells (.inr hat.2) _)
                have HROW := Lib.hid hset
                have hkn : (k : Int) < (n1 : Int) := by have := HN1.out; omega
                have hkk : (k : Int).toNat = k := by omega
                have hl1 : n1 ≤ i + 1 := by have := HN1.out; omega
                clear hrow hth hset hbi
                go_wp2_with fail
                go_roundg (gko - 1)
                case measure => omega
                case rel => exact ⟨i + 1, _, _, rfl, by go_num, by omega, by omega, by rw [HLEN.out]; exact hl1, Lib.hid ⟨by rw [HLEN.out]; rw [HLEN.out] at HROW; exact HROW.out, HCW.out, HS.out⟩⟩
        · have HF : Hid (isFirst t.s.rows i = false) := Lib.hid (by
            rw [Bool.eq_false_iff]
            exact fun hh => hfi (HFF.out.2 hh))
          have q0 : (fd != (i : Int)) = true := by simp [hfi]
          have HN := Lib.hid (And.intro (row_keep HJ.out.1 (w' := w2) (fun gq hq => HC2.out.block gq (World.ownsRow.lt HJ.out.1 gq hq).2 (by simp))) (And.intro (HJ.out.2.1.trans HC2.out (by simp)) (HJ.out.2.2.skip HF.out)))
          clear hfi HFF HKB
          go_wp2
          go_roundg (gk - 1)
          case measure => omega
          case rel => exact ⟨i + 1, L, _, rfl, by go_num, by omega, by omega, by omega, HN⟩
    · have him : i = M := by omega
      have hiz : ¬ (i : Int) < (M : Int) := by omega
      have HE := Lib.hid (HID.out L (by rw [← HM.out, ← him]; exact HJ.out.2.2))
      go_wp2
      go_ret
      rw [← HE.out]
      exact ⟨_, rfl, HJ.out.1, HJ.out.2.1⟩
end Go.Proofs.YtbkajnjboipbhaaGreatDoor.W
