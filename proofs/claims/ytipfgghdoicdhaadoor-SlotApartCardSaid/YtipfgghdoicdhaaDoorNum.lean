/- Package wire's eye: number, Num. -/
import Derived.Test.YtipfgghdoicdhaaDoorRead
import Derived.Laws.BitsLemmas
import Derived.Laws.BitsAllLaws
import Derived.IntWalk
import Derived.Shelf.Abstract
namespace Go.Proofs.YtipfgghdoicdhaaDoor.W
open Go.RowKit
set_option linter.unusedVariables false
set_option linter.unusedSimpArgs false

theorem ofInt_i64 (a : Nat) (ha : a < 9223372036854775808) : (BitVec.ofInt 64 (a : Int)).toNat = a := by
  rw [BitVec.ofInt_natCast, BitVec.toNat_ofNat]; exact Nat.mod_eq_of_lt (by omega)
theorem i64_or_nat (a b : Nat) (ha : a < 9223372036854775808) (hb : b < 9223372036854775808) : bits .or .i64 (a : Int) (b : Int) = ((a ||| b : Nat) : Int) := by
  have hx : a ||| b < 2 ^ 63 := Nat.or_lt_two_pow (by omega) (by omega)
  show IntKind.i64.wrap ((BitVec.ofInt 64 (a : Int) ||| BitVec.ofInt 64 (b : Int)).toNat : Int) = _
  rw [BitVec.toNat_or, ofInt_i64 a ha, ofInt_i64 b hb, IntKind.wrap_i64]
  omega

set_option maxHeartbeats 2000000 in
set_option maxRecDepth 100000 in
theorem number_ok (b g o cap : Nat) (l : List UInt8) (bad : Value) (n : Nat) (w : World) (h : w.heap[b]? = some (.cells #[.bool true, .slice (some ⟨g, o, none⟩) l.length cap, bad] 122 (0, 0)))
    (hgb : g ≠ b) (hl : l.length ≤ cap) (hc : cap ≤ maxLen) (hcell : ∀ i, i < l.length → w.cell? ⟨g, o + i, none⟩ = some (bv (l.getD i 0))) (h1 : 1 ≤ n) (h7 : n ≤ 7) (hn : n ≤ l.length) :
    Calls Tryd.prog 80 #[.pointer (some ⟨b, 0, none⟩), .int .i64 n] w fun e w' => e = .returned (.int .i64 (beNum (l.take n))) ∧
      w' = w.setCell ⟨b, 1, none⟩ (.slice (some ⟨g, if cap = n then o else o + n, none⟩) (l.length - n) (cap - n)) := by
  have CT := Lib.hid (take_ok b g o cap l bad n w h hl hc hn)
  obtain ⟨w1, hw1⟩ : ∃ w1, w1 = w.setCell ⟨b, 1, none⟩ (.slice (some ⟨g, if cap = n then o else o + n, none⟩) (l.length - n) (cap - n)) := ⟨_, rfl⟩
  rw [← hw1] at CT ⊢
  have HC : Hid (∀ i, i < n → w1.cell? ⟨g, o + i, none⟩ = some (bv (l.getD i 0))) := by
    intro i hi
    rw [hw1]
    exact (World.cell?_of_block (w := w) (a := ⟨g, o + i, none⟩) (Below.heap_setCell w _ _ g (by simpa using hgb))).trans (hcell i (by omega))
  clear h hl hc hcell hw1
  go_enter Tryd.func80, Tryd.ntmps80
  go_wp2_with (go_at_call 82; refine CT.out.mono ?_; rintro e w2 ⟨rfl, rfl⟩)
  go_loop [5, 12] (fun x i => ∃ k : Nat, k ≤ n ∧ i = .int .i64 k ∧ x = .int .i64 (beNum (l.take k))) (fun _ i => n - (intOf i).toNat)
  case atStart => exact ⟨0, Nat.zero_le _, rfl, rfl⟩
  case round =>
    obtain ⟨k, hk, rfl, rfl⟩ := hrel
    by_cases hlt : k < n
    · have hcl := HC.out k hlt
      have hb := beNum_take_le l k (by omega)
      have hkz : (k : Int) < (n : Int) := by omega
      have hkz1 : (k : Int).toNat = k := by omega
      obtain ⟨c, hc⟩ : ∃ c, c = l.getD k 0 := ⟨_, rfl⟩
      rw [← hc] at hcl
      have hc8 := c.toNat_lt
      have HX : Hid (beNum (l.take (k + 1)) = beNum (l.take k) * 256 + c.toNat) := Lib.hid (by rw [take_snocU l k (by omega), beNum_snoc, hc])
      clear hc
      obtain ⟨x, hx⟩ : ∃ x, x = beNum (l.take k) := ⟨_, rfl⟩
      rw [← hx] at hb HX ⊢
      clear hx
      unfold bv at hcl
      have hor : bits .or .i64 ((x : Int) * 256) (c.toNat : Int) = ((x * 256 + c.toNat : Nat) : Int) := by
        have := i64_or_nat (x * 256) c.toNat (by omega) (by omega)
        rw [or_byte] at this
        simpa using this
      go_wp2
      go_round
      case rel => exact ⟨k + 1, by omega, by go_num, by rw [HX.out]; go_num⟩
      case measure => simp [intOf]; omega
    · go_wp2
      go_ret
      obtain rfl : k = n := by omega
      exact ⟨rfl, rfl⟩

set_option maxHeartbeats 2000000 in
theorem number_short (b : Nat) (a : Option Addr) (L cap : Nat) (bad : Value) (n : Int) (w : World) (h : w.heap[b]? = some (.cells #[.bool true, .slice a L cap, bad] 122 (0, 0)))
    (hL : L ≤ 1000000000000) (hn : (L : Int) < n) :
    Calls Tryd.prog 80 #[.pointer (some ⟨b, 0, none⟩), .int .i64 n] w fun e w' => e = gaveUp 2 ∧ w = w' := by
  have CT := Lib.hid (take_short b a L cap bad n w h hL hn)
  clear h
  unfold gaveUp at *
  go_enter Tryd.func80, Tryd.ntmps80
  go_wp2_with fail
  refine CT.out.mono ?_
  rintro e w1 ⟨rfl, rfl⟩
  exact ⟨rfl, rfl, rfl⟩

/-- Bytes of an eye: nil, or in block g. -/
def EyeV (w : World) (v : Value) (g : Nat) (l : List UInt8) : Prop :=
  (v = .slice none 0 0 ∧ l = []) ∨ ∃ o cap, v = .slice (some ⟨g, o, none⟩) l.length cap ∧ l.length ≤ cap ∧ cap ≤ maxLen ∧ ∀ i, i < l.length → w.cell? ⟨g, o + i, none⟩ = some (bv (l.getD i 0))
theorem EyeV.keep {w w' : World} {v : Value} {g : Nat} {l : List UInt8} (h : EyeV w v g l) (hb : w'.heap[g]? = w.heap[g]?) : EyeV w' v g l := by
  rcases h with h | ⟨o, cap, rfl, h1, h2, hc⟩
  · exact .inl h
  · exact .inr ⟨o, cap, rfl, h1, h2, fun i hi => (World.cell?_of_block (w := w) (a := ⟨g, o + i, none⟩) hb).trans (hc i hi)⟩
theorem EyeV.keepC {w w' : World} {v : Value} {g : Nat} {l : List UInt8} {S : List Nat} (h : EyeV w v g l) (hg : g < w.heap.size ∨ v = .slice none 0 0) (hc : Chg S w w') (hn : g ∉ S) : EyeV w' v g l := by
  rcases h with h | ⟨o, cap, rfl, h1, h2, hcell⟩
  · exact .inl h
  · have hg' : g < w.heap.size := by
      rcases hg with hg | hg
      · exact hg
      · cases hg
    exact EyeV.keep (.inr ⟨o, cap, rfl, h1, h2, hcell⟩) (hc.block g hg' hn)
theorem or_lt {w w' : World} {g : Nat} {p : Prop} {S : List Nat} (h : g < w.heap.size ∨ p) (hc : Chg S w w') : g < w'.heap.size ∨ p := by
  rcases h with h | h
  · exact .inl (Nat.lt_of_lt_of_le h hc.size)
  · exact .inr h
theorem EyeV.slice {w : World} {v : Value} {g : Nat} {l : List UInt8} (h : EyeV w v g l) : ∃ a cap, v = .slice a l.length cap := by
  rcases h with ⟨rfl, rfl⟩ | ⟨o, cap, rfl, _⟩
  · exact ⟨_, _, rfl⟩
  · exact ⟨_, _, rfl⟩
/-- The eye in block b, its bytes in block g. -/
def EyeAt (w : World) (b g : Nat) (l : List UInt8) (bad : Int) : Prop :=
  ∃ v, w.heap[b]? = some (.cells #[.bool true, v, .int .i64 bad] 122 (0, 0)) ∧ EyeV w v g l ∧ g ≠ b ∧ (g < w.heap.size ∨ v = .slice none 0 0) ∧ l.length ≤ 1000000
theorem EyeAt.keep {w w' : World} {b g : Nat} {l : List UInt8} {bad : Int} {S : List Nat} (h : EyeAt w b g l bad) (hc : Chg S w w') (hb : b ∉ S) (hg : g ∉ S) : EyeAt w' b g l bad := by
  obtain ⟨v, h1, h2, h3, h4, h5⟩ := h
  exact ⟨v, hc.keep h1 hb, h2.keepC h4 hc hg, h3, or_lt h4 hc, h5⟩
theorem EyeV.dropped {w : World} {g o cap n : Nat} {l : List UInt8} (hl : l.length ≤ cap) (hc : cap ≤ maxLen) (hcell : ∀ i, i < l.length → w.cell? ⟨g, o + i, none⟩ = some (bv (l.getD i 0))) (hn : n ≤ l.length) :
    EyeV w (.slice (some ⟨g, if cap = n then o else o + n, none⟩) (l.length - n) (cap - n)) g (l.drop n) := by
  right
  have hdl : (l.drop n).length = l.length - n := List.length_drop ..
  refine ⟨if cap = n then o else o + n, cap - n, by rw [hdl], by omega, by omega, fun i hi => ?_⟩
  have h2 : ¬ (cap = n) := by omega
  rw [if_neg h2, getD_drop, Nat.add_assoc]
  exact hcell (n + i) (by omega)

theorem enters1 : ∀ args w, (callFunc 79 args).run Tryd.prog w = .ok (.enter 79 args) w := enters_of Tryd.func79 (by kernel_rfl) rfl

set_option maxHeartbeats 2000000 in
set_option maxRecDepth 100000 in
theorem step_ok (b g o cap pw pe px : Nat) (l : List UInt8) (bad : Value) (n : Nat) (w : World) (h : w.heap[b]? = some (.cells #[.bool true, .slice (some ⟨g, o, none⟩) l.length cap, bad] 122 (0, 0)))
    (hgb : g ≠ b) (hl : l.length ≤ cap) (hc : cap ≤ maxLen) (hcell : ∀ i, i < l.length → w.cell? ⟨g, o + i, none⟩ = some (bv (l.getD i 0))) (h1 : 1 ≤ n) (h7 : n ≤ 7) (hn : n ≤ l.length)
    (hw : w.heap[pw]? = some (.cells #[.int .i64 n] 3 (0, 0))) (he : w.heap[pe]? = some (.cells #[.pointer (some ⟨b, 0, none⟩)] 112 (0, 0))) (hx : w.heap[px]? = some (.cells #[.int .i64 0] 3 (0, 0))) (hxb : px ≠ b) :
    Calls Tryd.prog 79 #[.pointer (some ⟨pw, 0, none⟩), .pointer (some ⟨pe, 0, none⟩), .pointer (some ⟨px, 0, none⟩)] w fun e w' => e = .returned (.tuple #[]) ∧
      w' = (w.setCell ⟨b, 1, none⟩ (.slice (some ⟨g, if cap = n then o else o + n, none⟩) (l.length - n) (cap - n))).setCell ⟨px, 0, none⟩ (.int .i64 (beNum (l.take n))) := by
  have CN := Lib.hid (number_ok b g o cap l bad n w h hgb hl hc hcell h1 h7 hn)
  obtain ⟨w1, hw1⟩ : ∃ w1, w1 = w.setCell ⟨b, 1, none⟩ (.slice (some ⟨g, if cap = n then o else o + n, none⟩) (l.length - n) (cap - n)) := ⟨_, rfl⟩
  rw [← hw1] at CN ⊢
  have hx1 : w1.heap[px]? = some (.cells #[.int .i64 0] 3 (0, 0)) := by rw [hw1]; exact blk_sets hx hxb
  have w0 := blk_cell hw 0 _ rfl
  have e0 := blk_cell he 0 _ rfl
  have x0 := blk_cell hx1 0 _ rfl
  have x1 := blk_frozen hx1 0
  clear h hl hc hcell hw1 hw he hx hx1
  go_enter Tryd.func79, Tryd.ntmps79
  go_wp2_with fail
  refine (wmay_yes _ _ (by omega) (by omega)).mono ?_
  rintro e w' ⟨rfl, rfl⟩
  go_wp2_with fail
  refine CN.out.mono ?_
  rintro e w' ⟨rfl, rfl⟩
  go_wp2
  go_end0
  exact ⟨rfl, rfl⟩

set_option maxHeartbeats 2000000 in
set_option maxRecDepth 100000 in
theorem step_short (b pw pe : Nat) (px : Value) (a : Option Addr) (L cap : Nat) (bad : Value) (n : Nat) (w : World) (h : w.heap[b]? = some (.cells #[.bool true, .slice a L cap, bad] 122 (0, 0)))
    (hL : L ≤ 1000000000000) (hn : L < n) (h1 : 1 ≤ n) (h7 : n ≤ 7)
    (hw : w.heap[pw]? = some (.cells #[.int .i64 n] 3 (0, 0))) (he : w.heap[pe]? = some (.cells #[.pointer (some ⟨b, 0, none⟩)] 112 (0, 0))) :
    Calls Tryd.prog 79 #[.pointer (some ⟨pw, 0, none⟩), .pointer (some ⟨pe, 0, none⟩), px] w fun e w' => e = gaveUp 2 ∧ w = w' := by
  have CN := Lib.hid (number_short b a L cap bad n w h hL (by omega))
  have w0 := blk_cell hw 0 _ rfl
  have e0 := blk_cell he 0 _ rfl
  clear h hw he
  unfold gaveUp at *
  go_enter Tryd.func79, Tryd.ntmps79
  go_wp2_with fail
  refine (wmay_yes _ _ (by omega) (by omega)).mono ?_
  rintro e w' ⟨rfl, rfl⟩
  go_wp2_with fail
  refine CN.out.mono ?_
  rintro e w' ⟨rfl, rfl⟩
  exact ⟨rfl, rfl, rfl⟩

set_option maxHeartbeats 4000000 in
set_option maxRecDepth 100000 in
/-- Num. -/
theorem enum_any (b g : Nat) (l : List UInt8) (bad : Int) (width : Int) (w : World) (h : EyeAt w b g l bad) (h1 : 1 ≤ width) (h7 : width ≤ 7) :
    Calls Tryd.prog 65 #[.pointer (some ⟨b, 0, none⟩), .int .i64 width] w fun e w' => e = .returned (.int .i64 (eyeNum l bad width.toNat).1) ∧
      EyeAt w' b g (eyeNum l bad width.toNat).2.1 (eyeNum l bad width.toNat).2.2 ∧ Chg [b] w w' := by
  obtain ⟨n, rfl⟩ := Int.eq_ofNat_of_zero_le (show 0 ≤ width by omega)
  rw [Int.toNat_natCast]
  have hE := h
  obtain ⟨v, hb, hv, hgb, hg, hll⟩ := h
  have hbl := blk_lt hb
  obtain ⟨w3, hw3⟩ : ∃ w3, w3 = ((w.alloc (.cells #[.pointer (some ⟨b, 0, none⟩)] 112)).alloc (.cells #[.int .i64 n] 3)).alloc (.cells #[.int .i64 0] 3) := ⟨_, rfl⟩
  have hs3 : w3.heap.size = w.heap.size + 3 := by rw [hw3]; simp
  have hb3 : w3.heap[b]? = some (.cells #[.bool true, v, .int .i64 bad] 122 (0, 0)) := by rw [hw3]; exact blk_alloc (blk_alloc (blk_alloc hb))
  have hpe : w3.heap[w.heap.size]? = some (.cells #[.pointer (some ⟨b, 0, none⟩)] 112 (0, 0)) := by rw [hw3]; exact blk_alloc (blk_alloc (heap_alloc_new w _))
  have hpw : w3.heap[w.heap.size + 1]? = some (.cells #[.int .i64 n] 3 (0, 0)) := by
    rw [hw3]
    have := heap_alloc_new (w.alloc (.cells #[.pointer (some ⟨b, 0, none⟩)] 112)) (.cells #[.int .i64 n] 3)
    exact blk_alloc (by simpa using this)
  have hpx : w3.heap[w.heap.size + 1 + 1]? = some (.cells #[.int .i64 0] 3 (0, 0)) := by
    rw [hw3]
    have := heap_alloc_new ((w.alloc (.cells #[.pointer (some ⟨b, 0, none⟩)] 112)).alloc (.cells #[.int .i64 n] 3)) (.cells #[.int .i64 0] 3)
    simpa using this
  have hc3 : Chg [b] w w3 := by rw [hw3]; exact (((Chg.refl [b] w).alloc _).alloc _).alloc _
  have hv3 : EyeV w3 v g l := hv.keepC hg hc3 (by simp; exact hgb)
  have hg3 := or_lt hg hc3
  obtain ⟨r, hr⟩ : ∃ r, r = eyeNum l bad n := ⟨_, rfl⟩
  have CR : Hid (Calls Tryd.prog 78 #[.pointer (some ⟨b, 0, none⟩), .func (.func 79) #[] #[.pointer (some ⟨w.heap.size + 1, 0, none⟩), .pointer (some ⟨w.heap.size, 0, none⟩), .pointer (some ⟨w.heap.size + 1 + 1, 0, none⟩)]] w3
      fun e w' => e = .returned (.tuple #[]) ∧ Hid (Chg [b, w.heap.size + 1 + 1] w3 w' ∧ EyeAt w' b g r.2.1 r.2.2 ∧ w'.heap[w.heap.size + 1 + 1]? = some (.cells #[.int .i64 r.1] 3 (0, 0)))) := by
    have hgb3 : b < w3.heap.size := blk_lt hb3
    by_cases hbad : bad = 0
    · subst hbad
      by_cases hlen : l.length < n
      · have hr' : r = (0, l, 2) := by rw [hr]; unfold eyeNum; rw [if_neg (by simp), if_pos hlen]
        obtain ⟨a, cap, rfl⟩ := hv3.slice
        refine (read_panic b _ 79 _ w3 enters1 a l.length cap rfl 2 hb3 [] (by simp) ?_).mono ?_
        · refine (step_short b _ _ _ a l.length cap _ n _ (blk_alloc (blk_alloc hb3)) (by omega) hlen (by omega) (by omega) (blk_alloc (blk_alloc hpw)) (blk_alloc (blk_alloc hpe))).mono ?_
          rintro e w' ⟨rfl, rfl⟩
          exact ⟨rfl, _, Chg.refl _ _, blk_alloc (blk_alloc hb3)⟩
        · rintro e w' ⟨rfl, hc, hh⟩
          refine ⟨rfl, hc.mono (by simp), ?_, ?_⟩
          · rw [hr']
            exact ⟨_, hh, hv3.keepC hg3 hc (by simp; exact hgb), hgb, or_lt hg3 hc, hll⟩
          · rw [hr']; exact hc.keep hpx (by simp; omega)
      · have hr' : r = ((beNum (l.take n) : Int), l.drop n, 0) := by rw [hr]; unfold eyeNum; rw [if_neg (by simp), if_neg hlen]
        rcases hv3 with ⟨rfl, rfl⟩ | ⟨o, cap, rfl, hlc, hcm, hcell⟩
        · simp at hlen; omega
        have hg4 : g < w.heap.size := by
          rcases hg with hg | hg
          · exact hg
          · cases hg
        obtain ⟨w5, hw5⟩ : ∃ w5, w5 = (w3.alloc (.cells #[.pointer (some ⟨b, 0, none⟩)] 112)).alloc (.cells #[.slice (some ⟨g, o, none⟩) l.length cap] 31) := ⟨_, rfl⟩
        have hc5 : Chg [] w3 w5 := by rw [hw5]; exact ((Chg.refl [] w3).alloc _).alloc _
        have hcell5 : ∀ i, i < l.length → w5.cell? ⟨g, o + i, none⟩ = some (bv (l.getD i 0)) := fun i hi => hc5.cell (hcell i hi) (by simp)
        have CS := step_ok b g o cap _ _ _ l _ n w5 (hc5.keep hb3 (by simp)) hgb hlc hcm hcell5 (by omega) (by omega) (by omega) (hc5.keep hpw (by simp)) (hc5.keep hpe (by simp)) (hc5.keep hpx (by simp)) (by omega)
        rw [hw5] at CS
        refine (read_ret b _ 79 _ w3 enters1 _ _ _ rfl hb3 _ CS).mono ?_
        rintro e w' ⟨rfl, w1, hq, rfl⟩
        rw [← hw5] at hq
        have hcq : Chg [b, w.heap.size + 1 + 1] w3 w1 := by
          rw [hq]
          exact ((hc5.mono (by simp)).setCell (p := ⟨b, 1, none⟩) (.inl (by simp)) _).setCell (p := ⟨w.heap.size + 1 + 1, 0, none⟩) (.inl (by simp)) _
        have hb1 : w1.heap[b]? = some (.cells #[.bool true, .slice (some ⟨g, if cap = n then o else o + n, none⟩) (l.length - n) (cap - n), .int .i64 0] 122 (0, 0)) := by
          rw [hq]; exact blk_sets (set_blk (hc5.keep hb3 (by simp))) (by omega)
        have hx1 : w1.heap[w.heap.size + 1 + 1]? = some (.cells #[.int .i64 (beNum (l.take n))] 3 (0, 0)) := by
          rw [hq]; exact set_blk (blk_sets (hc5.keep hpx (by simp)) (by omega))
        refine ⟨rfl, hcq.alloc _, ?_, ?_⟩
        · rw [hr']
          refine ⟨_, blk_alloc hb1, ?_, hgb, ?_, ?_⟩
          · exact (EyeV.dropped hlc hcm hcell (by omega)).keep ((hcq.alloc _).block g (by omega) (by simp; omega))
          · exact .inl (Nat.lt_of_lt_of_le (by omega) (hcq.alloc _).size)
          · show (l.drop n).length ≤ _
            rw [List.length_drop]; omega
        · rw [hr']; exact blk_alloc hx1
    · have hr' : r = (0, l, bad) := by rw [hr]; unfold eyeNum; rw [if_pos hbad]
      refine (read_done b v bad 79 _ w3 hb3 hbad).mono ?_
      rintro e w' ⟨rfl, rfl⟩
      rw [hr']
      refine ⟨rfl, (Chg.refl _ _).alloc _, ⟨v, blk_alloc hb3, hv3.keepC hg3 ((Chg.refl [] w3).alloc _) (by simp), hgb, or_lt hg3 ((Chg.refl [] w3).alloc _), hll⟩, blk_alloc hpx⟩
  rw [← hr]
  have HC := Lib.hid hc3
  have HW := Lib.hid hw3
  have hmf : ∀ (fn : Fn) (first cap : Array Value) (w : World), (Instr.makeFunc fn first cap).run Tryd.prog w = .ok (.func fn first cap) w := fun _ _ _ _ => rfl
  clear hb hv hb3 hpe hpw hpx hc3 hr hE hw3 hv3
  go_enter Tryd.func65, Tryd.ntmps65
  go_wp2_with fail
  rw [← HW.out]
  refine CR.out.mono ?_
  rintro e w4 ⟨rfl, H4⟩
  have x0 := blk_cell H4.out.2.2 0 _ rfl
  go_wp2
  go_ret
  exact ⟨rfl, H4.out.2.1, HC.out.trans H4.out.1 (by
    intro x hx
    simp at hx
    rcases hx with rfl | rfl
    · exact .inl (by simp)
    · exact .inr (by omega))⟩
end Go.Proofs.YtipfgghdoicdhaaDoor.W
