/- Texts laid together. -/
import Derived.Test.YtaiihklfeoeoeaaGreatKB3
import Derived.Test.YtaiihklfeoeoeaaGreatKB4
import Derived.Test.YtaiihklfeoeoeaaGreatKB2
import Derived.Laws.IdiomStrings
import Derived.Laws.BytesArg
import Derived.Defers
import Derived.Recover
import Derived.RegionTactic
import Derived.ChangeAlike
/- Package wire's eye: Raw, whole. -/
namespace Go.Proofs.YtaiihklfeoeoeaaGreat.W
open Go.RowKit
set_option linter.unusedVariables false
set_option linter.unusedSimpArgs false

/-- Raw: the bytes, what is left, the error. -/
def eyeRaw (l : List UInt8) (bad : Int) (most : Nat) : List UInt8 × List UInt8 × Int :=
  if bad ≠ 0 then ([], l, bad) else if l.length < 2 then ([], l, 2) else
  if most < beNum (l.take 2) then ([], l, 3) else if (l.drop 2).length < beNum (l.take 2) then ([], l, 2) else ((l.drop 2).take (beNum (l.take 2)), (l.drop 2).drop (beNum (l.take 2)), 0)

theorem enters3 : ∀ args w, (callFunc 110 args).run Tryz.prog w = .ok (.enter 110 args) w := enters_of Tryz.func110 (by kernel_rfl) rfl

def rawW1 (b g o cap : Nat) (l : List UInt8) (w : World) : World := w.setCell ⟨b, 1, none⟩ (.slice (some ⟨g, if cap = 2 then o else o + 2, none⟩) (l.length - 2) (cap - 2))
/-- What a step of Raw finds. -/
structure RawPre (b g o cap pm pe most : Nat) (l : List UInt8) (bad : Value) (w : World) : Prop where
  h : w.heap[b]? = some (.cells #[.bool true, .slice (some ⟨g, o, none⟩) l.length cap, bad] 88 (0, 0))
  hgb : g ≠ b
  hl : l.length ≤ cap
  hc : cap ≤ maxLen
  hcell : ∀ i, i < l.length → w.cell? ⟨g, o + i, none⟩ = some (bv (l.getD i 0))
  h2 : 2 ≤ l.length
  hll : l.length ≤ 1000000
  hm : w.heap[pm]? = some (.cells #[.int .i64 most] 3 (0, 0))
  he : w.heap[pe]? = some (.cells #[.pointer (some ⟨b, 0, none⟩)] 43 (0, 0))
  hpm : pm ≠ b
  hpe : pe ≠ b

set_option maxHeartbeats 2000000 in
theorem rstep_short (b cap pm pe most : Nat) (bad : Value) (w : World) (pbv : Value) (a : Option Addr) (L : Nat) (h : w.heap[b]? = some (.cells #[.bool true, .slice a L cap, bad] 88 (0, 0)))
    (hL : L < 2) (hm : w.heap[pm]? = some (.cells #[.int .i64 most] 3 (0, 0))) (he : w.heap[pe]? = some (.cells #[.pointer (some ⟨b, 0, none⟩)] 43 (0, 0))) :
    Calls Tryz.prog 110 #[.pointer (some ⟨pm, 0, none⟩), .pointer (some ⟨pe, 0, none⟩), pbv] w fun e w' => e = gaveUp 2 ∧ w = w' := by
  have CN := Lib.hid (number_short b a L cap bad 2 w h (by omega) (by omega))
  have w0 := blk_cell hm 0 _ rfl
  have e0 := blk_cell he 0 _ rfl
  clear h hm he
  unfold gaveUp at *
  go_enter Tryz.func110, Tryz.ntmps110
  go_wp2_with fail
  refine CN.out.mono ?_
  rintro e w' ⟨rfl, rfl⟩
  exact ⟨rfl, rfl, rfl⟩

set_option maxHeartbeats 4000000 in
set_option maxRecDepth 100000 in
theorem rstep_long (b g o cap pm pe most : Nat) (l : List UInt8) (bad : Value) (w : World) (H : RawPre b g o cap pm pe most l bad w) (pbv : Value) (hn : most < beNum (l.take 2)) :
    Calls Tryz.prog 110 #[.pointer (some ⟨pm, 0, none⟩), .pointer (some ⟨pe, 0, none⟩), pbv] w fun e w' => e = gaveUp 3 ∧ w' = rawW1 b g o cap l w := by
  have H0 := H
  obtain ⟨h, hgb, hl, hc, hcell, h2, hll, hm, he, hpm, hpe⟩ := H
  have CN := Lib.hid (number_ok b g o cap l bad 2 w h hgb hl hc hcell (by omega) (by omega) h2)
  obtain ⟨w1, hw1⟩ : ∃ w1, w1 = rawW1 b g o cap l w := ⟨_, rfl⟩
  unfold rawW1 at hw1
  have hb2 := beNum_take_le l 2 (by omega)
  have w0 := blk_cell hm 0 _ rfl
  have e0 := blk_cell he 0 _ rfl
  have w01 : w1.cell? ⟨pm, 0, none⟩ = some (.int .i64 most) := by rw [hw1]; exact blk_cell (blk_sets hm hpm) 0 _ rfl
  rw [← hw1] at CN
  unfold rawW1
  rw [← hw1]
  generalize beNum (l.take 2) = n at *
  have hnz : ((most : Nat) : Int) < (n : Int) := by omega
  clear h hm he hl hc hcell hw1
  try clear H0
  unfold gaveUp at *
  go_enter Tryz.func110, Tryz.ntmps110
  go_wp2_with fail
  refine CN.out.mono ?_
  rintro e w' ⟨rfl, rfl⟩
  go_wp2
  exact ⟨rfl, rfl, rfl⟩

theorem rawW1_at {b g o cap pm pe most : Nat} {l : List UInt8} {bad : Value} {w : World} (H : RawPre b g o cap pm pe most l bad w) : (rawW1 b g o cap l w).heap[b]? = some (.cells #[.bool true, .slice (some ⟨g, if cap = 2 then o else o + 2, none⟩) (l.drop 2).length (cap - 2), bad] 88 (0, 0)) := by
  rw [List.length_drop]; exact set_blk H.h
theorem rawW1_cell {b g o cap pm pe most : Nat} {l : List UInt8} {bad : Value} {w : World} (H : RawPre b g o cap pm pe most l bad w) : ∀ i, i < (l.drop 2).length → (rawW1 b g o cap l w).cell? ⟨g, (if cap = 2 then o else o + 2) + i, none⟩ = some (bv ((l.drop 2).getD i 0)) := fun i hi => by
  rw [List.length_drop] at hi
  have h1 := H.hl
  rw [if_neg (by omega), getD_drop, Nat.add_assoc]
  exact (World.cell?_of_block (w := w) (a := ⟨g, o + (2 + i), none⟩) (Below.heap_setCell w _ _ g (by simpa using H.hgb))).trans (H.hcell (2 + i) (by omega))

set_option maxHeartbeats 4000000 in
set_option maxRecDepth 100000 in
theorem rstep_short2 (b g o cap pm pe most : Nat) (l : List UInt8) (bad : Value) (w : World) (H : RawPre b g o cap pm pe most l bad w) (pbv : Value) (hn : beNum (l.take 2) ≤ most) (hs : (l.drop 2).length < beNum (l.take 2)) :
    Calls Tryz.prog 110 #[.pointer (some ⟨pm, 0, none⟩), .pointer (some ⟨pe, 0, none⟩), pbv] w fun e w' => e = gaveUp 2 ∧ w' = rawW1 b g o cap l w := by
  have H0 := H
  obtain ⟨h, hgb, hl, hc, hcell, h2, hll, hm, he, hpm, hpe⟩ := H
  have CN := Lib.hid (number_ok b g o cap l bad 2 w h hgb hl hc hcell (by omega) (by omega) h2)
  have CT := Lib.hid (take_short b _ _ _ bad ((beNum (l.take 2) : Nat) : Int) (rawW1 b g o cap l w) (rawW1_at H0) (by rw [List.length_drop]; omega) (by omega))
  have hb2 := beNum_take_le l 2 (by omega)
  have w0 := blk_cell hm 0 _ rfl
  have e0 := blk_cell he 0 _ rfl
  have w01 : (rawW1 b g o cap l w).cell? ⟨pm, 0, none⟩ = some (.int .i64 most) := blk_cell (blk_sets hm hpm) 0 _ rfl
  have e01 : (rawW1 b g o cap l w).cell? ⟨pe, 0, none⟩ = some (.pointer (some ⟨b, 0, none⟩)) := blk_cell (blk_sets he hpe) 0 _ rfl
  obtain ⟨w1, hw1⟩ : ∃ w1, w1 = rawW1 b g o cap l w := ⟨_, rfl⟩
  rw [← hw1] at CT w01 e01 ⊢
  unfold rawW1 at hw1
  rw [← hw1] at CN
  generalize beNum (l.take 2) = n at *
  have hnz : ¬ ((most : Nat) : Int) < (n : Int) := by omega
  clear h hm he hl hc hcell hw1
  try clear H0
  unfold gaveUp at *
  go_enter Tryz.func110, Tryz.ntmps110
  go_wp2_with fail
  refine CN.out.mono ?_
  rintro e w' ⟨rfl, rfl⟩
  go_wp2_with fail
  refine CT.out.mono ?_
  rintro e w' ⟨rfl, rfl⟩
  exact ⟨rfl, rfl, rfl⟩

set_option maxHeartbeats 4000000 in
set_option maxRecDepth 100000 in
theorem rstep_ok (b g o cap pm pe pb most : Nat) (l : List UInt8) (bad : Value) (w : World) (H : RawPre b g o cap pm pe most l bad w) (hpg : pb ≠ g) (hn : beNum (l.take 2) ≤ most) (hs : beNum (l.take 2) ≤ (l.drop 2).length) (hb : w.heap[pb]? = some (.cells #[.slice none 0 0] 38 (0, 0))) (hpb : pb ≠ b) :
    Calls Tryz.prog 110 #[.pointer (some ⟨pm, 0, none⟩), .pointer (some ⟨pe, 0, none⟩), .pointer (some ⟨pb, 0, none⟩)] w fun e w' => e = .returned (.tuple #[]) ∧ ∃ v' o' cap', BRow w' v' ((l.drop 2).take (beNum (l.take 2))) ∧ (∀ k, v'.ownBlock = some k → w.heap.size ≤ k) ∧
      Chg [b, pb] w w' ∧ w'.heap[pb]? = some (.cells #[v'] 38 (0, 0)) ∧ w'.heap[b]? = some (.cells #[.bool true, .slice (some ⟨g, o', none⟩) ((l.drop 2).drop (beNum (l.take 2))).length cap', bad] 88 (0, 0)) ∧
      EyeV w' (.slice (some ⟨g, o', none⟩) ((l.drop 2).drop (beNum (l.take 2))).length cap') g ((l.drop 2).drop (beNum (l.take 2))) := by
  have hat := rawW1_at H
  have hce := rawW1_cell H
  have H0 := H
  obtain ⟨h, hgb, hl, hc, hcell, h2, hll, hm, he, hpm, hpe⟩ := H
  have CN := Lib.hid (number_ok b g o cap l bad 2 w h hgb hl hc hcell (by omega) (by omega) h2)
  have hgl : g < w.heap.size := World.block_lt_of_cell? w _ (hcell 0 (by omega))
  obtain ⟨o2, ho2⟩ : ∃ o2, o2 = if cap = 2 then o else o + 2 := ⟨_, rfl⟩
  rw [← ho2] at hat hce
  have hbl := blk_lt h
  obtain ⟨w1, hw1⟩ : ∃ w1, w1 = rawW1 b g o cap l w := ⟨_, rfl⟩
  have hc1 : Chg [b] w w1 := by rw [hw1]; exact (Chg.refl _ _).setCell (.inl (by simp)) _
  have w01 : w1.cell? ⟨pm, 0, none⟩ = some (.int .i64 most) := by rw [hw1]; exact blk_cell (blk_sets hm hpm) 0 _ rfl
  have e01 : w1.cell? ⟨pe, 0, none⟩ = some (.pointer (some ⟨b, 0, none⟩)) := by rw [hw1]; exact blk_cell (blk_sets he hpe) 0 _ rfl
  have hpb1 : w1.heap[pb]? = some (.cells #[.slice none 0 0] 38 (0, 0)) := by rw [hw1]; exact blk_sets hb hpb
  rw [← hw1] at hat hce
  unfold rawW1 at hw1
  rw [← hw1] at CN
  have hb2 := beNum_take_le l 2 (by omega)
  have w0 := blk_cell hm 0 _ rfl
  have e0 := blk_cell he 0 _ rfl
  generalize hnn : beNum (l.take 2) = n at *
  clear hnn
  generalize hd : l.drop 2 = l2 at *
  have hl2 : l2.length = l.length - 2 := by rw [← hd, List.length_drop]
  clear hd
  have CT := Lib.hid (take_ok b g o2 (cap - 2) l2 bad n w1 hat (by omega) (by unfold maxLen at *; omega) hs)
  obtain ⟨w2, hw2⟩ : ∃ w2, w2 = w1.setCell ⟨b, 1, none⟩ (.slice (some ⟨g, if cap - 2 = n then o2 else o2 + n, none⟩) (l2.length - n) (cap - 2 - n)) := ⟨_, rfl⟩
  rw [← hw2] at CT
  have hc2 : Chg [b] w1 w2 := by rw [hw2]; exact (Chg.refl _ _).setCell (.inl (by simp)) _
  have hce2 : ∀ i, i < l2.length → w2.cell? ⟨g, o2 + i, none⟩ = some (bv (l2.getD i 0)) := fun i hi => hc2.cell (hce i hi) (by simp; exact hgb)
  have hB : BytesAt w2 (.slice (some ⟨g, o2, none⟩) n n) (l2.take n) := by
    have hlen : (l2.take n).length = n := by rw [List.length_take]; omega
    refine ⟨_, n, by rw [hlen], by omega, by unfold maxLen at *; omega, .inr ⟨g, o2, rfl, fun i hi => ?_⟩⟩
    rw [hlen] at hi
    rw [getD_take _ _ _ hi]
    exact hce2 i (by omega)
  have hlen3 : Hid ((l2.take n).length = n) := Lib.hid (by rw [List.length_take]; omega)
  have CC := Lib.hid (clone_any _ _ w2 hB (by rw [List.length_take]; omega))
  have hat2 : w2.heap[b]? = some (.cells #[.bool true, .slice (some ⟨g, if cap - 2 = n then o2 else o2 + n, none⟩) (l2.length - n) (cap - 2 - n), bad] 88 (0, 0)) := by rw [hw2]; exact set_blk hat
  have hpb2 : w2.heap[pb]? = some (.cells #[.slice none 0 0] 38 (0, 0)) := hc2.keep hpb1 (by simp; exact hpb)
  have hE2 : EyeV w2 (.slice (some ⟨g, if cap - 2 = n then o2 else o2 + n, none⟩) (l2.length - n) (cap - 2 - n)) g (l2.drop n) := EyeV.dropped (by omega) (by unfold maxLen at *; omega) hce2 (by omega)
  have HC1 := Lib.hid hc1
  have HC2 := Lib.hid hc2
  have HAT := Lib.hid hat2
  have HPB := Lib.hid hpb2
  have HE := Lib.hid hE2
  have hnz : ¬ ((most : Nat) : Int) < (n : Int) := by omega
  have hdl : Hid ((l2.drop n).length = l2.length - n) := Lib.hid (List.length_drop ..)
  try clear H0
  clear h hm he hb hl hc hcell hw1 hw2 hat hce hce2 hB hat2 hpb2 hE2 hc1 hc2 ho2 hpb1
  have hl2a : l2.length + 2 = l.length := by omega
  clear hl2
  go_enter Tryz.func110, Tryz.ntmps110
  go_wp2_with fail
  refine CN.out.mono ?_
  rintro e w' ⟨rfl, rfl⟩
  go_wp2_with fail
  refine CT.out.mono ?_
  rintro e w' ⟨rfl, hq⟩
  obtain rfl := hq.symm
  go_wp2_with fail
  refine CC.out.mono ?_
  rintro e w3 ⟨v3, rfl, hr3, hn3, hc3⟩
  obtain ⟨a3, k3, he3, _⟩ := hr3.bytes
  have hpb3 := hc3.keep HPB.out (by simp)
  have p0 := blk_cell hpb3 0 _ rfl
  have p1 := blk_frozen hpb3 0
  have hpl := blk_lt hpb3
  have hgs : w.heap.size ≤ w2.heap.size := Nat.le_trans HC1.out.size HC2.out.size
  have HR3 := Lib.hid hr3
  have HN3 := Lib.hid hn3
  have HC3 := Lib.hid hc3
  have HPB3 := Lib.hid hpb3
  rw [hlen3.out] at he3
  obtain rfl := he3
  clear hr3 hn3 hc3 hpb3
  go_wp2
  go_end0
  have hpbl : pb < w2.heap.size := blk_lt HPB.out
  have hset : Chg [pb] w3 (w3.setCell ⟨pb, 0, none⟩ (.slice a3 n k3)) := (Chg.refl _ _).setCell (.inl (by simp)) _
  refine ⟨rfl, _, (if cap - 2 = n then o2 else o2 + n), (cap - 2 - n), HR3.out.keep (fun k hk => hset.block k (HR3.out.lt k hk) (by simp; have := HN3.out k hk; omega)), fun k hk => Nat.le_trans hgs (HN3.out k hk), ?_, set_blk HPB3.out, ?_, ?_⟩
  · refine ((HC1.out.mono (by simp)).trans (HC2.out.mono (by simp)) (fun x hx => .inl hx)).trans ((HC3.out.mono (by simp)).trans hset (T := [pb]) (S := [pb]) (fun x hx => .inl hx)) (fun x hx => .inl (by simp at hx; simp [hx]))
  · rw [hdl.out]
    exact blk_sets (HC3.out.keep HAT.out (by simp)) (fun e => hpb e.symm)
  · rw [hdl.out]
    have hgl2 : g < w2.heap.size := Nat.lt_of_lt_of_le hgl hgs
    refine HE.out.keep ((hset.block g (Nat.lt_of_lt_of_le hgl2 HC3.out.size) ?_).trans (HC3.out.block g hgl2 (by simp)))
    simp; exact fun e => hpg e.symm
end Go.Proofs.YtaiihklfeoeoeaaGreat.W
namespace Go.Proofs.YtaiihklfeoeoeaaGreat.W
open Go.RowKit
set_option linter.unusedVariables false
set_option linter.unusedSimpArgs false

/-- What Raw leaves. -/
def RawLeft (w w' : World) (b g pb : Nat) (r : List UInt8 × List UInt8 × Int) : Prop :=
  ∃ v, Chg [b, pb] w w' ∧ EyeAt w' b g r.2.1 r.2.2 ∧ w'.heap[pb]? = some (.cells #[v] 38 (0, 0)) ∧ BRow w' v r.1 ∧ ∀ k, v.ownBlock = some k → w.heap.size ≤ k

set_option maxHeartbeats 4000000 in
set_option maxRecDepth 100000 in
theorem eraw_any (b g : Nat) (l : List UInt8) (bad : Int) (most : Nat) (w : World) (h : EyeAt w b g l bad) (hmo : most ≤ 1000000) :
    Calls Tryz.prog 89 #[.pointer (some ⟨b, 0, none⟩), .int .i64 (most : Int)] w fun e w' => ∃ v, e = .returned v ∧ BRow w' v (eyeRaw l bad most).1 ∧ (∀ k, v.ownBlock = some k → w.heap.size ≤ k) ∧
      EyeAt w' b g (eyeRaw l bad most).2.1 (eyeRaw l bad most).2.2 ∧ Chg [b] w w' := by
  have hE := h
  obtain ⟨v, hb, hv, hgb, hg, hll⟩ := h
  have hbl := blk_lt hb
  obtain ⟨w3, hw3⟩ : ∃ w3, w3 = ((w.alloc (.cells #[.pointer (some ⟨b, 0, none⟩)] 43)).alloc (.cells #[.int .i64 most] 3)).alloc (.cells #[.slice none 0 0] 38) := ⟨_, rfl⟩
  have hs3 : w3.heap.size = w.heap.size + 3 := by rw [hw3]; simp
  have hb3 : w3.heap[b]? = some (.cells #[.bool true, v, .int .i64 bad] 88 (0, 0)) := by rw [hw3]; exact blk_alloc (blk_alloc (blk_alloc hb))
  have hpe : w3.heap[w.heap.size]? = some (.cells #[.pointer (some ⟨b, 0, none⟩)] 43 (0, 0)) := by rw [hw3]; exact blk_alloc (blk_alloc (heap_alloc_new w _))
  have hpm : w3.heap[w.heap.size + 1]? = some (.cells #[.int .i64 most] 3 (0, 0)) := by
    rw [hw3]
    have := heap_alloc_new (w.alloc (.cells #[.pointer (some ⟨b, 0, none⟩)] 43)) (.cells #[.int .i64 most] 3)
    exact blk_alloc (by simpa using this)
  have hpb : w3.heap[w.heap.size + 1 + 1]? = some (.cells #[.slice none 0 0] 38 (0, 0)) := by
    rw [hw3]
    have := heap_alloc_new ((w.alloc (.cells #[.pointer (some ⟨b, 0, none⟩)] 43)).alloc (.cells #[.int .i64 most] 3)) (.cells #[.slice none 0 0] 38)
    simpa using this
  have hc3 : Chg [b] w w3 := by rw [hw3]; exact (((Chg.refl [b] w).alloc _).alloc _).alloc _
  have hv3 : EyeV w3 v g l := hv.keepC hg hc3 (by simp; exact hgb)
  have hg3 := or_lt hg hc3
  obtain ⟨r, hr⟩ : ∃ r, r = eyeRaw l bad most := ⟨_, rfl⟩
  have CR : Hid (Calls Tryz.prog 86 #[.pointer (some ⟨b, 0, none⟩), .func (.func 110) #[] #[.pointer (some ⟨w.heap.size + 1, 0, none⟩), .pointer (some ⟨w.heap.size, 0, none⟩), .pointer (some ⟨w.heap.size + 1 + 1, 0, none⟩)]] w3
      fun e w' => e = .returned (.tuple #[]) ∧ Hid (RawLeft w3 w' b g (w.heap.size + 1 + 1) r)) := by
    have hgb3 : b < w3.heap.size := blk_lt hb3
    by_cases hbad : bad = 0
    · subst hbad
      by_cases hlen : l.length < 2
      · have hr' : r = ([], l, 2) := by rw [hr]; unfold eyeRaw; rw [if_neg (by simp), if_pos hlen]
        obtain ⟨a, cap, rfl⟩ := hv3.slice
        refine (read_panic b _ 110 _ w3 enters3 a l.length cap rfl 2 hb3 [] (by simp) ?_).mono ?_
        · refine (rstep_short b cap _ _ most _ _ _ a l.length (blk_alloc (blk_alloc hb3)) hlen (blk_alloc (blk_alloc hpm)) (blk_alloc (blk_alloc hpe))).mono ?_
          rintro e w' ⟨rfl, rfl⟩
          exact ⟨rfl, _, Chg.refl _ _, blk_alloc (blk_alloc hb3)⟩
        · rintro e w' ⟨rfl, hc, hh⟩
          rw [hr']
          exact ⟨rfl, _, hc.mono (by simp), ⟨_, hh, hv3.keepC hg3 hc (by simp; exact hgb), hgb, or_lt hg3 hc, hll⟩, hc.keep hpb (by simp; omega), BRow.nil _, by simp [Value.ownBlock]⟩
      · rcases hv3 with ⟨rfl, rfl⟩ | ⟨o, cap, rfl, hlc, hcm, hcell⟩
        · simp at hlen
        have hg4 : g < w.heap.size := by
          rcases hg with hg | hg
          · exact hg
          · cases hg
        obtain ⟨w5, hw5⟩ : ∃ w5, w5 = (w3.alloc (.cells #[.pointer (some ⟨b, 0, none⟩)] 43)).alloc (.cells #[.slice (some ⟨g, o, none⟩) l.length cap] 38) := ⟨_, rfl⟩
        have hc5 : Chg [] w3 w5 := by rw [hw5]; exact ((Chg.refl [] w3).alloc _).alloc _
        have hcell5 : ∀ i, i < l.length → w5.cell? ⟨g, o + i, none⟩ = some (bv (l.getD i 0)) := fun i hi => hc5.cell (hcell i hi) (by simp)
        have hpre : RawPre b g o cap (w.heap.size + 1) w.heap.size most l (.int .i64 0) w5 := ⟨hc5.keep hb3 (by simp), hgb, hlc, hcm, hcell5, by omega, hll, hc5.keep hpm (by simp), hc5.keep hpe (by simp), by omega, by omega⟩
        have hbW1 : (rawW1 b g o cap l w5).heap[b]? = _ := rawW1_at hpre
        have hcW1 : Chg [b] w5 (rawW1 b g o cap l w5) := (Chg.refl _ _).setCell (.inl (by simp)) _
        have hfail : ∀ x : Int, r = ([], l, x) → Hid (Calls Tryz.prog 110 #[.pointer (some ⟨w.heap.size + 1, 0, none⟩), .pointer (some ⟨w.heap.size, 0, none⟩), .pointer (some ⟨w.heap.size + 1 + 1, 0, none⟩)] w5 fun e w' => e = gaveUp x ∧ w' = rawW1 b g o cap l w5) →
            Calls Tryz.prog 86 #[.pointer (some ⟨b, 0, none⟩), .func (.func 110) #[] #[.pointer (some ⟨w.heap.size + 1, 0, none⟩), .pointer (some ⟨w.heap.size, 0, none⟩), .pointer (some ⟨w.heap.size + 1 + 1, 0, none⟩)]] w3
              fun e w' => e = .returned (.tuple #[]) ∧ Hid (RawLeft w3 w' b g (w.heap.size + 1 + 1) r) := by
          intro x hr' HX
          rw [hw5] at HX
          refine (read_panic b _ 110 _ w3 enters3 _ l.length cap rfl x hb3 [b] (by simpa using hgb3) (Lib.hid (HX.out.mono ?_))).mono ?_
          · rintro e w' ⟨rfl, rfl⟩
            rw [← hw5]
            exact ⟨rfl, _, hcW1, hbW1⟩
          · rintro e w' ⟨rfl, hc, hh⟩
            rw [hr']
            have hc' : Chg [b] w3 w' := hc.mono (by simp)
            exact ⟨rfl, _, hc.mono (by simp), ⟨_, hh, EyeV.keep (.inr ⟨o, cap, rfl, hlc, hcm, hcell⟩) (hc'.block g (by omega) (by simp; exact hgb)), hgb, or_lt hg3 hc, hll⟩, hc'.keep hpb (by simp; omega), BRow.nil _, by simp [Value.ownBlock]⟩
        by_cases hlong : most < beNum (l.take 2)
        · exact hfail 3 (by rw [hr]; unfold eyeRaw; rw [if_neg (by simp), if_neg hlen, if_pos hlong]) (Lib.hid (rstep_long b g o cap _ _ most l _ w5 hpre _ hlong))
        · by_cases hsh : (l.drop 2).length < beNum (l.take 2)
          · exact hfail 2 (by rw [hr]; unfold eyeRaw; rw [if_neg (by simp), if_neg hlen, if_neg hlong, if_pos hsh]) (Lib.hid (rstep_short2 b g o cap _ _ most l _ w5 hpre _ (by omega) hsh))
          · have hr' : r = ((l.drop 2).take (beNum (l.take 2)), (l.drop 2).drop (beNum (l.take 2)), 0) := by
              rw [hr]; unfold eyeRaw; rw [if_neg (by simp), if_neg hlen, if_neg hlong, if_neg hsh]
            have CS := rstep_ok b g o cap _ _ (w.heap.size + 1 + 1) most l _ w5 hpre (by omega) (by omega) (by omega) (hc5.keep hpb (by simp)) (by omega)
            rw [hw5] at CS
            refine (read_ret b _ 110 _ w3 enters3 _ _ _ rfl hb3 _ CS).mono ?_
            rintro e w' ⟨rfl, w1, hq, rfl⟩
            rw [← hw5] at hq
            obtain ⟨v', o', cap', q1, q2, q3, q4, q5, q6⟩ := hq
            have hq35 : Chg [b, w.heap.size + 1 + 1] w3 w1 := (hc5.mono (by simp)).trans q3 (fun x hx => .inl hx)
            have hca : Chg [] w1 (w1.alloc (.cells #[.int .i64 0] 140)) := (Chg.refl _ _).alloc _
            rw [hr']
            refine ⟨rfl, v', hq35.alloc _, ⟨_, blk_alloc q5, q6.keep (hca.block g (Nat.lt_of_lt_of_le (by omega) hq35.size) (by simp)), hgb, .inl (Nat.lt_of_lt_of_le (by omega) (hq35.alloc _).size), ?_⟩, blk_alloc q4, q1.keep (fun k hk => hca.block k (q1.lt k hk) (by simp)), fun k hk => Nat.le_trans hc5.size (q2 k hk)⟩
            show ((l.drop 2).drop _).length ≤ _
            rw [List.length_drop, List.length_drop]; omega
    · have hr' : r = ([], l, bad) := by rw [hr]; unfold eyeRaw; rw [if_pos hbad]
      refine (read_done b v bad 110 _ w3 hb3 hbad).mono ?_
      rintro e w' ⟨rfl, rfl⟩
      rw [hr']
      exact ⟨rfl, _, (Chg.refl _ _).alloc _, ⟨v, blk_alloc hb3, hv3.keepC hg3 ((Chg.refl [] w3).alloc _) (by simp), hgb, or_lt hg3 ((Chg.refl [] w3).alloc _), hll⟩, blk_alloc hpb, BRow.nil _, by simp [Value.ownBlock]⟩
  rw [← hr]
  have HC := Lib.hid hc3
  have HW := Lib.hid hw3
  have hmf : ∀ (fn : Fn) (first cap : Array Value) (w : World), (Instr.makeFunc fn first cap).run Tryz.prog w = .ok (.func fn first cap) w := fun _ _ _ _ => rfl
  clear hb hv hb3 hpe hpm hpb hc3 hr hE hw3 hv3
  go_enter Tryz.func89, Tryz.ntmps89
  go_wp2_with fail
  rw [← HW.out]
  refine CR.out.mono ?_
  rintro e w4 ⟨rfl, H4⟩
  obtain ⟨v4, k1, k2, k3, k4, k5⟩ := H4.out
  have x0 := blk_cell k3 0 _ rfl
  have HK := Lib.hid (And.intro k1 (And.intro k2 (And.intro k4 k5)))
  obtain ⟨a4, c4, hv4, _⟩ := k4.bytes
  have HV4 := Lib.hid hv4
  obtain rfl := hv4
  clear k1 k2 k3 k4 k5 H4 CR
  go_wp2
  go_ret
  refine ⟨_, rfl, HK.out.2.2.1, fun k hk => Nat.le_trans HC.out.size (HK.out.2.2.2 k hk), HK.out.2.1, HC.out.trans HK.out.1 (by
    intro x hx
    simp at hx
    rcases hx with rfl | rfl
    · exact .inl (by simp)
    · exact .inr (by omega))⟩
end Go.Proofs.YtaiihklfeoeoeaaGreat.W

/- Plain: reading back what was written; how deep a thing lies. -/
namespace Go.Proofs.YtaiihklfeoeoeaaGreat.W
open Go.RowKit
open Go.Proofs.YtaiihklfeoeoeaaGreat.NM
set_option linter.unusedVariables false
set_option linter.unusedSimpArgs false

theorem beNum2 {n : Nat} (hn : n < 65536) : beNum (beBytes 2 n) = n := by
  simp [beNum, beBytes, Nat.shiftRight_eq_div_pow]
  omega
theorem eyeNum_good {x : Nat} (hx : x < 65536) (r : List UInt8) : eyeNum (beBytes 2 x ++ r) 0 2 = ((x : Int), r, 0) := by
  have hl : (beBytes 2 x).length = 2 := beBytes_len 2 x
  unfold eyeNum
  rw [if_neg (by simp), if_neg (by rw [List.length_append, hl]; omega)]
  have h1 : (beBytes 2 x ++ r).take 2 = beBytes 2 x := by rw [← hl]; exact List.take_left
  have h2 : (beBytes 2 x ++ r).drop 2 = r := by rw [← hl]; exact List.drop_left
  rw [h1, h2, beNum2 hx]
theorem eyeNum_short {l : List UInt8} (h : l.length < 2) : eyeNum l 0 2 = (0, l, 2) := by
  unfold eyeNum
  rw [if_neg (by simp), if_pos h]
theorem eyeNum_bad (l : List UInt8) : eyeNum l 2 2 = (0, l, 2) := by unfold eyeNum; rw [if_pos (by decide)]
theorem eyeRaw_good {s : List UInt8} (hs : s.length ≤ 12) (r : List UInt8) : eyeRaw (beBytes 2 s.length ++ (s ++ r)) 0 12 = (s, r, 0) := by
  have hl : (beBytes 2 s.length).length = 2 := beBytes_len 2 _
  have h1 : (beBytes 2 s.length ++ (s ++ r)).take 2 = beBytes 2 s.length := by rw [← hl]; exact List.take_left
  have h2 : (beBytes 2 s.length ++ (s ++ r)).drop 2 = s ++ r := by rw [← hl]; exact List.drop_left
  unfold eyeRaw
  rw [if_neg (by simp), if_neg (by rw [List.length_append, hl]; omega), h1, h2, beNum2 (by omega), if_neg (by omega), if_neg (by rw [List.length_append]; omega), List.take_left, List.drop_left]
theorem eyeRaw_short {l : List UInt8} (h : l.length < 2) : eyeRaw l 0 12 = ([], l, 2) := by
  unfold eyeRaw
  rw [if_neg (by simp), if_pos h]
theorem eyeRaw_short2 {n : Nat} {q : List UInt8} (hn : n ≤ 12) (hq : q.length < n) : eyeRaw (beBytes 2 n ++ q) 0 12 = ([], beBytes 2 n ++ q, 2) := by
  have hl : (beBytes 2 n).length = 2 := beBytes_len 2 _
  have h1 : (beBytes 2 n ++ q).take 2 = beBytes 2 n := by rw [← hl]; exact List.take_left
  have h2 : (beBytes 2 n ++ q).drop 2 = q := by rw [← hl]; exact List.drop_left
  unfold eyeRaw
  rw [if_neg (by simp), if_neg (by rw [List.length_append, hl]; omega), h1, h2, beNum2 (by omega), if_neg (by omega), if_pos hq]
theorem eyeRaw_bad (l : List UInt8) : eyeRaw l 2 12 = ([], l, 2) := by unfold eyeRaw; rw [if_pos (by decide)]
theorem eyeBool_good (q : Bool) (r : List UInt8) : eyeBool ((if q then 1 else 0) :: r) 0 = (q, r, 0) := by
  unfold eyeBool
  cases q <;> simp
theorem eyeBool_bad (l : List UInt8) : eyeBool l 2 = (false, l, 2) := by unfold eyeBool; rw [if_pos (by decide)]

/-- A thing read: its number, its directory's, its name, its kind; what is left; the error. -/
def rdTh (l : List UInt8) : (Int × Int × List UInt8 × Bool) × List UInt8 × Int :=
  (((eyeNum l 0 2).1, (eyeNum (eyeNum l 0 2).2.1 (eyeNum l 0 2).2.2 2).1,
    (eyeRaw (eyeNum (eyeNum l 0 2).2.1 (eyeNum l 0 2).2.2 2).2.1 (eyeNum (eyeNum l 0 2).2.1 (eyeNum l 0 2).2.2 2).2.2 12).1,
    (eyeBool (eyeRaw (eyeNum (eyeNum l 0 2).2.1 (eyeNum l 0 2).2.2 2).2.1 (eyeNum (eyeNum l 0 2).2.1 (eyeNum l 0 2).2.2 2).2.2 12).2.1 (eyeRaw (eyeNum (eyeNum l 0 2).2.1 (eyeNum l 0 2).2.2 2).2.1 (eyeNum (eyeNum l 0 2).2.1 (eyeNum l 0 2).2.2 2).2.2 12).2.2).1),
   (eyeBool (eyeRaw (eyeNum (eyeNum l 0 2).2.1 (eyeNum l 0 2).2.2 2).2.1 (eyeNum (eyeNum l 0 2).2.1 (eyeNum l 0 2).2.2 2).2.2 12).2.1 (eyeRaw (eyeNum (eyeNum l 0 2).2.1 (eyeNum l 0 2).2.2 2).2.1 (eyeNum (eyeNum l 0 2).2.1 (eyeNum l 0 2).2.2 2).2.2 12).2.2).2)
structure Fits (x : Th) : Prop where
  ino : x.ino < 65536
  dir : x.dir < 65536
  name : x.name.length ≤ 12
theorem rd_good {x : Th} (h : Fits x) (r : List UInt8) : rdTh (thB x ++ r) = (((x.ino : Int), (x.dir : Int), x.name, x.isDir), r, 0) := by
  have e : thB x ++ r = beBytes 2 x.ino ++ (beBytes 2 x.dir ++ (beBytes 2 x.name.length ++ (x.name ++ ((if x.isDir then 1 else 0) :: r)))) := by simp [thB]
  unfold rdTh
  rw [e, eyeNum_good h.ino]
  simp only
  rw [eyeNum_good h.dir]
  simp only
  rw [eyeRaw_good h.name]
  simp only
  rw [eyeBool_good]
theorem cut2 {a b l r : List UInt8} (h : a ++ b = l ++ r) : (∃ m, l = a ++ m ∧ b = m ++ r) ∨ l.length < a.length := by
  by_cases hl : l.length < a.length
  · exact .inr hl
  · left
    rcases List.append_eq_append_iff.1 h with ⟨m, h1, h2⟩ | ⟨m, h1, h2⟩
    · exact ⟨m, h1, h2⟩
    · have hm : m = [] := by
        have := congrArg List.length h1
        rw [List.length_append] at this
        exact List.length_eq_zero_iff.1 (by omega)
      subst hm
      exact ⟨[], by simpa using h1.symm, by simpa using h2.symm⟩
theorem rd_short {x : Th} (h : Fits x) {l m r : List UInt8} (hl : thB x ++ m = l ++ r) (hs : l.length < (thB x).length) : (rdTh l).2.2 = 2 := by
  have e : beBytes 2 x.ino ++ (beBytes 2 x.dir ++ (beBytes 2 x.name.length ++ (x.name ++ ((if x.isDir then 1 else 0) :: m)))) = l ++ r := by rw [← hl]; simp [thB]
  rw [thB_len] at hs
  unfold rdTh
  rcases cut2 e with ⟨l1, rfl, e1⟩ | hc
  · rw [eyeNum_good h.ino]
    simp only
    rw [List.length_append, beBytes_len] at hs
    rcases cut2 e1 with ⟨l2, rfl, e2⟩ | hc
    · rw [eyeNum_good h.dir]
      simp only
      rw [List.length_append, beBytes_len] at hs
      rcases cut2 e2 with ⟨l3, rfl, e3⟩ | hc
      · rw [List.length_append, beBytes_len] at hs
        rcases cut2 e3 with ⟨l4, rfl, e4⟩ | hc
        · rw [eyeRaw_good h.name]
          simp only
          rw [List.length_append] at hs
          obtain rfl : l4 = [] := List.length_eq_zero_iff.1 (by omega)
          rfl
        · rw [eyeRaw_short2 h.name hc]
          simp only
          rw [eyeBool_bad]
      · rw [beBytes_len] at hc
        rw [eyeRaw_short hc]
        simp only
        rw [eyeBool_bad]
    · rw [beBytes_len] at hc
      rw [eyeNum_short hc]
      simp only
      rw [eyeRaw_bad]
      simp only
      rw [eyeBool_bad]
  · rw [beBytes_len] at hc
    rw [eyeNum_short hc]
    simp only
    rw [eyeNum_bad]
    simp only
    rw [eyeRaw_bad]
    simp only
    rw [eyeBool_bad]
theorem TOk.fits {T : PT} (h : TOk T) {x : Th} (hx : x ∈ T) : Fits x := by
  have h1 := h.nums x hx
  have h2 := has_small h (dir_has (h.dirs x hx))
  exact ⟨by omega, by omega, (may_len (h.may x hx)).2⟩
theorem drop_cons {T : PT} {k : Nat} {x : Th} (hx : T[k]? = some x) : thBs (T.drop k) = thB x ++ thBs (T.drop (k + 1)) := by
  obtain ⟨hk, rfl⟩ := List.getElem?_eq_some_iff.1 hx
  rw [List.drop_eq_getElem_cons hk]
  rfl

/-! ### How deep -/
inductive ReachN (T : PT) : Nat → Nat → Prop
  | root : ReachN T 1 0
  | step {x : Th} {n : Nat} : x ∈ T → ReachN T x.dir n → ReachN T x.ino (n + 1)
theorem reachN {T : PT} {a : Nat} (h : Reach T a) : ∃ n, ReachN T a n := by
  induction h with
  | root => exact ⟨0, .root⟩
  | step hx _ ih =>
    obtain ⟨n, hn⟩ := ih
    exact ⟨n + 1, .step hx hn⟩
theorem reachN_zero {T : PT} (hT : TOk T) {a n : Nat} (h : ReachN T a n) : a = 1 ↔ n = 0 := by
  cases h with
  | root => simp
  | step hx _ =>
    have := (hT.nums _ hx).1
    constructor
    · intro e; omega
    · intro e; omega
theorem reachN_pred {T : PT} (hT : TOk T) {x : Th} (hx : x ∈ T) {n : Nat} (h : ReachN T x.ino (n + 1)) : ReachN T x.dir n := by
  generalize ha : x.ino = a at h
  generalize hm : n + 1 = m at h
  cases h with
  | root => omega
  | step hy hr =>
    obtain rfl := ino_inj hT hx hy ha
    simp only [Nat.add_right_cancel_iff] at hm
    subst hm
    exact hr
theorem reachN_det {T : PT} (hT : TOk T) : ∀ (n m a : Nat), ReachN T a n → ReachN T a m → n = m
  | 0, m, a, h, k => by
    have := (reachN_zero hT h).2 rfl
    exact ((reachN_zero hT k).1 this).symm
  | n + 1, 0, a, h, k => by
    have := (reachN_zero hT k).2 rfl
    exact (reachN_zero hT h).1 this
  | n + 1, m + 1, a, h, k => by
    have h0 := h
    cases h0 with
    | step hx hr =>
      rw [reachN_det hT n m _ hr (reachN_pred hT hx k)]
theorem nodup_len : ∀ (L M : List Nat), L.Nodup → (∀ y ∈ L, y ∈ M) → L.length ≤ M.length
  | [], M, _, _ => by simp
  | x :: L, M, hn, hs => by
    have hn' := List.nodup_cons.1 hn
    have hx := hs x (List.mem_cons_self ..)
    have := nodup_len L (M.erase x) hn'.2 (fun y hy => (List.mem_erase_of_ne (fun (e : y = x) => by subst e; exact hn'.1 hy)).2 (hs y (List.mem_cons_of_mem _ hy)))
    rw [List.length_erase_of_mem hx] at this
    have := List.length_pos_of_mem hx
    simp; omega
theorem reachN_chain {T : PT} (hT : TOk T) {a n : Nat} (h : ReachN T a n) : ∃ L : List Nat, L.length = n ∧ L.Nodup ∧ ∀ y ∈ L, y ∈ T.map (·.ino) ∧ ∃ k, k ≤ n ∧ ReachN T y k := by
  induction h with
  | root => exact ⟨[], rfl, List.nodup_nil, by simp⟩
  | step hx hr ih =>
    rename_i x n
    obtain ⟨L, h1, h2, h3⟩ := ih
    refine ⟨x.ino :: L, by simp [h1], List.nodup_cons.2 ⟨fun hm => ?_, h2⟩, fun y hy => ?_⟩
    · obtain ⟨_, k, hk, hr2⟩ := h3 _ hm
      have := reachN_det hT _ _ _ hr2 (.step hx hr)
      omega
    · rcases List.mem_cons.1 hy with rfl | hy
      · exact ⟨List.mem_map.2 ⟨x, hx, rfl⟩, n + 1, Nat.le_refl _, .step hx hr⟩
      · obtain ⟨g1, k, g2, g3⟩ := h3 y hy
        exact ⟨g1, k, by omega, g3⟩
theorem reachN_le {T : PT} (hT : TOk T) {a n : Nat} (h : ReachN T a n) : n ≤ T.length := by
  obtain ⟨L, h1, h2, h3⟩ := reachN_chain hT h
  have := nodup_len L (T.map (·.ino)) h2 (fun y hy => (h3 y hy).1)
  rw [List.length_map] at this
  omega
/-- One step up. -/
theorem up_step {T : PT} (hT : TOk T) {a n : Nat} (h : ReachN T a n) (ha : a ≠ 1) : ∃ m, n = m + 1 ∧ ReachN T (thOf T a).dir m := by
  have h0 := h
  cases h0 with
  | root => exact absurd rfl ha
  | step hx hr => exact ⟨_, rfl, by rw [thOf_mem hT hx]; exact hr⟩

/-! ### Beginnings of a row of things -/
theorem get_snoc {U : PT} {x : Th} (hU : ∀ y ∈ U, y.ino ≠ x.ino) (a : Nat) : tGet (U ++ [x]) a = if a = x.ino then some x else tGet U a := by
  unfold tGet
  rw [List.find?_append]
  by_cases e : a = x.ino
  · subst e
    rw [if_pos rfl, List.find?_eq_none.2 (fun y hy => by simpa using hU y hy)]
    simp
  · rw [if_neg e]
    have : (x.ino == a) = false := by simpa using fun h => e h.symm
    simp [List.find?_cons, this]
theorem has_snoc {U : PT} {x : Th} (a : Nat) : tHas (U ++ [x]) a = true ↔ a = x.ino ∨ tHas U a = true := by
  rw [has_iff, has_iff]
  constructor
  · rintro (h | ⟨y, hy, rfl⟩)
    · exact .inr (.inl h)
    · rcases List.mem_append.1 hy with hy | hy
      · exact .inr (.inr ⟨y, hy, rfl⟩)
      · simp at hy; subst hy; exact .inl rfl
  · rintro (rfl | h | ⟨y, hy, rfl⟩)
    · exact .inr ⟨x, by simp, rfl⟩
    · exact .inl h
    · exact .inr ⟨y, by simp [hy], rfl⟩
theorem isDir_snoc {U : PT} {x : Th} (hU : ∀ y ∈ U, y.ino ≠ x.ino) (h1 : x.ino ≠ 1) (a : Nat) : tIsDir (U ++ [x]) a = if a = x.ino then x.isDir else tIsDir U a := by
  unfold tIsDir
  rw [get_snoc hU]
  by_cases e : a = x.ino
  · subst e
    rw [if_pos rfl, if_pos rfl]
    have : (x.ino == 1) = false := by simpa using h1
    rw [this]; rfl
  · rw [if_neg e, if_neg e]
theorem thOf_snoc {U : PT} {x : Th} (hU : ∀ y ∈ U, y.ino ≠ x.ino) (h1 : x.ino ≠ 1) (a : Nat) : thOf (U ++ [x]) a = if a = x.ino then x else thOf U a := by
  unfold thOf
  rw [get_snoc hU]
  by_cases e : a = x.ino
  · subst e
    rw [if_neg h1, if_pos rfl, if_pos rfl]; rfl
  · rw [if_neg e, if_neg e]
theorem kidOf_snoc {U : PT} {x : Th} (hU : tKidOf U x.dir x.name = none) (d : Nat) (s : List UInt8) : tKidOf (U ++ [x]) d s = if d = x.dir ∧ s = x.name then some x else tKidOf U d s := by
  unfold tKidOf
  rw [List.find?_append]
  by_cases e : d = x.dir ∧ s = x.name
  · obtain ⟨rfl, rfl⟩ := e
    unfold tKidOf at hU
    rw [if_pos ⟨rfl, rfl⟩, hU]
    simp
  · rw [if_neg e]
    have : (x.dir == d && x.name == s) = false := by
      rw [Bool.and_eq_false_iff]
      by_cases e1 : d = x.dir
      · right
        simpa using fun h => e ⟨e1, h.symm⟩
      · left
        simpa using fun h => e1 h.symm
    simp [List.find?_cons, this]
theorem kids_snoc (U : PT) (x : Th) (a : Nat) : nKids (U ++ [x]) a = nKids U a + if x.dir = a then 1 else 0 := by
  unfold nKids
  rw [List.filter_append, List.length_append]
  by_cases e : x.dir = a <;> simp [e]
end Go.Proofs.YtaiihklfeoeoeaaGreat.W

/- A tree that is being read: all things lie there, some are joined to their directories. -/
namespace Go.Proofs.YtaiihklfeoeoeaaGreat.W
open Go.RowKit
open Go.Proofs.YtaiihklfeoeoeaaGreat.NM
set_option linter.unusedVariables false
set_option linter.unusedSimpArgs false

structure Half (w : World) (t : Nat) (S : List Nat) (T J : PT) (bm : Nat) (f g : Nat → Nat) : Prop where
  head : w.heap[t]? = some (.cells #[.map (some bm)] 55 (0, 0))
  things : MapF 3 klI okI w bm (φT T f) (T.length + 1)
  each : ∀ a, tHas T a = true → w.heap[f a]? = some (.cells (thCells (thOf T a) (if tIsDir T a then some (g a) else none)) 94 (0, 0))
  ins : ∀ a, tIsDir T a = true → MapF 9 klS okS w (g a) (φK J a) (nKids J a)
  finj : ∀ a b, tHas T a = true → tHas T b = true → f a = f b → a = b
  ginj : ∀ a b, tIsDir T a = true → tIsDir T b = true → g a = g b → a = b
  gm : ∀ a, tIsDir T a = true → g a ≠ bm
  mem : t ∈ S ∧ bm ∈ S ∧ (∀ a, tHas T a = true → f a ∈ S) ∧ ∀ a, tIsDir T a = true → g a ∈ S
  lim : ∀ x ∈ S, x < w.heap.size
  few : ∀ x ∈ T, 2 ≤ x.ino ∧ x.ino ≤ 128
theorem TreeOk.half {w : World} {t : Nat} {S : List Nat} {T : PT} {bm : Nat} {f g : Nat → Nat} (h : TreeOk w t S T bm f g) : Half w t S T T bm f g := ⟨h.head, h.things, h.each, h.ins, h.finj, h.ginj, h.gm, h.mem, h.lim, h.ok.nums⟩
theorem Half.whole {w : World} {t : Nat} {S : List Nat} {T : PT} {bm : Nat} {f g : Nat → Nat} (h : Half w t S T T bm f g) (hT : TOk T) : TreeOk w t S T bm f g := ⟨h.head, h.things, h.each, h.ins, h.finj, h.ginj, h.gm, h.mem, h.lim, hT⟩
theorem Half.keep {w w' : World} {t : Nat} {S R : List Nat} {T J : PT} {bm : Nat} {f g : Nat → Nat} (h : Half w t S T J bm f g) (hc : Chg R w w') (ha : ∀ x ∈ S, x ∉ R) : Half w' t S T J bm f g where
  head := hc.keep h.head (ha _ h.mem.1)
  things := h.things.chg hc (ha _ h.mem.2.1)
  each a ha' := hc.keep (h.each a ha') (ha _ (h.mem.2.2.1 a ha'))
  ins a ha' := (h.ins a ha').chg hc (ha _ (h.mem.2.2.2 a ha'))
  finj := h.finj
  ginj := h.ginj
  gm := h.gm
  mem := h.mem
  lim x hx := Nat.lt_of_lt_of_le (h.lim x hx) hc.size
  few := h.few
theorem Half.keep0 {w w' : World} {t : Nat} {S : List Nat} {T J : PT} {bm : Nat} {f g : Nat → Nat} (h : Half w t S T J bm f g) (hc : Chg [] w w') : Half w' t S T J bm f g := h.keep hc (by simp)
theorem Half.small {w : World} {t : Nat} {S : List Nat} {T J : PT} {bm : Nat} {f g : Nat → Nat} (h : Half w t S T J bm f g) {a : Nat} (ha : tHas T a = true) : 1 ≤ a ∧ a ≤ 128 := by
  rcases has_iff.1 ha with rfl | ⟨x, hx, rfl⟩
  · omega
  · have := h.few x hx; omega
theorem Half.at {w : World} {t : Nat} {S : List Nat} {T J : PT} {bm : Nat} {f g : Nat → Nat} (h : Half w t S T J bm f g) {a : Nat} (ha : tHas T a = true) :
    (Instr.lookup 53 (.map (some bm)) (.int .i64 (a : Int)) false).run Tryz.prog w = .ok (.pointer (some ⟨f a, 0, none⟩)) w := by
  have hs := h.small ha
  have := h.things.look keInt Tryz.underlying53 zeroPT (x := (a : Int)) (i64_ok (by omega) (by omega))
  rw [φT_has ha] at this
  exact this
theorem Half.kid {w : World} {t : Nat} {S : List Nat} {T J : PT} {bm : Nat} {f g : Nat → Nat} (h : Half w t S T J bm f g) {a : Nat} (ha : tIsDir T a = true) (s : List UInt8) (hs : s.length ≤ maxLen) :
    (Instr.lookup 92 (.map (some (g a))) (.string ⟨s.toArray⟩) true).run Tryz.prog w = .ok (.tuple #[.int .i64 (tKid J a s : Int), .bool (tKidOf J a s).isSome]) w := by
  have := (h.ins a ha).lookOk keStr Tryz.underlying92 zeroInt (x := s) hs
  have e1 : (φK J a s).getD (.int .i64 0) = .int .i64 (tKid J a s : Int) := by
    unfold φK tKid
    cases tKidOf J a s <;> rfl
  have e2 : (φK J a s).isSome = (tKidOf J a s).isSome := by
    unfold φK
    cases tKidOf J a s <;> rfl
  rw [e1, e2] at this
  exact this
theorem Half.cells {w : World} {t : Nat} {S : List Nat} {T J : PT} {bm : Nat} {f g : Nat → Nat} (h : Half w t S T J bm f g) {a : Nat} (ha : tHas T a = true) :
    w.cell? ⟨f a, 0, none⟩ = some (.int .i64 ((thOf T a).dir : Int)) ∧ w.cell? ⟨f a, 1, none⟩ = some (.string ⟨(thOf T a).name.toArray⟩) ∧ w.cell? ⟨f a, 2, none⟩ = some (.bool (tIsDir T a)) ∧ w.cell? ⟨f a, 3, none⟩ = some (.map (if tIsDir T a then some (g a) else none)) :=
  ⟨blk_cell (h.each a ha) 0 _ rfl, blk_cell (h.each a ha) 1 _ rfl, blk_cell (h.each a ha) 2 _ (by rw [isDir_thOf a ha]; rfl), blk_cell (h.each a ha) 3 _ rfl⟩

/-- A thing joined. -/
theorem Half.join {w w' : World} {t : Nat} {S : List Nat} {T U : PT} {bm : Nat} {f g : Nat → Nat} (h : Half w t S T U bm f g) {y : Th} (hk : tKidOf U y.dir y.name = none) (hd : tIsDir T y.dir = true)
    (hg : MapF 9 klS okS w' (g y.dir) (updF (φK U y.dir) y.name (.int .i64 (y.ino : Int))) (nKids U y.dir + 1)) (hc : Chg [g y.dir] w w') : Half w' t S T (U ++ [y]) bm f g where
  head := hc.keep h.head (by simpa using ne_map (h.ins _ hd) (blk_cell h.head 0 _ rfl))
  things := h.things.chg hc (by simpa using fun e => h.gm _ hd e.symm)
  each a ha := hc.keep (h.each a ha) (by simpa using ne_map (h.ins _ hd) (h.cells ha).1)
  ins a ha := by
    by_cases e2 : a = y.dir
    · subst e2
      refine hg.congr (by rw [kids_snoc, if_pos rfl]) (fun s _ => ?_)
      by_cases e3 : s = y.name
      · subst e3
        rw [updF_self]; unfold φK
        rw [kidOf_snoc hk, if_pos ⟨rfl, rfl⟩]; rfl
      · rw [updF_other _ _ e3]; unfold φK
        rw [kidOf_snoc hk, if_neg (fun hh => e3 hh.2)]
    · refine ((h.ins a ha).chg hc (by simpa using fun e3 => e2 (h.ginj _ _ ha hd e3))).congr (by rw [kids_snoc, if_neg (fun hh => e2 hh.symm)]; rfl) (fun s _ => ?_)
      unfold φK
      rw [kidOf_snoc hk, if_neg (fun hh => e2 hh.1)]
  finj := h.finj
  ginj := h.ginj
  gm := h.gm
  mem := h.mem
  lim x hx := Nat.lt_of_lt_of_le (h.lim x hx) hc.size
  few := h.few

/-- A thing read. -/
theorem Half.more {w w' : World} {t : Nat} {S : List Nat} {T : PT} {bm : Nat} {f g : Nat → Nat} (h : Half w t S T [] bm f g) {y : Th} (hy : ∀ x ∈ T, x.ino ≠ y.ino) (hn2 : 2 ≤ y.ino ∧ y.ino ≤ 128)
    {px gx : Nat} (hpx : w.heap.size ≤ px) (hgx : w.heap.size ≤ gx) (hpl : px < w'.heap.size) (hgl : gx < w'.heap.size)
    (hm : MapF 3 klI okI w' bm (updF (φT T f) (y.ino : Int) (pth px)) (T.length + 2))
    (hb : w'.heap[px]? = some (.cells (thCells y (if y.isDir then some gx else none)) 94 (0, 0))) (hn : y.isDir = true → MapF 9 klS okS w' gx (fun _ => none) 0) (hc : Chg [bm] w w') :
    Half w' t (S ++ [px, gx]) (T ++ [y]) [] bm (fun a => if a = y.ino then px else f a) (fun a => if a = y.ino then gx else g a) := by
  have hne : ∀ a, tHas T a = true → a ≠ y.ino := fun a ha e => by
    subst e
    rcases has_iff.1 ha with h1 | ⟨x, hx, h1⟩
    · omega
    · exact hy x hx h1
  have hy1 : y.ino ≠ 1 := by omega
  have hdirne : ∀ a, tIsDir T a = true → a ≠ y.ino := fun a ha => hne a (dir_has ha)
  have hfx : ∀ a, tHas T a = true → (if a = y.ino then px else f a) = f a := fun a ha => if_neg (hne a ha)
  have hdT : ∀ a, a ≠ y.ino → tIsDir (T ++ [y]) a = tIsDir T a := fun a ha => by rw [isDir_snoc hy hy1, if_neg ha]
  have hglt : ∀ a, tIsDir T a = true → g a < w.heap.size := fun a ha => (h.ins a ha).lt
  exact {
    head := hc.keep h.head (by simpa using ne_map h.things (blk_cell h.head 0 _ rfl))
    things := hm.congr (by simp) (fun x hx => by
      by_cases e : x = (y.ino : Int)
      · subst e
        rw [updF_self, φT_has ((has_snoc _).2 (.inl rfl)), if_pos rfl]
      · rw [updF_other _ _ e]
        unfold φT
        by_cases e0 : 0 ≤ x
        · have e1 : x.toNat ≠ y.ino := by omega
          by_cases e2 : tHas T x.toNat = true
          · rw [if_pos ⟨e0, e2⟩, if_pos ⟨e0, (has_snoc _).2 (.inr e2)⟩]
            show some (pth (f x.toNat)) = some (pth (if x.toNat = y.ino then px else f x.toNat))
            rw [if_neg e1]
          · rw [if_neg (fun hh => e2 hh.2), if_neg (fun hh => by
              rcases (has_snoc _).1 hh.2 with h1 | h1
              · exact e1 h1
              · exact e2 h1)]
        · rw [if_neg (fun hh => e0 hh.1), if_neg (fun hh => e0 hh.1)])
    each := fun a ha => by
      rcases (has_snoc a).1 ha with rfl | ha'
      · simp only [if_pos]
        rw [thOf_snoc hy hy1, if_pos rfl, isDir_snoc hy hy1, if_pos rfl]; exact hb
      · have hna := hne a ha'
        simp only [if_neg hna]
        rw [thOf_snoc hy hy1, if_neg hna, hdT a hna]
        exact hc.keep (h.each a ha') (by simpa using ne_map h.things (h.cells ha').1)
    ins := fun a ha => by
      by_cases e : a = y.ino
      · subst e
        rw [isDir_snoc hy hy1, if_pos rfl] at ha
        simp only [if_pos]
        exact (hn ha).congr rfl (fun s _ => rfl)
      · rw [hdT a e] at ha
        simp only [if_neg e]
        exact (h.ins a ha).chg hc (by simpa using h.gm a ha)
    finj := fun a b ha hb' e => by
      rcases (has_snoc a).1 ha with rfl | ha'
      · rcases (has_snoc b).1 hb' with rfl | hb''
        · rfl
        · rw [if_pos rfl, hfx b hb''] at e
          have := blk_lt (h.each b hb''); omega
      · rcases (has_snoc b).1 hb' with rfl | hb''
        · rw [hfx a ha', if_pos rfl] at e
          have := blk_lt (h.each a ha'); omega
        · rw [hfx a ha', hfx b hb''] at e
          exact h.finj a b ha' hb'' e
    ginj := fun a b ha hb' e => by
      by_cases ea : a = y.ino
      · by_cases eb : b = y.ino
        · rw [ea, eb]
        · rw [hdT b eb] at hb'
          rw [if_pos ea, if_neg eb] at e
          have := hglt b hb'; omega
      · rw [hdT a ea] at ha
        by_cases eb : b = y.ino
        · rw [if_neg ea, if_pos eb] at e
          have := hglt a ha; omega
        · rw [hdT b eb] at hb'
          rw [if_neg ea, if_neg eb] at e
          exact h.ginj a b ha hb' e
    gm := fun a ha => by
      by_cases ea : a = y.ino
      · rw [if_pos ea]
        have := h.things.lt; omega
      · rw [hdT a ea] at ha
        rw [if_neg ea]; exact h.gm a ha
    mem := by
      refine ⟨List.mem_append_left _ h.mem.1, List.mem_append_left _ h.mem.2.1, fun a ha => ?_, fun a ha => ?_⟩
      · rcases (has_snoc a).1 ha with rfl | ha'
        · rw [if_pos rfl]; simp
        · rw [hfx a ha']; exact List.mem_append_left _ (h.mem.2.2.1 a ha')
      · by_cases ea : a = y.ino
        · rw [if_pos ea]; simp
        · rw [hdT a ea] at ha
          rw [if_neg ea]; exact List.mem_append_left _ (h.mem.2.2.2 a ha)
    lim := fun x hx => by
      rcases List.mem_append.1 hx with hx | hx
      · exact Nat.lt_of_lt_of_le (h.lim x hx) hc.size
      · simp at hx
        rcases hx with rfl | rfl
        · exact hpl
        · exact hgl
    few := fun x hx => by
      rcases List.mem_append.1 hx with hx | hx
      · exact h.few x hx
      · simp at hx; subst hx; exact hn2 }

set_option maxHeartbeats 2000000 in
set_option maxRecDepth 100000 in
theorem hmade_any {w : World} {t bm : Nat} (h : w.heap[t]? = some (.cells #[.map (some bm)] 55 (0, 0))) : Calls Tryz.prog 31 #[.pointer (some ⟨t, 0, none⟩)] w fun e w' => e = .returned (.bool true) ∧ w = w' := by
  have c0 := blk_cell h 0 _ rfl
  clear h
  have hq : ∀ w, (binOp .neq 53 (.map (some bm)) (.map none)).run Tryz.prog w = .ok (.bool true) w := fun w => run_neq_map_nil w 53 3 51 (some bm) Tryz.underlying53
  go_enter Tryz.func31, Tryz.ntmps31
  go_wp2
  go_ret
  exact ⟨rfl, rfl⟩
set_option maxHeartbeats 4000000 in
set_option maxRecDepth 100000 in
theorem hinos_any (t : Nat) (S : List Nat) (T J : PT) (bm : Nat) (f g : Nat → Nat) (w : World) (hT : TOk T) (h : Half w t S T J bm f g) : Calls Tryz.prog 10 #[.pointer (some ⟨t, 0, none⟩)] w (InosPost w (inosL T)) := by
  have hok := Lib.hid hT
  have hlim := Lib.hid h.lim
  have hlen : T.length ≤ 127 := by
    have h1 := least_le T 2
    have h2 := hT.nums
    have h3 := hT.rise
    have : ∀ (U : PT) (n : Nat), U.Pairwise (fun x y => x.ino < y.ino) → (∀ x ∈ U, n ≤ x.ino ∧ x.ino ≤ 128) → U = [] ∨ n + U.length ≤ 129 := by
      intro U
      induction U with
      | nil => intro n _ _; exact .inl rfl
      | cons y r ih =>
        intro n hp hm
        right
        have hp' := List.pairwise_cons.1 hp
        have hy := hm y (List.mem_cons_self ..)
        rcases ih (n + 1) hp'.2 (fun x hx => ⟨by have := hp'.1 x hx; omega, (hm x (List.mem_cons_of_mem _ hx)).2⟩) with h4 | h4
        · subst h4; simp; omega
        · simp; omega
    rcases this T 2 h3 h2 with h4 | h4
    · rw [h4]; simp
    · omega
  have HT := h
  have H := Lib.hid h
  clear h
  have c0 := blk_cell HT.head 0 _ rfl
  have hbl := HT.things.lt
  have htl := blk_lt HT.head
  have HM := Lib.hid HT.things
  have htb : t ≠ bm := ne_map HT.things (blk_cell HT.head 0 _ rfl)
  clear HT
  go_enter Tryz.func10, Tryz.ntmps10
  go_wp2_with fail
  refine (hmade_any H.out.head).mono ?_
  rintro e w' ⟨rfl, rfl⟩
  go_wp2_with (refine wpList_rng keInt _ rfl _ _ rfl 51 Tryz.underlying53 bm (T.length + 1) (φT T f) rfl HM.out ?_; intro w1 hr1 hc1 hs1; have HR1 := Lib.hid (And.intro hr1 (And.intro hc1 hs1)); clear hr1 hc1 hs1)
  go_frame
  go_loopg [3] (T.length + 1) (fun gh v3 wr => ∃ (v : Value) (ks : List Int) (left : Int → Bool) (cnt : Nat), v = v3 ∧ cnt ≤ gh ∧ ks.length + cnt ≤ T.length + 1 ∧ wr.ownsRow w.heap.size 3 1 v ks.length (ks.map (Value.int .i64)) ∧ Hid (Rng 3 klI okI wr bm w.heap.size (φT T f) (T.length + 1) left cnt) ∧
    Hid (ks.Nodup ∧ ∀ k, okI k → (k ∈ ks ↔ k ∈ inosL T ∧ left k = false)) ∧ Hid (∀ k ∈ ks, okI k) ∧ Hid (Chg [] w wr))
  case atStart =>
    refine ⟨_, [], _, _, rfl, Nat.le_refl _, by simp, World.ownsRow_nil _ _ _ _, Lib.hid HR1.out.1, Lib.hid ⟨List.nodup_nil, fun k hk => ?_⟩, Lib.hid (by simp), Lib.hid HR1.out.2.1⟩
    constructor
    · intro h; cases h
    · rintro ⟨h1, h2⟩
      rw [(φT_some (f := f) k).2 h1] at h2; cases h2
  case round =>
    obtain ⟨v3, ks, left, cnt, rfl, hcg, hkc, hown, HR, HK, HO, HC⟩ := hrel
    have hrne : some w.heap.size ≠ v3.ownBlock := by
      obtain ⟨D, lf, hr, _⟩ := HR.out
      exact row_ne_iter hown hr
    have HOWN := Lib.hid hown
    clear hown
    go_wp2_with (refine wpList_nxtI _ rfl _ rfl bm w.heap.size (T.length + 1) (φT T f) left cnt rfl HR.out ?_ ?_)
    · intro hc0 hl0
      have HALL : Hid (∀ k, k ∈ ks ↔ k ∈ inosL T) := Lib.hid (fun k => by
        constructor
        · intro hk
          exact ((HK.out.2 k (HO.out k hk)).1 hk).1
        · intro hk
          have hki : okI k := by
            rw [inosL_mem] at hk
            have := has_small hok.out hk.2
            exact i64_ok (by omega) (by omega)
          exact (HK.out.2 k hki).2 ⟨hk, hl0 k hki⟩)
      have HS : Hid (ks.mergeSort (fun x y => decide (x ≤ y)) = inosL T) := Lib.hid (sorted_inos hok.out HK.out.1 HALL.out)
      have HL : Hid (ks.length = T.length + 1) := Lib.hid (by
        have := congrArg List.length HS.out
        rw [List.length_mergeSort, inosL_len] at this; exact this)
      clear hc0 hl0
      obtain ⟨hl, hrow⟩ := HOWN.out
      rcases hrow with ⟨rfl, h0⟩ | ⟨gb, cap, cur, rfl, hbg, hgb, hnc, hcm, hcs, htake⟩
      · have := HL.out; omega
      · have hH := holds_of_blockI (ss := ks) hgb (by rw [Nat.mul_one] at htake; exact htake)
        have hlt := blk_lt hgb
        have HH := Lib.hid (And.intro hH (And.intro hgb (And.intro hnc (And.intro hcm hcs))))
        have hbase := hbg
        clear hl hH hgb hnc hcm hcs htake hbg hrne
        go_wp2_with fail
        refine (Tryz.slices_Sort_int gb 0 cap ks wr HH.out.1 hlt (by omega)).mono ?_
        rintro e w2 ⟨rfl, n, os, hw2⟩
        have HF : Hid (w2.ownsRow w.heap.size 3 1 (.slice (some ⟨gb, 0, none⟩) ks.length cap) ks.length ((inosL T).map (Value.int .i64)) ∧ Chg [] w w2) := Lib.hid (by
          rw [hw2, HS.out]
          refine ⟨ownsRow_sortedI (by rw [inosL_len, HL.out]) hbase HH.out.2.1 HH.out.2.2.1 HH.out.2.2.2.1 HH.out.2.2.2.2, ?_⟩
          exact (HC.out.grown (grownBy_sortedI _) (fun k hk => by cases hk; exact .inr hbase)))
        clear hw2
        go_wp2
        go_ret
        refine ⟨_, rfl, ?_, HF.out.2⟩
        have := HF.out.1
        rw [HL.out] at this
        rw [inosL_len, HL.out]
        exact this
    · intro x v w2 cnt2 hox hlx hvx hr2 hlt hc2 hs2 hen
      have HX : Hid (x ∈ inosL T ∧ x ∉ ks ∧ okI x) := Lib.hid (by
        have h1 := (φT_some (f := f) x).1 (by rw [hvx]; rfl)
        refine ⟨h1, fun hk => ?_, hox⟩
        have := ((HK.out.2 x hox).1 hk).2
        rw [hlx] at this; cases this)
      have HW2 := Lib.hid (And.intro hr2 (And.intro hc2 hs2))
      have hown2 := row_keep HOWN.out (w' := w2) (fun gq hq => hc2.block gq (World.ownsRow.lt HOWN.out gq hq).2 (by
        simp
        rintro rfl
        exact hrne hq.symm))
      have hbase : w.heap.size ≤ w2.heap.size := by
        have := HC.out.size
        rw [hs2]; omega
      clear hox hlx hvx hr2 hc2 hs2
      go_wp2_with (at_builtin; refine wpList_app1 rfl _ _ _ rfl w.heap.size elInts _ _ _ rfl hown2 _ #[.int .i64 x] rfl rfl (one1 rfl) (by unfold maxLen; omega) (by omega) hbase ?_; intro v4 w4 hown4 hg4)
      have HEND : Hid (Rng 3 klI okI w4 bm w.heap.size (φT T f) (T.length + 1) (fun y => !decide (y = x) && left y) cnt2 ∧ Chg [] w w4) := Lib.hid (by
        have hc24 : Chg (match v3.ownBlock with | some k => [k] | none => []) w2 w4 := by
          exact (Chg.refl (match v3.ownBlock with | some k => [k] | none => []) w2).grown hg4 (fun k hk => by
            have hk' : v3.ownBlock = some k := hk
            rw [hk']; exact .inl (by simp))
        have hrb : ∀ k, v3.ownBlock = some k → w.heap.size ≤ k ∧ k ≠ w.heap.size := fun k hk => ⟨(World.ownsRow.lt HOWN.out k hk).1, fun e => hrne (by rw [hk, e])⟩
        refine ⟨HW2.out.1.kept hc24 ?_ ?_, (HC.out.trans HW2.out.2.1 (fun z hz => ?_)).trans hc24 (fun z hz => ?_)⟩
        · cases hv : v3.ownBlock with
          | none => simp
          | some k => have := hrb k hv; simp; omega
        · cases hv : v3.ownBlock with
          | none => simp
          | some k => have := hrb k hv; simp; omega
        · simp at hz; right; omega
        · cases hv : v3.ownBlock with
          | none => rw [hv] at hz; simp at hz
          | some k => rw [hv] at hz; simp at hz; have := hrb k hv; right; omega)
      clear hg4
      go_roundg cnt2
      case measure => omega
      case rel =>
        refine ⟨_, ks ++ [x], _, cnt2, rfl, Nat.le_refl _, by simp; omega, by simpa using hown4, Lib.hid HEND.out.1, Lib.hid ⟨?_, fun k hk => ?_⟩, Lib.hid (fun k hk => ?_), Lib.hid HEND.out.2⟩
        · refine List.nodup_append.2 ⟨HK.out.1, by simp, fun a ha b hb => ?_⟩
          simp at hb
          rintro rfl
          subst hb
          exact HX.out.2.1 ha
        · rw [List.mem_append, HK.out.2 k hk]
          by_cases e : k = x
          · subst e; simp [HX.out.1]
          · simp [e]
        · rcases List.mem_append.1 hk with hk | hk
          · exact HO.out k hk
          · simp at hk; subst hk; exact HX.out.2.2
end Go.Proofs.YtaiihklfeoeoeaaGreat.W

/- Package wire's eye: Bool. -/
namespace Go.Proofs.YtaiihklfeoeoeaaGreat.W
open Go.RowKit
set_option linter.unusedVariables false
set_option linter.unusedSimpArgs false

theorem enters2 : ∀ args w, (callFunc 90 args).run Tryz.prog w = .ok (.enter 90 args) w := enters_of Tryz.func90 (by kernel_rfl) rfl

set_option maxHeartbeats 2000000 in
set_option maxRecDepth 100000 in
theorem bstep_any (b g o cap pe px : Nat) (c : UInt8) (l : List UInt8) (bad : Value) (w : World) (h : w.heap[b]? = some (.cells #[.bool true, .slice (some ⟨g, o, none⟩) (c :: l).length cap, bad] 88 (0, 0)))
    (hgb : g ≠ b) (hl : (c :: l).length ≤ cap) (hc : cap ≤ maxLen) (hcell : w.cell? ⟨g, o, none⟩ = some (bv c))
    (he : w.heap[pe]? = some (.cells #[.pointer (some ⟨b, 0, none⟩)] 43 (0, 0))) (hx : w.heap[px]? = some (.cells #[.bool false] 4 (0, 0))) (hxb : px ≠ b) :
    Calls Tryz.prog 90 #[.pointer (some ⟨pe, 0, none⟩), .pointer (some ⟨px, 0, none⟩)] w fun e w' => 
      if 1 < c.toNat then e = gaveUp 4 ∧ w' = w.setCell ⟨b, 1, none⟩ (.slice (some ⟨g, if cap = 1 then o else o + 1, none⟩) l.length (cap - 1))
      else e = .returned (.tuple #[]) ∧ w' = (w.setCell ⟨b, 1, none⟩ (.slice (some ⟨g, if cap = 1 then o else o + 1, none⟩) l.length (cap - 1))).setCell ⟨px, 0, none⟩ (.bool (c.toNat == 1)) := by
  have CN := Lib.hid (take_ok b g o cap (c :: l) bad 1 w h hl hc (by simp))
  rw [show (c :: l).length - 1 = l.length from rfl] at CN
  obtain ⟨w1, hw1⟩ : ∃ w1, w1 = w.setCell ⟨b, 1, none⟩ (.slice (some ⟨g, if cap = 1 then o else o + 1, none⟩) l.length (cap - 1)) := ⟨_, rfl⟩
  rw [← hw1] at CN ⊢
  have hx1 : w1.heap[px]? = some (.cells #[.bool false] 4 (0, 0)) := by rw [hw1]; exact blk_sets hx hxb
  have hcl : w1.cell? ⟨g, o, none⟩ = some (bv c) := by
    rw [hw1]; exact (World.cell?_of_block (w := w) (a := ⟨g, o, none⟩) (Below.heap_setCell w _ _ g (by simpa using hgb))).trans hcell
  have e0 := blk_cell he 0 _ rfl
  have x0 := blk_cell hx1 0 _ rfl
  have x1 := blk_frozen hx1 0
  clear h hl hc hcell hw1 he hx hx1
  unfold bv at hcl
  unfold gaveUp
  have hbq : ((c.toNat : Int) == 1) = (c.toNat == 1) := by
    rw [Bool.eq_iff_iff, beq_iff_eq, beq_iff_eq]; omega
  by_cases hc1 : 1 < c.toNat
  · simp only [if_pos hc1]
    go_enter Tryz.func90, Tryz.ntmps90
    go_wp2_with fail
    refine CN.out.mono ?_
    rintro e w' ⟨rfl, rfl⟩
    go_wp2
    exact ⟨rfl, rfl, rfl⟩
  · simp only [if_neg hc1]
    go_enter Tryz.func90, Tryz.ntmps90
    go_wp2_with fail
    refine CN.out.mono ?_
    rintro e w' ⟨rfl, rfl⟩
    go_wp2
    go_end0
    exact ⟨rfl, rfl⟩

set_option maxHeartbeats 2000000 in
theorem bstep_short (b pe : Nat) (px : Value) (a : Option Addr) (cap : Nat) (bad : Value) (w : World) (h : w.heap[b]? = some (.cells #[.bool true, .slice a 0 cap, bad] 88 (0, 0)))
    (he : w.heap[pe]? = some (.cells #[.pointer (some ⟨b, 0, none⟩)] 43 (0, 0))) :
    Calls Tryz.prog 90 #[.pointer (some ⟨pe, 0, none⟩), px] w fun e w' => e = gaveUp 2 ∧ w = w' := by
  have CN := Lib.hid (take_short b a 0 cap bad 1 w h (by omega) (by omega))
  have e0 := blk_cell he 0 _ rfl
  clear h he
  unfold gaveUp at *
  go_enter Tryz.func90, Tryz.ntmps90
  go_wp2_with fail
  refine CN.out.mono ?_
  rintro e w' ⟨rfl, rfl⟩
  exact ⟨rfl, rfl, rfl⟩

set_option maxHeartbeats 4000000 in
set_option maxRecDepth 100000 in
/-- Bool. -/
theorem ebool_any (b g : Nat) (l : List UInt8) (bad : Int) (w : World) (h : EyeAt w b g l bad) :
    Calls Tryz.prog 64 #[.pointer (some ⟨b, 0, none⟩)] w fun e w' => e = .returned (.bool (eyeBool l bad).1) ∧
      EyeAt w' b g (eyeBool l bad).2.1 (eyeBool l bad).2.2 ∧ Chg [b] w w' := by
  have hE := h
  obtain ⟨v, hb, hv, hgb, hg, hll⟩ := h
  have hbl := blk_lt hb
  obtain ⟨w3, hw3⟩ : ∃ w3, w3 = (w.alloc (.cells #[.pointer (some ⟨b, 0, none⟩)] 43)).alloc (.cells #[.bool false] 4) := ⟨_, rfl⟩
  have hs3 : w3.heap.size = w.heap.size + 2 := by rw [hw3]; simp
  have hb3 : w3.heap[b]? = some (.cells #[.bool true, v, .int .i64 bad] 88 (0, 0)) := by rw [hw3]; exact blk_alloc (blk_alloc hb)
  have hpe : w3.heap[w.heap.size]? = some (.cells #[.pointer (some ⟨b, 0, none⟩)] 43 (0, 0)) := by rw [hw3]; exact blk_alloc (heap_alloc_new w _)
  have hpx : w3.heap[w.heap.size + 1]? = some (.cells #[.bool false] 4 (0, 0)) := by
    rw [hw3]
    have := heap_alloc_new (w.alloc (.cells #[.pointer (some ⟨b, 0, none⟩)] 43)) (.cells #[.bool false] 4)
    simpa using this
  have hc3 : Chg [b] w w3 := by rw [hw3]; exact ((Chg.refl [b] w).alloc _).alloc _
  have hv3 : EyeV w3 v g l := hv.keepC hg hc3 (by simp; exact hgb)
  have hg3 := or_lt hg hc3
  obtain ⟨r, hr⟩ : ∃ r, r = eyeBool l bad := ⟨_, rfl⟩
  have CR : Hid (Calls Tryz.prog 86 #[.pointer (some ⟨b, 0, none⟩), .func (.func 90) #[] #[.pointer (some ⟨w.heap.size, 0, none⟩), .pointer (some ⟨w.heap.size + 1, 0, none⟩)]] w3
      fun e w' => e = .returned (.tuple #[]) ∧ Hid (Chg [b, w.heap.size + 1] w3 w' ∧ EyeAt w' b g r.2.1 r.2.2 ∧ w'.heap[w.heap.size + 1]? = some (.cells #[.bool r.1] 4 (0, 0)))) := by
    have hgb3 : b < w3.heap.size := blk_lt hb3
    by_cases hbad : bad = 0
    · subst hbad
      cases l with
      | nil =>
        have hr' : r = (false, [], 2) := by rw [hr]; rfl
        obtain ⟨a, cap, rfl⟩ := hv3.slice
        refine (read_panic b _ 90 _ w3 enters2 a 0 cap rfl 2 hb3 [] (by simp) ?_).mono ?_
        · refine (bstep_short b _ _ a cap _ _ (blk_alloc (blk_alloc hb3)) (blk_alloc (blk_alloc hpe))).mono ?_
          rintro e w' ⟨rfl, rfl⟩
          exact ⟨rfl, _, Chg.refl _ _, blk_alloc (blk_alloc hb3)⟩
        · rintro e w' ⟨rfl, hc, hh⟩
          refine ⟨rfl, hc.mono (by simp), ?_, ?_⟩
          · rw [hr']
            exact ⟨_, hh, hv3.keepC hg3 hc (by simp; exact hgb), hgb, or_lt hg3 hc, hll⟩
          · rw [hr']; exact hc.keep hpx (by simp; omega)
      | cons c l =>
        rcases hv3 with ⟨_, h0⟩ | ⟨o, cap, rfl, hlc, hcm, hcell⟩
        · cases h0
        have hg4 : g < w.heap.size := by
          rcases hg with hg | hg
          · exact hg
          · cases hg
        obtain ⟨w5, hw5⟩ : ∃ w5, w5 = (w3.alloc (.cells #[.pointer (some ⟨b, 0, none⟩)] 43)).alloc (.cells #[.slice (some ⟨g, o, none⟩) (c :: l).length cap] 38) := ⟨_, rfl⟩
        have hc5 : Chg [] w3 w5 := by rw [hw5]; exact ((Chg.refl [] w3).alloc _).alloc _
        have hc0 : w3.cell? ⟨g, o, none⟩ = some (bv c) := hcell 0 (by simp)
        have CS := bstep_any b g o cap _ _ c l _ w5 (hc5.keep hb3 (by simp)) hgb hlc hcm (hc5.cell hc0 (by simp)) (hc5.keep hpe (by simp)) (hc5.keep hpx (by simp)) (by omega)
        by_cases hc1 : 1 < c.toNat
        · have hr' : r = (false, c :: l, 4) := by rw [hr]; unfold eyeBool; simp [hc1]
          refine (read_panic b _ 90 _ w3 enters2 _ _ _ rfl 4 hb3 [b] (by simp; exact hgb3) ?_).mono ?_
          · rw [← hw5]
            refine CS.mono ?_
            intro e w' h
            rw [if_pos hc1] at h
            obtain ⟨rfl, rfl⟩ := h
            exact ⟨rfl, _, (Chg.refl _ _).setCell (.inl (by simp)) _, set_blk (hc5.keep hb3 (by simp))⟩
          · rintro e w' ⟨rfl, hc, hh⟩
            refine ⟨rfl, hc.mono (by simp), ?_, ?_⟩
            · rw [hr']
              exact ⟨_, hh, .inr ⟨o, cap, rfl, hlc, hcm, fun i hi => hc.cell (hcell i hi) (by simp; exact hgb)⟩, hgb, .inl (Nat.lt_of_lt_of_le (show g < w3.heap.size by omega) hc.size), hll⟩
            · rw [hr']; exact hc.keep hpx (by simp; omega)
        · have hr' : r = (c.toNat == 1, l, 0) := by rw [hr]; unfold eyeBool; simp [hc1]
          rw [hw5] at CS
          simp only [if_neg hc1] at CS
          refine (read_ret b _ 90 _ w3 enters2 _ _ _ rfl hb3 _ CS).mono ?_
          rintro e w' ⟨rfl, w1, hq, rfl⟩
          rw [← hw5] at hq
          have hcq : Chg [b, w.heap.size + 1] w3 w1 := by
            rw [hq]
            exact ((hc5.mono (by simp)).setCell (p := ⟨b, 1, none⟩) (.inl (by simp)) _).setCell (p := ⟨w.heap.size + 1, 0, none⟩) (.inl (by simp)) _
          have hb1 : w1.heap[b]? = some (.cells #[.bool true, .slice (some ⟨g, if cap = 1 then o else o + 1, none⟩) l.length (cap - 1), .int .i64 0] 88 (0, 0)) := by
            rw [hq]; exact blk_sets (set_blk (hc5.keep hb3 (by simp))) (by omega)
          have hx1 : w1.heap[w.heap.size + 1]? = some (.cells #[.bool (c.toNat == 1)] 4 (0, 0)) := by
            rw [hq]; exact set_blk (blk_sets (hc5.keep hpx (by simp)) (by omega))
          refine ⟨rfl, hcq.alloc _, ?_, ?_⟩
          · rw [hr']
            refine ⟨_, blk_alloc hb1, ?_, hgb, ?_, ?_⟩
            · exact (EyeV.dropped (n := 1) hlc hcm hcell (by simp)).keep ((hcq.alloc _).block g (by omega) (by simp; omega))
            · exact .inl (Nat.lt_of_lt_of_le (by omega) (hcq.alloc _).size)
            · show l.length ≤ _
              simp at hll; omega
          · rw [hr']; exact blk_alloc hx1
    · have hr' : r = (false, l, bad) := by rw [hr]; unfold eyeBool; rw [if_pos hbad]
      refine (read_done b v bad 90 _ w3 hb3 hbad).mono ?_
      rintro e w' ⟨rfl, rfl⟩
      rw [hr']
      refine ⟨rfl, (Chg.refl _ _).alloc _, ⟨v, blk_alloc hb3, hv3.keepC hg3 ((Chg.refl [] w3).alloc _) (by simp), hgb, or_lt hg3 ((Chg.refl [] w3).alloc _), hll⟩, blk_alloc hpx⟩
  rw [← hr]
  have HC := Lib.hid hc3
  have HW := Lib.hid hw3
  have hmf : ∀ (fn : Fn) (first cap : Array Value) (w : World), (Instr.makeFunc fn first cap).run Tryz.prog w = .ok (.func fn first cap) w := fun _ _ _ _ => rfl
  clear hb hv hb3 hpe hpx hc3 hr hE hw3 hv3
  go_enter Tryz.func64, Tryz.ntmps64
  go_wp2_with fail
  rw [← HW.out]
  refine CR.out.mono ?_
  rintro e w4 ⟨rfl, H4⟩
  have x0 := blk_cell H4.out.2.2 0 _ rfl
  go_wp2
  go_ret
  exact ⟨rfl, H4.out.2.1, HC.out.trans H4.out.1 (by
    intro x hx
    simp at hx
    rcases hx with rfl | rfl
    · exact .inl (by simp)
    · exact .inr (by omega))⟩

end Go.Proofs.YtaiihklfeoeoeaaGreat.W

/- Package tree: rows (things read). -/
namespace Go.Proofs.YtaiihklfeoeoeaaGreat.W
open Go.RowKit
open Go.Proofs.YtaiihklfeoeoeaaGreat.NM
set_option linter.unusedVariables false
set_option linter.unusedSimpArgs false

theorem bytes_text (w : World) (v : Value) (l : List UInt8) (h : BytesAt w v l) : (convert 38 9 v).run Tryz.prog w = .ok (.string (mk l)) w := by
  obtain ⟨a, cap, rfl, h1, h2, h3⟩ := h
  rcases h3 with ⟨rfl, rfl⟩ | ⟨g, o, rfl, hc⟩
  · cases a with
    | none => exact run_convert_bytes_nil w 38 5 Tryz.underlying38 Tryz.underlying5 _ _ 9 Tryz.underlying9
    | some a => exact run_convert_bytes_back w 38 9 5 a 0 [] Tryz.underlying38 Tryz.underlying5 Tryz.underlying9 (fun j hj => absurd hj (by simp))
  · refine run_convert_bytes_back w 38 9 5 ⟨g, o, none⟩ cap l Tryz.underlying38 Tryz.underlying5 Tryz.underlying9 (fun j hj => ?_)
    rw [add_none, hc j hj, List.getD_eq_getElem?_getD, List.getElem?_eq_getElem hj]
    rfl
def TextPost (b g : Nat) (r : List UInt8 × List UInt8 × Int) (w : World) (e : Ending) (w' : World) : Prop := e = .returned (.string (mk r.1)) ∧ EyeAt w' b g r.2.1 r.2.2 ∧ Chg [b] w w'
set_option maxHeartbeats 2000000 in
set_option maxRecDepth 100000 in
theorem etext_any (b g : Nat) (l : List UInt8) (bad : Int) (w : World) (h : EyeAt w b g l bad) :
    Calls Tryz.prog 63 #[.pointer (some ⟨b, 0, none⟩), .int .i64 12] w (TextPost b g (eyeRaw l bad 12) w) := by
  have CR := Lib.hid (eraw_any b g l bad 12 w h (by omega))
  clear h
  generalize eyeRaw l bad 12 = r at *
  go_enter Tryz.func63, Tryz.ntmps63
  go_wp2_with fail
  refine CR.out.mono ?_
  rintro e w1 ⟨v, rfl, hr, _, he, hc⟩
  have hcv := bytes_text w1 v _ hr.bytes
  have HE := Lib.hid (And.intro he hc)
  obtain ⟨a, cap, hv2, _⟩ := hr.bytes
  subst hv2
  clear hr he hc
  go_wp2
  go_ret
  exact ⟨rfl, HE.out.1, HE.out.2⟩

theorem EyeAt.glt {w : World} {b g : Nat} {l : List UInt8} {bad : Int} (h : EyeAt w b g l bad) (hl : l ≠ []) : g < w.heap.size := by
  obtain ⟨v, _, hv, _, hg, _⟩ := h
  rcases hg with hg | hg
  · exact hg
  · exfalso
    subst hg
    obtain ⟨a, c, h⟩ := hv.slice
    have : l.length = 0 := by
      have h2 := h
      simp only [Value.slice.injEq] at h2
      omega
    exact hl (List.length_eq_zero_iff.1 this)
theorem EyeAt.blt {w : World} {b g : Nat} {l : List UInt8} {bad : Int} (h : EyeAt w b g l bad) : b < w.heap.size := by
  obtain ⟨v, hb, _⟩ := h
  exact blk_lt hb
def tGave (x : Int) : Ending := .panicked [{ v := .iface 83 (.agg #[.int .i64 x]), recovered := false }]
def RowsPost (b : Nat) (T : PT) (r : List UInt8) (w : World) (e : Ending) (w' : World) : Prop :=
  (r = [] ∧ ∃ t S bm f g, e = .returned (pth t) ∧ Half w' t S T [] bm f g ∧ (∀ x ∈ S, w.heap.size ≤ x) ∧ Chg [b] w w') ∨ (r ≠ [] ∧ e = tGave 2 ∧ Chg [b] w w')
/-- Where rows stands after k things. -/
structure RowsAt (w wr : World) (b g t : Nat) (T : PT) (k lst : Nat) (l r : List UInt8) : Prop where
  half : ∃ S bm f gg, Half wr t S (T.take k) [] bm f gg ∧ ∀ x ∈ S, w.heap.size ≤ x
  eye : EyeAt wr b g l 0
  left : thBs (T.drop k) = l ++ r
  last : ∀ x ∈ T.drop k, lst < x.ino
  chg : Chg [b] w wr
  glt : g < w.heap.size
  blt : b < w.heap.size
theorem tok_few {T : PT} (h : TOk T) : T.length ≤ 127 := by
  have : ∀ (U : PT) (n : Nat), U.Pairwise (fun x y => x.ino < y.ino) → (∀ x ∈ U, n ≤ x.ino ∧ x.ino ≤ 128) → U = [] ∨ n + U.length ≤ 129 := by
    intro U
    induction U with
    | nil => intro n _ _; exact .inl rfl
    | cons y r ih =>
      intro n hp hm
      right
      have hp' := List.pairwise_cons.1 hp
      have hy := hm y (List.mem_cons_self ..)
      rcases ih (n + 1) hp'.2 (fun x hx => ⟨by have := hp'.1 x hx; omega, (hm x (List.mem_cons_of_mem _ hx)).2⟩) with h4 | h4
      · subst h4; simp; omega
      · simp; omega
  rcases this T 2 h.rise h.nums with h4 | h4
  · rw [h4]; simp
  · omega
theorem tree_half {w : World} {t : Nat} {S : List Nat} (h : TreeAt w t S []) : ∃ bm f g, Half w t S [] [] bm f g := by
  obtain ⟨bm, f, g, h⟩ := h
  exact ⟨bm, f, g, h.half⟩

theorem take_more {T : PT} {k : Nat} {x : Th} (hx : T[k]? = some x) : T.take (k + 1) = T.take k ++ [x] := by
  rw [List.take_add_one, hx]; rfl
theorem drop_rise {T : PT} (hT : TOk T) {k : Nat} {x : Th} (hx : T[k]? = some x) : (∀ y ∈ T.drop (k + 1), x.ino < y.ino) ∧ ∀ y ∈ T.take k, y.ino ≠ x.ino := by
  obtain ⟨hk, rfl⟩ := List.getElem?_eq_some_iff.1 hx
  have h1 := hT.rise
  rw [← List.take_append_drop k T, List.drop_eq_getElem_cons hk] at h1
  obtain ⟨_, h2, h3⟩ := List.pairwise_append.1 h1
  refine ⟨(List.pairwise_cons.1 h2).1, fun y hy => ?_⟩
  have := h3 y hy _ (List.mem_cons_self ..)
  omega
/-- A round of rows. -/
theorem RowsAt.next {w wr w6 w8 : World} {b g t k lst : Nat} {T : PT} {l m r : List UInt8} {x : Th} (hT : TOk T) (h : RowsAt w wr b g t T k lst l r) (hx : T[k]? = some x) (hl : thBs (T.drop (k + 1)) = m ++ r)
    (hc6 : Chg [b] wr w6) (he : EyeAt w6 b g m 0) {bm : Nat} {S : List Nat} {f gg : Nat → Nat} (hh : Half w6 t S (T.take k) [] bm f gg) (hS : ∀ x ∈ S, w.heap.size ≤ x) {px gx : Nat} (hpx : w6.heap.size ≤ px) (hgx : w6.heap.size ≤ gx) (hpl : px < w8.heap.size) (hgl : gx < w8.heap.size)
    (hm : MapF 3 klI okI w8 bm (updF (φT (T.take k) f) (x.ino : Int) (pth px)) (if (φT (T.take k) f (x.ino : Int)).isSome then (T.take k).length + 1 else (T.take k).length + 1 + 1))
    (hb : w8.heap[px]? = some (.cells (thCells x (if x.isDir then some gx else none)) 94 (0, 0))) (hn : x.isDir = true → MapF 9 klS okS w8 gx (fun _ => none) 0) (hc : Chg [bm] w6 w8) :
    RowsAt w w8 b g t T (k + 1) x.ino m r := by
  obtain ⟨hd1, hd2⟩ := drop_rise hT hx
  have hn2 := hT.nums x (List.mem_of_getElem? hx)
  have hno : φT (T.take k) f (x.ino : Int) = none := by
    unfold φT
    rw [if_neg]
    rintro ⟨_, h1⟩
    rcases has_iff.1 h1 with h2 | ⟨y, hy, h2⟩
    · simp at h2; omega
    · exact hd2 y hy (by simpa using h2)
  rw [hno] at hm
  have hbm := hS bm hh.mem.2.1
  have hbl := h.blt
  have hgl2 := h.glt
  have h6 := h.chg.size
  have h66 := hc6.size
  refine ⟨⟨S ++ [px, gx], bm, _, _, by rw [take_more hx]; exact hh.more hd2 hn2 hpx hgx hpl hgl hm hb hn hc, fun z hz => ?_⟩, he.keep hc (by simp; omega) (by simp; omega), hl, hd1, (h.chg.trans hc6 (fun z hz => .inl hz)).trans hc (fun z hz => by simp at hz; right; omega), h.glt, h.blt⟩
  rcases List.mem_append.1 hz with hz | hz
  · exact hS z hz
  · simp at hz; omega

set_option maxHeartbeats 8000000 in
set_option maxRecDepth 100000 in
theorem hrows_any (b g : Nat) (T : PT) (l0 r : List UInt8) (w : World) (hT : TOk T) (hr : treeB T = l0 ++ r) (h : EyeAt w b g l0 0) :
    Calls Tryz.prog 36 #[.pointer (some ⟨b, 0, none⟩)] w (RowsPost b T r w) := by
  have HT := Lib.hid hT
  have HE := Lib.hid h
  have hlen := tok_few hT
  unfold treeB at hr
  go_enter Tryz.func36, Tryz.ntmps36
  go_wp2_with fail
  refine (tnew_any w).mono ?_
  rintro e w1 ⟨t, S, hret, ht, hS, hc1⟩
  have hret' : e = .returned (.pointer (some ⟨t, 0, none⟩)) := hret
  clear hret
  subst hret'
  have HT1 := Lib.hid (And.intro ht hS)
  have hb0 := h.blt
  have he1 := h.keep hc1 (by simp) (by simp)
  have HC1 := Lib.hid hc1
  have CN := Lib.hid (enum_any b g l0 0 2 w1 he1 (by omega) (by omega))
  clear ht hS hc1 he1 h hT
  rcases cut2 hr with ⟨l1, rfl, hl1⟩ | hs
  · have e1 : eyeNum (beBytes 2 T.length ++ l1) 0 2 = ((T.length : Int), l1, 0) := eyeNum_good (by omega) l1
    have CN2 := CN.out
    rw [show (2 : Int).toNat = 2 from rfl, e1] at CN2
    have CN3 := Lib.hid CN2
    have hg0 := HE.out.glt (by
      intro e0
      have := congrArg List.length e0
      rw [List.length_append, beBytes_len] at this
      simp at this)
    clear CN CN2 e1
    go_wp2_with fail
    refine CN3.out.mono ?_
    rintro e w2 ⟨rfl, he2, hc2⟩
    have HR : Hid (RowsAt w w2 b g t T 0 1 l1 r) := Lib.hid (by
      obtain ⟨ht, hS⟩ := HT1.out
      obtain ⟨bm, f, gg, hh⟩ := tree_half ht
      refine ⟨⟨S, bm, f, gg, hh.keep hc2 (fun x hx hm => ?_), hS⟩, he2, hl1, fun x hx => ?_, (HC1.out.mono (by simp)).trans hc2 (fun x hx => .inl hx), hg0, hb0⟩
      · have := hS x hx
        simp at hm; omega
      · have := (HT.out.nums x (List.mem_of_mem_drop hx)).1; omega)
    clear he2 hc2 CN3 HT1 HC1 HE hr hl1
    have h128 : ¬ (128 : Int) ≤ (T.length : Int) := by omega
    go_wp2
    go_loopg [4, 21] T.length (fun gh v4 v21 wr => ∃ (k lst : Nat) (l : List UInt8), v21 = .int .i64 k ∧ v4 = .int .i64 lst ∧ k ≤ T.length ∧ T.length ≤ k + gh ∧ lst ≤ 128 ∧ Hid (RowsAt w wr b g t T k lst l r))
    case atStart => exact ⟨0, 1, l1, rfl, rfl, by omega, by omega, by omega, HR⟩
    case round =>
      obtain ⟨k, lst, l, rfl, rfl, hk, hkg, hl128, HA⟩ := hrel
      by_cases hlt : k < T.length
      · have hx : T[k]? = some (T[k]'hlt) := List.getElem?_eq_getElem hlt
        generalize T[k]'hlt = x at hx
        have hxm : x ∈ T := List.mem_of_getElem? hx
        have HX := Lib.hid (And.intro hx hxm)
        have HF := Lib.hid (HT.out.fits hxm)
        have hkz : (k : Int) < (T.length : Int) := by omega
        obtain ⟨z1, m1, b1, q1⟩ : ∃ z m e, eyeNum l 0 2 = (z, m, e) := ⟨_, _, _, rfl⟩
        obtain ⟨z2, m2, b2, q2⟩ : ∃ z m e, eyeNum m1 b1 2 = (z, m, e) := ⟨_, _, _, rfl⟩
        obtain ⟨s3, m3, b3, q3⟩ : ∃ z m e, eyeRaw m2 b2 12 = (z, m, e) := ⟨_, _, _, rfl⟩
        obtain ⟨y4, m4, b4, q4⟩ : ∃ z m e, eyeBool m3 b3 = (z, m, e) := ⟨_, _, _, rfl⟩
        have HRD : Hid (rdTh l = ((z1, z2, s3, y4), m4, b4)) := Lib.hid (by
          unfold rdTh
          simp only [q1, q2, q3, q4])
        have C1 := Lib.hid (enum_any b g l 0 2 wr HA.out.eye (by omega) (by omega))
        rw [show (2 : Int).toNat = 2 from rfl, q1] at C1
        have Q2 := Lib.hid q2
        have Q3 := Lib.hid q3
        have Q4 := Lib.hid q4
        clear q1 q2 q3 q4 hx hxm
        go_wp2_with fail
        refine C1.out.mono ?_
        rintro e w3 ⟨rfl, he3, hc3⟩
        have C2 := Lib.hid (enum_any b g m1 b1 2 w3 he3 (by omega) (by omega))
        rw [show (2 : Int).toNat = 2 from rfl, Q2.out] at C2
        have HC3 := Lib.hid hc3
        clear he3 hc3 C1
        go_wp2_with fail
        refine C2.out.mono ?_
        rintro e w4 ⟨rfl, he4, hc4⟩
        have C3 := Lib.hid (etext_any b g m2 b2 w4 he4)
        rw [Q3.out] at C3
        have HC4 := Lib.hid hc4
        clear he4 hc4 C2
        go_wp2_with fail
        refine C3.out.mono ?_
        rintro e w5 ⟨rfl, he5, hc5⟩
        have C4 := Lib.hid (ebool_any b g m3 b3 w5 he5)
        rw [Q4.out] at C4
        have HC5 := Lib.hid hc5
        clear he5 hc5 C3
        go_wp2_with fail
        refine C4.out.mono ?_
        rintro e w6 ⟨rfl, he6, hc6⟩
        have C5 := Lib.hid (efail_any b g m4 b4 w6 he6)
        have HE6 := Lib.hid he6
        have HC6 : Hid (Chg [b] wr w6) := Lib.hid (((HC3.out.trans HC4.out (fun x hx => .inl hx)).trans HC5.out (fun x hx => .inl hx)).trans hc6 (fun x hx => .inl hx))
        clear he6 hc6 C4 HC3 HC4 HC5
        go_wp2_with fail
        refine C5.out.mono ?_
        rintro e w7 ⟨rfl, rfl⟩
        have hcut := HA.out.left
        rw [drop_cons HX.out.1] at hcut
        rcases cut2 hcut with ⟨l', rfl, hl'⟩ | hs
        · have hg := HRD.out
          rw [rd_good HF.out] at hg
          simp only [Prod.mk.injEq] at hg
          obtain ⟨⟨rfl, rfl, rfl, rfl⟩, rfl, rfl⟩ := hg
          have hnum := HT.out.nums x HX.out.2
          have hlast := HA.out.last x (by
            obtain ⟨hk', rfl⟩ := List.getElem?_eq_some_iff.1 HX.out.1
            rw [List.drop_eq_getElem_cons hk']
            exact List.mem_cons_self ..)
          have hmay := Lib.hid (HT.out.may x HX.out.2)
          have g1 : ¬ (x.ino : Int) ≤ (lst : Int) := by omega
          have g2 : ¬ (128 : Int) < (x.ino : Int) := by omega
          have CM := Lib.hid (may_any (mk x.name))
          rw [data_mk, hmay.out] at CM
          clear hcut C5
          go_wp2_with fail
          refine (CM.out _).mono ?_
          rintro e w7 ⟨rfl, rfl⟩
          obtain ⟨S, bm, f, gg, hh0, hS⟩ := HA.out.half
          have hh := hh0.keep HC6.out (fun z hz hm => by
            have h1 := hS z hz
            have h2 := HA.out.blt
            simp at hm; omega)
          have HH := Lib.hid hh
          have HS := Lib.hid hS
          have c0 := blk_cell hh.head 0 _ rfl
          have htl := blk_lt hh.head
          have hbl := hh.things.lt
          have hN : (T.take k).length + 1 < maxLen := by rw [List.length_take]; unfold maxLen; omega
          have hoI := okI_small (a := x.ino) (by omega)
          have HNN := Lib.hid (And.intro hN hoI)
          have HL' := Lib.hid hl'
          clear hh hh0 hS hN hoI hl' CM hlast hmay
          cases hq : x.isDir with
          | false =>
            have HQ := Lib.hid hq
            clear hq
            go_wp2_with (at_mapUpdate; refine wpList_upd keInt _ rfl _ _ _ _ (.inl rfl) 51 Tryz.underlying53 bm _ _ rfl (HH.out.things.chg ((Chg.refl [] _).alloc _) (by simp)) HNN.out.1 (x.ino : Int) rfl HNN.out.2 (pth w6.heap.size) rfl ?_; intro w8 hm8 hc8 hs8)
            have HNX : Hid (RowsAt w w8 b g t T (k + 1) x.ino l' r) := Lib.hid (HA.out.next HT.out HX.out.1 HL'.out HC6.out HE6.out HH.out HS.out (px := w6.heap.size) (gx := w6.heap.size) (Nat.le_refl _) (Nat.le_refl _) (by rw [hs8]; simp) (by rw [hs8]; simp) hm8
              (by
                rw [HQ.out]
                exact hc8.keep (by unfold thCells; rw [HQ.out]; exact heap_alloc_new w6 _) (by simp; omega)) (fun h => by rw [HQ.out] at h; cases h) ((((Chg.refl [] w6).alloc _).mono (by simp)).trans hc8 (fun z hz => .inl hz)))
            clear hm8 hc8 hs8
            go_wp2
            go_roundg (T.length - k - 1)
            case measure => omega
            case rel => exact ⟨k + 1, x.ino, l', by go_num, rfl, by omega, by omega, by omega, HNX⟩
          | true =>
            have HQ := Lib.hid hq
            clear hq
            go_wp2_with fail
            refine (tdirectory_any (x.dir : Int) (mk x.name) _).mono ?_
            rintro e w7 ⟨hret, hw7⟩
            have hret' : e = .returned (.pointer (some ⟨w6.heap.size + 2, 0, none⟩)) := by
              rw [hret]
              simp [pth]
            clear hret
            subst hret'
            have hs7 : w7.heap.size = w6.heap.size + 3 := by rw [hw7]; simp
            have hc7 : Chg [] w6 w7 := by
              rw [hw7]
              exact (((Chg.refl [] w6).alloc _).alloc _).alloc _
            have hg7 : MapF 9 klS okS w7 (w6.heap.size + 1) (fun _ => none) 0 := by
              rw [hw7]
              have h := (MapF.made (k := 9) (kl := klS) (ok := okS) (w6.alloc (.cells (thCells ⟨x.ino, x.dir, x.name, false⟩ none) 94))).chg ((Chg.refl [] _).alloc (.cells (thCells x (some (w6.heap.size + 1))) 94)) (by simp)
              unfold thCells at h
              rw [HQ.out] at h
              simpa using h
            have hb7 : w7.heap[w6.heap.size + 2]? = some (.cells (thCells x (some (w6.heap.size + 1))) 94 (0, 0)) := by
              rw [hw7]
              unfold thCells
              rw [HQ.out]
              have h := heap_alloc_new ((w6.alloc (.cells (thCells ⟨x.ino, x.dir, x.name, false⟩ none) 94)).alloc (.map #[] 0)) (.cells (thCells x (some (w6.heap.size + 1))) 94)
              unfold thCells at h
              rw [HQ.out] at h
              simpa using h
            have c0 := hc7.cell c0 (by simp)
            have HW7 := Lib.hid (And.intro hs7 (And.intro hc7 (And.intro hg7 hb7)))
            clear hs7 hc7 hg7 hb7 hw7
            go_wp2_with (at_mapUpdate; refine wpList_upd keInt _ rfl _ _ _ _ (.inl rfl) 51 Tryz.underlying53 bm _ _ rfl (HH.out.things.chg HW7.out.2.1 (by simp)) HNN.out.1 (x.ino : Int) rfl HNN.out.2 (pth (w6.heap.size + 2)) rfl ?_; intro w8 hm8 hc8 hs8)
            have HNX : Hid (RowsAt w w8 b g t T (k + 1) x.ino l' r) := Lib.hid (HA.out.next HT.out HX.out.1 HL'.out HC6.out HE6.out HH.out HS.out (px := w6.heap.size + 2) (gx := w6.heap.size + 1) (by omega) (by omega) (by rw [hs8, HW7.out.1]; omega) (by rw [hs8, HW7.out.1]; omega) hm8
              (by
                rw [HQ.out]
                exact hc8.keep HW7.out.2.2.2 (by simp; omega)) (fun _ => HW7.out.2.2.1.chg hc8 (by simp; omega)) ((HW7.out.2.1.mono (by simp)).trans hc8 (fun z hz => .inl hz)))
            clear hm8 hc8 hs8
            go_wp2
            go_roundg (T.length - k - 1)
            case measure => omega
            case rel => exact ⟨k + 1, x.ino, l', by go_num, rfl, by omega, by omega, by omega, HNX⟩
        · have hsh := rd_short HF.out hcut hs
          rw [HRD.out] at hsh
          have hsh2 : b4 = 2 := hsh
          subst hsh2
          have HRN : Hid (r ≠ []) := Lib.hid (by
            rintro rfl
            have := congrArg List.length hcut
            simp at this
            omega)
          have HCF : Hid (Chg [b] w w6) := Lib.hid (HA.out.chg.trans HC6.out (fun x hx => .inl hx))
          clear hs hcut hsh
          go_wp2
          exact ⟨rfl, .inr ⟨HRN.out, rfl, HCF.out⟩⟩
      · obtain rfl : k = T.length := by omega
        have hend := HA.out.left
        rw [List.drop_length] at hend
        have hlr : l = [] ∧ r = [] := by
          have : l ++ r = [] := hend.symm
          simpa using this
        obtain ⟨rfl, rfl⟩ := hlr
        have CF := Lib.hid (efail_any b g [] 0 wr HA.out.eye)
        have hF : RowsPost b T [] w (.returned (pth t)) wr := by
          obtain ⟨S, bm, f, gg, hh, hS⟩ := HA.out.half
          rw [List.take_length] at hh
          exact .inl ⟨rfl, t, S, bm, f, gg, rfl, hh, hS, HA.out.chg⟩
        have HFI := Lib.hid hF
        clear hF hend
        go_wp2_with fail
        refine CF.out.mono ?_
        rintro e w3 ⟨rfl, rfl⟩
        go_wp2
        go_ret
        exact HFI.out
  · rw [beBytes_len] at hs
    have e1 : eyeNum l0 0 2 = (0, l0, 2) := eyeNum_short hs
    have CN2 := CN.out
    rw [show (2 : Int).toNat = 2 from rfl, e1] at CN2
    have CN3 := Lib.hid CN2
    have HRN : Hid (r ≠ []) := Lib.hid (by
      rintro rfl
      have := congrArg List.length hr
      simp [beBytes_len] at this
      omega)
    clear CN CN2 e1 hr
    go_wp2_with fail
    refine CN3.out.mono ?_
    rintro e w2 ⟨rfl, he2, hc2⟩
    have CF := Lib.hid (efail_any b g l0 2 w2 he2)
    have HC : Hid (Chg [b] w w2) := Lib.hid ((HC1.out.mono (by simp)).trans hc2 (fun x hx => .inl hx))
    clear he2 hc2 CN3 HT1 HC1 HE
    go_wp2
    go_loopg [21] 0 (fun gh v21 wr => v21 = .int .i64 0 ∧ wr = w2)
    case atStart => exact ⟨rfl, rfl⟩
    case round =>
      obtain ⟨rfl, rfl⟩ := hrel
      go_wp2_with fail
      refine CF.out.mono ?_
      rintro e w3 ⟨rfl, rfl⟩
      go_wp2
      exact ⟨rfl, .inr ⟨HRN.out, rfl, HC.out⟩⟩
end Go.Proofs.YtaiihklfeoeoeaaGreat.W

/- Package tree: join. -/
namespace Go.Proofs.YtaiihklfeoeoeaaGreat.W
open Go.RowKit
open Go.Proofs.YtaiihklfeoeoeaaGreat.NM
set_option linter.unusedVariables false
set_option linter.unusedSimpArgs false

def JoinPost (t : Nat) (S : List Nat) (T : PT) (bm : Nat) (f g : Nat → Nat) (w : World) (e : Ending) (w' : World) : Prop := e = .returned (.tuple #[]) ∧ Half w' t S T T bm f g ∧ Chg S w w'
theorem half_lim_keep {w : World} {t : Nat} {S : List Nat} {T J : PT} {bm : Nat} {f g : Nat → Nat} (h : Half w t S T J bm f g) (n : Nat) : Half (w.drewN n) t S T J bm f g := h.keep0 ((Chg.refl [] w).drewN n)
theorem no_kid {T : PT} (hT : TOk T) {k : Nat} {x : Th} (hx : T[k]? = some x) : tKidOf (T.take k) x.dir x.name = none := by
  cases h : tKidOf (T.take k) x.dir x.name with
  | none => rfl
  | some y =>
    exfalso
    obtain ⟨h1, h2, h3⟩ := kidOf_some h
    have hk := kidOf_mem hT (List.mem_of_mem_take h1)
    rw [h2, h3, kidOf_mem hT (List.mem_of_getElem? hx)] at hk
    have : x = y := by simpa using hk
    subst this
    exact (drop_rise hT hx).2 x h1 rfl
theorem nKids_le (U : PT) (d : Nat) : nKids U d ≤ U.length := List.length_filter_le ..

set_option maxHeartbeats 8000000 in
set_option maxRecDepth 100000 in
theorem hjoin_any (t : Nat) (S : List Nat) (T : PT) (bm : Nat) (f g : Nat → Nat) (w : World) (hT : TOk T) (hR : TR T) (h : Half w t S T [] bm f g) :
    Calls Tryz.prog 37 #[.pointer (some ⟨t, 0, none⟩)] w (JoinPost t S T bm f g w) := by
  have HT := Lib.hid hT
  have HR := Lib.hid hR
  have HH := Lib.hid h
  have hlen := tok_few hT
  have HI := Lib.hid (hinos_any t S T [] bm f g w hT h)
  clear hT hR h
  go_enter Tryz.func37, Tryz.ntmps37
  go_wp2_with fail
  refine HI.out.mono ?_
  rintro e w1 ⟨v, rfl, hrow, hc1⟩
  obtain ⟨gr, cr, rfl, hgr2, hgr3, q0, qs⟩ := inos_row hrow
  have HQ0 := Lib.hid q0
  have HQS := Lib.hid qs
  have H1 := Lib.hid (HH.out.keep0 hc1)
  have HC1 := Lib.hid hc1
  have hgrS : ∀ x ∈ S, x ≠ gr := fun x hx e => by have := HH.out.lim x hx; omega
  have HGS := Lib.hid hgrS
  clear hrow hc1 q0 qs hgrS HI
  go_wp2
  go_loopg [14] (T.length + 1) (fun gh v14 wr => ∃ k : Nat, v14 = .int .i64 k ∧ k ≤ T.length + 1 ∧ T.length + 1 ≤ k + gh ∧ Hid (Half wr t S T (T.take (k - 1)) bm f g ∧ Chg S w1 wr))
  case atStart => exact ⟨0, rfl, by omega, by omega, Lib.hid ⟨H1.out, Chg.refl _ _⟩⟩
  case round =>
    obtain ⟨k, rfl, hk, hkg, HA⟩ := hrel
    by_cases hlt : k < T.length + 1
    · have c0 := blk_cell HA.out.1.head 0 _ rfl
      rcases Nat.eq_zero_or_pos k with hk0 | hk0
      · subst hk0
        have e0 := HA.out.2.cell HQ0.out (fun hm => HGS.out _ hm rfl)
        have hz : (0 : Int) < ((T.length + 1 : Nat) : Int) := by omega
        have hlk : (Instr.lookup 53 (.map (some bm)) (.int .i64 1) false).run Tryz.prog wr = .ok (.pointer (some ⟨f 1, 0, none⟩)) wr := HA.out.1.at (a := 1) rfl
        go_wp2
        go_roundg T.length
        case measure => omega
        case rel => exact ⟨1, by first | rfl | go_num, by omega, by omega, HA⟩
      · obtain ⟨j, rfl⟩ : ∃ j, k = j + 1 := ⟨k - 1, by omega⟩
        obtain ⟨x, hx⟩ : ∃ x, T[j]? = some x := ⟨_, List.getElem?_eq_getElem (by omega)⟩
        have HX := Lib.hid hx
        have e0 := HA.out.2.cell (HQS.out j x hx) (fun hm => HGS.out _ hm rfl)
        have hxm := List.mem_of_getElem? hx
        have hxi := HT.out.nums x hxm
        have hxh : tHas T x.ino = true := has_iff.2 (.inr ⟨x, hxm, rfl⟩)
        have hxdir := HT.out.dirs x hxm
        have HD := Lib.hid hxdir
        have hxn := name_len HT.out x hxm
        have hlk := HA.out.1.at hxh
        have hx1 : ((x.ino : Int) == 1) = false := by simp; omega
        have hz : ((j + 1 : Nat) : Int) < ((T.length + 1 : Nat) : Int) := by omega
        have HXH := Lib.hid hxh
        have HTH := Lib.hid (thOf_mem HT.out hxm)
        have HHj : Hid (Half wr t S T (T.take j) bm f g) := HA.out.1
        obtain ⟨d0, d1, d2, d3⟩ := HHj.out.cells hxh
        rw [HTH.out] at d0 d1
        obtain ⟨u0, u1, u2, u3⟩ := HHj.out.cells (dir_has hxdir)
        rw [hxdir] at u2
        have hlkd : ∀ n, (Instr.lookup 53 (.map (some bm)) (.int .i64 (x.dir : Int)) false).run Tryz.prog (wr.drewN n) = .ok (.pointer (some ⟨f x.dir, 0, none⟩)) (wr.drewN n) := fun n => (half_lim_keep HHj.out n).at (dir_has HD.out)
        clear hx hxm hxh hxdir d2 d3 u0 u1 u3
        go_wp2_with fail
        go_quiet (fail)
        have H5 : Hid (Half (wr.drewN nq) t S T (T.take j) bm f g ∧ Chg S w1 (wr.drewN nq)) := Lib.hid ⟨half_lim_keep HHj.out nq, HA.out.2.drewN nq⟩
        have u2' : (wr.drewN nq).cell? ⟨f x.dir, 2, none⟩ = some (.bool true) := u2
        clear c0 e0 hlk hlkd d0 d1 u2
        generalize wr.drewN nq = w5 at *
        clear HHj HA
        obtain ⟨d0, d1, d2, d3⟩ := H5.out.1.cells HXH.out
        rw [HTH.out] at d1
        obtain ⟨u0, u1, u2, u3⟩ := H5.out.1.cells (dir_has HD.out)
        rw [if_pos HD.out] at u3
        have hkd : ∀ n, (Instr.lookup 92 (.map (some (g x.dir))) (.string ⟨x.name.toArray⟩) true).run Tryz.prog (w5.drewN n) = .ok (.tuple #[.int .i64 (tKid (T.take j) x.dir x.name : Int), .bool false]) (w5.drewN n) := fun n => by
          have := (half_lim_keep H5.out.1 n).kid HD.out x.name (by unfold maxLen; omega)
          rw [no_kid HT.out HX.out] at this
          exact this
        clear d0 d2 d3 u0 u1 u2
        go_wp2_with fail
        go_quiet (fail)
        have H6 : Hid (Half (w5.drewN nq) t S T (T.take j) bm f g ∧ Chg S w1 (w5.drewN nq)) := Lib.hid ⟨half_lim_keep H5.out.1 nq, H5.out.2.drewN nq⟩
        clear hkd d1 u3 u2'
        generalize w5.drewN nq = w6 at *
        clear H5
        obtain ⟨d0, d1, d2, d3⟩ := H6.out.1.cells HXH.out
        rw [HTH.out] at d1
        obtain ⟨u0, u1, u2, u3⟩ := H6.out.1.cells (dir_has HD.out)
        rw [if_pos HD.out] at u3
        clear d0 d2 d3 u0 u1 u2
        go_wp2_with fail
        go_still_tail 9, (by kernel_rfl)
        change wpList _ _ _ _ _ w6.drew
        have H7 : Hid (Half w6.drew t S T (T.take j) bm f g ∧ Chg S w1 w6.drew) := Lib.hid ⟨H6.out.1.keep0 (Chg.refl [] w6).drew, H6.out.2.drew⟩
        clear d1 u3
        generalize w6.drew = w7 at *
        clear H6
        have HOS : Hid (okS x.name) := Lib.hid (show x.name.length ≤ maxLen by unfold maxLen; omega)
        have HMN : Hid (nKids (T.take j) x.dir < maxLen) := Lib.hid (by
          have := nKids_le (T.take j) x.dir
          have h2 : (T.take j).length ≤ j := List.length_take_le ..
          unfold maxLen; omega)
        go_wp2_with (at_mapUpdate; refine wpList_upd keStr _ rfl _ _ _ _ (.inl rfl) 3 Tryz.underlying92 (g x.dir) _ _ rfl (H7.out.1.ins _ HD.out) HMN.out x.name rfl HOS.out (.int .i64 (x.ino : Int)) rfl ?_; intro w8 hm8 hc8 hs8)
        have HF : Hid (Half w8 t S T (T.take (j + 1)) bm f g ∧ Chg S w1 w8) := Lib.hid (by
          refine ⟨?_, H7.out.2.trans hc8 (fun z hz => ?_)⟩
          · rw [take_more HX.out]
            have hno : φK (T.take j) x.dir x.name = none := by unfold φK; rw [no_kid HT.out HX.out]; rfl
            rw [hno] at hm8
            exact H7.out.1.join (no_kid HT.out HX.out) HD.out hm8 hc8
          · simp at hz; subst hz
            exact .inl (H7.out.1.mem.2.2.2 _ HD.out))
        clear hm8 hc8 hs8
        go_wp2
        go_roundg (T.length - j - 1)
        case measure => omega
        case rel => exact ⟨j + 2, by first | rfl | go_num | (congr 1; omega), by omega, by omega, HF⟩
    · have HA2 : Hid (Half wr t S T T bm f g ∧ Chg S w1 wr) := Lib.hid (by
        obtain rfl : k = T.length + 1 := by omega
        have h := HA.out
        rw [show T.length + 1 - 1 = T.length by omega, List.take_length] at h
        exact h)
      have HI2 := Lib.hid (hinos_any t S T T bm f g wr HT.out HA2.out.1)
      clear HA hkg HQS HQ0
      obtain ⟨wo, rfl⟩ : ∃ wo : World, wo = wr := ⟨_, rfl⟩
      go_wp2_with fail
      refine HI2.out.mono ?_
      rintro e w2 ⟨v, rfl, hrow, hc2⟩
      obtain ⟨gr2, cr2, rfl, hgr4, hgr5, q0, qs⟩ := inos_row hrow
      have HQ0 := Lib.hid q0
      have HQS := Lib.hid qs
      have H2 := Lib.hid (HA2.out.1.keep0 hc2)
      have HC2 : Hid (Chg S w w2) := Lib.hid (((HC1.out.mono (by simp)).trans HA2.out.2 (fun z hz => .inl hz)).trans hc2 (by simp))
      clear hrow hc2 q0 qs HI2
      obtain ⟨gko, rfl⟩ : ∃ gko : Nat, gko = gk := ⟨_, rfl⟩
      go_wp2
      go_loopg [74] (T.length + 1) (fun gh v74 wr => ∃ k : Nat, v74 = .int .i64 k ∧ k ≤ T.length + 1 ∧ T.length + 1 ≤ k + gh ∧ Hid (Chg [] w2 wr))
      case atStart => exact ⟨0, rfl, by omega, by omega, Lib.hid (Chg.refl _ _)⟩
      case round =>
        obtain ⟨k, rfl, hk, hkg, HW⟩ := hrel
        by_cases hlt : k < T.length + 1
        · obtain ⟨a, ha, hcell⟩ : ∃ a : Nat, tHas T a = true ∧ wr.cell? ⟨gr2, k, none⟩ = some (.int .i64 (a : Int)) := by
            rcases Nat.eq_zero_or_pos k with hk0 | hk0
            · subst hk0
              exact ⟨1, rfl, HW.out.cell HQ0.out (by simp)⟩
            · obtain ⟨j, rfl⟩ : ∃ j, k = j + 1 := ⟨k - 1, by omega⟩
              obtain ⟨x, hx⟩ : ∃ x, T[j]? = some x := ⟨_, List.getElem?_eq_getElem (by omega)⟩
              exact ⟨x.ino, has_iff.2 (.inr ⟨x, List.mem_of_getElem? hx, rfl⟩), HW.out.cell (HQS.out j x hx) (by simp)⟩
          obtain ⟨m, hm⟩ : ∃ m, ReachN T a m := by
            rcases has_iff.1 ha with rfl | ⟨x, hx, rfl⟩
            · exact ⟨0, .root⟩
            · exact reachN (HR.out x hx)
          have hmle := reachN_le HT.out hm
          have HM := Lib.hid hm
          have HWH := Lib.hid (H2.out.keep0 HW.out)
          have c0 := blk_cell HWH.out.head 0 _ rfl
          have hz : (k : Int) < ((T.length + 1 : Nat) : Int) := by omega
          have hmm : m ≤ T.length := hmle
          clear hm ha
          obtain ⟨wz, rfl⟩ : ∃ wz : World, wz = wr := ⟨_, rfl⟩
          obtain ⟨gkz, rfl⟩ : ∃ gkz : Nat, gkz = gk := ⟨_, rfl⟩
          go_wp2_with (refine wpList_rng keInt _ rfl _ _ rfl 51 Tryz.underlying53 bm (T.length + 1) (φT T f) rfl HWH.out.things ?_; intro w3 hr3 hc3 hs3; have HR3 := Lib.hid (And.intro hr3 (And.intro hc3 hs3)); clear hr3 hc3 hs3)
          have HLT := Lib.hid hlt
          clear hz hlt
          generalize decide ((k : Int) < ((T.length : Int) + 1)) = bz
          go_frame
          go_loopg [10] (T.length + 1) (fun gh v10 wr => ∃ (a q : Nat) (ks : List Int) (left : Int → Bool) (cnt : Nat), v10 = .int .i64 (a : Int) ∧ cnt ≤ gh ∧ q + ks.length ≤ T.length ∧ Hid (ReachN T a q) ∧ Hid (Rng 3 klI okI wr bm wz.heap.size (φT T f) (T.length + 1) left cnt) ∧
            Hid (ks.Nodup ∧ ∀ k, okI k → (k ∈ ks ↔ k ∈ inosL T ∧ left k = false)) ∧ Hid (∀ k ∈ ks, okI k) ∧ Hid (Chg [] wz wr))
          case atStart =>
            refine ⟨a, m, [], _, _, rfl, Nat.le_refl _, by simpa using hmm, HM, Lib.hid HR3.out.1, Lib.hid ⟨List.nodup_nil, fun k hk => ?_⟩, Lib.hid (by simp), Lib.hid HR3.out.2.1⟩
            constructor
            · intro h; cases h
            · rintro ⟨h1, h2⟩
              rw [(φT_some (f := f) k).2 h1] at h2; cases h2
          case round =>
            obtain ⟨a, q, ks, left, cnt, rfl, hcg, hkc, HRN, HRG, HK, HO, HC⟩ := hrel
            go_wp2_with (refine wpList_nxtI _ rfl _ rfl bm wz.heap.size (T.length + 1) (φT T f) left cnt rfl HRG.out ?_ ?_)
            · intro hc0 hl0
              exfalso
              have HALL : ∀ k, k ∈ ks ↔ k ∈ inosL T := fun k => by
                constructor
                · intro hk
                  exact ((HK.out.2 k (HO.out k hk)).1 hk).1
                · intro hk
                  have hki : okI k := by
                    rw [inosL_mem] at hk
                    have := has_small HT.out hk.2
                    exact i64_ok (by omega) (by omega)
                  exact (HK.out.2 k hki).2 ⟨hk, hl0 k hki⟩
              have := congrArg List.length (sorted_inos HT.out HK.out.1 HALL)
              rw [List.length_mergeSort, inosL_len] at this
              omega
            · intro x v w4 cnt2 hox hlx hvx hr4 hlt4 hc4 hs4 hen
              have HX : Hid (x ∈ inosL T ∧ x ∉ ks ∧ okI x) := Lib.hid (by
                have h1 := (φT_some (f := f) x).1 (by rw [hvx]; rfl)
                refine ⟨h1, fun hk => ?_, hox⟩
                have := ((HK.out.2 x hox).1 hk).2
                rw [hlx] at this; cases this)
              have HC4 : Hid (Chg [] wz w4) := Lib.hid (HC.out.trans hc4 (fun z hz => by simp at hz; right; omega))
              have H4 := Lib.hid (HWH.out.keep0 HC4.out)
              have HR4 := Lib.hid hr4
              have HW4 : Hid (Chg [] w2 w4) := Lib.hid (chg_tr HW.out HC4.out)
              have c1 := blk_cell H4.out.head 0 _ rfl
              clear hox hlx hvx hr4 hc4 hs4 hen c0 hcell
              by_cases ha1 : a = 1
              · subst ha1
                have hlt := HLT.out
                go_wp2
                go_roundg (T.length + 1 - k - 1)
                case measure => omega
                case rel => exact ⟨k + 1, by go_num, by omega, by omega, HW4⟩
              · obtain ⟨q', rfl, hup⟩ := up_step HT.out HRN.out ha1
                have hah : tHas T a = true := by
                  have h0 := HRN.out
                  cases h0 with
                  | step hx _ => exact has_iff.2 (.inr ⟨_, hx, rfl⟩)
                have haz : ((a : Int) == 1) = false := by simp; omega
                have hlk := H4.out.at hah
                have d0 := (H4.out.cells hah).1
                have HUP := Lib.hid hup
                clear hup hah
                go_wp2
                go_roundg cnt2
                case measure => omega
                case rel =>
                  refine ⟨(thOf T a).dir, q', ks ++ [x], _, cnt2, rfl, Nat.le_refl _, by simp; omega, HUP, HR4, Lib.hid ⟨?_, fun k hk => ?_⟩, Lib.hid (fun k hk => ?_), HC4⟩
                  · refine List.nodup_append.2 ⟨HK.out.1, by simp, fun a ha b hb => ?_⟩
                    simp at hb
                    rintro rfl
                    subst hb
                    exact HX.out.2.1 ha
                  · rw [List.mem_append, HK.out.2 k hk]
                    by_cases e : k = x
                    · subst e; simp [HX.out.1]
                    · simp [e]
                  · rcases List.mem_append.1 hk with hk | hk
                    · exact HO.out k hk
                    · simp at hk; subst hk; exact HX.out.2.2
        · have HF : Hid (JoinPost t S T bm f g w (.returned (.tuple #[])) wr) := Lib.hid ⟨rfl, H2.out.keep0 HW.out, HC2.out.trans HW.out (by simp)⟩
          go_wp2
          first | go_end0 | skip
          exact HF.out
end Go.Proofs.YtaiihklfeoeoeaaGreat.W

/- Package tree: Read. -/
namespace Go.Proofs.YtaiihklfeoeoeaaGreat.W
open Go.RowKit
open Go.Proofs.YtaiihklfeoeoeaaGreat.NM
set_option linter.unusedVariables false
set_option linter.unusedSimpArgs false

theorem assertT_nil (w : World) : (Instr.typeAssert .nilIface 20 83 true).run Tryz.prog w = .ok (.tuple #[.agg #[.int .i64 0], .bool false]) w := by kernel_rfl
theorem assertT_give (x : Int) (w : World) : (Instr.typeAssert (.iface 83 (.agg #[.int .i64 x])) 20 83 true).run Tryz.prog w = .ok (.tuple #[.agg #[.int .i64 x], .bool true]) w := by kernel_rfl

set_option maxHeartbeats 2000000 in
set_option maxRecDepth 100000 in
theorem catchT_idle (pa pb : Value) (w : World) :
    CallsD Tryz.prog 35 #[pa, pb] .returning w fun e u' w' => e = .returned (.tuple #[]) ∧ u' = .returning ∧ w' = w.alloc (.cells #[.int .i64 0] 83) := by
  have hta := assertT_nil
  refine callsD_of_wpS Tryz.func35 rfl fun c₀ cs hu => ?_
  rw [Tryz.ntmps35]
  change Code.wpS Tryz.prog _ _ ⟨#[pa, pb, undef, undef, undef, undef, undef, undef, undef, undef, undef, undef], []⟩ _ _
  apply wpS_seq
  apply wpS_region
  simp [wpOpsS, go_sem, recoverD, hu, Exit.thenS, hta]
  apply wpS_seq
  apply wpS_region
  simp [wpOpsS, go_sem, Exit.thenS]
  refine wpS_cond (t := false) (by simp [Act.eval]) ?_
  simp only [Bool.false_eq_true, if_false]
  refine wpS_of_wp (wp_skip ?_)
  cases c₀
  simp_all [bodyPostS, results, Tryz.results35]

set_option maxHeartbeats 2000000 in
set_option maxRecDepth 100000 in
theorem catchT_give (pa pb : Nat) (x : Int) (v1 v2 : Value) (older : List PanicEntry) (w : World) (ha : w.heap[pa]? = some (.cells #[v1] 25 (0, 0))) (hb : w.heap[pb]? = some (.cells #[v2] 40 (0, 0))) (hne : pa ≠ pb) :
    CallsD Tryz.prog 35 #[.pointer (some ⟨pa, 0, none⟩), .pointer (some ⟨pb, 0, none⟩)] (.panicking ({ v := .iface 83 (.agg #[.int .i64 x]), recovered := false } :: older)) w fun e u' w' =>
      e = .returned (.tuple #[]) ∧ u' = .panicking ({ v := .iface 83 (.agg #[.int .i64 x]), recovered := true } :: older) ∧ Chg [pa, pb] w w' ∧ w'.heap[pa]? = some (.cells #[.pointer none] 25 (0, 0)) ∧ w'.heap[pb]? = some (.cells #[.int .i64 x] 40 (0, 0)) := by
  have hta := assertT_give x
  have ha0 := blk_cell ha 0 _ rfl
  have hb0 := blk_cell hb 0 _ rfl
  have fa0 := blk_frozen ha 0
  have fb0 := blk_frozen hb 0
  have l1 := blk_lt ha
  have l2 := blk_lt hb
  have l3 : ¬ (pa = w.heap.size) := Nat.ne_of_lt l1
  have l4 : ¬ (pb = w.heap.size) := Nat.ne_of_lt l2
  have l5 : ¬ (w.heap.size = pa) := fun e => l3 e.symm
  have l6 : ¬ (w.heap.size = pb) := fun e => l4 e.symm
  have l7 : ¬ (pb = pa) := fun e => hne e.symm
  have HA := Lib.hid ha
  have HB := Lib.hid hb
  clear ha hb
  refine callsD_of_wpS Tryz.func35 rfl fun c₀ cs hu => ?_
  rw [Tryz.ntmps35]
  change Code.wpS Tryz.prog _ _ ⟨#[_, _, undef, undef, undef, undef, undef, undef, undef, undef, undef, undef], []⟩ _ _
  apply wpS_seq
  apply wpS_region
  simp [wpOpsS, go_sem, recoverD, hu, Exit.thenS, hta]
  apply wpS_seq
  apply wpS_region
  simp [wpOpsS, go_sem, Exit.thenS]
  refine wpS_cond (t := true) (by simp [Act.eval]) ?_
  simp only [if_true]
  refine wpS_of_wp ?_
  go_region
  refine ⟨rfl, _, rfl, .tuple #[], by simp [results, Tryz.results35], rfl, rfl, ?_, ?_, ?_⟩
  · exact ((((Chg.refl [pa, pb] w).setCell (p := ⟨pa, 0, none⟩) (.inl (by simp)) _).setCell (p := ⟨pb, 0, none⟩) (.inl (by simp)) _).alloc _).drew
  · exact blk_alloc (blk_sets (set_blk HA.out) hne)
  · exact blk_alloc (set_blk (blk_sets HB.out l7))

def ReadPost (b : Nat) (T : PT) (r : List UInt8) (w : World) (e : Ending) (w' : World) : Prop :=
  (r = [] → ∃ t S, e = .returned (.tuple #[.pointer (some ⟨t, 0, none⟩), .int .i64 0]) ∧ TreeAt w' t S T ∧ (∀ x ∈ S, w.heap.size ≤ x) ∧ Chg [b] w w') ∧ (r ≠ [] → e = .returned (.tuple #[.pointer none, .int .i64 2]) ∧ Chg [b] w w')

set_option maxHeartbeats 8000000 in
set_option maxRecDepth 100000 in
theorem tread_any (b g : Nat) (T : PT) (l0 r : List UInt8) (w : World) (hT : TOk T) (hR : TR T) (hr : treeB T = l0 ++ r) (h : EyeAt w b g l0 0) :
    Calls Tryz.prog 13 #[.pointer (some ⟨b, 0, none⟩)] w (ReadPost b T r w) := by
  have HT := Lib.hid hT
  have HR := Lib.hid hR
  have hbl := h.blt
  obtain ⟨w2, hw2⟩ : ∃ w2, w2 = (w.alloc (.cells #[.pointer none] 25)).alloc (.cells #[.int .i64 0] 40) := ⟨_, rfl⟩
  have hc2 : Chg [] w w2 := by rw [hw2]; exact ((Chg.refl _ _).alloc _).alloc _
  have hpa : w2.heap[w.heap.size]? = some (.cells #[.pointer none] 25 (0, 0)) := by rw [hw2]; exact blk_alloc (heap_alloc_new w _)
  have hpb : w2.heap[w.heap.size + 1]? = some (.cells #[.int .i64 0] 40 (0, 0)) := by
    rw [hw2]
    have := heap_alloc_new (w.alloc (.cells #[.pointer none] 25)) (.cells #[.int .i64 0] 40)
    simpa using this
  have hs2 : w2.heap.size = w.heap.size + 2 := by rw [hw2]; simp
  have CR := Lib.hid (hrows_any b g T l0 r w2 hT hr (h.keep hc2 (by simp) (by simp)))
  have hmf : ∀ (fn : Fn) (first cap : Array Value) (w : World), (Instr.makeFunc fn first cap).run Tryz.prog w = .ok (.func fn first cap) w := fun _ _ _ _ => rfl
  have HW2 := Lib.hid hw2
  have HC2 := Lib.hid hc2
  have HPA := Lib.hid hpa
  have HPB := Lib.hid hpb
  clear h hT hR hr hw2 hc2 hpa hpb
  go_enter_defers Tryz.func13, Tryz.ntmps13
  go_wp2_with fail
  rw [← HW2.out]
  refine CR.out.mono ?_
  rintro e w3 (⟨rfl, t, S, bm, f, gg, hret, hh, hS, hc3⟩ | ⟨hr0, rfl, hc3⟩)
  · have hret' : e = .returned (.pointer (some ⟨t, 0, none⟩)) := hret
    clear hret
    subst hret'
    have hpa := hc3.keep HPA.out (by simp; omega)
    have hpb := hc3.keep HPB.out (by simp; omega)
    have hS2 : ∀ x ∈ S, w.heap.size + 2 ≤ x := fun x hx => by have := hS x hx; omega
    obtain ⟨w4, hw4⟩ : ∃ w4, w4 = w3.setCell ⟨w.heap.size, 0, none⟩ (.pointer (some ⟨t, 0, none⟩)) := ⟨_, rfl⟩
    have hc4 : Chg [w.heap.size] w3 w4 := by rw [hw4]; exact (Chg.refl _ w3).setCell (p := ⟨w.heap.size, 0, none⟩) (.inl (by simp)) _
    have hpa4 : w4.heap[w.heap.size]? = some (.cells #[.pointer (some ⟨t, 0, none⟩)] 25 (0, 0)) := by rw [hw4]; exact set_blk hpa
    have hpb4 : w4.heap[w.heap.size + 1]? = some (.cells #[.int .i64 0] 40 (0, 0)) := hc4.keep hpb (by simp)
    have hh4 := hh.keep hc4 (fun x hx hm => by have := hS2 x hx; simp at hm; omega)
    have HJ := Lib.hid (hjoin_any t S T bm f gg w4 HT.out HR.out hh4)
    have c3 := blk_cell hpa 0 _ rfl
    have f3 := blk_frozen hpa 0
    have l3 := blk_lt hpa
    have c4 := blk_cell hpa4 0 _ rfl
    have HP4 := Lib.hid (And.intro hpa4 hpb4)
    have HS2 := Lib.hid hS2
    have HC4 : Hid (Chg [b] w w4) := Lib.hid (((HC2.out.mono (by simp)).trans hc3 (fun z hz => .inl hz)).trans hc4 (fun z hz => by simp at hz; right; omega))
    have HW4 := Lib.hid hw4
    clear hpa hpb hpa4 hpb4 hc4 hh4 hh hS hc3 hS2 hw4
    go_wp2_with fail
    rw [← HW4.out]
    clear c3 f3 l3
    try go_wp2_with fail
    refine HJ.out.mono ?_
    rintro e w5 ⟨rfl, hh5, hc5⟩
    have hpa5 := hc5.keep HP4.out.1 (fun hm => by have := HS2.out _ hm; omega)
    have hpb5 := hc5.keep HP4.out.2 (fun hm => by have := HS2.out _ hm; omega)
    have a5 := blk_cell hpa5 0 _ rfl
    have f5 := blk_frozen hpa5 0
    have l5 := blk_lt hpa5
    have b5 := blk_cell hpb5 0 _ rfl
    have g5 := blk_frozen hpb5 0
    have m5 := blk_lt hpb5
    have l2 : ¬ (w.heap.size = w.heap.size + 1) := by omega
    have HP5 := Lib.hid (And.intro hpa5 hpb5)
    have H5 := Lib.hid (And.intro hh5 hc5)
    clear hpa5 hpb5 hh5 hc5 c4
    go_wp2_with fail
    refine leaves_cons (f := 35) (args := #[.pointer (some ⟨w.heap.size, 0, none⟩), .pointer (some ⟨w.heap.size + 1, 0, none⟩)]) (by simp) (by simp [go_sem]) ?_
    refine (catchT_idle _ _ _).mono ?_
    rintro e u' w'' ⟨rfl, rfl, rfl⟩
    obtain ⟨w9, hw9⟩ : ∃ w9, w9 = (w5.setCell ⟨w.heap.size, 0, none⟩ (.pointer (some ⟨t, 0, none⟩))).setCell ⟨w.heap.size + 1, 0, none⟩ (.int .i64 0) := ⟨_, rfl⟩
    have hc9 : Chg [w.heap.size, w.heap.size + 1] w5 w9 := by rw [hw9]; exact ((Chg.refl _ w5).setCell (p := ⟨w.heap.size, 0, none⟩) (.inl (by simp)) _).setCell (p := ⟨w.heap.size + 1, 0, none⟩) (.inl (by simp)) _
    have ca9 : w9.heap[w.heap.size]? = some (.cells #[.pointer (some ⟨t, 0, none⟩)] 25 (0, 0)) := by rw [hw9]; exact blk_sets (set_blk HP5.out.1) (by omega)
    have cb9 : w9.heap[w.heap.size + 1]? = some (.cells #[.int .i64 0] 40 (0, 0)) := by rw [hw9]; exact set_blk (blk_sets HP5.out.2 (by omega))
    rw [← hw9]
    have hc10 := hc9.alloc (.cells #[.int .i64 0] 83)
    refine ⟨.tuple #[.pointer (some ⟨t, 0, none⟩), .int .i64 0], by simp [results, Tryz.results13, go_sem, blk_cell (blk_alloc (o' := .cells #[.int .i64 0] 83) ca9) 0 _ rfl, blk_cell (blk_alloc (o' := .cells #[.int .i64 0] 83) cb9) 0 _ rfl], fun _ => ?_, fun h => absurd rfl h⟩
    refine ⟨t, S, rfl, ⟨bm, f, gg, (H5.out.1.keep hc10 (fun x hx hm => by have := HS2.out x hx; simp at hm; omega)).whole HT.out⟩, fun x hx => by have := HS2.out x hx; omega, ?_⟩
    exact (HC4.out.trans H5.out.2 (fun z hz => by have := HS2.out z hz; right; omega)).trans hc10 (fun z hz => by simp at hz; right; omega)
  · have hpa := hc3.keep HPA.out (by simp; omega)
    have hpb := hc3.keep HPB.out (by simp; omega)
    have CP := Lib.hid (catchT_give w.heap.size (w.heap.size + 1) 2 _ _ [] w3 hpa hpb (by omega))
    have HC3 : Hid (Chg [b] w w3) := Lib.hid ((HC2.out.mono (by simp)).trans hc3 (fun z hz => .inl hz))
    have HR0 := Lib.hid hr0
    clear hpa hpb hc3 hr0
    unfold tGave
    go_wp2_with fail
    refine leaves_cons (f := 35) (args := #[.pointer (some ⟨w.heap.size, 0, none⟩), .pointer (some ⟨w.heap.size + 1, 0, none⟩)]) (by simp) (by simp [go_sem]) ?_
    refine CP.out.mono ?_
    rintro e u' w'' ⟨rfl, rfl, hc, ha, hb⟩
    refine ⟨.tuple #[.pointer none, .int .i64 2], by simp [results, Tryz.results13, go_sem, blk_cell ha 0 _ rfl, blk_cell hb 0 _ rfl], fun e => absurd e HR0.out, fun _ => ⟨rfl, HC3.out.trans hc (fun z hz => by simp at hz; right; omega)⟩⟩
end Go.Proofs.YtaiihklfeoeoeaaGreat.W

/- A tree that was written is read, and goes on as it would have. -/
namespace Go.Proofs.YtaiihklfeoeoeaaGreat.treeBack
open Go.RowKit
open Go.Proofs.YtaiihklfeoeoeaaGreat.NM
open Go.Proofs.YtaiihklfeoeoeaaGreat.W
open Go.Proofs.YtaiihklfeoeoeaaGreat.treePlays (deed_at)
set_option linter.unusedVariables false
set_option linter.unusedSimpArgs false

theorem cut_ok (x : Int) (L : Nat) (h2 : 2 ≤ L) (hL : L ≤ 2415) : ∃ n : Nat, n < L ∧ (wrap64 (x.tmod L + L)).tmod L = (n : Int) := by
  have h1 : x.tmod L < L := Int.tmod_lt_of_pos x (by omega)
  have h2 : -(L : Int) < x.tmod L := Int.lt_tmod_of_pos x (by omega)
  have h0 : wrap64 (x.tmod L + L) = x.tmod L + L := IntWalk.wrap64_in _ ⟨by omega, by omega⟩
  rw [h0]
  have h3 : (x.tmod L + L).tmod L = (x.tmod L + L) % L := Int.tmod_eq_emod_of_nonneg (by omega)
  have h4 := Int.emod_nonneg (x.tmod L + L) (show (L : Int) ≠ 0 by omega)
  have h5 := Int.emod_lt_of_pos (x.tmod L + L) (show (0 : Int) < L by omega)
  rw [h3]
  exact ⟨((x.tmod L + L) % L).toNat, by omega, by omega⟩
theorem tree_same {w w' : World} {t : Nat} {S : List Nat} {T : PT} (h : TreeAt w t S T) (hk : KeepK S w w') : TreeAt w' t S T := by
  obtain ⟨bm, f, g, h⟩ := h
  refine ⟨bm, f, g, {
    head := (hk _ h.mem.1).trans h.head
    things := h.things.keep (hk _ h.mem.2.1)
    each := fun a ha => (hk _ (h.mem.2.2.1 a ha)).trans (h.each a ha)
    ins := fun a ha => (h.ins a ha).keep (hk _ (h.mem.2.2.2 a ha))
    finj := h.finj
    ginj := h.ginj
    gm := h.gm
    mem := h.mem
    lim := fun x hx => ?_
    ok := h.ok }⟩
  have h1 := h.lim x hx
  have h2 := hk x hx
  rw [Array.getElem?_eq_getElem h1] at h2
  exact (Array.getElem?_eq_some_iff.1 h2).1
theorem doT_tr {T : PT} (hT : TOk T) (h : TR T) (x : Dd) : TR (doT T x) := by
  unfold doT
  split
  · exact h.make hT _ _
  · split
    · exact h.remove _ _
    · exact h.move hT _ _
theorem bytes0 {w w' : World} {v : Value} {l : List UInt8} (h : BytesAt w v l) (hc : Chg [] w w') : BytesAt w' v l := by
  obtain ⟨a, cap, rfl, h1, h2, h3⟩ := h
  refine ⟨a, cap, rfl, h1, h2, ?_⟩
  rcases h3 with h3 | ⟨g, o, rfl, hcl⟩
  · exact .inl h3
  · exact .inr ⟨g, o, rfl, fun i hi => hc.cell (hcl i hi) (by simp)⟩
/-- The tree that was read, beside the reference. -/
theorem read_both {W wr w5 : World} {t b u : Nat} {S S' : List Nat} {v : Value} {T : PT} {base : Nat} (h : Two W wr t b S v T T) (hc : Chg [] wr w5) (hu : TreeAt w5 u S' T) (hS : ∀ x ∈ S', base ≤ x) (hb : wr.heap.size ≤ base) (G : List Nat) (hG : ∀ k ∈ G, wr.heap.size ≤ k ∧ k < base ∧ k < w5.heap.size) : Both (S ++ G) W w5 u b T T := by
  have hrl := h.refs.lt
  have hvl : ∀ g, v.ownBlock = some g → g < wr.heap.size := fun g hg => (World.ownsRow.lt h.refs.rows g hg).2
  have hwl := h.chg.size
  refine ⟨S', v, ⟨hu, h.refs.keep0 hc, fun x hx => by have := hS x hx; omega, h.newb, fun hm => by have := hS b hm; omega, fun g hg hm => by have := hS g hm; have := hvl g hg; omega, chg_tr h.chg hc⟩, fun k hk => ?_⟩
  rcases List.mem_append.1 hk with hk | hk
  · have h1 := h.ours.lim k hk
    exact ⟨fun hm => by have := hS k hm; omega, fun e => h.apart (e ▸ hk), fun e => h.apart2 k e hk, Nat.lt_of_lt_of_le h1 hc.size⟩
  · obtain ⟨g1, g2, g3⟩ := hG k hk
    exact ⟨fun hm => by have := hS k hm; omega, fun e => by omega, fun e => by have := hvl k e; omega, g3⟩

theorem both_keepK {K : List Nat} {w0 w w' : World} {t b : Nat} {T U : PT} (h : Both K w0 w t b T U) (hc : Chg [] w w') : KeepK K w w' := by
  obtain ⟨S, v, _, hK⟩ := h
  exact .of_chg hc (fun k hk => ⟨by simp, (hK k hk).2.2.2⟩)
theorem take_bytes {w : World} {gb cap n : Nat} {l : List UInt8} (h : BytesAt w (.slice (some ⟨gb, 0, none⟩) l.length cap) l) (hn : n ≤ l.length) : BytesAt w (.slice (some ⟨gb, 0, none⟩) n cap) (l.take n) := by
  have hl : (l.take n).length = n := by rw [List.length_take]; omega
  obtain ⟨a, c, e, h1, h2, h3⟩ := h
  simp only [Value.slice.injEq] at e
  obtain ⟨e1, _, e3⟩ := e
  subst e3
  refine ⟨some ⟨gb, 0, none⟩, cap, by rw [hl], by omega, h2, ?_⟩
  rcases h3 with ⟨h4, h5⟩ | ⟨g, o, h4, hcl⟩
  · subst h4
    exact .inl ⟨by simp, h5⟩
  · refine .inr ⟨g, o, by rw [e1, h4], fun i hi => ?_⟩
    rw [hl] at hi
    rw [getD_take l n i hi]
    exact hcl i (by omega)

set_option maxHeartbeats 8000000 in
set_option maxRecDepth 100000 in
theorem walk (a0 : Option Addr) (len0 cap0 : Nat) (f0 : Nat → Dd) (a1 : Option Addr) (len1 cap1 : Nat) (f1 : Nat → Dd) (a2 : Int) (W : World) (w0 : len0 ≤ maxLen ∧ DeedsAt W a0 len0 f0) (w1 : len1 ≤ maxLen ∧ DeedsAt W a1 len1 f1) (w2 : (Lit.int .i64 a2).wf = true) :
    Calls Tryz.prog 4 #[.slice a0 len0 cap0, .slice a1 len1 cap1, .int .i64 a2] W fun e W' => e = .returned (.bool true) ∧ Below W.heap.size W W' := by
  obtain ⟨hlm, hd0⟩ := w0
  obtain ⟨hlm1, hd1⟩ := w1
  have CA := Lib.hid (tawake_any W)
  have HD := Lib.hid hd0
  have HLM := Lib.hid hlm
  have HD1 := Lib.hid hd1
  have HLM1 := Lib.hid hlm1
  unfold maxLen at hlm hlm1
  clear hd0 hd1 w2
  go_enter Tryz.func4, Tryz.ntmps4
  go_wp2_with fail
  refine CA.out.mono ?_
  rintro e wa ⟨rfl, hc1⟩
  have HC1 := Lib.hid hc1
  have CR := Lib.hid (room_any a0 len0 cap0 f0 50 wa (HD.out.keep hc1) HLM.out)
  have CR1 := Lib.hid (room_any a1 len1 cap1 f1 30 wa (HD1.out.keep hc1) HLM1.out)
  clear hc1 CA
  by_cases hroom : roomB len0 f0 50 = true ∧ roomB len1 f1 30 = true
  · obtain ⟨hr1, hr2⟩ := hroom
    obtain ⟨hn50, hsmall⟩ := room_true hr1
    obtain ⟨hn30, hsmall1⟩ := room_true hr2
    rw [hr1] at CR
    rw [hr2] at CR1
    have HSM := Lib.hid hsmall
    have HSM1 := Lib.hid hsmall1
    clear hr1 hr2 hsmall hsmall1
    go_wp2_with fail
    refine CR.out.mono ?_
    rintro e w' ⟨rfl, rfl⟩
    go_wp2_with fail
    refine CR1.out.mono ?_
    rintro e w' ⟨rfl, rfl⟩
    go_wp2_with fail
    refine (onew_any HC1.out).mono ?_
    rintro e w2 ⟨t, rfl, ht⟩
    have HB0 := Lib.hid ht.both
    clear ht CR CR1
    obtain ⟨b, hb⟩ : ∃ b, b = w2.heap.size := ⟨_, rfl⟩
    rw [← hb] at HB0
    go_wp2
    rw [← hb]
    clear hb
    go_loopg [9] len0 (fun gh v9 wr => ∃ k : Nat, v9 = .int .i64 k ∧ k ≤ len0 ∧ len0 ≤ k + gh ∧ Hid (∃ T, Both [] W wr t b T T ∧ TR T))
    case atStart => exact ⟨0, rfl, by omega, by omega, Lib.hid ⟨[], HB0.out, TR.nil⟩⟩
    case round =>
      obtain ⟨k, rfl, hk, hkg, HO⟩ := hrel
      obtain ⟨T, hT, hTR⟩ := HO.out
      by_cases hlt : k < len0
      · obtain ⟨g, o, rfl, hgl, c0, c1, c2, c3⟩ := deed_at HD.out hT.chg hlt
        have hx1 := (HSM.out k hlt).1
        have hx2 := (HSM.out k hlt).2
        have HT := Lib.hid hT
        have HTN := Lib.hid (doT_tr hT.oks.1 hTR (f0 k))
        generalize f0 k = x at *
        have CD := do_any HT.out x (by omega) (by omega)
        rw [doB_self] at CD
        have HCD := Lib.hid CD
        have hkz : (k : Int) < (len0 : Int) := by omega
        clear hT CD hTR HO
        go_wp2_with fail
        refine HCD.out.mono ?_
        rintro e w3 ⟨rfl, h3, _⟩
        have H3 := Lib.hid h3
        clear h3 HCD c0 c1 c2 c3
        go_wp2
        go_roundg (len0 - k - 1)
        case measure => omega
        case rel => exact ⟨k + 1, by go_num, by omega, by omega, Lib.hid ⟨_, H3.out, HTN.out⟩⟩
      · obtain ⟨S, v, H2, _⟩ := hT
        have HTW := Lib.hid H2
        have hok := Lib.hid H2.ours.ok
        have hTR' := Lib.hid hTR
        have hBL := treeB_len H2.ours.ok
        have CB := Lib.hid (tbytes_any t S T wr H2.ours)
        clear H2 HO hTR
        obtain ⟨l, hl⟩ : ∃ l, l = treeB T := ⟨_, rfl⟩
        have HLT := Lib.hid hl
        rw [← hl] at CB hBL
        clear hl
        go_wp2_with fail
        refine CB.out.mono ?_
        rintro e w3 ⟨vb, rfl, hrow, hnew, hc3⟩
        obtain ⟨gb, cap, rfl, hL⟩ : ∃ gb cap, vb = .slice (some ⟨gb, 0, none⟩) l.length cap ∧ l.length ≤ cap ∧ cap ≤ maxLen := by
          rcases hrow.2 with ⟨rfl, h0⟩ | ⟨gr, cap, cur, rfl, hbg, hg, hnc, hcm, hcs, htake⟩
          · omega
          · exact ⟨gr, cap, rfl, hnc, hcm⟩
        have hgb := hnew gb rfl
        have hgbl := hrow.lt gb rfl
        have HB3 : Hid (BytesAt w3 (.slice (some ⟨gb, 0, none⟩) l.length cap) l) := Lib.hid hrow.bytes
        have HC3 := Lib.hid hc3
        have CN := Lib.hid (neweye_any _ l w3 hrow.bytes (by omega))
        clear hrow hnew hc3 CB
        go_wp2_with fail
        refine CN.out.mono ?_
        rintro e w4 ⟨be, ge, rfl, he4, hbe, _, hc4⟩
        have CRd := Lib.hid (tread_any be ge T l [] w4 hok.out hTR'.out (by rw [← HLT.out, List.append_nil]) he4)
        have HC4 := Lib.hid hc4
        have h34 := hc4.size
        clear he4 hc4 CN
        go_wp2_with fail
        refine CRd.out.mono ?_
        rintro e w5 ⟨hrd, _⟩
        obtain ⟨u, S', rfl, hu, hS', hc5⟩ := hrd rfl
        have HC5 : Hid (Chg [] wr w5) := Lib.hid ((chg_tr HC3.out HC4.out).trans hc5 (fun z hz => by simp at hz; have := HC3.out.size; right; omega))
        have HC35 : Hid (Chg [] w3 w5) := Lib.hid (HC4.out.trans hc5 (fun z hz => by simp at hz; right; omega))
        have h35 := HC35.out.size
        have h03 := HC3.out.size
        have HBT : Hid (Both (S ++ [gb]) W w5 u b T T) := Lib.hid (read_both HTW.out HC5.out hu (base := w4.heap.size) hS' (by omega) [gb] (fun z hz => by simp at hz; subst hz; exact ⟨hgb, by omega, by omega⟩))
        have HT5 := Lib.hid (HTW.out.ours.keep0 HC5.out)
        have HB5 : Hid (BytesAt w5 (.slice (some ⟨gb, 0, none⟩) l.length cap) l) := Lib.hid (bytes0 HB3.out HC35.out)
        have HU := Lib.hid hu
        clear hrd hu hS' hc5 CRd
        have CB2 := Lib.hid (tbytes_any u S' T w5 HU.out)
        rw [← HLT.out] at CB2
        go_wp2_with fail
        refine CB2.out.mono ?_
        rintro e w6 ⟨vc, rfl, hrow, _, hc6⟩
        have CS := Lib.hid (same_any vc _ l l w6 hrow.bytes (bytes0 HB5.out hc6) (by omega) (by omega))
        rw [decide_eq_true rfl] at CS
        have HC6 := Lib.hid hc6
        obtain ⟨ac, cc, hvc, _⟩ := hrow.bytes
        subst hvc
        clear hrow hc6 CB2
        go_wp2_with fail
        refine CS.out.mono ?_
        rintro e w7 ⟨rfl, n7, rfl⟩
        have HC7 : Hid (Chg [] w5 (w6.drewN n7)) := Lib.hid (HC6.out.drewN n7)
        generalize w6.drewN n7 = w7 at *
        obtain ⟨n, hn, hne⟩ := cut_ok a2 l.length hBL.1 hBL.2
        have hz0 : ¬ ((l.length : Int) = 0) := by omega
        have hnc : (n : Int) ≤ (cap : Int) := by omega
        have hn0 : (0 : Int) ≤ (n : Int) := by omega
        have hz2 : ¬ ((l.length : Int) < 2) := by omega
        clear CS HC6
        have HB7 : Hid (BytesAt w7 (.slice (some ⟨gb, 0, none⟩) l.length cap) l) := Lib.hid (bytes0 HB5.out HC7.out)
        have hln : (l.take n).length = n := by rw [List.length_take]; omega
        have CN2 := Lib.hid (neweye_any _ (l.take n) w7 (take_bytes HB7.out (by omega)) (by omega))
        go_wp2_with fail
        refine CN2.out.mono ?_
        rintro e w8 ⟨be2, ge2, rfl, he8, hbe2, _, hc8⟩
        have CRd := Lib.hid (tread_any be2 ge2 T (l.take n) (l.drop n) w8 hok.out hTR'.out (by rw [← HLT.out, List.take_append_drop]) he8)
        have HC8 := Lib.hid hc8
        have HDN : Hid (l.drop n ≠ []) := Lib.hid (fun e => by
          have := congrArg List.length e
          rw [List.length_drop] at this
          simp at this
          omega)
        clear he8 hc8 CN2 hne
        go_wp2_with fail
        refine CRd.out.mono ?_
        rintro e w9 ⟨_, hrd⟩
        obtain ⟨rfl, hc9⟩ := hrd HDN.out
        have HC9 : Hid (Chg [] w5 w9) := Lib.hid (chg_tr HC7.out (HC8.out.trans hc9 (fun z hz => by simp at hz; right; omega)))
        have HB9 : Hid (BytesAt w9 (.slice (some ⟨gb, 0, none⟩) l.length cap) l) := Lib.hid (bytes0 HB5.out HC9.out)
        have HT9 := Lib.hid (HT5.out.keep0 HC9.out)
        have HBT9 := Lib.hid (HBT.out.keep HC9.out)
        clear hrd hc9 CRd
        go_wp2
        obtain ⟨ko, rfl⟩ : ∃ ko : Nat, ko = k := ⟨_, rfl⟩
        obtain ⟨wo, rfl⟩ : ∃ wo : World, wo = wr := ⟨_, rfl⟩
        obtain ⟨gko, rfl⟩ : ∃ gko : Nat, gko = gk := ⟨_, rfl⟩
        go_loopg [16] len1 (fun gh v16 wr => ∃ k : Nat, v16 = .int .i64 k ∧ k ≤ len1 ∧ len1 ≤ k + gh ∧ Hid (∃ T', Both (S ++ [gb]) W wr u b T' T' ∧ KeepK (S ++ [gb]) w9 wr))
        case atStart => exact ⟨0, rfl, by omega, by omega, Lib.hid ⟨T, HBT9.out, fun _ _ => rfl⟩⟩
        case round =>
          obtain ⟨k, rfl, hk1, hkg1, HO1⟩ := hrel
          obtain ⟨T', hT', hKK⟩ := HO1.out
          by_cases hlt1 : k < len1
          · obtain ⟨g, o, rfl, hgl, c0, c1, c2, c3⟩ := deed_at HD1.out hT'.chg hlt1
            have HDA : Hid (∀ w', Chg [] W w' → w'.cell? ⟨g, o + k * 4 + 1, none⟩ = some (.string (mk (f1 k).p))) := Lib.hid (fun w' hc => by
              obtain ⟨g', o', e, _, _, c1, _, _⟩ := deed_at HD1.out hc hlt1
              simp only [Option.some.injEq, Addr.mk.injEq, and_true] at e
              obtain ⟨rfl, rfl⟩ := e
              exact c1)
            have hx1 := (HSM1.out k hlt1).1
            have hx2 := (HSM1.out k hlt1).2
            have HT' := Lib.hid hT'
            have HKK := Lib.hid hKK
            generalize f1 k = x at *
            have CD := do_any HT'.out x (by omega) (by omega)
            rw [doB_self] at CD
            have HCD := Lib.hid CD
            have hkz : (k : Int) < (len1 : Int) := by omega
            clear hT' CD hKK HO1
            go_wp2_with fail
            refine HCD.out.mono ?_
            rintro e w3' ⟨rfl, h3, hk3⟩
            have H3 := Lib.hid h3
            have HK3 := Lib.hid (HKK.out.trans hk3)
            have d1 := HDA.out w3' h3.chg
            clear h3 hk3 HCD c0 c1 c2 c3
            go_wp2_with fail
            refine (looks_any H3.out (mk x.p) (by rw [size_len, data_mk]; omega)).mono ?_
            rintro e w4' ⟨rfl, hc4'⟩
            have H4 := Lib.hid (H3.out.keep hc4')
            have HK4 := Lib.hid (HK3.out.trans (both_keepK H3.out hc4'))
            clear hc4' d1
            go_wp2
            go_roundg (len1 - k - 1)
            case measure => omega
            case rel => exact ⟨k + 1, by go_num, by omega, by omega, Lib.hid ⟨_, H4.out, HK4.out⟩⟩
          · have HTt := Lib.hid (tree_same HT9.out (fun z hz => hKK z (List.mem_append_left _ hz)))
            have HBt : Hid (BytesAt wr (.slice (some ⟨gb, 0, none⟩) l.length cap) l) := Lib.hid (BytesAt.keep HB9.out (fun z hz => hKK z (by
              have : gb = z := by simpa [Value.ownBlock] using hz
              subst this; simp)))
            have HCt := Lib.hid hT'.chg
            have CB3 := Lib.hid (tbytes_any t S T wr HTt.out)
            rw [← HLT.out] at CB3
            clear hT' hKK HO1
            go_wp2_with fail
            refine CB3.out.mono ?_
            rintro e w3' ⟨vd, rfl, hrow, _, hc3'⟩
            have CS := Lib.hid (same_any vd _ l l w3' hrow.bytes (bytes0 HBt.out hc3') (by omega) (by omega))
            rw [decide_eq_true rfl] at CS
            have HCf := Lib.hid (chg_tr HCt.out hc3')
            obtain ⟨ad, cd, hvd, _⟩ := hrow.bytes
            subst hvd
            clear hrow hc3' CB3
            go_wp2_with fail
            refine CS.out.mono ?_
            rintro e w4' ⟨rfl, n4, rfl⟩
            have HCg : Hid (Chg [] W (w3'.drewN n4)) := Lib.hid (HCf.out.drewN n4)
            go_wp2
            go_ret
            exact ⟨rfl, HCg.out.below (by simp)⟩
  · have HNR := Lib.hid hroom
    clear hroom
    generalize hrb : roomB len0 f0 50 = rb at *
    generalize hrb1 : roomB len1 f1 30 = rb1 at *
    have HRB := Lib.hid (And.intro hrb hrb1)
    clear hrb hrb1
    cases rb with
    | false =>
      go_wp2_with fail
      refine CR.out.mono ?_
      rintro e w' ⟨rfl, rfl⟩
      go_wp2
      go_ret
      exact ⟨rfl, HC1.out.below (by simp)⟩
    | true =>
      obtain rfl : rb1 = false := by
        cases rb1 with
        | false => rfl
        | true => exact absurd ⟨rfl, rfl⟩ HNR.out
      go_wp2_with fail
      refine CR.out.mono ?_
      rintro e w' ⟨rfl, rfl⟩
      go_wp2_with fail
      refine CR1.out.mono ?_
      rintro e w' ⟨rfl, rfl⟩
      go_wp2
      go_ret
      exact ⟨rfl, HC1.out.below (by simp)⟩
end Go.Proofs.YtaiihklfeoeoeaaGreat.treeBack
