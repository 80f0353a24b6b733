/- Package wire's eye: Raw, whole. -/
import Derived.Test.YtipfgghdoicdhaaDoorNum
import Derived.Test.YtipfgghdoicdhaaDoorEMore
namespace Go.Proofs.YtipfgghdoicdhaaDoor.W
open Go.RowKit
set_option linter.unusedVariables false
set_option linter.unusedSimpArgs false

/-- Raw: the bytes, what is left, the error. -/
def eyeRaw (l : List UInt8) (bad : Int) (most : Nat) : List UInt8 × List UInt8 × Int :=
  if bad ≠ 0 then ([], l, bad) else if l.length < 2 then ([], l, 2) else
  if most < beNum (l.take 2) then ([], l, 3) else if (l.drop 2).length < beNum (l.take 2) then ([], l, 2) else ((l.drop 2).take (beNum (l.take 2)), (l.drop 2).drop (beNum (l.take 2)), 0)

theorem enters3 : ∀ args w, (callFunc 81 args).run Tryd.prog w = .ok (.enter 81 args) w := enters_of Tryd.func81 (by kernel_rfl) rfl

def rawW1 (b g o cap : Nat) (l : List UInt8) (w : World) : World := w.setCell ⟨b, 1, none⟩ (.slice (some ⟨g, if cap = 2 then o else o + 2, none⟩) (l.length - 2) (cap - 2))
/-- What a step of Raw finds. -/
structure RawPre (b g o cap pm pe most : Nat) (l : List UInt8) (bad : Value) (w : World) : Prop where
  h : w.heap[b]? = some (.cells #[.bool true, .slice (some ⟨g, o, none⟩) l.length cap, bad] 122 (0, 0))
  hgb : g ≠ b
  hl : l.length ≤ cap
  hc : cap ≤ maxLen
  hcell : ∀ i, i < l.length → w.cell? ⟨g, o + i, none⟩ = some (bv (l.getD i 0))
  h2 : 2 ≤ l.length
  hll : l.length ≤ 1000000
  hm : w.heap[pm]? = some (.cells #[.int .i64 most] 3 (0, 0))
  he : w.heap[pe]? = some (.cells #[.pointer (some ⟨b, 0, none⟩)] 112 (0, 0))
  hpm : pm ≠ b
  hpe : pe ≠ b

set_option maxHeartbeats 2000000 in
theorem rstep_short (b cap pm pe most : Nat) (bad : Value) (w : World) (pbv : Value) (a : Option Addr) (L : Nat) (h : w.heap[b]? = some (.cells #[.bool true, .slice a L cap, bad] 122 (0, 0)))
    (hL : L < 2) (hm : w.heap[pm]? = some (.cells #[.int .i64 most] 3 (0, 0))) (he : w.heap[pe]? = some (.cells #[.pointer (some ⟨b, 0, none⟩)] 112 (0, 0))) :
    Calls Tryd.prog 81 #[.pointer (some ⟨pm, 0, none⟩), .pointer (some ⟨pe, 0, none⟩), pbv] w fun e w' => e = gaveUp 2 ∧ w = w' := by
  have CN := Lib.hid (number_short b a L cap bad 2 w h (by omega) (by omega))
  have w0 := blk_cell hm 0 _ rfl
  have e0 := blk_cell he 0 _ rfl
  clear h hm he
  unfold gaveUp at *
  go_enter Tryd.func81, Tryd.ntmps81
  go_wp2_with fail
  refine CN.out.mono ?_
  rintro e w' ⟨rfl, rfl⟩
  exact ⟨rfl, rfl, rfl⟩

set_option maxHeartbeats 4000000 in
set_option maxRecDepth 100000 in
theorem rstep_long (b g o cap pm pe most : Nat) (l : List UInt8) (bad : Value) (w : World) (H : RawPre b g o cap pm pe most l bad w) (pbv : Value) (hn : most < beNum (l.take 2)) :
    Calls Tryd.prog 81 #[.pointer (some ⟨pm, 0, none⟩), .pointer (some ⟨pe, 0, none⟩), pbv] w fun e w' => e = gaveUp 3 ∧ w' = rawW1 b g o cap l w := by
  have H0 := H
  obtain ⟨h, hgb, hl, hc, hcell, h2, hll, hm, he, hpm, hpe⟩ := H
  have CN := Lib.hid (number_ok b g o cap l bad 2 w h hgb hl hc hcell (by omega) (by omega) h2)
  obtain ⟨w1, hw1⟩ : ∃ w1, w1 = rawW1 b g o cap l w := ⟨_, rfl⟩
  unfold rawW1 at hw1
  have hb2 := beNum_take_le l 2 (by omega)
  have w0 := blk_cell hm 0 _ rfl
  have e0 := blk_cell he 0 _ rfl
  have w01 : w1.cell? ⟨pm, 0, none⟩ = some (.int .i64 most) := by rw [hw1]; exact blk_cell (blk_sets hm hpm) 0 _ rfl
  rw [← hw1] at CN
  unfold rawW1
  rw [← hw1]
  generalize beNum (l.take 2) = n at *
  have hnz : ((most : Nat) : Int) < (n : Int) := by omega
  clear h hm he hl hc hcell hw1
  try clear H0
  unfold gaveUp at *
  go_enter Tryd.func81, Tryd.ntmps81
  go_wp2_with fail
  refine CN.out.mono ?_
  rintro e w' ⟨rfl, rfl⟩
  go_wp2
  exact ⟨rfl, rfl, rfl⟩

theorem rawW1_at {b g o cap pm pe most : Nat} {l : List UInt8} {bad : Value} {w : World} (H : RawPre b g o cap pm pe most l bad w) : (rawW1 b g o cap l w).heap[b]? = some (.cells #[.bool true, .slice (some ⟨g, if cap = 2 then o else o + 2, none⟩) (l.drop 2).length (cap - 2), bad] 122 (0, 0)) := by
  rw [List.length_drop]; exact set_blk H.h
theorem rawW1_cell {b g o cap pm pe most : Nat} {l : List UInt8} {bad : Value} {w : World} (H : RawPre b g o cap pm pe most l bad w) : ∀ i, i < (l.drop 2).length → (rawW1 b g o cap l w).cell? ⟨g, (if cap = 2 then o else o + 2) + i, none⟩ = some (bv ((l.drop 2).getD i 0)) := fun i hi => by
  rw [List.length_drop] at hi
  have h1 := H.hl
  rw [if_neg (by omega), getD_drop, Nat.add_assoc]
  exact (World.cell?_of_block (w := w) (a := ⟨g, o + (2 + i), none⟩) (Below.heap_setCell w _ _ g (by simpa using H.hgb))).trans (H.hcell (2 + i) (by omega))

set_option maxHeartbeats 4000000 in
set_option maxRecDepth 100000 in
theorem rstep_short2 (b g o cap pm pe most : Nat) (l : List UInt8) (bad : Value) (w : World) (H : RawPre b g o cap pm pe most l bad w) (pbv : Value) (hn : beNum (l.take 2) ≤ most) (hs : (l.drop 2).length < beNum (l.take 2)) :
    Calls Tryd.prog 81 #[.pointer (some ⟨pm, 0, none⟩), .pointer (some ⟨pe, 0, none⟩), pbv] w fun e w' => e = gaveUp 2 ∧ w' = rawW1 b g o cap l w := by
  have H0 := H
  obtain ⟨h, hgb, hl, hc, hcell, h2, hll, hm, he, hpm, hpe⟩ := H
  have CN := Lib.hid (number_ok b g o cap l bad 2 w h hgb hl hc hcell (by omega) (by omega) h2)
  have CT := Lib.hid (take_short b _ _ _ bad ((beNum (l.take 2) : Nat) : Int) (rawW1 b g o cap l w) (rawW1_at H0) (by rw [List.length_drop]; omega) (by omega))
  have hb2 := beNum_take_le l 2 (by omega)
  have w0 := blk_cell hm 0 _ rfl
  have e0 := blk_cell he 0 _ rfl
  have w01 : (rawW1 b g o cap l w).cell? ⟨pm, 0, none⟩ = some (.int .i64 most) := blk_cell (blk_sets hm hpm) 0 _ rfl
  have e01 : (rawW1 b g o cap l w).cell? ⟨pe, 0, none⟩ = some (.pointer (some ⟨b, 0, none⟩)) := blk_cell (blk_sets he hpe) 0 _ rfl
  obtain ⟨w1, hw1⟩ : ∃ w1, w1 = rawW1 b g o cap l w := ⟨_, rfl⟩
  rw [← hw1] at CT w01 e01 ⊢
  unfold rawW1 at hw1
  rw [← hw1] at CN
  generalize beNum (l.take 2) = n at *
  have hnz : ¬ ((most : Nat) : Int) < (n : Int) := by omega
  clear h hm he hl hc hcell hw1
  try clear H0
  unfold gaveUp at *
  go_enter Tryd.func81, Tryd.ntmps81
  go_wp2_with fail
  refine CN.out.mono ?_
  rintro e w' ⟨rfl, rfl⟩
  go_wp2_with fail
  refine CT.out.mono ?_
  rintro e w' ⟨rfl, rfl⟩
  exact ⟨rfl, rfl, rfl⟩

set_option maxHeartbeats 4000000 in
set_option maxRecDepth 100000 in
theorem rstep_ok (b g o cap pm pe pb most : Nat) (l : List UInt8) (bad : Value) (w : World) (H : RawPre b g o cap pm pe most l bad w) (hpg : pb ≠ g) (hn : beNum (l.take 2) ≤ most) (hs : beNum (l.take 2) ≤ (l.drop 2).length) (hb : w.heap[pb]? = some (.cells #[.slice none 0 0] 31 (0, 0))) (hpb : pb ≠ b) :
    Calls Tryd.prog 81 #[.pointer (some ⟨pm, 0, none⟩), .pointer (some ⟨pe, 0, none⟩), .pointer (some ⟨pb, 0, none⟩)] w fun e w' => e = .returned (.tuple #[]) ∧ ∃ v' o' cap', BRow w' v' ((l.drop 2).take (beNum (l.take 2))) ∧ (∀ k, v'.ownBlock = some k → w.heap.size ≤ k) ∧
      Chg [b, pb] w w' ∧ w'.heap[pb]? = some (.cells #[v'] 31 (0, 0)) ∧ w'.heap[b]? = some (.cells #[.bool true, .slice (some ⟨g, o', none⟩) ((l.drop 2).drop (beNum (l.take 2))).length cap', bad] 122 (0, 0)) ∧
      EyeV w' (.slice (some ⟨g, o', none⟩) ((l.drop 2).drop (beNum (l.take 2))).length cap') g ((l.drop 2).drop (beNum (l.take 2))) := by
  have hat := rawW1_at H
  have hce := rawW1_cell H
  have H0 := H
  obtain ⟨h, hgb, hl, hc, hcell, h2, hll, hm, he, hpm, hpe⟩ := H
  have CN := Lib.hid (number_ok b g o cap l bad 2 w h hgb hl hc hcell (by omega) (by omega) h2)
  have hgl : g < w.heap.size := World.block_lt_of_cell? w _ (hcell 0 (by omega))
  obtain ⟨o2, ho2⟩ : ∃ o2, o2 = if cap = 2 then o else o + 2 := ⟨_, rfl⟩
  rw [← ho2] at hat hce
  have hbl := blk_lt h
  obtain ⟨w1, hw1⟩ : ∃ w1, w1 = rawW1 b g o cap l w := ⟨_, rfl⟩
  have hc1 : Chg [b] w w1 := by rw [hw1]; exact (Chg.refl _ _).setCell (.inl (by simp)) _
  have w01 : w1.cell? ⟨pm, 0, none⟩ = some (.int .i64 most) := by rw [hw1]; exact blk_cell (blk_sets hm hpm) 0 _ rfl
  have e01 : w1.cell? ⟨pe, 0, none⟩ = some (.pointer (some ⟨b, 0, none⟩)) := by rw [hw1]; exact blk_cell (blk_sets he hpe) 0 _ rfl
  have hpb1 : w1.heap[pb]? = some (.cells #[.slice none 0 0] 31 (0, 0)) := by rw [hw1]; exact blk_sets hb hpb
  rw [← hw1] at hat hce
  unfold rawW1 at hw1
  rw [← hw1] at CN
  have hb2 := beNum_take_le l 2 (by omega)
  have w0 := blk_cell hm 0 _ rfl
  have e0 := blk_cell he 0 _ rfl
  generalize hnn : beNum (l.take 2) = n at *
  clear hnn
  generalize hd : l.drop 2 = l2 at *
  have hl2 : l2.length = l.length - 2 := by rw [← hd, List.length_drop]
  clear hd
  have CT := Lib.hid (take_ok b g o2 (cap - 2) l2 bad n w1 hat (by omega) (by unfold maxLen at *; omega) hs)
  obtain ⟨w2, hw2⟩ : ∃ w2, w2 = w1.setCell ⟨b, 1, none⟩ (.slice (some ⟨g, if cap - 2 = n then o2 else o2 + n, none⟩) (l2.length - n) (cap - 2 - n)) := ⟨_, rfl⟩
  rw [← hw2] at CT
  have hc2 : Chg [b] w1 w2 := by rw [hw2]; exact (Chg.refl _ _).setCell (.inl (by simp)) _
  have hce2 : ∀ i, i < l2.length → w2.cell? ⟨g, o2 + i, none⟩ = some (bv (l2.getD i 0)) := fun i hi => hc2.cell (hce i hi) (by simp; exact hgb)
  have hB : BytesAt w2 (.slice (some ⟨g, o2, none⟩) n n) (l2.take n) := by
    have hlen : (l2.take n).length = n := by rw [List.length_take]; omega
    refine ⟨_, n, by rw [hlen], by omega, by unfold maxLen at *; omega, .inr ⟨g, o2, rfl, fun i hi => ?_⟩⟩
    rw [hlen] at hi
    rw [getD_take _ _ _ hi]
    exact hce2 i (by omega)
  have hlen3 : Hid ((l2.take n).length = n) := Lib.hid (by rw [List.length_take]; omega)
  have CC := Lib.hid (clone_any _ _ w2 hB (by rw [List.length_take]; omega))
  have hat2 : w2.heap[b]? = some (.cells #[.bool true, .slice (some ⟨g, if cap - 2 = n then o2 else o2 + n, none⟩) (l2.length - n) (cap - 2 - n), bad] 122 (0, 0)) := by rw [hw2]; exact set_blk hat
  have hpb2 : w2.heap[pb]? = some (.cells #[.slice none 0 0] 31 (0, 0)) := hc2.keep hpb1 (by simp; exact hpb)
  have hE2 : EyeV w2 (.slice (some ⟨g, if cap - 2 = n then o2 else o2 + n, none⟩) (l2.length - n) (cap - 2 - n)) g (l2.drop n) := EyeV.dropped (by omega) (by unfold maxLen at *; omega) hce2 (by omega)
  have HC1 := Lib.hid hc1
  have HC2 := Lib.hid hc2
  have HAT := Lib.hid hat2
  have HPB := Lib.hid hpb2
  have HE := Lib.hid hE2
  have hnz : ¬ ((most : Nat) : Int) < (n : Int) := by omega
  have hdl : Hid ((l2.drop n).length = l2.length - n) := Lib.hid (List.length_drop ..)
  try clear H0
  clear h hm he hb hl hc hcell hw1 hw2 hat hce hce2 hB hat2 hpb2 hE2 hc1 hc2 ho2 hpb1
  have hl2a : l2.length + 2 = l.length := by omega
  clear hl2
  go_enter Tryd.func81, Tryd.ntmps81
  go_wp2_with fail
  refine CN.out.mono ?_
  rintro e w' ⟨rfl, rfl⟩
  go_wp2_with fail
  refine CT.out.mono ?_
  rintro e w' ⟨rfl, hq⟩
  obtain rfl := hq.symm
  go_wp2_with fail
  refine CC.out.mono ?_
  rintro e w3 ⟨v3, rfl, hr3, hn3, hc3⟩
  obtain ⟨a3, k3, he3, _⟩ := hr3.bytes
  have hpb3 := hc3.keep HPB.out (by simp)
  have p0 := blk_cell hpb3 0 _ rfl
  have p1 := blk_frozen hpb3 0
  have hpl := blk_lt hpb3
  have hgs : w.heap.size ≤ w2.heap.size := Nat.le_trans HC1.out.size HC2.out.size
  have HR3 := Lib.hid hr3
  have HN3 := Lib.hid hn3
  have HC3 := Lib.hid hc3
  have HPB3 := Lib.hid hpb3
  rw [hlen3.out] at he3
  obtain rfl := he3
  clear hr3 hn3 hc3 hpb3
  go_wp2
  go_end0
  have hpbl : pb < w2.heap.size := blk_lt HPB.out
  have hset : Chg [pb] w3 (w3.setCell ⟨pb, 0, none⟩ (.slice a3 n k3)) := (Chg.refl _ _).setCell (.inl (by simp)) _
  refine ⟨rfl, _, (if cap - 2 = n then o2 else o2 + n), (cap - 2 - n), HR3.out.keep (fun k hk => hset.block k (HR3.out.lt k hk) (by simp; have := HN3.out k hk; omega)), fun k hk => Nat.le_trans hgs (HN3.out k hk), ?_, set_blk HPB3.out, ?_, ?_⟩
  · refine ((HC1.out.mono (by simp)).trans (HC2.out.mono (by simp)) (fun x hx => .inl hx)).trans ((HC3.out.mono (by simp)).trans hset (T := [pb]) (S := [pb]) (fun x hx => .inl hx)) (fun x hx => .inl (by simp at hx; simp [hx]))
  · rw [hdl.out]
    exact blk_sets (HC3.out.keep HAT.out (by simp)) (fun e => hpb e.symm)
  · rw [hdl.out]
    have hgl2 : g < w2.heap.size := Nat.lt_of_lt_of_le hgl hgs
    refine HE.out.keep ((hset.block g (Nat.lt_of_lt_of_le hgl2 HC3.out.size) ?_).trans (HC3.out.block g hgl2 (by simp)))
    simp; exact fun e => hpg e.symm
end Go.Proofs.YtipfgghdoicdhaaDoor.W
namespace Go.Proofs.YtipfgghdoicdhaaDoor.W
open Go.RowKit
set_option linter.unusedVariables false
set_option linter.unusedSimpArgs false

/-- What Raw leaves. -/
def RawLeft (w w' : World) (b g pb : Nat) (r : List UInt8 × List UInt8 × Int) : Prop :=
  ∃ v, Chg [b, pb] w w' ∧ EyeAt w' b g r.2.1 r.2.2 ∧ w'.heap[pb]? = some (.cells #[v] 31 (0, 0)) ∧ BRow w' v r.1 ∧ ∀ k, v.ownBlock = some k → w.heap.size ≤ k

set_option maxHeartbeats 4000000 in
set_option maxRecDepth 100000 in
theorem eraw_any (b g : Nat) (l : List UInt8) (bad : Int) (most : Nat) (w : World) (h : EyeAt w b g l bad) (hmo : most ≤ 1000000) :
    Calls Tryd.prog 66 #[.pointer (some ⟨b, 0, none⟩), .int .i64 (most : Int)] w fun e w' => ∃ v, e = .returned v ∧ BRow w' v (eyeRaw l bad most).1 ∧ (∀ k, v.ownBlock = some k → w.heap.size ≤ k) ∧
      EyeAt w' b g (eyeRaw l bad most).2.1 (eyeRaw l bad most).2.2 ∧ Chg [b] w w' := by
  have hE := h
  obtain ⟨v, hb, hv, hgb, hg, hll⟩ := h
  have hbl := blk_lt hb
  obtain ⟨w3, hw3⟩ : ∃ w3, w3 = ((w.alloc (.cells #[.pointer (some ⟨b, 0, none⟩)] 112)).alloc (.cells #[.int .i64 most] 3)).alloc (.cells #[.slice none 0 0] 31) := ⟨_, rfl⟩
  have hs3 : w3.heap.size = w.heap.size + 3 := by rw [hw3]; simp
  have hb3 : w3.heap[b]? = some (.cells #[.bool true, v, .int .i64 bad] 122 (0, 0)) := by rw [hw3]; exact blk_alloc (blk_alloc (blk_alloc hb))
  have hpe : w3.heap[w.heap.size]? = some (.cells #[.pointer (some ⟨b, 0, none⟩)] 112 (0, 0)) := by rw [hw3]; exact blk_alloc (blk_alloc (heap_alloc_new w _))
  have hpm : w3.heap[w.heap.size + 1]? = some (.cells #[.int .i64 most] 3 (0, 0)) := by
    rw [hw3]
    have := heap_alloc_new (w.alloc (.cells #[.pointer (some ⟨b, 0, none⟩)] 112)) (.cells #[.int .i64 most] 3)
    exact blk_alloc (by simpa using this)
  have hpb : w3.heap[w.heap.size + 1 + 1]? = some (.cells #[.slice none 0 0] 31 (0, 0)) := by
    rw [hw3]
    have := heap_alloc_new ((w.alloc (.cells #[.pointer (some ⟨b, 0, none⟩)] 112)).alloc (.cells #[.int .i64 most] 3)) (.cells #[.slice none 0 0] 31)
    simpa using this
  have hc3 : Chg [b] w w3 := by rw [hw3]; exact (((Chg.refl [b] w).alloc _).alloc _).alloc _
  have hv3 : EyeV w3 v g l := hv.keepC hg hc3 (by simp; exact hgb)
  have hg3 := or_lt hg hc3
  obtain ⟨r, hr⟩ : ∃ r, r = eyeRaw l bad most := ⟨_, rfl⟩
  have CR : Hid (Calls Tryd.prog 78 #[.pointer (some ⟨b, 0, none⟩), .func (.func 81) #[] #[.pointer (some ⟨w.heap.size + 1, 0, none⟩), .pointer (some ⟨w.heap.size, 0, none⟩), .pointer (some ⟨w.heap.size + 1 + 1, 0, none⟩)]] w3
      fun e w' => e = .returned (.tuple #[]) ∧ Hid (RawLeft w3 w' b g (w.heap.size + 1 + 1) r)) := by
    have hgb3 : b < w3.heap.size := blk_lt hb3
    by_cases hbad : bad = 0
    · subst hbad
      by_cases hlen : l.length < 2
      · have hr' : r = ([], l, 2) := by rw [hr]; unfold eyeRaw; rw [if_neg (by simp), if_pos hlen]
        obtain ⟨a, cap, rfl⟩ := hv3.slice
        refine (read_panic b _ 81 _ w3 enters3 a l.length cap rfl 2 hb3 [] (by simp) ?_).mono ?_
        · refine (rstep_short b cap _ _ most _ _ _ a l.length (blk_alloc (blk_alloc hb3)) hlen (blk_alloc (blk_alloc hpm)) (blk_alloc (blk_alloc hpe))).mono ?_
          rintro e w' ⟨rfl, rfl⟩
          exact ⟨rfl, _, Chg.refl _ _, blk_alloc (blk_alloc hb3)⟩
        · rintro e w' ⟨rfl, hc, hh⟩
          rw [hr']
          exact ⟨rfl, _, hc.mono (by simp), ⟨_, hh, hv3.keepC hg3 hc (by simp; exact hgb), hgb, or_lt hg3 hc, hll⟩, hc.keep hpb (by simp; omega), BRow.nil _, by simp [Value.ownBlock]⟩
      · rcases hv3 with ⟨rfl, rfl⟩ | ⟨o, cap, rfl, hlc, hcm, hcell⟩
        · simp at hlen
        have hg4 : g < w.heap.size := by
          rcases hg with hg | hg
          · exact hg
          · cases hg
        obtain ⟨w5, hw5⟩ : ∃ w5, w5 = (w3.alloc (.cells #[.pointer (some ⟨b, 0, none⟩)] 112)).alloc (.cells #[.slice (some ⟨g, o, none⟩) l.length cap] 31) := ⟨_, rfl⟩
        have hc5 : Chg [] w3 w5 := by rw [hw5]; exact ((Chg.refl [] w3).alloc _).alloc _
        have hcell5 : ∀ i, i < l.length → w5.cell? ⟨g, o + i, none⟩ = some (bv (l.getD i 0)) := fun i hi => hc5.cell (hcell i hi) (by simp)
        have hpre : RawPre b g o cap (w.heap.size + 1) w.heap.size most l (.int .i64 0) w5 := ⟨hc5.keep hb3 (by simp), hgb, hlc, hcm, hcell5, by omega, hll, hc5.keep hpm (by simp), hc5.keep hpe (by simp), by omega, by omega⟩
        have hbW1 : (rawW1 b g o cap l w5).heap[b]? = _ := rawW1_at hpre
        have hcW1 : Chg [b] w5 (rawW1 b g o cap l w5) := (Chg.refl _ _).setCell (.inl (by simp)) _
        have hfail : ∀ x : Int, r = ([], l, x) → Hid (Calls Tryd.prog 81 #[.pointer (some ⟨w.heap.size + 1, 0, none⟩), .pointer (some ⟨w.heap.size, 0, none⟩), .pointer (some ⟨w.heap.size + 1 + 1, 0, none⟩)] w5 fun e w' => e = gaveUp x ∧ w' = rawW1 b g o cap l w5) →
            Calls Tryd.prog 78 #[.pointer (some ⟨b, 0, none⟩), .func (.func 81) #[] #[.pointer (some ⟨w.heap.size + 1, 0, none⟩), .pointer (some ⟨w.heap.size, 0, none⟩), .pointer (some ⟨w.heap.size + 1 + 1, 0, none⟩)]] w3
              fun e w' => e = .returned (.tuple #[]) ∧ Hid (RawLeft w3 w' b g (w.heap.size + 1 + 1) r) := by
          intro x hr' HX
          rw [hw5] at HX
          refine (read_panic b _ 81 _ w3 enters3 _ l.length cap rfl x hb3 [b] (by simpa using hgb3) (Lib.hid (HX.out.mono ?_))).mono ?_
          · rintro e w' ⟨rfl, rfl⟩
            rw [← hw5]
            exact ⟨rfl, _, hcW1, hbW1⟩
          · rintro e w' ⟨rfl, hc, hh⟩
            rw [hr']
            have hc' : Chg [b] w3 w' := hc.mono (by simp)
            exact ⟨rfl, _, hc.mono (by simp), ⟨_, hh, EyeV.keep (.inr ⟨o, cap, rfl, hlc, hcm, hcell⟩) (hc'.block g (by omega) (by simp; exact hgb)), hgb, or_lt hg3 hc, hll⟩, hc'.keep hpb (by simp; omega), BRow.nil _, by simp [Value.ownBlock]⟩
        by_cases hlong : most < beNum (l.take 2)
        · exact hfail 3 (by rw [hr]; unfold eyeRaw; rw [if_neg (by simp), if_neg hlen, if_pos hlong]) (Lib.hid (rstep_long b g o cap _ _ most l _ w5 hpre _ hlong))
        · by_cases hsh : (l.drop 2).length < beNum (l.take 2)
          · exact hfail 2 (by rw [hr]; unfold eyeRaw; rw [if_neg (by simp), if_neg hlen, if_neg hlong, if_pos hsh]) (Lib.hid (rstep_short2 b g o cap _ _ most l _ w5 hpre _ (by omega) hsh))
          · have hr' : r = ((l.drop 2).take (beNum (l.take 2)), (l.drop 2).drop (beNum (l.take 2)), 0) := by
              rw [hr]; unfold eyeRaw; rw [if_neg (by simp), if_neg hlen, if_neg hlong, if_neg hsh]
            have CS := rstep_ok b g o cap _ _ (w.heap.size + 1 + 1) most l _ w5 hpre (by omega) (by omega) (by omega) (hc5.keep hpb (by simp)) (by omega)
            rw [hw5] at CS
            refine (read_ret b _ 81 _ w3 enters3 _ _ _ rfl hb3 _ CS).mono ?_
            rintro e w' ⟨rfl, w1, hq, rfl⟩
            rw [← hw5] at hq
            obtain ⟨v', o', cap', q1, q2, q3, q4, q5, q6⟩ := hq
            have hq35 : Chg [b, w.heap.size + 1 + 1] w3 w1 := (hc5.mono (by simp)).trans q3 (fun x hx => .inl hx)
            have hca : Chg [] w1 (w1.alloc (.cells #[.int .i64 0] 125)) := (Chg.refl _ _).alloc _
            rw [hr']
            refine ⟨rfl, v', hq35.alloc _, ⟨_, blk_alloc q5, q6.keep (hca.block g (Nat.lt_of_lt_of_le (by omega) hq35.size) (by simp)), hgb, .inl (Nat.lt_of_lt_of_le (by omega) (hq35.alloc _).size), ?_⟩, blk_alloc q4, q1.keep (fun k hk => hca.block k (q1.lt k hk) (by simp)), fun k hk => Nat.le_trans hc5.size (q2 k hk)⟩
            show ((l.drop 2).drop _).length ≤ _
            rw [List.length_drop, List.length_drop]; omega
    · have hr' : r = ([], l, bad) := by rw [hr]; unfold eyeRaw; rw [if_pos hbad]
      refine (read_done b v bad 81 _ w3 hb3 hbad).mono ?_
      rintro e w' ⟨rfl, rfl⟩
      rw [hr']
      exact ⟨rfl, _, (Chg.refl _ _).alloc _, ⟨v, blk_alloc hb3, hv3.keepC hg3 ((Chg.refl [] w3).alloc _) (by simp), hgb, or_lt hg3 ((Chg.refl [] w3).alloc _), hll⟩, blk_alloc hpb, BRow.nil _, by simp [Value.ownBlock]⟩
  rw [← hr]
  have HC := Lib.hid hc3
  have HW := Lib.hid hw3
  have hmf : ∀ (fn : Fn) (first cap : Array Value) (w : World), (Instr.makeFunc fn first cap).run Tryd.prog w = .ok (.func fn first cap) w := fun _ _ _ _ => rfl
  clear hb hv hb3 hpe hpm hpb hc3 hr hE hw3 hv3
  go_enter Tryd.func66, Tryd.ntmps66
  go_wp2_with fail
  rw [← HW.out]
  refine CR.out.mono ?_
  rintro e w4 ⟨rfl, H4⟩
  obtain ⟨v4, k1, k2, k3, k4, k5⟩ := H4.out
  have x0 := blk_cell k3 0 _ rfl
  have HK := Lib.hid (And.intro k1 (And.intro k2 (And.intro k4 k5)))
  obtain ⟨a4, c4, hv4, _⟩ := k4.bytes
  have HV4 := Lib.hid hv4
  obtain rfl := hv4
  clear k1 k2 k3 k4 k5 H4 CR
  go_wp2
  go_ret
  refine ⟨_, rfl, HK.out.2.2.1, fun k hk => Nat.le_trans HC.out.size (HK.out.2.2.2 k hk), HK.out.2.1, HC.out.trans HK.out.1 (by
    intro x hx
    simp at hx
    rcases hx with rfl | rfl
    · exact .inl (by simp)
    · exact .inr (by omega))⟩
end Go.Proofs.YtipfgghdoicdhaaDoor.W
