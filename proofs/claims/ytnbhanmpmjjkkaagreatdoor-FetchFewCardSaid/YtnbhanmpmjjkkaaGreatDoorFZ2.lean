/- Texts laid together. -/
import Derived.Test.YtnbhanmpmjjkkaaGreatDoorFZ1
import Derived.Deep.MidRow
import Derived.Deep.OwnRows
import Derived.Great.BuildSlice
import Derived.Deep.WholeRow
import Derived.DeepKeys
import Derived.Laws.StructEq
import Derived.Deep.AppendLies
import Derived.Deep.RegionHeld3
import Derived.Laws.Cover3
import Derived.Great.Ranges
import Derived.RangeFuncNested
import Derived.RangeFuncBound
import Derived.RangeFuncCalls
import Derived.RangeFuncLeaves
import Derived.Shelf.Abstract
import Derived.OwnWalkIn
import Derived.TacticsInMore
import Derived.LoopNIn
import Derived.LoopIn
import Derived.WalkKit
import Derived.Deep.CutBlock
import Derived.Deep.DeepCutAuto
import Derived.Laws.MakeOwn
import Derived.Laws.IdiomStrings
import Derived.Laws.BytesArg
set_option linter.unusedVariables false
set_option linter.unusedSimpArgs false
set_option maxHeartbeats 64000000
set_option maxRecDepth 100000
namespace Go.Proofs.YtnbhanmpmjjkkaaGreatDoor.W
open Go.RowKit
structure SRow where
 used : Bool
 n : Nat
 key : List UInt8
def noRow : SRow := ⟨false, 0, []⟩
def headOf (b : List UInt8) : Option SRow :=
 if allZ b then some noRow else
  if (eyeRaw (eyeNum (eyeNum b 0 1).2.1 (eyeNum b 0 1).2.2 2).2.1 (eyeNum (eyeNum b 0 1).2.1 (eyeNum b 0 1).2.2 2).2.2 40).2.2 ≠ 0 ∨ (eyeNum b 0 1).1 ≠ 1 ∨ 448 < (eyeNum (eyeNum b 0 1).2.1 (eyeNum b 0 1).2.2 2).1 ∨
   allZ (eyeRaw (eyeNum (eyeNum b 0 1).2.1 (eyeNum b 0 1).2.2 2).2.1 (eyeNum (eyeNum b 0 1).2.1 (eyeNum b 0 1).2.2 2).2.2 40).2.1 = false then none
  else some ⟨true, (eyeNum (eyeNum b 0 1).2.1 (eyeNum b 0 1).2.2 2).1.toNat, (eyeRaw (eyeNum (eyeNum b 0 1).2.1 (eyeNum b 0 1).2.2 2).2.1 (eyeNum (eyeNum b 0 1).2.1 (eyeNum b 0 1).2.2 2).2.2 40).1⟩
def broke (x : Int) : Ending := .panicked [{ v := .iface 179 (.agg #[.int .i64 x]), recovered := false }]
theorem must_ok (w : World) : Calls Tryz.prog 127 #[.int .i64 0] w fun e w' => e = .returned (.tuple #[]) /\ w = w' := by
 go_enter Tryz.func127, Tryz.ntmps127
 go_wp2
 go_end0
 exact ⟨rfl, rfl⟩
theorem must_bad (x : Int) (hx : x ≠ 0) (w : World) : Calls Tryz.prog 127 #[.int .i64 x] w fun e w' => e = broke x /\ w = w' := by
 have q : (x != 0) = true := by simp [hx]
 unfold broke
 clear hx
 go_enter Tryz.func127, Tryz.ntmps127
 go_wp2
 exact ⟨rfl, rfl, rfl⟩
theorem suffix_eq {l m : List UInt8} (h : m <:+ l) : l.drop (l.length - m.length) = m := by
 obtain ⟨t, rfl⟩ := h
 simp
theorem eyeNum_suffix (l : List UInt8) (bad : Int) (n : Nat) : (eyeNum l bad n).2.1 <:+ l := by
 unfold eyeNum
 split
 ·exact List.suffix_refl _
 ·split
  ·exact List.suffix_refl _
  ·exact List.drop_suffix _ _
theorem eyeRaw_suffix (l : List UInt8) (bad : Int) (n : Nat) : (eyeRaw l bad n).2.1 <:+ l := by
 unfold eyeRaw
 split
 ·exact List.suffix_refl _
 ·split
  ·exact List.suffix_refl _
  ·split
   ·exact List.suffix_refl _
   ·split
    ·exact List.suffix_refl _
    ·exact (List.drop_suffix _ _).trans (List.drop_suffix _ _)
theorem eyeNum_nonneg (l : List UInt8) (bad : Int) (n : Nat) : 0 <= (eyeNum l bad n).1 := by
 unfold eyeNum
 split
 ·exact Int.le_refl _
 ·split
  ·exact Int.le_refl _
  ·exact Int.natCast_nonneg _
theorem eyeNum_err (l : List UInt8) (bad : Int) (n : Nat) : (eyeNum l bad n).2.2 = bad ∨ (eyeNum l bad n).2.2 = 2 ∨ (eyeNum l bad n).2.2 = 0 := by
 unfold eyeNum
 split
 ·exact .inl rfl
 ·split
  ·exact .inr (.inl rfl)
  ·exact .inr (.inr rfl)
theorem eyeRaw_err (l : List UInt8) (bad : Int) (n : Nat) : (eyeRaw l bad n).2.2 = bad ∨ (eyeRaw l bad n).2.2 = 2 ∨ (eyeRaw l bad n).2.2 = 3 ∨ (eyeRaw l bad n).2.2 = 0 := by
 unfold eyeRaw
 split
 ·exact .inl rfl
 ·split
  ·exact .inr (.inl rfl)
  ·split
   ·exact .inr (.inr (.inl rfl))
   ·split
    ·exact .inr (.inl rfl)
    ·exact .inr (.inr (.inr rfl))
def HeadPost (b : List UInt8) (w : World) (e : Ending) (w' : World) : Prop :=
 Chg [] w w' /\ match headOf b with
 | some r => ∃ kv, e = .returned (.agg #[.bool r.used, .int .i64 (r.n : Int), kv]) /\ BRow w' kv r.key /\ ∀ k, kv.ownBlock = some k -> w.heap.size <= k
 | none => ∃ x : Int, e = broke x /\ x ≠ 14
theorem BytesAt.slice {w : World} {v : Value} {l : List UInt8} (h : BytesAt w v l) : ∃ a cap, v = .slice a l.length cap := by
 obtain ⟨a, cap, h, _⟩ := h
 exact ⟨a, cap, h⟩
theorem BytesAt.chg {w w' : World} {v : Value} {l : List UInt8} {S : List Nat} (h : BytesAt w v l) (hc : Chg S w w') (hS : ∀ k, v.ownBlock = some k -> k ∉ S) : BytesAt w' v l := by
 obtain ⟨a, cap, rfl, h1, h2, h3⟩ := h
 refine ⟨a, cap, rfl, h1, h2, ?_⟩
 rcases h3 with h3 | ⟨g, o, rfl, hcell⟩
 ·exact .inl h3
 ·exact .inr ⟨g, o, rfl, fun i hi => hc.cell (hcell i hi) (hS g rfl)⟩
theorem BytesAt.chgW {w w' : World} {v : Value} {l : List UInt8} {S : List Nat} (h : BytesAt w v l) (hc : Chg S w w') (hS : l ≠ [] -> ∀ k, v.ownBlock = some k -> k ∉ S) : BytesAt w' v l := by
 by_cases hl : l = []
 ·subst hl
  obtain ⟨a, cap, rfl, h1, h2, h3⟩ := h
  refine ⟨a, cap, rfl, h1, h2, ?_⟩
  rcases h3 with h3 | ⟨g, o, rfl, _⟩
  ·exact .inl h3
  ·exact .inr ⟨g, o, rfl, fun i hi => by simp at hi⟩
 ·exact h.chg hc (hS hl)
theorem BytesAt.lt {w : World} {v : Value} {l : List UInt8} (h : BytesAt w v l) (hl : l ≠ []) : ∀ k, v.ownBlock = some k -> k < w.heap.size := by
 obtain ⟨a, cap, rfl, h1, h2, h3⟩ := h
 rcases h3 with ⟨rfl, _⟩ | ⟨g, o, rfl, hcell⟩
 ·exact absurd rfl hl
 ·intro k hk
  obtain rfl : g = k := by simpa [Value.ownBlock] using hk
  exact World.block_lt_of_cell? w _ (hcell 0 (List.length_pos_iff.2 hl))
theorem BytesAt.tail {w : World} {a : Addr} {cap : Nat} {l m : List UInt8} (h : BytesAt w (.slice (some a) l.length cap) l) (hm : m <:+ l) (o2 : Nat) (ho : m ≠ [] -> o2 = a.off + (l.length - m.length)) :
  BytesAt w (.slice (some ⟨a.block, o2, none⟩) m.length (cap - (l.length - m.length))) m := by
 obtain ⟨aa, c2, he, h1, h2, h3⟩ := h
 obtain ⟨rfl, rfl⟩ : some a = aa /\ cap = c2 := by simpa using he
 have hle : m.length <= l.length := hm.length_le
 refine ⟨_, _, rfl, by omega, by omega, ?_⟩
 by_cases hm0 : m = []
 ·subst hm0
  exact .inr ⟨_, _, rfl, fun i hi => absurd hi (by simp)⟩
 ·right
  have hpos := List.length_pos_iff.2 hm0
  rcases h3 with ⟨rfl, _⟩ | ⟨g, o, e, hcell⟩
  ·simp at hle; exact absurd hle hm0
  ·obtain rfl : a = ⟨g, o, none⟩ := by simpa using e
   refine ⟨g, o2, rfl, fun i hi => ?_⟩
   rw [ho hm0]
   have hg : m.getD i 0 = l.getD (l.length - m.length + i) 0 := by
    have h5 := suffix_eq hm
    conv => lhs; rw [<- h5]
    rw [getD_drop]
   rw [hg, Nat.add_assoc]
   exact hcell _ (by omega)
theorem set3 {w : World} {b t : Nat} {u0 u1 u2 v0 v1 v2 : Value} (h : w.heap[b]? = some (.cells #[v0, v1, v2] t (0, 0))) : (((w.setCell ⟨b, 0, none⟩ u0).setCell ⟨b, 1, none⟩ u1).setCell ⟨b, 2, none⟩ u2).heap[b]? = some (.cells #[u0, u1, u2] t (0, 0)) := set_blk (set_blk (set_blk h))
theorem head_any (v : Value) (b : List UInt8) (w : World) (h : BytesAt w v b) (hl : b.length <= 1000000) :
  Calls Tryz.prog 128 #[v] w (HeadPost b w) := by
 obtain ⟨a, cap, rfl⟩ := h.slice
 obtain ⟨w0, hw0⟩ : ∃ w0, w0 = w.alloc (.cells #[.bool false, .int .i64 0, .slice none 0 0] 186) := ⟨_, rfl⟩
 have hc0 : Chg [] w w0 := by rw [hw0]; exact (Chg.refl _ _).alloc _
 have hr0 : w0.heap[w.heap.size]? = some (.cells #[.bool false, .int .i64 0, .slice none 0 0] 186 (0, 0)) := by rw [hw0]; exact heap_alloc_new w _
 have h0 : BytesAt w0 (.slice a b.length cap) b := h.chg hc0 (by simp)
 have CZ := LH (noughts_any _ b w0 h0 (by omega))
 have HW0 := LH hw0
 by_cases hz : allZ b = true
 ·have hh : headOf b = some noRow := by unfold headOf; rw [if_pos hz]
  have hP : ∀ w', Chg [] w w' -> HeadPost b w (.returned (.agg #[.bool false, .int .i64 0, .slice none 0 0])) w' := fun w' hc => by
   refine ⟨hc, ?_⟩
   rw [hh]
   exact ⟨.slice none 0 0, rfl, BRow.nil _, by simp [Value.ownBlock]⟩
  have HP := LH hP
  have HC0 := LH hc0
  have HR0 := LH hr0
  rw [hz] at CZ
  clear h h0 hz hh hP hc0 hr0 hw0
  go_enter Tryz.func128, Tryz.ntmps128
  go_wp2_with fail
  rw [<- HW0.out]
  refine CZ.out.mono ?_
  rintro e w1 ⟨rfl, n, rfl⟩
  have c0 : (w0.drewN n).cell? ⟨w.heap.size, 0, none⟩ = some (.bool false) := blk_cell HR0.out 0 _ rfl
  have c1 : (w0.drewN n).cell? ⟨w.heap.size, 1, none⟩ = some (.int .i64 0) := blk_cell HR0.out 1 _ rfl
  have c2 : (w0.drewN n).cell? ⟨w.heap.size, 2, none⟩ = some (.slice none 0 0) := blk_cell HR0.out 2 _ rfl
  have HR1 : Hid ((w0.drewN n).heap[w.heap.size]? = some (.cells #[.bool false, .int .i64 0, .slice none 0 0] 186 (0, 0))) := LH HR0.out
  have f0 : (w0.drewN n).frozen? ⟨w.heap.size, 0, none⟩ = false := blk_frozen HR0.out 0
  have f1 : (w0.drewN n).frozen? ⟨w.heap.size, 1, none⟩ = false := blk_frozen HR0.out 1
  have f2 : (w0.drewN n).frozen? ⟨w.heap.size, 2, none⟩ = false := blk_frozen HR0.out 2
  have hl0 : w.heap.size < (w0.drewN n).heap.size := blk_lt HR0.out
  have HD : Hid (Chg [] w (w0.drewN n)) := LH (HC0.out.drewN n)
  generalize w0.drewN n = w1 at *
  clear CZ
  go_wp2
  have hb3 := set3 (u0 := .bool false) (u1 := .int .i64 0) (u2 := .slice none 0 0) HR1.out
  refine bodyPost_ret (v := .agg #[.bool false, .int .i64 0, .slice none 0 0]) (by simp [results, Tryz.results128, go_sem, blk_cell hb3 0 _ rfl, blk_cell hb3 1 _ rfl, blk_cell hb3 2 _ rfl]) rfl (HP.out _ ?_)
  exact Chg.mono (S := [w.heap.size]) (((HD.out.mono (by simp)).setCell (.inl (by simp)) _).setCell (.inl (by simp)) _ |>.setCell (.inl (by simp)) _) (fun x hx => .inr (by simp at hx; omega))
 ·have hzf : allZ b = false := by simpa using hz
  have hhd : headOf b = if (eyeRaw (eyeNum (eyeNum b 0 1).2.1 (eyeNum b 0 1).2.2 2).2.1 (eyeNum (eyeNum b 0 1).2.1 (eyeNum b 0 1).2.2 2).2.2 40).2.2 ≠ 0 ∨ (eyeNum b 0 1).1 ≠ 1 ∨ 448 < (eyeNum (eyeNum b 0 1).2.1 (eyeNum b 0 1).2.2 2).1 ∨
   allZ (eyeRaw (eyeNum (eyeNum b 0 1).2.1 (eyeNum b 0 1).2.2 2).2.1 (eyeNum (eyeNum b 0 1).2.1 (eyeNum b 0 1).2.2 2).2.2 40).2.1 = false then none
  else some ⟨true, (eyeNum (eyeNum b 0 1).2.1 (eyeNum b 0 1).2.2 2).1.toNat, (eyeRaw (eyeNum (eyeNum b 0 1).2.1 (eyeNum b 0 1).2.2 2).2.1 (eyeNum (eyeNum b 0 1).2.1 (eyeNum b 0 1).2.2 2).2.2 40).1⟩ := by
   unfold headOf; rw [if_neg hz]
  rw [hzf] at CZ
  have hsuf : (eyeRaw (eyeNum (eyeNum b 0 1).2.1 (eyeNum b 0 1).2.2 2).2.1 (eyeNum (eyeNum b 0 1).2.1 (eyeNum b 0 1).2.2 2).2.2 40).2.1 <:+ b := (eyeRaw_suffix _ _ _).trans ((eyeNum_suffix _ _ _).trans (eyeNum_suffix _ _ _))
  have herr : (eyeRaw (eyeNum (eyeNum b 0 1).2.1 (eyeNum b 0 1).2.2 2).2.1 (eyeNum (eyeNum b 0 1).2.1 (eyeNum b 0 1).2.2 2).2.2 40).2.2 ≠ 14 := by
   have h1 := eyeRaw_err (eyeNum (eyeNum b 0 1).2.1 (eyeNum b 0 1).2.2 2).2.1 (eyeNum (eyeNum b 0 1).2.1 (eyeNum b 0 1).2.2 2).2.2 40
   have h2 := eyeNum_err (eyeNum b 0 1).2.1 (eyeNum b 0 1).2.2 2
   have h3 := eyeNum_err b 0 1
   omega
  have hn2 := eyeNum_nonneg (eyeNum b 0 1).2.1 (eyeNum b 0 1).2.2 2
  have CN1 := fun (b' g : Nat) (w' : World) (h : EyeAt w' b' g b 0) => enum_any b' g b 0 1 w' h (by omega) (by omega)
  rw [show (1 : Int).toNat = 1 from rfl] at CN1
  generalize hr1 : eyeNum b 0 1 = r1 at *
  have CN2 := fun (b' g : Nat) (w' : World) (h : EyeAt w' b' g r1.2.1 r1.2.2) => enum_any b' g r1.2.1 r1.2.2 2 w' h (by omega) (by omega)
  rw [show (2 : Int).toNat = 2 from rfl] at CN2
  generalize hr2 : eyeNum r1.2.1 r1.2.2 2 = r2 at *
  have CR3 := fun (b' g : Nat) (w' : World) (h : EyeAt w' b' g r2.2.1 r2.2.2) => eraw_any b' g r2.2.1 r2.2.2 40 w' h (by omega)
  generalize hr3 : eyeRaw r2.2.1 r2.2.2 40 = r3 at *
  obtain ⟨k1, l1, e1⟩ := r1
  obtain ⟨k2, l2, e2⟩ := r2
  obtain ⟨key, l3, e3⟩ := r3
  dsimp only at hhd hsuf herr hn2 CN1 CN2 CR3
  clear hr1 hr2 hr3
  have HHD := LH hhd
  have HSUF := LH hsuf
  have HERR := LH herr
  have HN1 := LH CN1
  have HN2 := LH CN2
  have HR3 := LH CR3
  have HC0 := LH hc0
  have HR0 := LH hr0
  have HB0 := LH h0
  have hbn : b ≠ [] := fun e => hz (by rw [e]; rfl)
  have HBV := LH (h.lt hbn)
  have hbpos : 0 < b.length := List.length_pos_iff.2 hbn
  clear hbn
  clear h h0 hz hzf hhd hsuf herr CN1 CN2 CR3 hc0 hr0 hw0
  go_enter Tryz.func128, Tryz.ntmps128
  go_wp2_with fail
  rw [<- HW0.out]
  refine CZ.out.mono ?_
  rintro e w1 ⟨rfl, n, hw1⟩
  have hcd : Chg [] w0 w1 := by rw [hw1]; exact (Chg.refl _ _).drewN n
  have HB1 := LH (HB0.out.chg hcd (by simp))
  have HC1 := LH (HC0.out.trans hcd (by simp))
  have HRW1 := LH (hcd.keep HR0.out (by simp))
  clear hw1 hcd CZ HC0 HR0 HB0 HW0
  go_wp2_with fail
  refine (neweye_any _ b w1 HB1.out hl).mono ?_
  rintro e w2 ⟨eb, eg, rfl, hE2, heb, heg, hc2⟩
  have HB2 := LH (HB1.out.chg hc2 (by simp))
  have HC2 := LH (HC1.out.trans hc2 (by simp))
  have HRW2 := LH (hc2.keep HRW1.out (by simp))
  have HE2 := LH hE2
  have hebw : w.heap.size <= eb := Nat.le_trans HC1.out.size heb
  have hnl : w.heap.size < eb := by
   have := blk_lt HRW1.out
   omega
  clear hE2 hc2 HB1 HC1
  go_wp2_with fail
  refine (HN1.out eb eg w2 HE2.out).mono ?_
  rintro e w3 ⟨rfl, hE3, hc3⟩
  have hbe : ∀ k, (Value.slice a b.length cap).ownBlock = some k -> k ∉ [eb] := fun k hk => by have := HBV.out k hk; simp; omega
  have HB3 := LH (HB2.out.chg hc3 hbe)
  have HC3 := LH (HC2.out.trans hc3 (fun x hx => .inr (by simp at hx; omega)))
  have HRW3 := LH (hc3.keep HRW2.out (by simp; omega))
  have HE3 := LH hE3
  have HBE := LH hbe
  clear hE3 hc3 HB2 HC2 HRW2 HE2 hbe
  go_wp2_with fail
  refine (HN2.out eb eg w3 HE3.out).mono ?_
  rintro e w4 ⟨rfl, hE4, hc4⟩
  have HB4 := LH (HB3.out.chg hc4 HBE.out)
  have HC4 := LH (HC3.out.trans hc4 (fun x hx => .inr (by simp at hx; omega)))
  have HRW4 := LH (hc4.keep HRW3.out (by simp; omega))
  have HE4 := LH hE4
  clear hE4 hc4 HB3 HC3 HRW3 HE3
  go_wp2_with fail
  refine (HR3.out eb eg w4 HE4.out).mono ?_
  rintro e w5 ⟨kv, rfl, hkr, hkn, hE5, hc5⟩
  have HB5 := LH (HB4.out.chg hc5 HBE.out)
  have HC5 := LH (HC4.out.trans hc5 (fun x hx => .inr (by simp at hx; omega)))
  have HRW5 := LH (hc5.keep HRW4.out (by simp; omega))
  have HE5 := LH hE5
  have HKR := LH hkr
  have HKN : Hid (∀ k, kv.ownBlock = some k -> w.heap.size < k) := LH (fun k hk => by
   have h1 := hkn k hk
   have h2 := blk_lt HRW4.out
   omega)
  have HKL := LH hkr.lt
  have hkform : ∃ a5 c5, kv = .slice a5 key.length c5 := by
   obtain ⟨a5, c5, h5, _⟩ := hkr.bytes
   exact ⟨a5, c5, h5⟩
  obtain ⟨a5, c5, hkv⟩ := hkform
  have HKV := LH hkv
  clear hE5 hc5 HB4 HC4 HRW4 HE4 hkr hkn hkv
  have hPn : ∀ (x : Int) (w' : World), (e3 ≠ 0 ∨ k1 ≠ 1 ∨ 448 < k2 ∨ allZ l3 = false) -> x ≠ 14 -> Chg [] w w' -> HeadPost b w (broke x) w' := fun x w' h1 h2 h3 => by
   refine ⟨h3, ?_⟩
   rw [HHD.out, if_pos h1]
   exact ⟨x, rfl, h2⟩
  have hPs : ∀ (kv : Value) (w' : World), ¬ (e3 ≠ 0 ∨ k1 ≠ 1 ∨ 448 < k2 ∨ allZ l3 = false) -> Chg [] w w' -> BRow w' kv key -> (∀ k, kv.ownBlock = some k -> w.heap.size <= k) -> HeadPost b w (.returned (.agg #[.bool true, .int .i64 k2, kv])) w' := fun kv w' h1 h2 h3 h4 => by
   refine ⟨h2, ?_⟩
   rw [HHD.out, if_neg h1]
   exact ⟨kv, by rw [show ((k2.toNat : Nat) : Int) = k2 by omega], h3, h4⟩
  have HPN := LH hPn
  have HPS := LH hPs
  clear hPn hPs
  go_wp2_with fail
  refine (efail_any eb eg l3 e3 w5 HE5.out).mono ?_
  rintro e w' ⟨rfl, hq⟩
  subst hq
  go_wp2_with fail
  by_cases he3 : e3 = 0
  ·subst he3
   refine (must_ok _).mono ?_
   rintro e w' ⟨rfl, hq⟩
   subst hq
   by_cases hk1 : k1 = 1
   ·have q1 : (k1 != 1) = false := by simp [hk1]
    have HK1 := LH hk1
    clear hk1
    by_cases hk2 : 448 < k2
    ·go_wp2
     exact ⟨rfl, HPN.out 4 _ (.inr (.inr (.inl hk2))) (by omega) HC5.out⟩
    ·obtain ⟨aa, rfl⟩ : ∃ aa, a = some aa := by
      cases a with
      | some aa => exact ⟨aa, rfl⟩
      | none =>
       obtain ⟨_, _, he, _, _, h3⟩ := HB5.out
       rcases h3 with ⟨rfl, _⟩ | ⟨g, o, e, _⟩
       ·simp at hbpos
       ·subst e; cases he
     have hle := HSUF.out.length_le
     have hcapl : b.length <= cap /\ cap <= 9223372036854775807 := by
      obtain ⟨_, c, he, h1, h2, _⟩ := HB5.out
      unfold maxLen at h2
      have : cap = c := by simpa using (Value.slice.inj he).2.2
      omega
     obtain ⟨g, o, spot⟩ := aa
     obtain rfl : spot = none := by
      obtain ⟨_, _, he, _, _, h3⟩ := HB5.out
      rcases h3 with ⟨rfl, _⟩ | ⟨g', o', e, _⟩
      ·simp at hbpos
      ·subst e; simp at he; exact he.1.2.2
     obtain ⟨d, hd⟩ : ∃ d, d = b.length - l3.length := ⟨_, rfl⟩
     have hdz : (b.length : Int) - (l3.length : Int) = (d : Int) := by omega
     have hdc : (d : Int).toNat = d := by omega
     have hdl : d <= b.length := by omega
     have hbd : b.length - d = l3.length := by omega
     have hT : Hid (∀ o2, (l3 ≠ [] -> o2 = o + d) -> BytesAt w5 (.slice (some ⟨g, o2, none⟩) l3.length (cap - d)) l3) := LH (fun o2 ho2 => by
      have := BytesAt.tail HB5.out HSUF.out o2 (by rw [<- hd]; exact ho2)
      rwa [<- hd] at this)
     have HD := LH hd
     clear hd
     go_wp2_with fail
     refine (eleft_any eb eg l3 0 w5 HE5.out).mono ?_
     rintro e w' ⟨rfl, hq⟩
     subst hq
     have hl3 : l3.length <= 1000000000 := by omega
     by_cases hcd : cap = d
     ·obtain rfl : l3 = [] := List.eq_nil_of_length_eq_zero (by omega)
      have hB0 : BytesAt w5 (.slice (some ⟨g, o, none⟩) 0 0) [] := ⟨_, 0, rfl, by simp, by unfold maxLen; omega, .inr ⟨g, o, rfl, fun i hi => absurd hi (by simp)⟩⟩
      have CZ := LH (noughts_any _ [] w5 hB0 (by simp))
      obtain rfl := hcd
      clear hB0 hT
      go_wp2_with fail
      refine CZ.out.mono ?_
      rintro e w6 ⟨rfl, n6, hw6⟩
      have hc6 : Chg [] w5 w6 := by rw [hw6]; exact (Chg.refl _ _).drewN n6
      have HC6 := LH (HC5.out.trans hc6 (by simp))
      have HRW6 := LH (hc6.keep HRW5.out (by simp))
      have HK6 := LH (HKR.out.keep (fun k hk => hc6.block k (HKL.out k hk) (by simp)))
      have HL6 : Hid (∀ k, kv.ownBlock = some k -> k < w6.heap.size) := LH HK6.out.lt
      clear hw6 hc6
      ·have hz3 : allZ ([] : List UInt8) = true := rfl
       rw [hz3]
       have hne : ¬ ((0 : Int) ≠ 0 ∨ k1 ≠ 1 ∨ 448 < k2 ∨ allZ ([] : List UInt8) = false) := by simp [HK1.out, hz3, hk2]
       have HNE := LH hne
       clear hz3 hne
       have c0 := blk_cell HRW6.out 0 _ rfl
       have c1 := blk_cell HRW6.out 1 _ rfl
       have c2 := blk_cell HRW6.out 2 _ rfl
       have f0 := blk_frozen HRW6.out 0
       have f1 := blk_frozen HRW6.out 1
       have f2 := blk_frozen HRW6.out 2
       have hl6 := blk_lt HRW6.out
       obtain rfl := HKV.out
       go_wp2
       have hb3 := set3 (u0 := .bool true) (u1 := .int .i64 k2) (u2 := .slice a5 key.length c5) HRW6.out
       refine bodyPost_ret (v := .agg #[.bool true, .int .i64 k2, .slice a5 key.length c5]) (by simp [results, Tryz.results128, go_sem, blk_cell hb3 0 _ rfl, blk_cell hb3 1 _ rfl, blk_cell hb3 2 _ rfl]) rfl (HPS.out _ _ HNE.out ?_ ?_ ?_)
       ·exact Chg.mono (S := [w.heap.size]) ((((HC6.out.mono (by simp)).setCell (.inl (by simp)) _).setCell (.inl (by simp)) _).setCell (.inl (by simp)) _) (fun x hx => .inr (by simp at hx; omega))
       ·exact HK6.out.keep (fun k hk => by
         have hne := HKN.out k hk
         exact ((Below.heap_setCell _ ⟨w.heap.size, 2, none⟩ _ k (by show k ≠ w.heap.size; omega)).trans (Below.heap_setCell _ ⟨w.heap.size, 1, none⟩ _ k (by show k ≠ w.heap.size; omega))).trans (Below.heap_setCell _ ⟨w.heap.size, 0, none⟩ _ k (by show k ≠ w.heap.size; omega)))
       ·exact fun k hk => Nat.le_of_lt (HKN.out k hk)
     ·have CZ := LH (noughts_any _ l3 w5 (hT.out (o + d) (fun _ => rfl)) hl3)
      clear hT
      go_wp2_with fail
      refine CZ.out.mono ?_
      rintro e w6 ⟨rfl, n6, hw6⟩
      have hc6 : Chg [] w5 w6 := by rw [hw6]; exact (Chg.refl _ _).drewN n6
      have HC6 := LH (HC5.out.trans hc6 (by simp))
      have HRW6 := LH (hc6.keep HRW5.out (by simp))
      have HK6 := LH (HKR.out.keep (fun k hk => hc6.block k (HKL.out k hk) (by simp)))
      have HL6 : Hid (∀ k, kv.ownBlock = some k -> k < w6.heap.size) := LH HK6.out.lt
      clear hw6 hc6
      by_cases hz3 : allZ l3 = true
      ·rw [hz3]
       have hne : ¬ ((0 : Int) ≠ 0 ∨ k1 ≠ 1 ∨ 448 < k2 ∨ allZ l3 = false) := by simp [HK1.out, hz3, hk2]
       have HNE := LH hne
       clear hz3 hne
       have c0 := blk_cell HRW6.out 0 _ rfl
       have c1 := blk_cell HRW6.out 1 _ rfl
       have c2 := blk_cell HRW6.out 2 _ rfl
       have f0 := blk_frozen HRW6.out 0
       have f1 := blk_frozen HRW6.out 1
       have f2 := blk_frozen HRW6.out 2
       have hl6 := blk_lt HRW6.out
       obtain rfl := HKV.out
       go_wp2
       have hb3 := set3 (u0 := .bool true) (u1 := .int .i64 k2) (u2 := .slice a5 key.length c5) HRW6.out
       refine bodyPost_ret (v := .agg #[.bool true, .int .i64 k2, .slice a5 key.length c5]) (by simp [results, Tryz.results128, go_sem, blk_cell hb3 0 _ rfl, blk_cell hb3 1 _ rfl, blk_cell hb3 2 _ rfl]) rfl (HPS.out _ _ HNE.out ?_ ?_ ?_)
       ·exact Chg.mono (S := [w.heap.size]) ((((HC6.out.mono (by simp)).setCell (.inl (by simp)) _).setCell (.inl (by simp)) _).setCell (.inl (by simp)) _) (fun x hx => .inr (by simp at hx; omega))
       ·exact HK6.out.keep (fun k hk => by
         have hne := HKN.out k hk
         exact ((Below.heap_setCell _ ⟨w.heap.size, 2, none⟩ _ k (by show k ≠ w.heap.size; omega)).trans (Below.heap_setCell _ ⟨w.heap.size, 1, none⟩ _ k (by show k ≠ w.heap.size; omega))).trans (Below.heap_setCell _ ⟨w.heap.size, 0, none⟩ _ k (by show k ≠ w.heap.size; omega)))
       ·exact fun k hk => Nat.le_of_lt (HKN.out k hk)
      ·have hzf : allZ l3 = false := by simpa using hz3
       rw [hzf]
       have HZF := LH hzf
       clear hz3 hzf
       go_wp2
       exact ⟨rfl, HPN.out 4 _ (.inr (.inr (.inr HZF.out))) (by omega) HC6.out⟩
   ·have q1 : (k1 != 1) = true := by simp [hk1]
    have HK1 := LH hk1
    clear hk1
    go_wp2
    exact ⟨rfl, HPN.out 4 _ (.inr (.inl HK1.out)) (by omega) HC5.out⟩
  ·refine (must_bad e3 he3 _).mono ?_
   rintro e w' ⟨rfl, hq⟩
   subst hq
   exact ⟨rfl, HPN.out e3 _ (.inl he3) HERR.out HC5.out⟩
theorem fold_be (l : List UInt8) : ∀ a : Nat, l.foldl (fun x c => x * 256 + c.toNat) a = a * 256 ^ l.length + beNum l := by
 induction l with
 | nil => intro a; simp [beNum]
 | cons c r ih =>
  intro a
  rw [List.foldl_cons, ih, List.length_cons, show beNum (c :: r) = r.foldl (fun x c => x * 256 + c.toNat) (0 * 256 + c.toNat) from rfl, ih, Nat.pow_succ']
  rw [Nat.zero_mul, Nat.zero_add, Nat.add_mul, <- Nat.mul_assoc]
  omega
theorem beNum_cons (c : UInt8) (r : List UInt8) : beNum (c :: r) = c.toNat * 256 ^ r.length + beNum r := by
 have := fold_be r (0 * 256 + c.toNat)
 rw [Nat.zero_mul, Nat.zero_add] at this
 rw [<- this]
 show List.foldl _ (0 * 256 + c.toNat) r = _
 rw [Nat.zero_mul, Nat.zero_add]
theorem be_high (n : Nat) : ∀ a x : Nat, beBytes n (a * 256 ^ n + x) = beBytes n x := by
 induction n with
 | zero => intro a x; rfl
 | succ n ih =>
  intro a x
  unfold beBytes
  have e : a * 256 ^ (n + 1) + x = (a * 256) * 256 ^ n + x := by rw [Nat.pow_succ', <- Nat.mul_assoc]
  rw [e, ih]
  congr 1
  rw [Nat.mul_comm (a * 256), Nat.mul_add_div (Nat.pow_pos (by omega))]
  apply UInt8.toNat.inj
  rw [UInt8.toNat_ofNat', UInt8.toNat_ofNat']
  omega
theorem be_beNum : ∀ l : List UInt8, beBytes l.length (beNum l) = l
 | [] => rfl
 | c :: r => by
  rw [beNum_cons, List.length_cons]
  unfold beBytes
  rw [be_high, be_beNum r, Nat.mul_comm, Nat.mul_add_div (Nat.pow_pos (by omega)), Nat.div_eq_of_lt (beNum_lt r), Nat.add_zero]
  congr 1
  exact UInt8.ofNat_toNat
theorem beNum_be : ∀ (n x : Nat), x < 256 ^ n -> beNum (beBytes n x) = x
 | 0, x, h => by simp at h; subst h; rfl
 | n + 1, x, h => by
  have hp : 0 < 256 ^ n := Nat.pow_pos (by omega)
  have hd : x / 256 ^ n < 256 := by
   rw [Nat.div_lt_iff_lt_mul hp]
   rw [Nat.pow_succ'] at h
   exact h
  have hm := beNum_be n (x % 256 ^ n) (Nat.mod_lt _ hp)
  have hh := be_high n (x / 256 ^ n) (x % 256 ^ n)
  have hdm := Nat.div_add_mod x (256 ^ n)
  rw [Nat.mul_comm] at hdm
  rw [hdm] at hh
  unfold beBytes
  rw [beNum_cons, beBytes_len, hh, hm, UInt8.toNat_ofNat', Nat.mod_eq_of_lt hd, hdm]
theorem eyeNum_be (n x : Nat) (r : List UInt8) (h : x < 256 ^ n) : eyeNum (beBytes n x ++ r) 0 n = ((x : Int), r, 0) := by
 unfold eyeNum
 have hl := beBytes_len n x
 rw [if_neg (by simp), if_neg (by rw [List.length_append, hl]; omega), List.take_left' hl, List.drop_left' hl, beNum_be n x h]
def idKey (x : Id) : List UInt8 := beBytes 1 x.c.toNat ++ (beBytes 3 x.l.toNat ++ (beBytes 4 x.n.toNat ++ beBytes 1 x.i.toNat))
theorem idKey_len (x : Id) : (idKey x).length = 9 := by simp [idKey, beBytes_len]
def un1 (l : List UInt8) : Int × List UInt8 × Int := eyeNum l 0 1
def un2 (l : List UInt8) : Int × List UInt8 × Int := eyeNum (un1 l).2.1 (un1 l).2.2 3
def un3 (l : List UInt8) : Int × List UInt8 × Int := eyeNum (un2 l).2.1 (un2 l).2.2 4
def un4 (l : List UInt8) : Int × List UInt8 × Int := eyeNum (un3 l).2.1 (un3 l).2.2 1
def unId (l : List UInt8) : Id := ⟨(un1 l).1, (un2 l).1, (un3 l).1, (un4 l).1⟩
def unOk (l : List UInt8) : Bool := decide ((un4 l).2.2 = 0 /\ (un4 l).2.1 = []) && mayId (unId l)
theorem may_bounds {x : Id} (h : mayId x = true) : (0 <= x.c /\ x.c <= 4) /\ (0 <= x.l /\ x.l <= 1048576) /\ (0 <= x.n /\ x.n <= 1073741824) /\ 0 <= x.i /\ x.i <= 15 := by
 unfold mayId withinB6 at h
 simp only [Bool.and_eq_true, decide_eq_true_eq] at h
 omega
theorem un_key {x : Id} (h : mayId x = true) : unId (idKey x) = x /\ unOk (idKey x) = true := by
 obtain ⟨⟨a0, a1⟩, ⟨b0, b1⟩, ⟨c0, c1⟩, d0, d1⟩ := may_bounds h
 have e1 : un1 (idKey x) = (x.c, beBytes 3 x.l.toNat ++ (beBytes 4 x.n.toNat ++ beBytes 1 x.i.toNat), 0) := by
  unfold un1 idKey
  rw [eyeNum_be 1 _ _ (by omega), Int.toNat_of_nonneg a0]
 have e2 : un2 (idKey x) = (x.l, beBytes 4 x.n.toNat ++ beBytes 1 x.i.toNat, 0) := by
  unfold un2
  rw [e1]
  show eyeNum _ 0 3 = _
  rw [eyeNum_be 3 _ _ (by omega), Int.toNat_of_nonneg b0]
 have e3 : un3 (idKey x) = (x.n, beBytes 1 x.i.toNat, 0) := by
  unfold un3
  rw [e2]
  show eyeNum _ 0 4 = _
  rw [eyeNum_be 4 _ _ (by omega), Int.toNat_of_nonneg c0]
 have e4 : un4 (idKey x) = (x.i, [], 0) := by
  unfold un4
  rw [e3]
  show eyeNum _ 0 1 = _
  have := eyeNum_be 1 x.i.toNat [] (by omega)
  rw [List.append_nil] at this
  rw [this, Int.toNat_of_nonneg d0]
 have eu : unId (idKey x) = x := by unfold unId; rw [e1, e2, e3, e4]
 refine ⟨eu, ?_⟩
 unfold unOk
 rw [eu, e4, h]
 simp
theorem idKey_inj {x y : Id} (hx : mayId x = true) (hy : mayId y = true) (h : idKey x = idKey y) : x = y := by
 rw [<- (un_key hx).1, h, (un_key hy).1]
theorem eyeNum_zero {l : List UInt8} {bad : Int} {n : Nat} (h : (eyeNum l bad n).2.2 = 0) : bad = 0 /\ n <= l.length /\ eyeNum l bad n = ((beNum (l.take n) : Int), l.drop n, 0) := by
 unfold eyeNum at h ⊢
 by_cases h1 : bad ≠ 0
 ·rw [if_pos h1] at h; exact absurd h h1
 ·rw [if_neg h1] at h ⊢
  by_cases h2 : l.length < n
  ·rw [if_pos h2] at h; simp at h
  ·rw [if_neg h2]
   exact ⟨by simpa using h1, by omega, rfl⟩
theorem un_back {l : List UInt8} (h : unOk l = true) : mayId (unId l) = true /\ l = idKey (unId l) := by
 unfold unOk at h
 simp only [Bool.and_eq_true, decide_eq_true_eq] at h
 obtain ⟨⟨h4, hn⟩, hm⟩ := h
 refine ⟨hm, ?_⟩
 obtain ⟨b4, l4, e4⟩ := eyeNum_zero (show (eyeNum (un3 l).2.1 (un3 l).2.2 1).2.2 = 0 from h4)
 obtain ⟨b3, l3, e3⟩ := eyeNum_zero (show (eyeNum (un2 l).2.1 (un2 l).2.2 4).2.2 = 0 from b4)
 obtain ⟨b2, l2, e2⟩ := eyeNum_zero (show (eyeNum (un1 l).2.1 (un1 l).2.2 3).2.2 = 0 from b3)
 obtain ⟨b1, l1, e1⟩ := eyeNum_zero (show (eyeNum l 0 1).2.2 = 0 from b2)
 have f1 : un1 l = _ := e1
 have f2 : un2 l = _ := e2
 have f3 : un3 l = _ := e3
 have f4 : un4 l = _ := e4
 rw [f1] at f2 l2
 dsimp only at f2 l2
 rw [f2] at f3 l3
 dsimp only at f3 l3
 rw [f3] at f4 l4
 dsimp only at f4 l4
 rw [f4] at hn
 dsimp only at hn
 unfold unId idKey
 rw [f1, f2, f3, f4]
 dsimp only
 simp only [Int.toNat_natCast]
 have g1 := be_beNum (l.take 1)
 have g2 := be_beNum ((l.drop 1).take 3)
 have g3 := be_beNum (((l.drop 1).drop 3).take 4)
 have g4 := be_beNum ((((l.drop 1).drop 3).drop 4).take 1)
 rw [List.length_take, Nat.min_eq_left l1] at g1
 rw [List.length_take, Nat.min_eq_left l2] at g2
 rw [List.length_take, Nat.min_eq_left l3] at g3
 rw [List.length_take, Nat.min_eq_left l4] at g4
 rw [g1, g2, g3, g4]
 have t4 := List.take_append_drop 1 (((l.drop 1).drop 3).drop 4)
 rw [hn, List.append_nil] at t4
 rw [t4, List.take_append_drop, List.take_append_drop, List.take_append_drop]
def upd (f : Nat -> List UInt8) (k : Nat) (s : List UInt8) : Nat -> List UInt8 := fun j => if j = k then s else f j
structure DS where
 n : Nat
 now : Nat -> List UInt8
 lasts : Nat -> List UInt8
 since : List (Nat × List UInt8)
 fuse : Int
 ops : Nat
 dead : Bool
def applied (l : List (Nat × List UInt8)) (f : Nat -> List UInt8) : Nat -> List UInt8 := l.foldl (fun f x => upd f x.1 x.2) f
def DS.op (d : DS) : Bool × DS :=
 if d.fuse = 0 then (false, { d with dead := true }) else (true, { d with fuse := if 0 < d.fuse then d.fuse - 1 else d.fuse, ops := d.ops + 1 })
def DS.write (d : DS) (k : Int) (b : List UInt8) : Int × DS :=
 if d.dead then (14, d) else if 0 <= k /\ k < d.n /\ b.length = 64 then
  let r := ({ d with since := d.since ++ [(k.toNat, b)] } : DS).op
  if r.1 then (0, { r.2 with now := upd r.2.now k.toNat b }) else (14, r.2)
 else (1, d)
def DS.sync (d : DS) : Int × DS :=
 if d.dead then (14, d) else
  let r := d.op
  if r.1 then (0, { r.2 with lasts := applied r.2.since r.2.lasts, since := [] }) else (14, r.2)
theorem setCells_blk {g t : Nat} : ∀ (vs : List Value) (o : Nat) (w : World) (cs : Array Value), w.heap[g]? = some (.cells cs t (0, 0)) ->
  ∃ cs' : Array Value, (w.setCells g o vs).heap[g]? = some (.cells cs' t (0, 0)) /\ cs'.size = cs.size /\ ∀ j, j < cs.size -> cs'[j]? = if o <= j /\ j < o + vs.length then vs[j - o]? else cs[j]? := by
 intro vs
 induction vs with
 | nil =>
  intro o w cs h
  refine ⟨cs, h, rfl, fun j hj => ?_⟩
  rw [if_neg (by simp)]
 | cons v r ih =>
  intro o w cs h
  obtain ⟨cs', h1, h2, h3⟩ := ih (o + 1) (w.setCell ⟨g, o, none⟩ v) (cs.setIfInBounds o v) (set_blk h)
  refine ⟨cs', ?_, by rw [h2]; simp, fun j hj => ?_⟩
  ·rw [World.setCells]; exact h1
  ·rw [h3 j (by simpa using hj), Array.getElem?_setIfInBounds]
   by_cases e : o = j
   ·subst e
    rw [if_neg (by omega), if_pos rfl, if_pos hj, if_pos (by simp)]
    simp
   ·by_cases e2 : o + 1 <= j /\ j < o + 1 + r.length
    ·rw [if_pos e2, if_pos (by simp; omega)]
     have : j - o = (j - (o + 1)) + 1 := by omega
     rw [this, List.getElem?_cons_succ]
    ·rw [if_neg e2, if_neg e, if_neg (by simp; omega)]
theorem setCells_far {g : Nat} : ∀ (vs : List Value) (o : Nat) (w : World) (k : Nat), k ≠ g -> (w.setCells g o vs).heap[k]? = w.heap[k]? := by
 intro vs
 induction vs with
 | nil => intro o w k h; rfl
 | cons v r ih =>
  intro o w k h
  rw [World.setCells, ih _ _ k h]
  exact Below.heap_setCell w ⟨g, o, none⟩ v k h
theorem setCells_size {g : Nat} : ∀ (vs : List Value) (o : Nat) (w : World), (w.setCells g o vs).heap.size = w.heap.size := by
 intro vs
 induction vs with
 | nil => intro o w; rfl
 | cons v r ih => intro o w; rw [World.setCells, ih]; simp [World.setCell]
theorem setCells_rest {g : Nat} : ∀ (vs : List Value) (o : Nat) (w : World), (w.setCells g o vs).os = w.os /\ (w.setCells g o vs).tape = w.tape /\ (w.setCells g o vs).output = w.output := by
 intro vs
 induction vs with
 | nil => intro o w; exact ⟨rfl, rfl, rfl⟩
 | cons v r ih => intro o w; rw [World.setCells]; exact ih _ _
theorem Chg.setCells {S : List Nat} {a b : World} (h : Chg S a b) {g o : Nat} (hp : g ∈ S ∨ a.heap.size <= g) (vs : List Value) : Chg S a (b.setCells g o vs) := by
 obtain ⟨h1, h2, h3⟩ := setCells_rest (g := g) vs o b
 refine ⟨h1.trans h.os, h2.trans h.tape, h3.trans h.output, by rw [setCells_size]; exact h.size, fun k hk hn => (setCells_far vs o b k (by
  rintro rfl
  rcases hp with hp | hp
  ·exact hn hp
  ·omega)).trans (h.block k hk hn)⟩
def SecsAt (w : World) (g n : Nat) (f : Nat -> List UInt8) : Prop :=
 ∃ cs : Array Value, w.heap[g]? = some (.cells cs 142 (0, 0)) /\ n * 64 <= cs.size /\ ∀ k, k < n -> (f k).length = 64 /\ ∀ i, i < 64 -> cs[k * 64 + i]? = some (bv ((f k).getD i 0))
theorem SecsAt.lt {w : World} {g n : Nat} {f : Nat -> List UInt8} (h : SecsAt w g n f) : g < w.heap.size := by obtain ⟨cs, h, _⟩ := h; exact blk_lt h
theorem SecsAt.keep {w w' : World} {g n : Nat} {f : Nat -> List UInt8} (h : SecsAt w g n f) (hb : w'.heap[g]? = w.heap[g]?) : SecsAt w' g n f := by
 obtain ⟨cs, h1, h2⟩ := h
 exact ⟨cs, hb.trans h1, h2⟩
theorem SecsAt.len {w : World} {g n : Nat} {f : Nat -> List UInt8} (h : SecsAt w g n f) (k : Nat) (hk : k < n) : (f k).length = 64 := by obtain ⟨cs, _, _, h⟩ := h; exact (h k hk).1
theorem SecsAt.range {w : World} {g n : Nat} {f : Nat -> List UInt8} (h : SecsAt w g n f) (k : Nat) (hk : k < n) : w.rangeAt g (k * 64) (bvs (f k)) := by
 obtain ⟨cs, h1, h2, h3⟩ := h
 obtain ⟨h4, h5⟩ := h3 k hk
 intro j v hv
 have hj : j < 64 := by
  have := (List.getElem?_eq_some_iff.1 hv).1
  rw [bvs_len, h4] at this; exact this
 rw [bvs_at (f k) j (by omega)] at hv
 cases hv
 exact blk_cell h1 _ _ (h5 j hj)
theorem SecsAt.there {w : World} {g n : Nat} {f : Nat -> List UInt8} (h : SecsAt w g n f) (k : Nat) (hk : k < n) : w.there g (k * 64) 64 := by
 obtain ⟨cs, h1, h2, h3⟩ := h
 intro j hj
 exact ⟨by rw [blk_cell h1 _ _ ((h3 k hk).2 j hj)]; rfl, blk_frozen h1 _⟩
theorem SecsAt.bytes {w : World} {g n : Nat} {f : Nat -> List UInt8} (h : SecsAt w g n f) (k : Nat) (hk : k < n) : BytesAt w (.slice (some ⟨g, k * 64, none⟩) 64 64) (f k) := by
 have hl := h.len k hk
 refine ⟨some ⟨g, k * 64, none⟩, 64, by rw [hl], by omega, by unfold maxLen; omega, .inr ⟨g, k * 64, rfl, fun i hi => ?_⟩⟩
 exact h.range k hk i _ (bvs_at (f k) i hi)
theorem SecsAt.set {w : World} {g n : Nat} {f : Nat -> List UInt8} (h : SecsAt w g n f) (k : Nat) (s : List UInt8) (hk : k < n) (hs : s.length = 64) : SecsAt (w.setCells g (k * 64) (bvs s)) g n (upd f k s) := by
 obtain ⟨cs, h1, h2, h3⟩ := h
 obtain ⟨cs', e1, e2, e3⟩ := setCells_blk (bvs s) (k * 64) w cs h1
 refine ⟨cs', e1, by omega, fun j hj => ?_⟩
 unfold upd
 by_cases e : j = k
 ·subst e
  rw [if_pos rfl]
  refine ⟨hs, fun i hi => ?_⟩
  rw [e3 _ (by omega), if_pos (by rw [bvs_len]; omega)]
  have : j * 64 + i - j * 64 = i := by omega
  rw [this]
  exact bvs_at s i (by omega)
 ·rw [if_neg e]
  refine ⟨(h3 j hj).1, fun i hi => ?_⟩
  rw [e3 _ (by omega), if_neg (by rw [bvs_len]; omega)]
  exact (h3 j hj).2 i hi
def zeros (n : Nat) : List UInt8 := List.replicate n 0
def wcells (x : Nat × List UInt8) : List Value := .int .i64 (x.1 : Int) :: bvs x.2
def wsCells (l : List (Nat × List UInt8)) : List Value := l.flatMap wcells
theorem wsCells_app (l : List (Nat × List UInt8)) (x : Nat × List UInt8) : wsCells (l ++ [x]) = wsCells l ++ wcells x := by simp [wsCells]
structure DiskOk (w : World) (p : Nat) (S : List Nat) (d : DS) (gn gl : Nat) (cn cl : Nat) (v : Value) : Prop where
 head : w.heap[p]? = some (.cells #[.slice (some ⟨gn, 0, none⟩) d.n cn, .slice (some ⟨gl, 0, none⟩) d.n cl, v, .int .i64 d.fuse, .int .i64 (d.ops : Int), .bool d.dead] 113 (0, 0))
 now : SecsAt w gn d.n d.now
 lasts : SecsAt w gl d.n d.lasts
 since : w.ownsRow 0 144 65 v d.since.length (wsCells d.since)
 waits : ∀ x ∈ d.since, x.1 < d.n /\ x.2.length = 64
 few : d.n <= 4160
 capn : d.n <= cn /\ cn <= maxLen
 capl : d.n <= cl /\ cl <= maxLen
 fuse : -1 <= d.fuse /\ d.fuse <= 9223372036854775807
 ap : p ≠ gn /\ p ≠ gl /\ gn ≠ gl
 av : ∀ k, v.ownBlock = some k -> k ≠ p /\ k ≠ gn /\ k ≠ gl
 mem : p ∈ S /\ gn ∈ S /\ gl ∈ S /\ ∀ k, v.ownBlock = some k -> k ∈ S
 lim : ∀ x ∈ S, x < w.heap.size
def DiskAt (w : World) (p : Nat) (S : List Nat) (d : DS) : Prop := ∃ gn gl cn cl v, DiskOk w p S d gn gl cn cl v
theorem DiskAt.keep {w w' : World} {p : Nat} {S T : List Nat} {d : DS} (h : DiskAt w p S d) (hc : Chg T w w') (ha : ∀ x ∈ S, x ∉ T) : DiskAt w' p S d := by
 obtain ⟨gn, gl, cn, cl, v, h⟩ := h
 obtain ⟨m1, m2, m3, m4⟩ := h.mem
 exact ⟨gn, gl, cn, cl, v, hc.keep h.head (ha _ m1), h.now.keep (hc.block _ h.now.lt (ha _ m2)), h.lasts.keep (hc.block _ h.lasts.lt (ha _ m3)),
  row_keep h.since (fun g hg => hc.block g (World.ownsRow.lt h.since g hg).2 (ha _ (m4 g hg))), h.waits, h.few, h.capn, h.capl, h.fuse, h.ap, h.av, h.mem, fun x hx => Nat.lt_of_lt_of_le (h.lim x hx) hc.size⟩
theorem DiskAt.lim {w : World} {p : Nat} {S : List Nat} {d : DS} (h : DiskAt w p S d) : ∀ x ∈ S, x < w.heap.size := by
 obtain ⟨gn, gl, cn, cl, v, h⟩ := h
 exact h.lim
def Did (w w' : World) (p : Nat) (S : List Nat) (d : DS) : Prop := ∃ S', DiskAt w' p S' d /\ (∀ x ∈ S', x ∈ S ∨ w.heap.size <= x) /\ Chg S w w'
theorem Did.same {w : World} {p : Nat} {S : List Nat} {d : DS} (h : DiskAt w p S d) : Did w w p S d := ⟨S, h, fun x hx => .inl hx, Chg.refl _ _⟩
theorem dgone_any (p : Nat) (S : List Nat) (d : DS) (w : World) (h : DiskAt w p S d) : Calls Tryz.prog 85 #[.pointer (some ⟨p, 0, none⟩)] w fun e w' => e = .returned (.bool d.dead) /\ w = w' := by
 obtain ⟨gn, gl, cn, cl, v, H⟩ := h
 have c5 := blk_cell H.head 5 _ rfl
 have c0 := blk_cell H.head 0 _ rfl
 clear H
 generalize d.dead = dd at *
 generalize d.n = n at *
 have hq : ∀ w, (binOp .eql 110 (.slice (some ⟨gn, 0, none⟩) n cn) (.slice none 0 0)).run Tryz.prog w = .ok (.bool false) w := fun w => Lib.run_eql_slice_nil w 110 142 (some ⟨gn, 0, none⟩) _ _ 0 0 Tryz.underlying110
 cases dd
 all_goals
  go_enter Tryz.func85, Tryz.ntmps85
  go_wp2
  go_ret
  exact ⟨rfl, rfl⟩
theorem dhas_any (p : Nat) (S : List Nat) (d : DS) (k : Int) (w : World) (h : DiskAt w p S d) : Calls Tryz.prog 86 #[.pointer (some ⟨p, 0, none⟩), .int .i64 k] w fun e w' => e = .returned (.bool (decide (0 <= k /\ k < d.n))) /\ w = w' := by
 obtain ⟨gn, gl, cn, cl, v, H⟩ := h
 have c0 := blk_cell H.head 0 _ rfl
 clear H
 generalize d.n = n at *
 by_cases h1 : 0 <= k
 ·have d1 : decide (k ≥ 0) = true := decide_eq_true h1
  go_enter Tryz.func86, Tryz.ntmps86
  go_wp2
  go_ret
  exact ⟨by simp [h1], rfl⟩
 ·have d1 : decide (k ≥ 0) = false := decide_eq_false h1
  go_enter Tryz.func86, Tryz.ntmps86
  go_wp2
  go_ret
  exact ⟨by simp [h1], rfl⟩
theorem dsectors_any (p : Nat) (S : List Nat) (d : DS) (w : World) (h : DiskAt w p S d) : Calls Tryz.prog 65 #[.pointer (some ⟨p, 0, none⟩)] w fun e w' => e = .returned (.int .i64 (d.n : Int)) /\ w = w' := by
 obtain ⟨gn, gl, cn, cl, v, H⟩ := h
 have c0 := blk_cell H.head 0 _ rfl
 clear H
 generalize d.n = n at *
 go_enter Tryz.func65, Tryz.ntmps65
 go_wp2
 go_ret
 exact ⟨rfl, rfl⟩
theorem ddead_any (p : Nat) (S : List Nat) (d : DS) (w : World) (h : DiskAt w p S d) : Calls Tryz.prog 34 #[.pointer (some ⟨p, 0, none⟩)] w fun e w' => e = .returned (.bool d.dead) /\ w = w' := by
 obtain ⟨gn, gl, cn, cl, v, H⟩ := h
 have c5 := blk_cell H.head 5 _ rfl
 clear H
 generalize d.dead = dd at *
 go_enter Tryz.func34, Tryz.ntmps34
 go_wp2
 go_ret
 exact ⟨rfl, rfl⟩
theorem DiskOk.put {w w' : World} {p : Nat} {S : List Nat} {d d' : DS} {gn gl cn cl : Nat} {v : Value} (h : DiskOk w p S d gn gl cn cl v) (hc : Chg [p] w w')
  (hh : w'.heap[p]? = some (.cells #[.slice (some ⟨gn, 0, none⟩) d'.n cn, .slice (some ⟨gl, 0, none⟩) d'.n cl, v, .int .i64 d'.fuse, .int .i64 (d'.ops : Int), .bool d'.dead] 113 (0, 0)))
  (e1 : d'.n = d.n) (e2 : d'.now = d.now) (e3 : d'.lasts = d.lasts) (e4 : d'.since = d.since) (e5 : -1 <= d'.fuse /\ d'.fuse <= 9223372036854775807) : Did w w' p S d' := by
 have ap := h.ap
 refine ⟨S, ⟨gn, gl, cn, cl, v, hh, ?_, ?_, ?_, ?_, ?_, ?_, ?_, e5, h.ap, h.av, h.mem, fun x hx => Nat.lt_of_lt_of_le (h.lim x hx) hc.size⟩, fun x hx => .inl hx, hc.mono (fun x hx => .inl (by simp at hx; rw [hx]; exact h.mem.1))⟩
 ·rw [e1, e2]; exact h.now.keep (hc.block _ h.now.lt (by simp; exact fun e => ap.1 e.symm))
 ·rw [e1, e3]; exact h.lasts.keep (hc.block _ h.lasts.lt (by simp; exact fun e => ap.2.1 e.symm))
 ·rw [e4]; exact row_keep h.since (fun g hg => hc.block g (World.ownsRow.lt h.since g hg).2 (by simp; exact (h.av g hg).1))
 ·rw [e4, e1]; exact h.waits
 ·rw [e1]; exact h.few
 ·rw [e1]; exact h.capn
 ·rw [e1]; exact h.capl
theorem dop_any (p : Nat) (S : List Nat) (d : DS) (w : World) (h : DiskAt w p S d) (ho : d.ops <= 1000000000) :
  Calls Tryz.prog 87 #[.pointer (some ⟨p, 0, none⟩)] w fun e w' => e = .returned (.bool d.op.1) /\ Did w w' p S d.op.2 := by
 obtain ⟨gn, gl, cn, cl, v, H⟩ := h
 have HH := LH H
 have c3 := blk_cell H.head 3 _ rfl
 have c4 := blk_cell H.head 4 _ rfl
 have c5 := blk_cell H.head 5 _ rfl
 have f3 := blk_frozen H.head 3
 have f4 := blk_frozen H.head 4
 have f5 := blk_frozen H.head 5
 have hb := H.fuse
 have hlt := blk_lt H.head
 clear H
 by_cases h0 : d.fuse = 0
 ·have ho : Hid (d.op = (false, { d with dead := true })) := LH (by unfold DS.op; rw [if_pos h0])
  have HF : Hid (Did w (w.setCell ⟨p, 5, none⟩ (.bool true)) p S { d with dead := true }) := LH (HH.out.put ((Chg.refl _ _).setCell (.inl (by simp)) _) (set_blk HH.out.head) rfl rfl rfl rfl HH.out.fuse)
  rw [ho.out]
  rw [h0] at c3
  clear h0 hb
  go_enter Tryz.func87, Tryz.ntmps87
  go_wp2
  go_ret
  exact ⟨rfl, HF.out⟩
 ·have he : (d.fuse == 0) = false := by simp [h0]
  by_cases hp : 0 < d.fuse
  ·have ho2 : Hid (d.op = (true, { d with fuse := d.fuse - 1, ops := d.ops + 1 })) := LH (by unfold DS.op; rw [if_neg h0, if_pos hp])
   have HF : Hid (Did w ((w.setCell ⟨p, 3, none⟩ (.int .i64 (d.fuse - 1))).setCell ⟨p, 4, none⟩ (.int .i64 ((d.ops : Int) + 1))) p S { d with fuse := d.fuse - 1, ops := d.ops + 1 }) :=
    LH (HH.out.put (((Chg.refl _ _).setCell (.inl (by simp)) _).setCell (.inl (by simp)) _) (set_blk (set_blk HH.out.head)) rfl rfl rfl rfl (by show -1 <= d.fuse - 1 /\ d.fuse - 1 <= 9223372036854775807; omega))
   have d1 : decide (d.fuse > 0) = true := decide_eq_true hp
   have w1 : IntKind.i64.wrap (d.fuse - 1) = d.fuse - 1 := by rw [IntKind.wrap_i64]; omega
   have w2 : IntKind.i64.wrap ((d.ops : Int) + 1) = (d.ops : Int) + 1 := by rw [IntKind.wrap_i64]; omega
   rw [ho2.out]
   clear ho2
   generalize d.fuse = fu at *
   generalize d.ops = op at *
   go_enter Tryz.func87, Tryz.ntmps87
   go_wp2
   go_ret
   exact ⟨rfl, HF.out⟩
  ·have ho2 : Hid (d.op = (true, { d with fuse := d.fuse, ops := d.ops + 1 })) := LH (by unfold DS.op; rw [if_neg h0, if_neg hp])
   have HF : Hid (Did w (w.setCell ⟨p, 4, none⟩ (.int .i64 ((d.ops : Int) + 1))) p S { d with fuse := d.fuse, ops := d.ops + 1 }) :=
    LH (HH.out.put ((Chg.refl _ _).setCell (.inl (by simp)) _) (set_blk HH.out.head) rfl rfl rfl rfl HH.out.fuse)
   have d1 : decide (d.fuse > 0) = false := decide_eq_false hp
   have w2 : IntKind.i64.wrap ((d.ops : Int) + 1) = (d.ops : Int) + 1 := by rw [IntKind.wrap_i64]; omega
   rw [ho2.out]
   clear ho2
   generalize d.fuse = fu at *
   generalize d.ops = op at *
   go_enter Tryz.func87, Tryz.ntmps87
   go_wp2
   go_ret
   exact ⟨rfl, HF.out⟩
theorem fill_step (place : Nat -> Option (Nat × Nat)) (cells : Array Value) (i : Nat) (v : Value) (rest : List (Nat × Value)) (off size : Nat) (hp : place i = some (off, size)) (hs : v.cells.size = size) (hle : off + size <= cells.size) :
  ∃ cs' : Array Value, Instr.fill place cells ((i, v) :: rest) = Instr.fill place cs' rest /\ cs'.size = cells.size /\ ∀ k, cs'[k]? = if off <= k /\ k < off + size then v.cells[k - off]? else cells[k]? := by
 obtain ⟨g1, g2⟩ := Great.foldl_set off v.cells.toList 0 cells
 refine ⟨(v.cells.toList.zipIdx 0).foldl (fun cs (x : Value × Nat) => cs.setIfInBounds (off + x.2) x.1) cells, ?_, g1, fun k => ?_⟩
 ·conv => lhs; unfold Instr.fill
  simp only [hp, hs]
  rw [if_neg (by simp; omega)]
  congr 1
  rw [<- Array.foldl_toList, Array.toList_zipIdx]
 ·rw [g2 k]
  simp only [Nat.add_zero, Array.length_toList, hs]
  by_cases h : off <= k /\ k < off + size
  ·rw [if_pos ⟨h.1, h.2, by omega⟩, if_pos h]; simp
  ·rw [if_neg (by omega), if_neg h]
theorem fill_nil (p : Nat -> Option (Nat × Nat)) (c : Array Value) : Instr.fill p c [] = some c := rfl
theorem facts_sec : (Tryz.prog.info? 142).map (fun i => (i.zero.map (·.cells.size), i.size, i.bytes)) = some (some 64, 64, 64) := by kernel_rfl
theorem facts_wr : (Tryz.prog.info? 144).map (fun i => (i.zero.map (·.cells.size), i.size, i.bytes)) = some (some 65, 65, 72) := by kernel_rfl
theorem info_three {P : Program} {t : TypeId} {n s b : Nat} (h : (P.info? t).map (fun i => (i.zero.map (·.cells.size), i.size, i.bytes)) = some (some n, s, b)) :
  ∃ i z, P.info? t = some i /\ i.zero = some z /\ z.cells.size = n /\ i.size = s /\ i.bytes = b := by
 obtain ⟨i, hi, hz⟩ := Option.map_eq_some_iff.1 h
 simp only [Prod.mk.injEq, Option.map_eq_some_iff] at hz
 obtain ⟨⟨z, hz1, hz2⟩, h3, h4⟩ := hz
 exact ⟨i, z, hi, hz1, hz2, h3, h4⟩
def placesOf (P : Program) (t : TypeId) : Option (List (Nat × Nat)) :=
 match P.underlying t with
 | some (.struct fields) => fields.toList.mapM (fun f => (P.info? f.type).map fun i => (f.offset, i.size))
 | _ => none
theorem built_of {P : Program} {t : TypeId} {i : TypeInfo} {z : Value} {pl : List (Nat × Nat)} {parts : List (Nat × Value)} (hi : P.info? t = some i) (hz : i.zero = some z) (hp : placesOf P t = some pl) :
  P.built t parts = Instr.fill (pl.toArray[·]?) z.cells parts := by
 unfold placesOf at hp
 unfold Program.built
 cases hu : P.underlying t with
 | none => rw [hu] at hp; cases hp
 | some d =>
  rw [hu] at hp
  cases d <;> first | (cases hp; done) | skip
  rename_i fields
  simp only at hp
  simp only [hi, hz, hp]
theorem places_sec : placesOf Tryz.prog 142 = some [(0, 64)] := by kernel_rfl
theorem places_wr : placesOf Tryz.prog 144 = some [(0, 1), (1, 64)] := by kernel_rfl
theorem build_sec (A : Array Value) (hA : A.size = 64) (w : World) : (Instr.build 142 #[(0, .agg A)]).run Tryz.prog w = .ok (.agg A) w := by
 refine run_build w 142 _ _ ?_
 obtain ⟨i, z, hi, hz, h1, h2, h3⟩ := info_three facts_sec
 rw [built_of hi hz places_sec]
 obtain ⟨cs, e1, e2, e3⟩ := fill_step ([(0, 64)].toArray[·]?) z.cells 0 (.agg A) [] 0 64 rfl hA (by omega)
 rw [e1, fill_nil]
 congr 1
 refine Array.ext (by omega) (fun j a b => ?_)
 have := e3 j
 rw [if_pos (by omega), Nat.sub_zero, Array.getElem?_eq_getElem a] at this
 have hb : (Value.agg A).cells[j]? = some A[j] := Array.getElem?_eq_getElem b
 rw [hb] at this
 exact Option.some.inj this
theorem build_wr (n : Int) (l : List Value) (hl : l.length = 64) (w : World) : (Instr.build 144 #[(0, .int .i64 n), (1, .agg l.toArray)]).run Tryz.prog w = .ok (.agg (.int .i64 n :: l).toArray) w := by
 refine run_build w 144 _ _ ?_
 obtain ⟨i, z, hi, hz, h1, h2, h3⟩ := info_three facts_wr
 rw [built_of hi hz places_wr]
 obtain ⟨cs, e1, e2, e3⟩ := fill_step ([(0, 1), (1, 64)].toArray[·]?) z.cells 0 (.int .i64 n) [(1, .agg l.toArray)] 0 1 rfl rfl (by omega)
 obtain ⟨cs', d1, d2, d3⟩ := fill_step ([(0, 1), (1, 64)].toArray[·]?) cs 1 (.agg l.toArray) [] 1 64 rfl (by simp [Value.cells]; omega) (by omega)
 rw [e1, d1, fill_nil]
 congr 1
 refine Array.ext (by simp; omega) (fun j a b => ?_)
 have := d3 j
 rw [Array.getElem?_eq_getElem a] at this
 cases j with
 | zero =>
  rw [if_neg (by omega), e3 0, if_pos (by omega)] at this
  simp [Value.cells] at this
  simpa using this
 | succ j =>
  have hj : j < 64 := by omega
  rw [if_pos (by omega)] at this
  simp [Value.cells] at this
  have hjl : j < l.length := by omega
  rw [List.getElem?_eq_getElem hjl] at this
  simpa using Option.some.inj this
def lit8 (x : UInt8) : Lit := .int .u8 (x.toNat : Int)
theorem lit8_inj {a b : UInt8} (h : lit8 a = lit8 b) : a = b := by
 unfold lit8 at h
 injection h with _ h
 exact UInt8.toNat_inj.1 (by omega)
theorem map_lit8_inj : ∀ {l m : List UInt8}, l.map lit8 = m.map lit8 -> l = m
 | [], [], _ => rfl
 | [], _ :: _, h => by cases h
 | _ :: _, [], h => by cases h
 | a :: l, b :: m, h => by
  simp only [List.map_cons, List.cons.injEq] at h
  rw [lit8_inj h.1, map_lit8_inj h.2]
theorem keyLits_u8 (x : UInt8) (d : Nat) : Tryz.prog.keyLits (d + 1) 5 [bv x] = some [lit8 x] := by
 have hw : (Lit.int .u8 (x.toNat : Int)).wf = true := by
  have := x.toNat_lt
  have h1 : IntKind.u8.min = 0 := rfl
  have h2 : IntKind.u8.max = 255 := rfl
  simp only [Lit.wf, h1, h2, Bool.and_eq_true, decide_eq_true_eq]
  omega
 unfold Program.keyLits bv lit8
 simp [Tryz.underlying5, hw]
theorem mapM_some {α β : Type} (f : α -> Option β) (g : α -> β) : ∀ l : List α, (∀ x ∈ l, f x = some (g x)) -> l.mapM f = some (l.map g)
 | [], _ => rfl
 | a :: l, h => by
  rw [List.mapM_cons, h a (by simp), mapM_some f g l (fun x hx => h x (by simp [hx]))]
  rfl
theorem cells_u8 : Tryz.prog.cellsOf 5 = 1 := by kernel_rfl
theorem cells_arr : Tryz.prog.cellsOf 140 = 64 := by kernel_rfl
theorem cells_sec : Tryz.prog.cellsOf 142 = 64 := by kernel_rfl
theorem range_flat (l : List UInt8) : ((List.range l.length).map (fun i => [lit8 (l.getD i 0)])).flatten = l.map lit8 := by
 have h : (List.range l.length).map (fun i => [lit8 (l.getD i 0)]) = l.map (fun x => [lit8 x]) := by
  refine List.ext_getElem (by simp) (fun i h1 h2 => ?_)
  simp at h1 h2
  simp [List.getD_eq_getElem?_getD, List.getElem?_eq_getElem h2]
 rw [h]
 clear h
 induction l with
 | nil => rfl
 | cons a l ih => simp [ih]
theorem keyLits_arr (l : List UInt8) (hl : l.length = 64) (d : Nat) : Tryz.prog.keyLits (d + 2) 140 (bvs l) = some (l.map lit8) := by
 unfold Program.keyLits
 simp only [Tryz.underlying140]
 rw [if_pos (by rw [bvs_len, hl, cells_arr]), cells_u8]
 rw [mapM_some _ (fun i => [lit8 (l.getD i 0)]) (List.range 64) (fun i hi => ?_)]
 ·have := range_flat l
  rw [hl] at this
  simp only [Option.map_some, this]
 ·have hi' : i < l.length := by rw [hl]; exact List.mem_range.1 hi
  have : ((bvs l).drop (i * 1)).take 1 = [bv (l.getD i 0)] := by
   rw [Nat.mul_one]
   have hi2 : i < (bvs l).length := by rw [bvs_len]; exact hi'
   rw [List.drop_eq_getElem_cons hi2]
   simp [bvs, List.getD_eq_getElem?_getD, List.getElem?_eq_getElem hi']
  rw [this]
  exact keyLits_u8 _ _
theorem keyLits_sec (l : List UInt8) (hl : l.length = 64) : Tryz.prog.keyLits 3 142 (bvs l) = some (l.map lit8) := by
 unfold Program.keyLits
 simp only [Tryz.underlying142]
 rw [if_pos ⟨by rw [bvs_len, hl, cells_sec], by decide +kernel⟩]
 simp only [List.mapM_cons, List.mapM_nil, List.drop_zero, cells_arr]
 rw [List.take_of_length_le (by rw [bvs_len, hl]; omega), keyLits_arr l hl]
 simp
theorem neq_sec (l m : List UInt8) (hl : l.length = 64) (hm : m.length = 64) (w : World) :
  (binOp .neq 142 (.agg (bvs l).toArray) (.agg (bvs m).toArray)).run Tryz.prog w = .ok (.bool (!decide (l = m))) w := by
 rw [run_neq_struct]
 obtain ⟨r, h1, h2⟩ := run_equalIn_deep (P := Tryz.prog) 9997 3 142 (by kernel_rfl) w 3 3 (.agg (bvs l).toArray) (.agg (bvs m).toArray) (l.map lit8) (m.map lit8)
  (by simp [Value.formed, Tryz.underlying142, bvs_len, hl, cells_sec]) (by simp [Value.formed, Tryz.underlying142, bvs_len, hm, cells_sec])
  (by simpa [Value.cells] using keyLits_sec l hl) (by simpa [Value.cells] using keyLits_sec m hm)
 have hr : r = decide (l = m) := by
  by_cases e : l = m
  ·rw [decide_eq_true e]; exact h2.2 (by rw [e])
  ·rw [decide_eq_false e]
   cases r with
   | false => rfl
   | true => exact absurd (map_lit8_inj (h2.1 rfl)) e
 rw [<- hr]
 have h3 : (Op.equalIn 10000 142 (.agg (bvs l).toArray) (.agg (bvs m).toArray)).run Tryz.prog w = .ok r w := h1
 rw [h3]
 rfl
def DReadPost (d : DS) (k : Int) (w : World) (e : Ending) (w' : World) : Prop :=
 (if d.dead = true then e = .returned (.tuple #[.slice none 0 0, .int .i64 14]) else
  if 0 <= k /\ k < d.n then ∃ v, e = .returned (.tuple #[v, .int .i64 0]) /\ BRow w' v (d.now k.toNat) /\ ∀ g, v.ownBlock = some g -> w.heap.size <= g
  else e = .returned (.tuple #[.slice none 0 0, .int .i64 1])) /\ Chg [] w w'
theorem dread_any (p : Nat) (S : List Nat) (d : DS) (k : Int) (w : World) (h : DiskAt w p S d) : Calls Tryz.prog 89 #[.pointer (some ⟨p, 0, none⟩), .int .i64 k] w (DReadPost d k w) := by
 have CG := LH (dgone_any p S d w h)
 have CH := LH (dhas_any p S d k w h)
 obtain ⟨gn, gl, cn, cl, v, H⟩ := h
 have c0 := blk_cell H.head 0 _ rfl
 have HH := LH H
 clear H
 by_cases hd : d.dead = true
 ·have P1 : ∀ e w', e = Ending.returned (.tuple #[.slice none 0 0, .int .i64 14]) -> Chg [] w w' -> DReadPost d k w e w' := fun e w' h1 h2 => ⟨by rw [if_pos hd]; exact h1, h2⟩
  have HP := LH P1
  rw [hd] at CG
  clear hd P1
  go_enter Tryz.func89, Tryz.ntmps89
  go_wp2_with (go_at_call 85; refine CG.out.mono ?_; rintro e w' ⟨rfl, rfl⟩)
  go_ret2
  exact HP.out _ _ rfl (Chg.refl _ _)
 ·have hd' : d.dead = false := by simpa using hd
  rw [hd'] at CG
  by_cases hk : 0 <= k /\ k < d.n
  ·have P1 : ∀ e w', (∃ v, e = Ending.returned (.tuple #[v, .int .i64 0]) /\ BRow w' v (d.now k.toNat) /\ ∀ g, v.ownBlock = some g -> w.heap.size <= g) -> Chg [] w w' -> DReadPost d k w e w' := fun e w' h1 h2 => ⟨by rw [if_neg hd, if_pos hk]; exact h1, h2⟩
   have HP := LH P1
   rw [decide_eq_true hk] at CH
   clear P1 hd hd'
   obtain ⟨j, rfl⟩ : ∃ j : Nat, k = j := ⟨k.toNat, by omega⟩
   have hj : j < d.n := by omega
   have CC := LH (clone_any _ (d.now j) w (HH.out.now.bytes j hj) (by rw [HH.out.now.len j hj]; omega))
   rw [Int.toNat_natCast] at HP
   obtain ⟨hk1, hk2⟩ := hk
   clear HH
   generalize hnn : d.n = n at *
   clear hnn
   go_enter Tryz.func89, Tryz.ntmps89
   go_wp2_with (first
    | (go_at_call 85; refine CG.out.mono ?_; rintro e w' ⟨rfl, rfl⟩)
    | (go_at_call 86; refine CH.out.mono ?_; rintro e w' ⟨rfl, rfl⟩)
    | (go_at_call 40; refine CC.out.mono ?_; rintro e w1 ⟨v1, rfl, hr, hn, hc⟩; have HR := LH (And.intro hr (And.intro hn hc)); clear hr hn hc))
   go_ret2
   exact HP.out _ _ ⟨_, rfl, HR.out.1, HR.out.2.1⟩ HR.out.2.2
  ·have P1 : ∀ e w', e = Ending.returned (.tuple #[.slice none 0 0, .int .i64 1]) -> Chg [] w w' -> DReadPost d k w e w' := fun e w' h1 h2 => ⟨by rw [if_neg hd, if_neg hk]; exact h1, h2⟩
   have HP := LH P1
   rw [decide_eq_false hk] at CH
   clear hk P1 hd hd'
   go_enter Tryz.func89, Tryz.ntmps89
   go_wp2_with (first
    | (go_at_call 85; refine CG.out.mono ?_; rintro e w' ⟨rfl, rfl⟩)
    | (go_at_call 86; refine CH.out.mono ?_; rintro e w' ⟨rfl, rfl⟩))
   go_ret2
   exact HP.out _ _ rfl (Chg.refl _ _)
section
variable {P : Program} {ops : Array Oper} {Q : Exit -> Act -> World -> Prop}
theorem wpList_buildTo {rest : List Oper} {o : Oper} {a : Act} {w : World} (hg : o.guard = none) (t : TypeId) (parts : Array (Nat × Operand)) (ho : o.op = .build t parts) (v : Value)
  (hrun : (Instr.build t (parts.map fun (i, x) => (i, a.eval x))).run P w = .ok v w) (h : wpList P ops Q rest (a.put o.dst v) w) : wpList P ops Q (o :: rest) a w :=
 wpList_plain hg fun _ hK => by
  unfold Oper.wp execOp
  simp only [ho, Sem.run_bind, hrun, Result.andThen_ok]
  exact hK _ _ h
theorem wpList_build1 {rest : List Oper} {o : Oper} {a : Act} {w : World} (hg : o.guard = none) (t : TypeId) (i : Nat) (x : Operand) (ho : o.op = .build t #[(i, x)]) (u v : Value) (hx : a.eval x = u)
  (hrun : (Instr.build t #[(i, u)]).run P w = .ok v w) (h : wpList P ops Q rest (a.put o.dst v) w) : wpList P ops Q (o :: rest) a w :=
 wpList_buildTo hg t _ ho v (by rw [<- hx] at hrun; simpa using hrun) h
theorem wpList_build2 {rest : List Oper} {o : Oper} {a : Act} {w : World} (hg : o.guard = none) (t : TypeId) (i j : Nat) (x y : Operand) (ho : o.op = .build t #[(i, x), (j, y)]) (u u' v : Value) (hx : a.eval x = u) (hy : a.eval y = u')
  (hrun : (Instr.build t #[(i, u), (j, u')]).run P w = .ok v w) (h : wpList P ops Q rest (a.put o.dst v) w) : wpList P ops Q (o :: rest) a w :=
 wpList_buildTo hg t _ ho v (by rw [<- hx, <- hy] at hrun; simpa using hrun) h
theorem wpList_var {rest : List Oper} {o1 o2 : Oper} {a : Act} {w : World} (g1 : o1.guard = none) (g2 : o2.guard = none) (t : TypeId) (x y : Operand) (h1 : o1.op = .alloc t) (h2 : o2.op = .store t x y) (N : Nat) (hN : w.heap.size = N) (c : Array Value)
  (hx : (a.put o1.dst (.pointer (some ⟨N, 0, none⟩))).eval x = .pointer (some ⟨N, 0, none⟩)) (hy : (a.put o1.dst (.pointer (some ⟨N, 0, none⟩))).eval y = .agg c)
  (i : TypeInfo) (z : Value) (hi : P.info? t = some i) (hz : i.zero = some z) (hzs : z.cells.size = c.size) (his : i.size = c.size) (hone : c.all (·.oneCell') = true)
  (h : wpList P ops Q rest ((a.put o1.dst (.pointer (some ⟨N, 0, none⟩))).put o2.dst undef) (w.alloc (.cells c t))) : wpList P ops Q (o1 :: o2 :: rest) a w := by
 subst hN
 refine wpList_plain g1 fun K hK => ?_
 have hst := run_storeAt_new (P := P) w t z.cells c (by rw [hi, Option.map_some, his]) hzs hone
 have h3 : wpList P ops Q (o2 :: rest) (a.put o1.dst (.pointer (some ⟨w.heap.size, 0, none⟩))) (w.alloc (.cells z.cells t)) := wpList_plain g2 fun K2 hK2 => by
  unfold Oper.wp execOp
  simp only [h2, hx, hy, Sem.run_bind, hst, Result.andThen_ok]
  exact hK2 _ _ h
 unfold Oper.wp execOp
 simp only [h1, Instr.alloc, zeroValue, typeInfo, run_program, hi, hz, newVar, newRow, run_newObj_alloc, Sem.run_pure, Sem.run_bind, Result.andThen_ok]
 exact hK _ _ h3
theorem wp_slice1 {o : Oper} {a : Act} {w : World} {K : Act -> World -> Prop} (t e : TypeId) (x : Operand) (ho : o.op = .buildSlice t 1 #[(0, x)]) (c : Array Value) (hx : a.eval x = .agg c)
  (i : TypeInfo) (z : Value) (hu : P.underlying t = some (.slice e)) (hi : P.info? e = some i) (hz : i.zero = some z) (his : i.size = c.size) (hpos : 0 < c.size) (hsm : c.size <= 1000)
  (h : K (a.put o.dst (.slice (some ⟨w.heap.size, 0, none⟩) 1 1)) (w.alloc (.cells c e))) : Oper.wp P o a w K Q := by
 refine wp_buildSlice t e 1 #[(0, x)] ho c i z hu hi hz (by omega) (by omega) ?_ h
 obtain ⟨cs, e1, e2, e3⟩ := fill_step (fun k => some (k * i.size, i.size)) ((Array.range (1 * i.size)).map (z.cells[· % z.cells.size]!)) 0 (.agg c) [] 0 i.size (by simp) his.symm (by simp)
 have hp : ((#[(0, x)] : Array (Nat × Operand)).map fun (k, y) => (k, a.eval y)).toList = [(0, .agg c)] := by simp [hx]
 rw [hp, e1, fill_nil]
 congr 1
 refine Array.ext (by rw [e2]; simp [his]) (fun j a1 b1 => ?_)
 have := e3 j
 rw [if_pos (by rw [his]; omega), Nat.sub_zero, Array.getElem?_eq_getElem a1] at this
 have hb : (Value.agg c).cells[j]? = some c[j] := Array.getElem?_eq_getElem b1
 rw [hb] at this
 exact Option.some.inj this
end
theorem wcells_len (x : Nat × List UInt8) (h : x.2.length = 64) : (wcells x).length = 65 := by simp [wcells, bvs_len, h]
theorem wcells_one (x : Nat × List UInt8) : ∀ u ∈ wcells x, u.oneCell' = true := by
 intro u hu
 unfold wcells at hu
 rcases List.mem_cons.1 hu with rfl | hu
 ·rfl
 ·exact bvs_one _ u hu
theorem DiskOk.more {w w2 : World} {p : Nat} {S : List Nat} {d : DS} {gn gl cn cl : Nat} {v v' : Value} {x : Nat × List UInt8} (h : DiskOk w p S d gn gl cn cl v) (hg : w.grownBy w2 v.ownBlock)
  (hrow : w2.ownsRow 0 144 65 v' (d.since.length + 1) (wsCells d.since ++ wcells x)) (hat : ∀ k, v'.ownBlock = some k -> v.ownBlock = some k ∨ w.heap.size <= k) (hx : x.1 < d.n /\ x.2.length = 64) :
  Did w (w2.setCell ⟨p, 2, none⟩ v') p S { d with since := d.since ++ [x] } := by
 obtain ⟨m1, m2, m3, m4⟩ := h.mem
 have hc0 : Chg v.ownBlock.toList w w2 := (Chg.refl _ w).grown hg (fun k hk => .inl (by rw [hk]; simp))
 have hpv : p ∉ v.ownBlock.toList := fun hm => (h.av p (by simpa using hm)).1 rfl
 have hp2 : w2.heap[p]? = _ := hc0.keep h.head hpv
 have hl := blk_lt h.head
 have hne : ∀ k, v'.ownBlock = some k -> k ≠ p /\ k ≠ gn /\ k ≠ gl := by
  intro k hk
  rcases hat k hk with h1 | h1
  ·exact h.av k h1
  ·have := h.lim _ m1; have := h.lim _ m2; have := h.lim _ m3
   omega
 have hc1 : Chg (p :: v.ownBlock.toList) w (w2.setCell ⟨p, 2, none⟩ v') := (hc0.mono (fun x hx => .inl (List.mem_cons_of_mem _ hx))).setCell (.inl (by simp)) _
 have out : ∀ k, k ∈ S -> k ≠ p -> v.ownBlock ≠ some k -> (w2.setCell ⟨p, 2, none⟩ v').heap[k]? = w.heap[k]? := fun k hk h1 h2 => hc1.block k (h.lim k hk) (by
  intro hm
  rcases List.mem_cons.1 hm with e | e
  ·exact h1 e
  ·exact h2 (by simpa using e))
 refine ⟨S ++ v'.ownBlock.toList, ⟨gn, gl, cn, cl, v', set_blk hp2, ?_, ?_, ?_, ?_, h.few, h.capn, h.capl, h.fuse, h.ap, hne, ⟨?_, ?_, ?_, fun k hk => ?_⟩, fun k hk => ?_⟩, fun k hk => ?_, hc1.mono (fun k hk => .inl ?_)⟩
 ·exact h.now.keep (out gn m2 h.ap.1.symm (fun e => (h.av gn e).2.1 rfl))
 ·exact h.lasts.keep (out gl m3 h.ap.2.1.symm (fun e => (h.av gl e).2.2 rfl))
 ·have hr := row_keep hrow (w' := w2.setCell ⟨p, 2, none⟩ v') (fun k hk => Below.heap_setCell w2 _ _ k (hne k hk).1)
  rw [wsCells_app, List.length_append]
  exact hr
 ·intro y hy
  rcases List.mem_append.1 hy with hy | hy
  ·exact h.waits y hy
  ·simp at hy; subst hy; exact hx
 ·exact List.mem_append_left _ m1
 ·exact List.mem_append_left _ m2
 ·exact List.mem_append_left _ m3
 ·exact List.mem_append_right _ (by rw [hk]; simp)
 ·rcases List.mem_append.1 hk with hk | hk
  ·exact Nat.lt_of_lt_of_le (h.lim k hk) hc1.size
  ·have := (World.ownsRow.lt hrow k (by simpa using hk)).2
   simpa [World.setCell] using this
 ·rcases List.mem_append.1 hk with hk | hk
  ·exact .inl hk
  ·rcases hat k (by simpa using hk) with h1 | h1
   ·exact .inl (m4 k h1)
   ·exact .inr h1
 ·rcases List.mem_cons.1 hk with rfl | hk
  ·exact m1
  ·exact m4 k (by simpa using hk)
theorem DiskOk.drew {w : World} {p : Nat} {S : List Nat} {d : DS} {gn gl cn cl : Nat} {v : Value} (h : DiskOk w p S d gn gl cn cl v) : DiskOk w.drew p S d gn gl cn cl v :=
 ⟨h.head, h.now.keep rfl, h.lasts.keep rfl, row_keep h.since (fun _ _ => rfl), h.waits, h.few, h.capn, h.capl, h.fuse, h.ap, h.av, h.mem, h.lim⟩
theorem Did.pre {w0 w w' : World} {p : Nat} {S : List Nat} {d : DS} (hc : Chg [] w0 w) (h : Did w w' p S d) : Did w0 w' p S d := by
 obtain ⟨S', h1, h2, h3⟩ := h
 exact ⟨S', h1, fun x hx => (h2 x hx).imp id (fun h => Nat.le_trans hc.size h), (hc.mono (by simp)).trans h3 (fun x hx => .inl hx)⟩
theorem Did.glue {w w1 w2 : World} {p : Nat} {S S1 : List Nat} {d : DS} (hs : ∀ x ∈ S1, x ∈ S ∨ w.heap.size <= x) (hc : Chg S w w1) (h : Did w1 w2 p S1 d) : Did w w2 p S d := by
 obtain ⟨S2, b1, b2, b3⟩ := h
 refine ⟨S2, b1, fun x hx => ?_, hc.trans b3 hs⟩
 rcases b2 x hx with h | h
 ·exact hs x h
 ·exact .inr (Nat.le_trans hc.size h)
theorem upd_same (f : Nat -> List UInt8) (k : Nat) (s : List UInt8) (h : f k = s) : upd f k s = f := by
 funext j
 unfold upd
 split
 ·subst_vars; rfl
 ·rfl
theorem range_tail {w : World} {N o : Nat} {v : Value} {l : List Value} (h : w.rangeAt N o (v :: l)) : w.rangeAt N (o + 1) l := fun j u hj => by
 have := h (j + 1) u (by simpa using hj)
 rw [<- this]
 congr 2
 omega
theorem range_keep {w w' : World} {N o : Nat} {l : List Value} (h : w.rangeAt N o l) (hb : w'.heap[N]? = w.heap[N]?) : w'.rangeAt N o l := fun j u hj => (World.cell?_of_block (w := w) (a := ⟨N, o + j, none⟩) hb).trans (h j u hj)
theorem wp_app_wr {o : Oper} {a : Act} {K : Act -> World -> Prop} {Q : Exit -> Act -> World -> Prop} (s y : Operand) (ho : o.op = .call { callee := .builtin .append, args := #[s, y], argTypes := #[111, 111] })
  {w : World} {p : Nat} {S : List Nat} {d : DS} {gn gl cn cl : Nat} {v : Value} (h : DiskOk w p S d gn gl cn cl v) (x : Nat × List UInt8) (hx : x.1 < d.n /\ x.2.length = 64) (hl : d.since.length <= 1000000)
  (hs : a.eval s = v) (hy : a.eval y = .slice (some ⟨w.heap.size, 0, none⟩) 1 1)
  (hk : ∀ g cap w2, w2.cell? ⟨p, 2, none⟩ = some v -> w2.frozen? ⟨p, 2, none⟩ = false -> p < w2.heap.size -> Hid (Did w (w2.setCell ⟨p, 2, none⟩ (.slice (some ⟨g, 0, none⟩) (d.since.length + 1) cap)) p S { d with since := d.since ++ [x] }) -> K (a.put o.dst (.slice (some ⟨g, 0, none⟩) (d.since.length + 1) cap)) w2) :
  Oper.wp Tryz.prog o a (w.alloc (.cells (wcells x).toArray 144)) K Q := by
 obtain ⟨i, z, hi, hz, h1, h2, h3⟩ := info_three facts_wr
 have hlen := wcells_len x hx.2
 refine wp_append_lies _ s y 111 ho 0 144 i z 65 72 Tryz.underlying111 hi hz h2 h3 h1 (by omega) v d.since.length (wsCells d.since) hs (h.since.alloc _) ⟨w.heap.size, 0, none⟩ 1 1 (wcells x) hy (by rw [hlen])
  (fun j u hj => by rw [add_none, Nat.zero_add]; exact blk_cell (heap_alloc_new w _) j u (by simpa using hj)) (wcells_one _) (by omega) (by unfold maxLen; omega) (by omega) (Nat.zero_le _) _ rfl ?_
 intro g cap w2 hrow hg hat hlt
 have hg' : w.grownBy w2 v.ownBlock := grownBy_trans (World.grownBy_alloc w _ _) hg
 have hpb : w2.heap[p]? = w.heap[p]? := hg'.block p (blk_lt h.head) (fun e => (h.av p e.symm).1 rfl)
 have hp2 := hpb.trans h.head
 refine hk g cap w2 (blk_cell hp2 2 _ rfl) (blk_frozen hp2 2) (blk_lt hp2) (LH (h.more hg' hrow (fun k hk => ?_) hx))
 rcases hat with h4 | h4
 ·simp [Value.ownBlock] at hk; subst hk; exact .inl h4
 ·simp [Value.ownBlock] at hk; subst hk; right; rw [h4]; simp
theorem DiskOk.put_now {w : World} {p : Nat} {S : List Nat} {d : DS} {gn gl cn cl : Nat} {v : Value} (h : DiskOk w p S d gn gl cn cl v) (k : Nat) (s : List UInt8) (hk : k < d.n) (hs : s.length = 64) :
  Did w (w.setCells gn (k * 64) (bvs s)) p S { d with now := upd d.now k s } := by
 obtain ⟨m1, m2, m3, m4⟩ := h.mem
 have hc : Chg [gn] w (w.setCells gn (k * 64) (bvs s)) := (Chg.refl _ w).setCells (.inl (by simp)) _
 refine ⟨S, ⟨gn, gl, cn, cl, v, hc.keep h.head (by simp; exact h.ap.1), h.now.set k s hk hs, h.lasts.keep (setCells_far _ _ _ _ (fun e => h.ap.2.2 e.symm)), row_keep h.since (fun g hg => setCells_far _ _ _ _ (h.av g hg).2.1),
  h.waits, h.few, h.capn, h.capl, h.fuse, h.ap, h.av, h.mem, fun x hx => Nat.lt_of_lt_of_le (h.lim x hx) hc.size⟩, fun x hx => .inl hx, hc.mono (fun x hx => .inl (by simp at hx; rw [hx]; exact m2))⟩
def Wide (F : Fence) : Prop := F = Fence.wide ∨ ∃ l, F = Fence.wide.inRound l
theorem wide_w : Wide Fence.wide := .inl rfl
theorem wide_r (l : Nat) : Wide (Fence.wide.inRound l) := .inr ⟨l, rfl⟩
theorem Wide.calls {F : Fence} (hF : Wide F) {n : Nat} {P : Program} {f : FuncId} {args : Array Value} {w : World} {R : Ending -> World -> Prop} (h : Calls P f args w R) : CallsIn F n P f args w R := by
 rcases hF with rfl | ⟨l, rfl⟩
 ·exact callsIn_wide.2 h
 ·exact CallsIn.inRound l (callsIn_wide.2 h)
theorem Wide.rows {F : Fence} (hF : Wide F) {n : Nat} {P : Program} {row : String} {args : Array Value} {w : World} {R : Value -> World -> Prop} (h : Rows P row args w R) : RowsIn F n P row args w R := by
 have h1 : RowsIn Fence.wide n P row args w R := fun c cs _ => by
  obtain ⟨v, w', r, s⟩ := h c cs
  exact ⟨v, w', r, stepsIn_wide.2 s⟩
 rcases hF with rfl | ⟨l, rfl⟩
 ·exact h1
 ·exact h1
theorem Wide.fn {F : Fence} (hF : Wide F) (f : FuncId) : F.fn f := by rcases hF with rfl | ⟨l, rfl⟩ <;> trivial
theorem Wide.depth {F : Fence} (hF : Wide F) : F.depth = none := by rcases hF with rfl | ⟨l, rfl⟩ <;> rfl
section
variable {F : Fence} {n : Nat} {P : Program} {ops : Array Oper} {Q : Exit -> Act -> World -> Prop} {a : Act} {w : World}
theorem wpIn_of_op {o : Oper} {K : Act -> World -> Prop} (hF : Wide F) (hnd : ∀ c, o.op ≠ .defer c) (h : o.wp P a w K Q) : o.wpIn F n P a w K Q := by
 unfold Oper.wpIn
 refine ⟨fun f _ => hF.fn f, ?_⟩
 rw [Oper.semAt_eq _ _ _ hnd]
 unfold Oper.wp at h
 revert h
 generalize hr : (execOp a.eval o).run P w = r
 intro h
 cases r with
 | ok x w' =>
  cases x <;> simp only [Oper.upon, Oper.uponIn] at h ⊢
  case value => exact h
  case skip => exact h
  case defer => exact h
  case enter f args =>
   refine ⟨fun hd => (by rw [hF.depth] at hd; cases hd), hF.calls (Calls.mono h (fun e w'' he => ?_))⟩
   cases e <;> exact he
  case row row args => exact ⟨fun hd => (by rw [hF.depth] at hd; cases hd), hF.rows h⟩
 | halt x w' => cases x <;> simp only [Oper.upon, Oper.uponIn] at h ⊢ <;> exact h
theorem wpListIn_op {o : Oper} {rest : List Oper} (hgd : o.guard = none) (hF : Wide F) (hnd : ∀ c, o.op ≠ .defer c) (v : Value) (w' : World) (hrun : (execOp a.eval o).run P w = .ok (.value v) w') (h : wpListIn F n P ops Q rest (a.put o.dst v) w') : wpListIn F n P ops Q (o :: rest) a w := by
 unfold wpListIn
 rw [if_pos (by simp [Region.wanted, hgd])]
 refine wpIn_of_op hF hnd ?_
 unfold Oper.wp
 rw [hrun]
 exact h
theorem wpListIn_skip {o : Oper} {rest : List Oper} (hgd : o.guard = none) (hF : Wide F) (hnd : ∀ c, o.op ≠ .defer c) (w' : World) (hrun : (execOp a.eval o).run P w = .ok .skip w') (h : wpListIn F n P ops Q rest (a.put o.dst undef) w') : wpListIn F n P ops Q (o :: rest) a w := by
 unfold wpListIn
 rw [if_pos (by simp [Region.wanted, hgd])]
 refine wpIn_of_op hF hnd ?_
 unfold Oper.wp
 rw [hrun]
 exact h
theorem wpListIn_load_midW {rest : List Oper} {op : Oper} (hF : Wide F) (hgd : op.guard = none) (ty : TypeId) (x : Operand) (ho : op.op = .load ty x)
  (b o : Nat) (hx : a.eval x = .pointer (some ⟨b, o, none⟩)) (cs : List Value) (d : TypeDesc) (hc : w.rangeAt b o cs) (hu : P.underlying ty = some d) (hd : d.isRow = true) (hi : (P.info? ty).map (·.size) = some cs.length)
  (h : wpListIn F n P ops Q rest (a.put op.dst (.agg cs.toArray)) w) : wpListIn F n P ops Q (op :: rest) a w := by
 refine wpListIn_op hgd hF (fun c e => by rw [ho] at e; cases e) _ w ?_ h
 unfold execOp
 simp only [ho, hx, Instr.loadAt, Instr.sureAddr, Sem.run_bind, Sem.run_pure, Result.andThen_ok, run_loadVar_mid w b o ty cs d hc hu hd hi]
theorem wpListIn_varW {rest : List Oper} {o1 o2 : Oper} (hF : Wide F) (g1 : o1.guard = none) (g2 : o2.guard = none) (t : TypeId) (x y : Operand) (h1 : o1.op = .alloc t) (h2 : o2.op = .store t x y) (N : Nat) (hN : w.heap.size = N) (c : Array Value)
  (hx : (a.put o1.dst (.pointer (some ⟨N, 0, none⟩))).eval x = .pointer (some ⟨N, 0, none⟩)) (hy : (a.put o1.dst (.pointer (some ⟨N, 0, none⟩))).eval y = .agg c)
  (i : TypeInfo) (z : Value) (hi : P.info? t = some i) (hz : i.zero = some z) (hzs : z.cells.size = c.size) (his : i.size = c.size) (hone : c.all (·.oneCell') = true)
  (h : wpListIn F n P ops Q rest ((a.put o1.dst (.pointer (some ⟨N, 0, none⟩))).put o2.dst undef) (w.alloc (.cells c t))) : wpListIn F n P ops Q (o1 :: o2 :: rest) a w := by
 subst hN
 refine wpListIn_op g1 hF (fun c e => by rw [h1] at e; cases e) (.pointer (some ⟨w.heap.size, 0, none⟩)) (w.alloc (.cells z.cells t)) ?_ ?_
 ·unfold execOp
  simp only [h1, Instr.alloc, zeroValue, typeInfo, run_program, hi, hz, newVar, newRow, run_newObj_alloc, Sem.run_pure, Sem.run_bind, Result.andThen_ok]
 ·have hst := run_storeAt_new (P := P) w t z.cells c (by rw [hi, Option.map_some, his]) hzs hone
  refine wpListIn_skip g2 hF (fun c e => by rw [h2] at e; cases e) (w.alloc (.cells c t)) ?_ h
  unfold execOp
  simp only [h2, hx, hy, Sem.run_bind, hst, Result.andThen_ok]
  rfl
theorem wpOpIn_of {i : Nat} {K : Act -> World -> Prop} (hF : Wide F) (hlet : ¬ LetsOut Q) (hnd : ∀ (o : Oper), ops[i]? = some o -> ∀ c, o.op ≠ .defer c) (h : wpOp P ops Q i K a w) : wpOpIn F n P ops Q i K a w := by
 unfold wpOp at h
 unfold wpOpIn
 cases ho : ops[i]? with
 | none => rw [ho] at h; exact h
 | some o =>
  simp only [ho] at h ⊢
  by_cases hw : Region.wanted o (yielded ops a.tmps) = true
  ·simp only [hw, if_true] at h ⊢
   rcases h with h | h
   ·exact wpIn_of_op hF (hnd o ho) h
   ·exact absurd h.2 hlet
  ·simp only [hw] at h ⊢
   exact ⟨fun f _ => hF.fn f, h⟩
theorem wpAnyIn_of {md : Region.Mode} (hF : Wide F) (hlet : ¬ LetsOut Q) (hnd : ∀ (i : Nat) (o : Oper), ops[i]? = some o -> ∀ c, o.op ≠ .defer c) :
  ∀ (k : Nat) (L : Array Bool) (a : Act) (w : World), wpAny P md ops Q k L a w -> wpAnyIn F n P md ops Q k L a w
 | 0, _, _, _, h => h
 | k + 1, _, _, _, h => ⟨h.1, fun i hi => wpOpIn_of hF hlet (hnd i) (wpOp_mono (fun a' w' h' => wpAnyIn_of hF hlet hnd k _ a' w' h') (h.2 i hi))⟩
def noDefer (ops : Array Oper) : Bool := ops.all fun o => match o.op with
 | .defer _ => false
 | _ => true
theorem noDefer_spec (h : noDefer ops = true) (i : Nat) (o : Oper) (ho : ops[i]? = some o) (c : Call) : o.op ≠ .defer c := fun e => by
 have := Array.all_eq_true_iff_forall_mem.1 h o (Array.mem_of_getElem? ho)
 rw [e] at this
 cases this
theorem wpIn_region_L {id : Nat} (hF : Wide F) (hlet : ¬ LetsOut Q) (hnd : noDefer ops = true) (cs : List (Nat × (World -> Prop))) (hm : P.follows .mixedOrders = true) (hS : HoldC cs (Array.replicate ops.size false) w.drew)
  (h : HoldC cs (Array.replicate ops.size false) w.drew -> wpAnyL P .any ops Q cs ops.size (Array.replicate ops.size false) a w.drew) : (Code.region id ops true).wpIn F n P Q a w :=
 wpIn_region_any hm (wpAnyIn_of hF hlet (noDefer_spec hnd) _ _ _ _ (wpAny_of_L _ _ _ _ (h hS)))
end
section
open Go.RowKit Go.Shelf
attribute [local go_sem] Oper.semAt_some
abbrev Wt (N : Nat) := { x : Nat × List UInt8 // x.1 < N /\ x.2.length = 64 }
def wcs {N : Nat} (l : List (Wt N)) : List (Nat × List UInt8) := l.map (·.1)
theorem wcs_len {N : Nat} (l : List (Wt N)) : (wcs l).length = l.length := by simp [wcs]
theorem wcs_of {N : Nat} (l : List (Nat × List UInt8)) (h : ∀ x ∈ l, x.1 < N /\ x.2.length = 64) : ∃ l' : List (Wt N), wcs l' = l := by
 refine ⟨l.attach.map (fun x => ⟨x.1, h x.1 x.2⟩), ?_⟩
 unfold wcs
 rw [List.map_map]
 exact List.attach_map_subtype_val l
def wenc {N : Nat} (x : Wt N) : Array Value := #[.agg (wcells x.1).toArray]
theorem wsCells_at : ∀ (l : List (Nat × List UInt8)), (∀ x ∈ l, x.2.length = 64) -> ∀ (k j : Nat) (x : Nat × List UInt8), l[k]? = some x -> j < 65 -> (wsCells l)[k * 65 + j]? = (wcells x)[j]?
 | [], _, k, j, x, h, _ => by simp at h
 | y :: l, hl, k, j, x, h, hj => by
  have hy : (wcells y).length = 65 := wcells_len y (hl y (by simp))
  have e : wsCells (y :: l) = wcells y ++ wsCells l := rfl
  rw [e]
  cases k with
  | zero =>
   simp at h
   subst h
   rw [Nat.zero_mul, Nat.zero_add, List.getElem?_append_left (by omega)]
  | succ k =>
   rw [List.getElem?_append_right (by omega), hy]
   have : (k + 1) * 65 + j - 65 = k * 65 + j := by omega
   rw [this]
   exact wsCells_at l (fun x hx => hl x (by simp [hx])) k j x (by simpa using h) hj
theorem wait_range {w : World} {g cap : Nat} {l : List (Nat × List UInt8)} (h : w.ownsRow 0 144 65 (.slice (some ⟨g, 0, none⟩) l.length cap) l.length (wsCells l)) (hl : ∀ x ∈ l, x.2.length = 64) (k : Nat) (x : Nat × List UInt8) (hx : l[k]? = some x) :
  w.rangeAt g (k * 65) (wcells x) := fun j u hu => by
 have hxl : x.2.length = 64 := hl x (List.mem_of_getElem? hx)
 have hj : j < 65 := by
  have := (List.getElem?_eq_some_iff.1 hu).1
  rw [wcells_len x hxl] at this; exact this
 have := h.cells (g := g) rfl (k * 65 + j) u (by rw [wsCells_at l hl k j x hx hj]; exact hu)
 rwa [add_none, Nat.zero_add] at this
def KpRow (v : Value) (W W' : World) : Prop := ∀ g, v.ownBlock = some g -> W'.heap[g]? = W.heap[g]?
theorem dwaits1_in (n : Nat) (hn : 1 <= n) (l Bd p N : Nat) (v : Value) (xs : List (Wt N)) (hxs : xs.length <= 1000000) (J Jx : List (Wt N) -> World -> Prop) (W : World) (hJ : AbidesFrom W.heap.size J)
  (hY : ∀ pre x W1, J pre W1 -> pre.length < xs.length -> YieldAt Fence.wide (n - 1) Tryz.prog l (wenc x) W1 fun e W' =>
   (e = .returned (.bool true) /\ J (pre ++ [x]) W' /\ KpRow v W1 W') ∨ (e = .returned (.bool false) /\ Jx (pre ++ [x]) W'))
  (hBd : W.cell? ⟨Bd, 0, none⟩ = some (.pointer (some ⟨p, 0, none⟩))) (h2 : W.cell? ⟨p, 2, none⟩ = some v) (hrow : W.ownsRow 0 144 65 v xs.length (wsCells (wcs xs))) (h0 : J [] W) :
  CallsIn Fence.wide n Tryz.prog 118 #[.func (.yield l) #[] #[], .pointer (some ⟨Bd, 0, none⟩)] W fun e W' => (∃ v, e = .returned v) /\
   ((∃ ys, ys = xs /\ J ys W') ∨ (∃ pre, True /\ Jx pre W')) := by
 obtain ⟨iw, zw, hiw, hzw1, hzw2, hzw3, hzw4⟩ := info_three facts_wr
 have HROW := LH hrow
 have HJ := LH hJ
 have HY := LH hY
 have HIW := LH hiw
 have HZ1 := LH hzw1
 have HZ2 := LH hzw2
 have HZ3 := LH hzw3
 have hform : (v = .slice none 0 0 /\ xs.length = 0) ∨ ∃ g cap, v = .slice (some ⟨g, 0, none⟩) xs.length cap /\ xs.length <= cap /\ cap <= maxLen := by
  rcases hrow.2 with ⟨h1, h2⟩ | ⟨g, cap, cur, h1, _, _, h3, h4, _⟩
  ·exact .inl ⟨h1, h2⟩
  ·exact .inr ⟨g, cap, h1, h3, h4⟩
 clear hiw hzw1 hzw2 hzw3 hzw4 hrow hJ hY
 refine callsIn_of_wp Tryz.func118 rfl trivial ?_ rfl
 simp only [Tryz.ntmps118, List.size_toArray, List.length_cons, List.length_nil, Nat.reduceAdd, Nat.reduceSub, Array.replicate_succ, Array.replicate_zero, List.push_toArray, List.append_toArray, List.nil_append, List.cons_append]
 rcases hform with ⟨rfl, hx0⟩ | ⟨g, cap, rfl, hlc, hcm⟩
 ·obtain rfl := List.eq_nil_of_length_eq_zero hx0
  clear hx0 hxs
  gi_wp2
  gi_loopw [10] (fun i wr => i = .int .i64 0 /\ J [] wr) (fun _ _ => 0)
  case atStart => exact ⟨rfl, h0⟩
  case round =>
   obtain ⟨rfl, hJs⟩ := hrel
   gi_wp2
   go_end0
   exact ⟨⟨_, rfl⟩, .inl ⟨_, rfl, hJs⟩⟩
 ·gi_wp2
  gi_loopw [10] (fun i wr => ∃ k : Nat, k <= xs.length /\ i = .int .i64 k /\ J (xs.take k) wr /\ wr.heap[g]? = W.heap[g]?) (fun i _ => xs.length - (intOf i).toNat)
  case atStart => exact ⟨0, Nat.zero_le _, rfl, by simpa using h0, rfl⟩
  case round =>
   obtain ⟨k, hk, rfl, hJs, hkeep⟩ := hrel
   by_cases hlt : k < xs.length
   ·obtain ⟨x, hx⟩ : ∃ x, xs[k]? = some x := ⟨xs[k], List.getElem?_eq_getElem hlt⟩
    have hxw : (wcs xs)[k]? = some x.1 := by simp [wcs, hx]
    have hlen64 : ∀ y ∈ wcs xs, y.2.length = 64 := by
     intro y hy
     obtain ⟨z, _, rfl⟩ := List.mem_map.1 hy
     exact z.2.2
    have hgl : g < W.heap.size := (World.ownsRow.lt HROW.out g rfl).2
    have hglr : g < wr.heap.size := by
     have h1 := Array.getElem?_eq_getElem hgl
     rw [h1] at hkeep
     exact blk_lt hkeep
    have hR : wr.ownsRow 0 144 65 (.slice (some ⟨g, 0, none⟩) (wcs xs).length cap) (wcs xs).length (wsCells (wcs xs)) := by
     rw [wcs_len]
     exact row_keep HROW.out (fun g' hg' => by simp [Value.ownBlock] at hg'; subst hg'; exact hkeep)
    have HRG := LH (wait_range hR hlen64 k x.1 hxw)
    have HXL := LH (wcells_len x.1 x.2.2)
    have hone := LH (all_oneCell_toArray (wcells_one x.1))
    have hzw : Hid ((Tryz.prog.info? 144).map (·.size) = some (wcells x.1).length) := LH (by rw [HXL.out]; kernel_rfl)
    have HZ2b : Hid (zw.cells.size = (wcells x.1).toArray.size) := LH (by rw [HZ2.out]; simp [HXL.out])
    have HZ3b : Hid (iw.size = (wcells x.1).toArray.size) := LH (by rw [HZ3.out]; simp [HXL.out])
    obtain ⟨w1, hw1⟩ : ∃ w1, w1 = wr.alloc (.cells (wcells x.1).toArray 144) := ⟨_, rfl⟩
    have hJ1 : J (xs.take k) w1 := by
     rw [hw1]
     exact HJ.out _ wr _ none hJs (World.grownBy_alloc wr _ none) (fun r e => by cases e)
    have HR1 : Hid (w1.rangeAt wr.heap.size 0 (wcells x.1)) := LH (by
     rw [hw1]
     intro j u hu
     rw [Nat.zero_add]
     exact blk_cell (heap_alloc_new wr _) j u (by simpa using hu))
    have hk1 : w1.heap[g]? = W.heap[g]? := by
     rw [hw1]
     exact (Below.heap_alloc wr _ g hglr).trans hkeep
    have htk : xs.take (k + 1) = xs.take k ++ [x] := by
     rw [List.take_add_one, hx]; rfl
    obtain ⟨fn, tmps, assign, body, hy, hR⟩ := HY.out _ x w1 hJ1 (by rw [List.length_take]; omega)
    unfold wenc at hy
    have HRn := LH hR
    have HK1 := LH hk1
    have HTK := LH htk
    have HW1 := LH hw1
    have HX := LH hx
    have hkz : (k : Int) < (xs.length : Int) := by omega
    have hkz1 : (k : Int).toNat = k := by omega
    clear hR hk1 htk hw1 hx hxw hlen64 hkeep hJs
    gi_wp2_with (first
     | (refine wpListIn_load_midW wide_w (by rfl) 144 (.tmp 12) (by rfl) g (k * 65) (by rfl) (wcells x.1) _ HRG.out Tryz.underlying144 rfl hzw.out ?_)
     | (refine wpListIn_varW wide_w (by rfl) (by rfl) 144 (.tmp 4) (.tmp 13) (by rfl) (by rfl) wr.heap.size rfl (wcells x.1).toArray (by rfl) (by rfl) iw zw HIW.out HZ1.out HZ2b.out HZ3b.out hone.out ?_; rw [<- HW1.out])
     | (refine wpListIn_load_midW wide_w (by rfl) 144 (.tmp 4) (by rfl) wr.heap.size 0 (by rfl) (wcells x.1) _ HR1.out Tryz.underlying144 rfl hzw.out ?_))
    refine HRn.out.mono ?_
    rintro e W3 (⟨rfl, hJ3, hk3⟩ | ⟨rfl, hJx3⟩)
    ·have hk4 : W3.heap[g]? = W.heap[g]? := (hk3 g rfl).trans HK1.out
     have HJ3 := LH hJ3
     have HK4 := LH hk4
     clear hJ3 hk3 hk4 hy
     gi_wp2
     go_roundw
     case rel => exact ⟨k + 1, by omega, by go_num, by rw [HTK.out]; exact HJ3.out, HK4.out⟩
     case measure => simp [intOf]; omega
    ·clear hy
     gi_wp2
     refine bodyPost_ret (results_none rfl _ _ _) rfl ?_
     exact ⟨⟨_, rfl⟩, .inr ⟨_, trivial, hJx3⟩⟩
   ·obtain rfl : k = xs.length := by omega
    gi_wp2
    go_end0
    exact ⟨⟨_, rfl⟩, .inl ⟨_, rfl, by rwa [List.take_length] at hJs⟩⟩
end
section
open Go.RowKit Go.Shelf
attribute [local go_sem] Oper.semAt_some
theorem cells_ne {W : World} {r k t : Nat} {cs : Array Value} {o : Obj} {fr : Nat × Nat} (h : W.heap[k]? = some (.cells cs t fr)) (hr : W.heap[r]? = some o) (ho : o.isCells = false) : k ≠ r := by
 rintro rfl
 rw [h] at hr; cases hr; cases ho
theorem row_turn {W W' : World} {row : Option Nat} {base e size n : Nat} {v : Value} {xs : List Value} (h : W.ownsRow base e size v n xs) (hg : W.grownBy W' row) (hr : ∀ r, row = some r -> ∃ o : Obj, W.heap[r]? = some o /\ o.isCells = false) : W'.ownsRow base e size v n xs := by
 rcases h.2 with h1 | ⟨g, cap, cur, rfl, hbg, hgb, rest⟩
 ·exact ⟨h.1, .inl h1⟩
 ·refine row_keep h (fun g' hg' => ?_)
  simp [Value.ownBlock] at hg'
  subst hg'
  refine hg.block g (blk_lt hgb) (fun e => ?_)
  obtain ⟨o, ho, hc⟩ := hr g e.symm
  exact cells_ne hgb ho hc rfl
theorem blk_turn {W W' : World} {row : Option Nat} {k t : Nat} {cs : Array Value} {fr : Nat × Nat} (h : W.heap[k]? = some (.cells cs t fr)) (hg : W.grownBy W' row) (hr : ∀ r, row = some r -> ∃ o : Obj, W.heap[r]? = some o /\ o.isCells = false) : W'.heap[k]? = W.heap[k]? :=
 hg.block k (blk_lt h) (fun e => by obtain ⟨o, ho, hc⟩ := hr k e.symm; exact cells_ne h ho hc rfl)
theorem DiskOk.turn {W W' : World} {row : Option Nat} {p : Nat} {S : List Nat} {d : DS} {gn gl cn cl : Nat} {v : Value} (h : DiskOk W p S d gn gl cn cl v) (hg : W.grownBy W' row) (hr : ∀ r, row = some r -> ∃ o : Obj, W.heap[r]? = some o /\ o.isCells = false) : DiskOk W' p S d gn gl cn cl v := by
 have hn := h.now
 obtain ⟨cs, h1, h2⟩ := h.now
 obtain ⟨cs2, h3, h4⟩ := h.lasts
 exact ⟨(blk_turn h.head hg hr).trans h.head, h.now.keep (blk_turn h1 hg hr), h.lasts.keep (blk_turn h3 hg hr), row_turn h.since hg hr, h.waits, h.few, h.capn, h.capl, h.fuse, h.ap, h.av, h.mem, fun x hx => Nat.lt_of_lt_of_le (h.lim x hx) hg.size⟩
theorem chg_turn {S : List Nat} {w W W' : World} {row : Option Nat} (h : Chg S w W) (hg : W.grownBy W' row) (hr : ∀ r, row = some r -> w.heap.size <= r) : Chg S w W' := h.grown hg (fun k hk => .inr (hr k hk))
theorem DiskOk.put_lasts {w : World} {p : Nat} {S : List Nat} {d : DS} {gn gl cn cl : Nat} {v : Value} (h : DiskOk w p S d gn gl cn cl v) (k : Nat) (s : List UInt8) (hk : k < d.n) (hs : s.length = 64) :
  DiskOk (w.setCells gl (k * 64) (bvs s)) p S { d with lasts := upd d.lasts k s } gn gl cn cl v := by
 obtain ⟨m1, m2, m3, m4⟩ := h.mem
 have hc : Chg [gl] w (w.setCells gl (k * 64) (bvs s)) := (Chg.refl _ w).setCells (.inl (by simp)) _
 exact ⟨hc.keep h.head (by simp; exact h.ap.2.1), h.now.keep (setCells_far _ _ _ _ h.ap.2.2), h.lasts.set k s hk hs, row_keep h.since (fun g hg => setCells_far _ _ _ _ (h.av g hg).2.2),
  h.waits, h.few, h.capn, h.capl, h.fuse, h.ap, h.av, h.mem, fun x hx => Nat.lt_of_lt_of_le (h.lim x hx) hc.size⟩
theorem DiskOk.none_waits {w : World} {p : Nat} {S : List Nat} {d : DS} {gn gl cn cl : Nat} {v : Value} (h : DiskOk w p S d gn gl cn cl v) : DiskOk (w.setCell ⟨p, 2, none⟩ (.slice none 0 0)) p S { d with since := [] } gn gl cn cl (.slice none 0 0) := by
 obtain ⟨m1, m2, m3, m4⟩ := h.mem
 have hc : Chg [p] w (w.setCell ⟨p, 2, none⟩ (.slice none 0 0)) := (Chg.refl _ w).setCell (.inl (by simp)) _
 exact ⟨set_blk h.head, h.now.keep (hc.block _ h.now.lt (by simp; exact h.ap.1.symm)), h.lasts.keep (hc.block _ h.lasts.lt (by simp; exact h.ap.2.1.symm)), World.ownsRow_nil _ _ _ _,
  by simp, h.few, h.capn, h.capl, h.fuse, h.ap, by simp [Value.ownBlock], ⟨m1, m2, m3, by simp [Value.ownBlock]⟩, fun x hx => Nat.lt_of_lt_of_le (h.lim x hx) hc.size⟩
theorem applied_snoc (l : List (Nat × List UInt8)) (x : Nat × List UInt8) (f : Nat -> List UInt8) : applied (l ++ [x]) f = upd (applied l f) x.1 x.2 := by simp [applied]
theorem dwaits_any (p : Nat) (w : World) : Calls Tryz.prog 88 #[.pointer (some ⟨p, 0, none⟩)] w fun e w' => e = .returned (.func (.func 118) #[] #[.pointer (some ⟨w.heap.size, 0, none⟩)]) /\ w' = w.alloc (.cells #[.pointer (some ⟨p, 0, none⟩)] 85) := by
 have hmf : ∀ (fn : Fn) (first cap : Array Value) (w : World), (Instr.makeFunc fn first cap).run Tryz.prog w = .ok (.func fn first cap) w := fun _ _ _ _ => rfl
 go_enter Tryz.func88, Tryz.ntmps88
 go_wp2
 go_ret
 exact ⟨rfl, rfl⟩
theorem dwaits_stops (n Bd p N : Nat) (hn : 1 <= n) (v : Value) (xs : List (Wt N)) (hxs : xs.length <= 1000000) (w : World) (hBd : w.cell? ⟨Bd, 0, none⟩ = some (.pointer (some ⟨p, 0, none⟩))) (h2 : w.cell? ⟨p, 2, none⟩ = some v) (hrow : w.ownsRow 0 144 65 v xs.length (wsCells (wcs xs))) :
  SeqStopsK Fence.wide n Tryz.prog 118 #[.pointer (some ⟨Bd, 0, none⟩)] (wenc (N := N)) (KpRow v) (fun ys => ys = xs) (fun _ => True) xs.length w := fun l J Jx W hW hJ hJx hY h0 =>
 dwaits1_in n hn l Bd p N v xs hxs J Jx W hJ hY ((hW.cell (p := ⟨Bd, 0, none⟩) (World.block_lt_of_cell? w _ hBd)).trans hBd) ((hW.cell (p := ⟨p, 2, none⟩) (World.block_lt_of_cell? w _ h2)).trans h2)
  (row_keep hrow (fun g hg => hW.block g (World.ownsRow.lt hrow g hg).2)) h0
theorem dsync_ok (p : Nat) (S : List Nat) (d : DS) (w : World) (h : DiskAt w p S d) (ho : d.ops <= 1000000000) (hw : d.since.length <= 1000000) (hd : d.dead = false) (hf : d.fuse ≠ 0) :
  Calls Tryz.prog 67 #[.pointer (some ⟨p, 0, none⟩)] w fun e w' => e = .returned (.int .i64 (d.sync).1) /\ Did w w' p S (d.sync).2 := by
 obtain ⟨w1, hw1⟩ : ∃ w1, w1 = w.alloc (.cells #[.pointer (some ⟨p, 0, none⟩)] 85) := ⟨_, rfl⟩
 have hc1 : Chg [] w w1 := by rw [hw1]; exact (Chg.refl _ _).alloc _
 have h1 : DiskAt w1 p S d := h.keep hc1 (by simp)
 have hB0 : w1.cell? ⟨w.heap.size, 0, none⟩ = some (.pointer (some ⟨p, 0, none⟩)) := by rw [hw1]; exact blk_cell (heap_alloc_new w _) 0 _ rfl
 have hB0S : w.heap.size ∉ S := fun hm => by have := h.lim _ hm; omega
 have CG := LH (dgone_any p S d w1 h1)
 have CO := LH (dop_any p S d w1 h1 ho)
 obtain ⟨d2, hd2, hd2n, hd2l, hd2s⟩ : ∃ d2 : DS, d.op = (true, d2) /\ d2.n = d.n /\ d2.lasts = d.lasts /\ d2.since = d.since := by
  unfold DS.op
  rw [if_neg hf]
  exact ⟨_, rfl, rfl, rfl, rfl⟩
 have HSY : Hid (d.sync = (0, { d2 with lasts := applied d2.since d2.lasts, since := [] })) := LH (by
  unfold DS.sync
  rw [if_neg (by rw [hd]; simp), hd2]
  rfl)
 rw [hd] at CG
 rw [hd2] at CO
 dsimp only at CO
 have HW1 := LH hw1
 have HC1 := LH hc1
 clear h h1 hd hf hd2 hc1
 refine (callsIn_wide (n := 5)).1 ?_
 refine callsIn_of_wp_marks Tryz.func67 rfl trivial ?_ rfl
 simp only [Tryz.ntmps67, List.size_toArray, List.length_cons, List.length_nil, Nat.reduceAdd, Nat.reduceSub, Array.replicate_succ, Array.replicate_zero, List.push_toArray, List.append_toArray, List.nil_append, List.cons_append]
 gi_wp2_with fail
 rw [<- HW1.out]
 clear hw1
 refine ⟨trivial, (wide_w.calls CG.out).mono ?_⟩
 rintro e w' ⟨rfl, hq⟩
 subst hq
 gi_wp2_with fail
 refine ⟨trivial, (wide_w.calls CO.out).mono ?_⟩
 rintro e w2 ⟨rfl, S2, ⟨gn, gl, cn, cl, v, H2⟩, hs2, hc2⟩
 have hB0l := World.block_lt_of_cell? w1 _ hB0
 have hB2 : w2.cell? ⟨w.heap.size, 0, none⟩ = some (.pointer (some ⟨p, 0, none⟩)) := hc2.cell hB0 hB0S
 have hB0S2 : w.heap.size ∉ S2 := fun hm => by
  rcases hs2 _ hm with h | h
  ·exact hB0S h
  ·have := hB0l; simp at this; omega
 have HC2 := LH hc2
 have HS2 := LH hs2
 have HD2 := LH H2
 clear hc2 hs2 H2 CG CO
 gi_wp2_with fail
 refine ⟨trivial, (wide_w.calls (dwaits_any p w2)).mono ?_⟩
 rintro e w3 ⟨rfl, hw3⟩
 have hc3 : Chg [] w2 w3 := by rw [hw3]; exact (Chg.refl _ _).alloc _
 have hB1 : w3.cell? ⟨w2.heap.size, 0, none⟩ = some (.pointer (some ⟨p, 0, none⟩)) := by rw [hw3]; exact blk_cell (heap_alloc_new w2 _) 0 _ rfl
 have hB3 : w3.cell? ⟨w.heap.size, 0, none⟩ = some (.pointer (some ⟨p, 0, none⟩)) := hc3.cell hB2 (by simp)
 have H3 : DiskOk w3 p S2 d2 gn gl cn cl v := by
  have H := HD2.out
  obtain ⟨m1, m2, m3, m4⟩ := H.mem
  exact ⟨hc3.keep H.head (by simp), H.now.keep (hc3.block _ H.now.lt (by simp)), H.lasts.keep (hc3.block _ H.lasts.lt (by simp)), row_keep H.since (fun g hg => hc3.block g (World.ownsRow.lt H.since g hg).2 (by simp)),
   H.waits, H.few, H.capn, H.capl, H.fuse, H.ap, H.av, H.mem, fun x hx => Nat.lt_of_lt_of_le (H.lim x hx) hc3.size⟩
 have HC3 := LH hc3
 have HD3 := LH H3
 have h32 : w3.cell? ⟨p, 2, none⟩ = some v := blk_cell H3.head 2 _ rfl
 obtain ⟨xs, hxs⟩ := wcs_of (N := d2.n) d2.since (fun x hx => H3.waits x hx)
 have hxl : xs.length = d2.since.length := by rw [<- hxs, wcs_len]
 have hrow : w3.ownsRow 0 144 65 v xs.length (wsCells (wcs xs)) := by rw [hxs, hxl]; exact H3.since
 have hxn : xs.length <= 1000000 := by rw [hxl, hd2s]; exact hw
 have hvl : ∀ g, v.ownBlock = some g -> g < w3.heap.size := fun g hg => (World.ownsRow.lt H3.since g hg).2
 have hpl := blk_lt H3.head
 have hgll := H3.lasts.lt
 have hav := H3.av
 have hap := H3.ap
 obtain ⟨iw, zw, hiw, hzw1, hzw2, hzw3, hzw4⟩ := info_three facts_wr
 have HIW := LH hiw
 have HZ1 := LH hzw1
 have HZ2 := LH hzw2
 have HZ3 := LH hzw3
 have HXS := LH hxs
 have HXN := LH hxn
 have HROW := LH hrow
 have HVL := LH hvl
 have HAV := LH hav
 have HAP := LH hap
 clear hw3 hc3 H3 hB2 hxs hxl hrow hxn hvl hav hap hiw hzw1 hzw2 hzw3 hzw4 hd2n hd2l hd2s
 gi_wp2_with fail
 refine wpIn_rangeFunc_ownH rfl (by omega) (gf := 118) (lb := #[.pointer (some ⟨w2.heap.size, 0, none⟩)]) rfl trivial (enters_of Tryz.func118 (by kernel_rfl) rfl)
  (dwaits_stops 4 w2.heap.size p d2.n (by omega) v xs HXN.out w3 hB1 h32 HROW.out) (fun h1 h2 g hg => (h2 g hg).trans (h1 g hg))
  (fun W l o o' hl hh _ _ g hg => World.putObj_heap_other (fun e => by have := HVL.out g hg; omega)) (Below.refl _ _) (fun _ => rfl)
  (fun pre W => DiskOk W p S2 { d2 with lasts := applied (wcs pre) d2.lasts } gn gl cn cl v /\ Chg S2 w3 W) (fun _ _ _ => False)
  (fun s A B row hs hg hr => ⟨hs.1.turn hg (fun r e => (hr r e).2), chg_turn hs.2 hg (fun r e => (hr r e).1)⟩) (fun c s A B row hs _ _ => hs)
  ⟨HD3.out, Chg.refl _ _⟩
  (fun x a' W => ∃ Bx, w3.heap.size <= Bx /\ W.heap[Bx]? = some (.cells (wcells x.1).toArray 144 (0, 0)) /\ a' = { tmps := #[.pointer (some ⟨p, 0, none⟩), .pointer (some ⟨w.heap.size, 0, none⟩), .int .i64 0, .pointer (some ⟨Bx, 0, none⟩), .pointer (some ⟨p, 0, none⟩), .bool false, .bool false, .pointer (some ⟨p, 0, none⟩), .bool true, .bool false, .bool false, .pointer (some ⟨p, 0, none⟩), .func (.func 118) #[] #[.pointer (some ⟨w2.heap.size, 0, none⟩)], .agg (wcells x.1).toArray, undef, undef, undef, undef, undef, undef, undef, undef, undef, undef, undef, undef], defers := [] })
  (fun x a' s A B row ⟨Bx, h1, h2, h3⟩ hg hr => ⟨Bx, h1, (blk_turn h2 hg (fun r e => (hr r e).2)).trans h2, h3⟩) ?assign ?body ?done ?stop
 case stop =>
  rintro D c pre W _ _ h _
  exact h.elim
 case assign =>
  rintro l pre x W K ⟨hI1, hI2⟩ hK
  have HXL := LH (wcells_len x.1 x.2.2)
  have hone := LH (all_oneCell_toArray (wcells_one x.1))
  have HZ2b : Hid (zw.cells.size = (wcells x.1).toArray.size) := LH (by rw [HZ2.out]; simp [HXL.out])
  have HZ3b : Hid (iw.size = (wcells x.1).toArray.size) := LH (by rw [HZ3.out]; simp [HXL.out])
  have hsz3 : w3.heap.size <= W.heap.size := hI2.size
  have hne : ∀ r, (none : Option Nat) = some r -> ∃ o : Obj, W.heap[r]? = some o /\ o.isCells = false := fun r e => by cases e
  have HN := LH (hK { tmps := #[.pointer (some ⟨p, 0, none⟩), .pointer (some ⟨w.heap.size, 0, none⟩), .int .i64 0, .pointer (some ⟨W.heap.size, 0, none⟩), .pointer (some ⟨p, 0, none⟩), .bool false, .bool false, .pointer (some ⟨p, 0, none⟩), .bool true, .bool false, .bool false, .pointer (some ⟨p, 0, none⟩), .func (.func 118) #[] #[.pointer (some ⟨w2.heap.size, 0, none⟩)], .agg (wcells x.1).toArray, undef, undef, undef, undef, undef, undef, undef, undef, undef, undef, undef, undef], defers := [] } (W.alloc (.cells (wcells x.1).toArray 144)) ((KeepsOthers.alloc _ _).from _)
   (fun g hg => Below.heap_alloc W _ g (Nat.lt_of_lt_of_le (HVL.out g hg) hsz3)) ⟨hI1.turn (World.grownBy_alloc W _ none) hne, hI2.alloc _⟩ ⟨W.heap.size, hsz3, heap_alloc_new W _, rfl⟩)
  clear hK hI1 hI2 hne
  refine wpIn_region_lit ?_
  simp [wenc]
  (refine wpListIn_varW (wide_r l) (by rfl) (by rfl) 144 (.tmp 3) (.tmp 13) (by rfl) (by rfl) W.heap.size rfl (wcells x.1).toArray (by rfl) (by rfl) iw zw HIW.out HZ1.out HZ2b.out HZ3b.out hone.out ?_)
  exact HN.out
 case body =>
  rintro l pre x a' W hl ⟨r, hr⟩ ⟨hD, hC⟩ ⟨Bx, hBx, bX, rfl⟩ hlt
  have hB3W : W.cell? ⟨w.heap.size, 0, none⟩ = some (.pointer (some ⟨p, 0, none⟩)) := hC.cell hB3 hB0S2
  have c1 : W.cell? ⟨p, 1, none⟩ = some (.slice (some ⟨gl, 0, none⟩) d2.n cl) := blk_cell hD.head 1 _ rfl
  have cx : W.cell? ⟨Bx, 0, none⟩ = some (.int .i64 (x.1.1 : Int)) := blk_cell bX 0 _ rfl
  have hxr : W.rangeAt Bx 0 (wcells x.1) := fun j u hu => by rw [Nat.zero_add]; exact blk_cell bX j u (by simpa using hu)
  have HXR := LH (range_tail hxr)
  have hx1 := x.2.1
  have HXS2 := LH x.2.2
  have hzs : Hid ((Tryz.prog.info? 142).map (·.size) = some (bvs x.1.2).length) := LH (by rw [bvs_len, HXS2.out]; kernel_rfl)
  have hzt : Hid ((Tryz.prog.info? 142).map (·.size) = some (bvs x.1.2).toArray.size) := LH (by rw [show (bvs x.1.2).toArray.size = (bvs x.1.2).length by simp]; exact hzs.out)
  have th : Hid (W.drew.there gl (x.1.1 * 64) (bvs x.1.2).toArray.size) := LH (by
   have h1 := hD.drew.lasts.there x.1.1 hx1
   have h2 : (bvs x.1.2).toArray.size = 64 := by simp [bvs_len, HXS2.out]
   rw [h2]; exact h1)
  have hone := LH (all_oneCell_toArray (bvs_one x.1.2))
  have hsz3 : w3.heap.size <= W.heap.size := hC.size
  have HP := LH (hD.drew.put_lasts x.1.1 x.1.2 hx1 x.2.2)
  have hap2 : Hid (upd (applied (wcs pre) d2.lasts) x.1.1 x.1.2 = applied (wcs (pre ++ [x])) d2.lasts) := LH (by
   rw [show wcs (pre ++ [x]) = wcs pre ++ [x.1] by simp [wcs], applied_snoc])
  have HC := LH hC
  have HLM := LH hD.mem
  have hcap := hD.capl
  have HN : Hid (ownPostG w3.heap.size (KpRow v) (fun pre W => DiskOk W p S2 { d2 with lasts := applied (wcs pre) d2.lasts } gn gl cn cl v /\ Chg S2 w3 W) (fun _ _ _ => False) (pre ++ [x]) W Exit.normal { tmps := #[], defers := [] } (W.drew.setCells gl (x.1.1 * 64) (bvs x.1.2))) := LH (by
   refine ⟨⟨by rw [setCells_size]; exact Nat.le_refl _, fun k o hk ho _ => ?_⟩, fun g hg => ?_, ?_, (HC.out.drew).setCells (.inl HLM.out.2.2.1) _⟩
   ·rw [setCells_far _ _ _ _ (by omega)]; exact ho
   ·rw [setCells_far _ _ _ _ (HAV.out g hg).2.2]; rfl
   ·rw [<- hap2.out]; exact HP.out)
  have hjz : ((x.1.1 : Nat) : Int) < (d2.n : Int) := by omega
  have hjz0 : (0 : Int) <= ((x.1.1 : Nat) : Int) := by omega
  have hjz1 : ((x.1.1 : Nat) : Int).toNat = x.1.1 := by omega
  clear hD hC bX hxr hr
  gi_wp2_with fail
  refine wpIn_region_L (wide_r l) (by rintro ⟨_, _, h⟩; exact h) (by kernel_rfl) [(9, fun w' => w'.cell? ⟨w.heap.size, 0, none⟩ = some (.pointer (some ⟨p, 0, none⟩))), (9, fun w' => w'.cell? ⟨p, 1, none⟩ = some (.slice (some ⟨gl, 0, none⟩) d2.n cl)), (9, fun w' => w'.cell? ⟨Bx, 0, none⟩ = some (.int .i64 (x.1.1 : Int))), (9, fun w' => w'.rangeAt Bx (0 + 1) (bvs x.1.2))] (by kernel_rfl) ?_ (fun hHeld => ?_)
  ·exact (HoldC.cons (hB3W) (HoldC.cons (c1) (HoldC.cons (cx) (HoldC.cons (HXR.out) HoldC.nil))))
  refine ld 0 0 ?_ rfl rfl (by kernel_rfl) (fun _ _ _ h => h) (.inl ⟨by rfl, ?_⟩) hHeld ?_; rotate_left; · (intro w hSw; (try dsimp only at hSw); go_simp; try with_reducible rfl)
  clear hHeld; intro hHeld; try simp only [gA,gB,gC,Act.put,gD,gE,gF]
  refine tk 1 ?_ rfl (by kernel_rfl) (fun _ _ _ h => h) (.inl ⟨by rfl, ?_⟩) hHeld ?_; rotate_left; · (intro w _; go_simp; try with_reducible rfl)
  clear hHeld; intro hHeld; try simp only [gA,gB,gC,Act.put,gD,gE,gF]
  refine tk 2 ?_ rfl (by kernel_rfl) (fun _ _ _ h => h) (.inl ⟨by rfl, ?_⟩) hHeld ?_; rotate_left; · (intro w _; go_simp; try with_reducible rfl)
  clear hHeld; intro hHeld; try simp only [gA,gB,gC,Act.put,gD,gE,gF]
  refine ld 1 3 ?_ rfl rfl (by kernel_rfl) (fun _ _ _ h => h) (.inl ⟨by rfl, ?_⟩) hHeld ?_; rotate_left; · (intro w hSw; (try dsimp only at hSw); go_simp; try with_reducible rfl)
  clear hHeld; intro hHeld; try simp only [gA,gB,gC,Act.put,gD,gE,gF]
  refine tk 4 ?_ rfl (by kernel_rfl) (fun _ _ _ h => h) (.inl ⟨by rfl, ?_⟩) hHeld ?_; rotate_left; · (intro w _; go_simp; try with_reducible rfl)
  clear hHeld; intro hHeld; try simp only [gA,gB,gC,Act.put,gD,gE,gF]
  refine ld 2 5 ?_ rfl rfl (by kernel_rfl) (fun _ _ _ h => h) (.inl ⟨by rfl, ?_⟩) hHeld ?_; rotate_left; · (intro w hSw; (try dsimp only at hSw); go_simp; try with_reducible rfl)
  clear hHeld; intro hHeld; try simp only [gA,gB,gC,Act.put,gD,gE,gF]
  refine tk 6 ?_ rfl (by kernel_rfl) (fun _ _ _ h => h) (.inl ⟨by rfl, ?_⟩) hHeld ?_; rotate_left; · (intro w _; go_simp; try with_reducible rfl)
  clear hHeld; intro hHeld; try simp only [gA,gB,gC,Act.put,gD,gE,gF]
  refine wpAnyL_load 3 (i := 7) (oi := _) (v := .agg (bvs x.1.2).toArray) rfl rfl (by kernel_rfl) (by kernel_rfl) (by kernel_rfl) (by kernel_rfl) (by kernel_rfl) (by kernel_rfl) (fun _ _ _ h => h) (yieldsIf_load_mid (by rfl) 142 (.tmp 20) (by rfl) (Bx) (0 + 1) (by rfl) (bvs x.1.2) _ (fun w hw => hw) Tryz.underlying142 rfl hzs.out) (by assumption) (fun hNew => ?_)
  clear hHeld
  have hHeld := hNew
  clear hNew
  try simp only [gA,gB,gC,Act.put,gD,gE,gF]
  refine tk 8 ?_ rfl (by kernel_rfl) (fun _ _ _ h => h) (.inl ⟨by rfl, ?_⟩) hHeld ?_; rotate_left; · (intro w _; go_simp; try with_reducible rfl)
  clear hHeld; intro hHeld; try simp only [gA,gB,gC,Act.put,gD,gE,gF]
  refine wpAnyL_ready (rs := [9]) (by kernel_rfl) (by simp) (AllReadyL.cons (o := _) rfl (fun K hK => ?_) AllReadyL.nil)
  try simp only [gA,gB,gC]
  rw [if_pos (by rfl)]
  refine wp_store_mid 142 (.tmp 22) (.tmp 21) (by rfl) gl (x.1.1 * 64) (bvs x.1.2).toArray (by rfl) (by rfl) th.out hzt.out hone.out ?_
  clear hHeld
  refine hK.out _ _ ?_ (fun hHeld => ?_)
  ·exact (HoldC.past (by kernel_rfl) (HoldC.past (by kernel_rfl) (HoldC.past (by kernel_rfl) (HoldC.past (by kernel_rfl) HoldC.nil))))
  clear hK K
  try simp only [gA,gB,gC,Act.put,gD,gE,gF]
  refine wpAnyL_done (by kernel_rfl) ?_ _
  clear hHeld
  gi_wp2
  exact HN.out
 case done =>
  rintro D ys W hDs rfl ⟨hD, hC⟩ hK
  have hB3W : W.cell? ⟨w.heap.size, 0, none⟩ = some (.pointer (some ⟨p, 0, none⟩)) := hC.cell hB3 hB0S2
  have c2 : W.cell? ⟨p, 2, none⟩ = some v := blk_cell hD.head 2 _ rfl
  have f2 : W.frozen? ⟨p, 2, none⟩ = false := blk_frozen hD.head 2
  have hpW := blk_lt hD.head
  have hpD : p ≠ D := cells_ne hD.head hK rfl
  have hK' : (W.setCell ⟨p, 2, none⟩ (.slice none 0 0)).heap[D]? = some (.deferred (some [])) := (Below.heap_setCell W ⟨p, 2, none⟩ _ D (fun e => hpD e.symm)).trans hK
  have hfin : Hid (Did w ((W.setCell ⟨p, 2, none⟩ (.slice none 0 0)).putObj D (.deferred none)) p S (d.sync).2) := LH (by
   rw [HSY.out]
   refine Did.pre HC1.out (Did.glue HS2.out HC2.out (Did.pre HC3.out ?_))
   have h1 := hD.none_waits
   rw [HXS.out] at h1
   have h2 := h1.turn (grownBy_putObj' _ D (.deferred none)) (fun r e => by cases e; exact ⟨_, hK', rfl⟩)
   have h3 : Chg S2 w3 (W.setCell ⟨p, 2, none⟩ (.slice none 0 0)) := hC.setCell (.inl hD.mem.1) _
   have h4 := chg_turn h3 (grownBy_putObj' _ D (.deferred none)) (fun r e => by cases e; exact hDs)
   exact ⟨S2, ⟨_, _, _, _, _, h2⟩, fun x hx => .inl hx, h4⟩)
  have HSY0 : Hid ((d.sync).1 = 0) := LH (by rw [HSY.out])
  have HK' := LH hK'
  clear hD hC hK' hK
  gi_wp2
  refine ⟨by simp, .inl ⟨_, _, rfl, run_takeDeferred HK'.out, ?_⟩⟩
  exact ⟨_, results_tmp rfl _ _ _, by rw [HSY0.out]; rfl, hfin.out⟩
end
theorem dwrite_ok (p : Nat) (S : List Nat) (d : DS) (j : Nat) (g o cap : Nat) (b : List UInt8) (w : World) (h : DiskAt w p S d) (ho : d.ops <= 1000000000) (hw : d.since.length <= 1000000)
  (hd : d.dead = false) (hj : j < d.n) (hb : b.length = 64) (hB : w.rangeAt g o (bvs b)) :
  Calls Tryz.prog 66 #[.pointer (some ⟨p, 0, none⟩), .int .i64 (j : Int), .slice (some ⟨g, o, none⟩) 64 cap] w fun e w' => e = .returned (.int .i64 (d.write (j : Int) b).1) /\ Did w w' p S (d.write (j : Int) b).2 := by
 have CG := LH (dgone_any p S d w h)
 have CH := LH (dhas_any p S d (j : Int) w h)
 rw [hd] at CG
 rw [decide_eq_true (by omega)] at CH
 have HB := LH hB
 have hz : Hid ((Tryz.prog.info? 140).map (·.size) = some (bvs b).length) := LH (by rw [bvs_len, hb]; kernel_rfl)
 have hzs : Hid ((Tryz.prog.info? 142).map (·.size) = some (bvs b).length) := LH (by rw [bvs_len, hb]; kernel_rfl)
 have hzw : Hid ((Tryz.prog.info? 144).map (·.size) = some (wcells (j, b)).length) := LH (by rw [wcells_len _ hb]; kernel_rfl)
 have hb1 : Hid ((Instr.build 142 #[(0, .agg (bvs b).toArray)]).run Tryz.prog w = .ok (.agg (bvs b).toArray) w) := LH (build_sec _ (by simp [bvs_len, hb]) w)
 have hb2 : Hid ((Instr.build 144 #[(0, .int .i64 (j : Int)), (1, .agg (bvs b).toArray)]).run Tryz.prog w = .ok (.agg (wcells (j, b)).toArray) w) := LH (build_wr _ _ (by rw [bvs_len, hb]) w)
 obtain ⟨iw, zw, hiw, hzw1, hzw2, hzw3, hzw4⟩ := info_three facts_wr
 have hW : (wcells (j, b)).toArray.size = 65 := by simpa using wcells_len (j, b) hb
 have h1c : (wcells (j, b)).toArray.all (·.oneCell') = true := all_oneCell_toArray (wcells_one _)
 have hat : ∀ w, (Instr.arrayAt 140 (.slice (some ⟨g, o, none⟩) 64 cap)).run Tryz.prog w = .ok (.pointer (some ⟨g, o, none⟩)) w := fun w => run_arrayAt w 140 _ 64 _ 64 cap Tryz.underlying140 (Nat.le_refl _)
 have HD := LH h
 have hlim := h.lim
 obtain ⟨gn, gl, cn, cl, v, H⟩ := h
 have HK := LH H
 -- the world with the variable
 obtain ⟨N, hN⟩ : ∃ N, N = w.heap.size := ⟨_, rfl⟩
 obtain ⟨w1, hw1⟩ : ∃ w1, w1 = w.alloc (.cells (wcells (j, b)).toArray 144) := ⟨_, rfl⟩
 have hc1 : Chg [] w w1 := by rw [hw1]; exact (Chg.refl _ _).alloc _
 have HC1 := LH hc1
 have r1 : w1.rangeAt N 0 (wcells (j, b)) := by
  rw [hw1, hN]
  intro k u hu
  rw [Nat.zero_add]
  exact blk_cell (heap_alloc_new w _) k u (by simpa using hu)
 have H1 : DiskOk w1 p S d gn gl cn cl v := by
  obtain ⟨m1, m2, m3, m4⟩ := H.mem
  exact ⟨hc1.keep H.head (by simp), H.now.keep (hc1.block _ H.now.lt (by simp)), H.lasts.keep (hc1.block _ H.lasts.lt (by simp)), row_keep H.since (fun g hg => hc1.block g (World.ownsRow.lt H.since g hg).2 (by simp)),
   H.waits, H.few, H.capn, H.capl, H.fuse, H.ap, H.av, H.mem, fun x hx => Nat.lt_of_lt_of_le (H.lim x hx) hc1.size⟩
 have hN1 : N < w1.heap.size := by rw [hw1, hN]; simp
 have HN := LH hN
 have hS : Hid (∀ x ∈ S, x < N) := LH (by rw [hN]; exact hlim)
 have c2 : w1.cell? ⟨p, 2, none⟩ = some v := blk_cell H1.head 2 _ rfl
 have f2 := blk_frozen H1.head 2
 have hpl := blk_lt H1.head
 have HK1 := LH H1
 have HR1 := LH r1
 have HA := LH hw1
 have HW := LH hW
 have HDD := LH hd
 have HBL := LH hb
 have HIW := LH hiw
 have HZ1 := LH hzw1
 have HZ2 : Hid (zw.cells.size = (wcells (j, b)).toArray.size) := LH (by rw [hW]; exact hzw2)
 have HZ3 : Hid (iw.size = (wcells (j, b)).toArray.size) := LH (by rw [hW]; exact hzw3)
 have H1C := LH h1c
 clear hB H H1 hlim hc1 r1 hw1 hiw hzw1 hzw2 hzw3 hzw4 h1c hW hb hd hN
 go_enter Tryz.func66, Tryz.ntmps66
 go_wp2_with (first
  | (go_at_call 85; refine CG.out.mono ?_; rintro e w' ⟨rfl, hq⟩; subst hq)
  | (go_at_call 86; refine CH.out.mono ?_; rintro e w' ⟨rfl, hq⟩; subst hq)
  | (refine wpList_load_mid (by rfl) 140 (.tmp 23) (by rfl) g o (by rfl) (bvs b) _ HB.out Tryz.underlying140 rfl hz.out ?_)
  | (refine wpList_build1 (by rfl) 142 0 (.tmp 24) (by rfl) (.agg (bvs b).toArray) (.agg (bvs b).toArray) (by rfl) hb1.out ?_)
  | (refine wpList_build2 (by rfl) 144 0 1 (.tmp 21) (.tmp 25) (by rfl) (.int .i64 (j : Int)) (.agg (bvs b).toArray) (.agg (wcells (j, b)).toArray) (by rfl) (by rfl) hb2.out ?_)
  | (refine wpList_var (by rfl) (by rfl) 144 (.tmp 7) (.tmp 26) (by rfl) (by rfl) N HN.out.symm (wcells (j, b)).toArray (by rfl) (by rfl) iw zw HIW.out HZ1.out HZ2.out HZ3.out H1C.out ?_; rw [<- HA.out]))
 refine wp_region_L [(7, fun w' => w'.cell? ⟨p, 2, none⟩ = some v), (6, fun w' => w'.rangeAt N 0 (wcells (j, b)))] (by kernel_rfl) ?_ (fun hHeld => ?_)
 ·exact (HoldC.cons (c2) (HoldC.cons (HR1.out) HoldC.nil))
 refine tk 0 ?_ rfl (by kernel_rfl) (fun _ _ _ h => h) (.inl ⟨by rfl, ?_⟩) hHeld ?_; rotate_left; · (intro w _; go_simp; try with_reducible rfl)
 clear hHeld; intro hHeld; try simp only [gA,gB,gC,Act.put,gD,gE,gF]
 refine tk 1 ?_ rfl (by kernel_rfl) (fun _ _ _ h => h) (.inl ⟨by rfl, ?_⟩) hHeld ?_; rotate_left; · (intro w _; go_simp; try with_reducible rfl)
 clear hHeld; intro hHeld; try simp only [gA,gB,gC,Act.put,gD,gE,gF]
 refine tk 2 ?_ rfl (by kernel_rfl) (fun _ _ _ h => h) (.inl ⟨by rfl, ?_⟩) hHeld ?_; rotate_left; · (intro w _; go_simp; try with_reducible rfl)
 clear hHeld; intro hHeld; try simp only [gA,gB,gC,Act.put,gD,gE,gF]
 refine tk 3 ?_ rfl (by kernel_rfl) (fun _ _ _ h => h) (.inl ⟨by rfl, ?_⟩) hHeld ?_; rotate_left; · (intro w _; go_simp; try with_reducible rfl)
 clear hHeld; intro hHeld; try simp only [gA,gB,gC,Act.put,gD,gE,gF]
 refine ld 0 4 ?_ rfl rfl (by kernel_rfl) (fun _ _ _ h => h) (.inl ⟨by rfl, ?_⟩) hHeld ?_; rotate_left; · (intro w hSw; (try dsimp only at hSw); go_simp; try with_reducible rfl)
 clear hHeld; intro hHeld; try simp only [gA,gB,gC,Act.put,gD,gE,gF]
 refine wpAnyL_load 1 (i := 5) (oi := _) (v := .agg (wcells (j, b)).toArray) rfl rfl (by kernel_rfl) (by kernel_rfl) (by kernel_rfl) (by kernel_rfl) (by kernel_rfl) (by kernel_rfl) (fun _ _ _ h => h) (yieldsIf_load_mid (by rfl) 144 (.tmp 7) (by rfl) (N) (0) (by rfl) (wcells (j, b)) _ (fun w hw => hw) Tryz.underlying144 rfl hzw.out) (by assumption) (fun hNew => ?_)
 clear hHeld
 have hHeld := hNew
 clear hNew
 try simp only [gA,gB,gC,Act.put,gD,gE,gF]
 refine wpAnyL_ready (rs := [6]) (by kernel_rfl) (by simp) (AllReadyL.cons (o := _) rfl (fun K hK => ?_) AllReadyL.nil)
 try simp only [gA,gB,gC]
 rw [if_pos (by rfl)]
 refine wp_slice1 111 144 (.tmp 32) (by rfl) (wcells (j, b)).toArray (by rfl) iw zw Tryz.underlying111 HIW.out HZ1.out HZ3.out (by rw [HW.out]; omega) (by rw [HW.out]; omega) ?_
 clear hHeld
 refine hK.out _ _ ?_ (fun hHeld => ?_)
 ·exact (HoldC.cons ((blk_cell (blk_alloc HK1.out.head) 2 _ rfl)) (HoldC.past (by kernel_rfl) HoldC.nil))
 clear hK K
 try simp only [gA,gB,gC,Act.put,gD,gE,gF]
 refine wpAnyL_ready (rs := [7]) (by kernel_rfl) (by simp) (AllReadyL.cons (o := _) rfl (fun K hK => ?_) AllReadyL.nil)
 try simp only [gA,gB,gC]
 rw [if_pos (by rfl)]
 refine wp_app_wr (.tmp 31) (.tmp 33) (by rfl) HK1.out.drew (j, b) ⟨hj, HBL.out⟩ hw (by rfl) (by rfl) ?_
 intro g2 cap2 w2 d2 e2 l2 HD2
 clear hHeld
 refine hK.out _ _ ?_ (fun hHeld => ?_)
 ·exact (HoldC.past (by kernel_rfl) (HoldC.past (by kernel_rfl) HoldC.nil))
 clear hK K
 try simp only [gA,gB,gC,Act.put,gD,gE,gF]
 refine tk 8 ?_ rfl (by kernel_rfl) (fun _ _ _ h => h) (.inl ⟨by rfl, ?_⟩) hHeld ?_; rotate_left; · (intro w _; go_simp; try with_reducible rfl)
 clear hHeld; intro hHeld; try simp only [gA,gB,gC,Act.put,gD,gE,gF]
 refine tk 9 ?_ rfl (by kernel_rfl) (fun _ _ _ h => h) (.inl ⟨by rfl, ?_⟩) hHeld ?_; rotate_left; · (intro w _; go_simp; try with_reducible rfl)
 clear hHeld; intro hHeld; try simp only [gA,gB,gC,Act.put,gD,gE,gF]
 refine wpAnyL_ready (rs := [10]) (by kernel_rfl) (by simp) (AllReadyL.cons (o := _) rfl (fun K hK => ?_) AllReadyL.nil)
 try simp only [gA,gB,gC]
 go_simp
 clear hHeld
 refine hK.out _ _ ?_ (fun hHeld => ?_)
 ·exact (HoldC.past (by kernel_rfl) (HoldC.past (by kernel_rfl) HoldC.nil))
 clear hK K
 try simp only [gA,gB,gC,Act.put,gD,gE,gF]
 refine wpAnyL_done (by kernel_rfl) ?_ _
 clear hHeld
 have hdp : ∀ w', Did w1.drew w' p S { d with since := d.since ++ [(j, b)] } -> Did w1 w' p S { d with since := d.since ++ [(j, b)] } := fun w' h => Did.pre (by exact (Chg.refl _ _).drew) h
 have HD3 := LH (hdp _ HD2.out)
 clear hdp HD2
 generalize w2.setCell ⟨p, 2, none⟩ (.slice (some ⟨g2, 0, none⟩) (d.since.length + 1) cap2) = w4 at *
 clear d2 e2 l2 c2 f2 hpl
 go_wp2_with fail
 obtain ⟨S4, hd4, hs4, hc4⟩ := HD3.out
 have CO := LH (dop_any p S4 _ w4 hd4 ho)
 have HS4 := LH hs4
 have HC4 := LH hc4
 clear hd4 hs4 hc4
 by_cases hf : d.fuse = 0
 ·have ho2 : Hid (DS.op { d with since := d.since ++ [(j, b)] } = (false, { d with since := d.since ++ [(j, b)], dead := true })) := LH (by unfold DS.op; rw [if_pos hf])
  have HWR : Hid (d.write (j : Int) b = (14, { d with since := d.since ++ [(j, b)], dead := true })) := LH (by
   unfold DS.write
   rw [if_neg (by rw [HDD.out]; simp), if_pos ⟨by omega, by omega, HBL.out⟩]
   simp only [Int.toNat_natCast, ho2.out]
   rfl)
  rw [ho2.out] at CO
  have HF := LH hf
  clear hf
  refine CO.out.mono ?_
  rintro e w5 ⟨rfl, hd5⟩
  have HD5 := LH hd5
  clear hd5 CO
  go_wp2
  go_ret
  rw [HWR.out]
  exact ⟨rfl, Did.pre HC1.out (Did.glue HS4.out HC4.out HD5.out)⟩
 ·obtain ⟨d5, hd5e, hd5n, hd5w⟩ : ∃ d5 : DS, DS.op { d with since := d.since ++ [(j, b)] } = (true, d5) /\ d5.n = d.n /\ d5.now = d.now := by
   unfold DS.op
   rw [if_neg hf]
   exact ⟨_, rfl, rfl, rfl⟩
  have HWR : Hid (d.write (j : Int) b = (0, { d5 with now := upd d5.now j b })) := LH (by
   unfold DS.write
   rw [if_neg (by rw [HDD.out]; simp), if_pos ⟨by omega, by omega, HBL.out⟩]
   simp only [Int.toNat_natCast, hd5e]
   rfl)
  rw [hd5e] at CO
  dsimp only at CO
  have HF := LH hf
  have HE := LH hd5e
  clear hf hd5e
  refine CO.out.mono ?_
  rintro e w5 ⟨rfl, hd5⟩
  obtain ⟨S5, ⟨gn5, gl5, cn5, cl5, v5, H5⟩, hs5, hc5⟩ := hd5
  have hj5 : j < d5.n := by rw [hd5n]; exact hj
  have hlen5 := H5.now.len j hj5
  have hNS : N ∉ S := fun hm => by have := hS.out N hm; omega
  have hNS4 : N ∉ S4 := fun hm => by
   rcases HS4.out N hm with h1 | h1
   ·exact hNS h1
   ·omega
  have hb5 : w5.heap[N]? = w1.heap[N]? := (hc5.block N (Nat.lt_of_lt_of_le hN1 HC4.out.size) hNS4).trans (HC4.out.block N hN1 hNS)
  have r5 : w5.rangeAt N 1 (bvs b) := range_tail (range_keep HR1.out hb5)
  have q5 : w5.rangeAt gn5 (j * 64) (bvs (d5.now j)) := H5.now.range j hj5
  have hrow : d5.n <= cn5 /\ cn5 <= maxLen := H5.capn
  have c50 : w5.cell? ⟨p, 0, none⟩ = some (.slice (some ⟨gn5, 0, none⟩) d5.n cn5) := blk_cell H5.head 0 _ rfl
  have th5 : Hid (w5.drew.drew.there gn5 (j * 64) (bvs b).toArray.size) := LH (by
   have h1 := H5.drew.drew.now.there j hj5
   have h2 : (bvs b).toArray.size = 64 := by simp [bvs_len, HBL.out]
   rw [h2]; exact h1)
  have hone := LH (all_oneCell_toArray (bvs_one b))
  have hzt : Hid ((Tryz.prog.info? 142).map (·.size) = some (bvs b).toArray.size) := LH (by rw [show (bvs b).toArray.size = (bvs b).length by simp]; exact hzs.out)
  have HD5n : Hid (Did w5 (w5.drew.drew.setCells gn5 (j * 64) (bvs b)) p S5 { d5 with now := upd d5.now j b }) := LH (Did.pre (w := w5.drew.drew) (by exact (Chg.refl _ _).drew.drew) (H5.drew.drew.put_now j b hj5 HBL.out))
  have HD5s : Hid (Did w5 w5.drew p S5 d5) := LH (Did.pre (w := w5.drew) (by exact (Chg.refl _ _).drew) (Did.same ⟨_, _, _, _, _, H5.drew⟩))
  have hz5 : Hid ((Tryz.prog.info? 142).map (·.size) = some (bvs (d5.now j)).length) := LH (by rw [bvs_len, hlen5]; kernel_rfl)
  have hneq := neq_sec (d5.now j) b hlen5 HBL.out
  have HS5 := LH hs5
  have HC5 := LH hc5
  have HR5 := LH r5
  have HQ5 := LH q5
  have HNW := LH hd5w
  have hfin : Hid (∀ w', Did w5 w' p S5 { d5 with now := upd d5.now j b } -> Did w w' p S (d.write (j : Int) b).2) := LH (fun w' h => by
   rw [HWR.out]
   exact Did.pre HC1.out (Did.glue HS4.out HC4.out (Did.glue HS5.out HC5.out h)))
  obtain ⟨n5, hn5⟩ : ∃ n5, n5 = d5.n := ⟨_, rfl⟩
  rw [<- hn5] at c50 hrow hj5
  obtain ⟨b0, hb0⟩ : ∃ b0, b0 = d5.now j := ⟨_, rfl⟩
  rw [<- hb0] at hneq HQ5 hz5
  have HB0 := LH hb0
  have hjz : (j : Int) < (n5 : Int) := by omega
  have hjz0 : (0 : Int) <= (j : Int) := by omega
  have hjz1 : (j : Int).toNat = j := by omega
  have HRW : Hid ((d.write (j : Int) b).1 = 0) := LH (by rw [HWR.out])
  clear H5 hs5 hc5 hb5 r5 q5 hlen5 hd5n hd5w CO hNS hNS4 hn5 hb0
  by_cases heq : b0 = b
  ·have hneq2 : ∀ w, (binOp .neq 142 (.agg (bvs b0).toArray) (.agg (bvs b).toArray)).run Tryz.prog w = .ok (.bool false) w := fun w => by rw [hneq w]; simp [heq]
   have HU : Hid ({ d5 with now := upd d5.now j b } = d5) := LH (by rw [upd_same _ _ _ (by rw [<- HB0.out, heq])])
   clear hneq heq
   go_wp2_with fail
   refine wp_region_L [(9, fun w' => w'.cell? ⟨p, 0, none⟩ = some (.slice (some ⟨gn5, 0, none⟩) n5 cn5)), (9, fun w' => w'.rangeAt gn5 (j * 64) (bvs b0)), (9, fun w' => w'.rangeAt N 1 (bvs b))] (by kernel_rfl) ?_ (fun hHeld => ?_)
   ·exact (HoldC.cons (c50) (HoldC.cons (HQ5.out) (HoldC.cons (HR5.out) HoldC.nil)))
   refine tk 0 ?_ rfl (by kernel_rfl) (fun _ _ _ h => h) (.inl ⟨by rfl, ?_⟩) hHeld ?_; rotate_left; · (intro w _; go_simp; try with_reducible rfl)
   clear hHeld; intro hHeld; try simp only [gA,gB,gC,Act.put,gD,gE,gF]
   refine tk 1 ?_ rfl (by kernel_rfl) (fun _ _ _ h => h) (.inl ⟨by rfl, ?_⟩) hHeld ?_; rotate_left; · (intro w _; go_simp; try with_reducible rfl)
   clear hHeld; intro hHeld; try simp only [gA,gB,gC,Act.put,gD,gE,gF]
   refine tk 2 ?_ rfl (by kernel_rfl) (fun _ _ _ h => h) (.inl ⟨by rfl, ?_⟩) hHeld ?_; rotate_left; · (intro w _; go_simp; try with_reducible rfl)
   clear hHeld; intro hHeld; try simp only [gA,gB,gC,Act.put,gD,gE,gF]
   refine ld 0 3 ?_ rfl rfl (by kernel_rfl) (fun _ _ _ h => h) (.inl ⟨by rfl, ?_⟩) hHeld ?_; rotate_left; · (intro w hSw; (try dsimp only at hSw); go_simp; try with_reducible rfl)
   clear hHeld; intro hHeld; try simp only [gA,gB,gC,Act.put,gD,gE,gF]
   refine tk 4 ?_ rfl (by kernel_rfl) (fun _ _ _ h => h) (.inl ⟨by rfl, ?_⟩) hHeld ?_; rotate_left; · (intro w _; go_simp; try with_reducible rfl)
   clear hHeld; intro hHeld; try simp only [gA,gB,gC,Act.put,gD,gE,gF]
   refine tk 5 ?_ rfl (by kernel_rfl) (fun _ _ _ h => h) (.inl ⟨by rfl, ?_⟩) hHeld ?_; rotate_left; · (intro w _; go_simp; try with_reducible rfl)
   clear hHeld; intro hHeld; try simp only [gA,gB,gC,Act.put,gD,gE,gF]
   refine wpAnyL_load 1 (i := 6) (oi := _) (v := .agg (bvs b0).toArray) rfl rfl (by kernel_rfl) (by kernel_rfl) (by kernel_rfl) (by kernel_rfl) (by kernel_rfl) (by kernel_rfl) (fun _ _ _ h => h) (yieldsIf_load_mid (by rfl) 142 (.tmp 45) (by rfl) (gn5) (j * 64) (by rfl) (bvs b0) _ (fun w hw => hw) Tryz.underlying142 rfl hz5.out) (by assumption) (fun hNew => ?_)
   clear hHeld
   have hHeld := hNew
   clear hNew
   try simp only [gA,gB,gC,Act.put,gD,gE,gF]
   refine tk 7 ?_ rfl (by kernel_rfl) (fun _ _ _ h => h) (.inl ⟨by rfl, ?_⟩) hHeld ?_; rotate_left; · (intro w _; go_simp; try with_reducible rfl)
   clear hHeld; intro hHeld; try simp only [gA,gB,gC,Act.put,gD,gE,gF]
   refine wpAnyL_load 2 (i := 8) (oi := _) (v := .agg (bvs b).toArray) rfl rfl (by kernel_rfl) (by kernel_rfl) (by kernel_rfl) (by kernel_rfl) (by kernel_rfl) (by kernel_rfl) (fun _ _ _ h => h) (yieldsIf_load_mid (by rfl) 142 (.tmp 47) (by rfl) (N) (1) (by rfl) (bvs b) _ (fun w hw => hw) Tryz.underlying142 rfl hzs.out) (by assumption) (fun hNew => ?_)
   clear hHeld
   have hHeld := hNew
   clear hNew
   try simp only [gA,gB,gC,Act.put,gD,gE,gF]
   refine wpAnyL_ready (rs := [9]) (by kernel_rfl) (by simp) (AllReadyL.cons (o := _) rfl (fun K hK => ?_) AllReadyL.nil)
   try simp only [gA,gB,gC]
   go_simp
   clear hHeld
   refine hK.out _ _ ?_ (fun hHeld => ?_)
   ·exact (HoldC.past (by kernel_rfl) (HoldC.past (by kernel_rfl) (HoldC.past (by kernel_rfl) HoldC.nil)))
   clear hK K
   try simp only [gA,gB,gC,Act.put,gD,gE,gF]
   refine wpAnyL_done (by kernel_rfl) ?_ _
   clear hHeld
   go_wp2
   go_ret
   exact ⟨by rw [HRW.out]; rfl, hfin.out _ (by rw [HU.out]; exact HD5s.out)⟩
  ·have hneq2 : ∀ w, (binOp .neq 142 (.agg (bvs b0).toArray) (.agg (bvs b).toArray)).run Tryz.prog w = .ok (.bool true) w := fun w => by rw [hneq w]; simp [heq]
   clear hneq heq
   go_wp2_with fail
   refine wp_region_L [(9, fun w' => w'.cell? ⟨p, 0, none⟩ = some (.slice (some ⟨gn5, 0, none⟩) n5 cn5)), (9, fun w' => w'.rangeAt gn5 (j * 64) (bvs b0)), (9, fun w' => w'.rangeAt N 1 (bvs b))] (by kernel_rfl) ?_ (fun hHeld => ?_)
   ·exact (HoldC.cons (c50) (HoldC.cons (HQ5.out) (HoldC.cons (HR5.out) HoldC.nil)))
   refine tk 0 ?_ rfl (by kernel_rfl) (fun _ _ _ h => h) (.inl ⟨by rfl, ?_⟩) hHeld ?_; rotate_left; · (intro w _; go_simp; try with_reducible rfl)
   clear hHeld; intro hHeld; try simp only [gA,gB,gC,Act.put,gD,gE,gF]
   refine tk 1 ?_ rfl (by kernel_rfl) (fun _ _ _ h => h) (.inl ⟨by rfl, ?_⟩) hHeld ?_; rotate_left; · (intro w _; go_simp; try with_reducible rfl)
   clear hHeld; intro hHeld; try simp only [gA,gB,gC,Act.put,gD,gE,gF]
   refine tk 2 ?_ rfl (by kernel_rfl) (fun _ _ _ h => h) (.inl ⟨by rfl, ?_⟩) hHeld ?_; rotate_left; · (intro w _; go_simp; try with_reducible rfl)
   clear hHeld; intro hHeld; try simp only [gA,gB,gC,Act.put,gD,gE,gF]
   refine ld 0 3 ?_ rfl rfl (by kernel_rfl) (fun _ _ _ h => h) (.inl ⟨by rfl, ?_⟩) hHeld ?_; rotate_left; · (intro w hSw; (try dsimp only at hSw); go_simp; try with_reducible rfl)
   clear hHeld; intro hHeld; try simp only [gA,gB,gC,Act.put,gD,gE,gF]
   refine tk 4 ?_ rfl (by kernel_rfl) (fun _ _ _ h => h) (.inl ⟨by rfl, ?_⟩) hHeld ?_; rotate_left; · (intro w _; go_simp; try with_reducible rfl)
   clear hHeld; intro hHeld; try simp only [gA,gB,gC,Act.put,gD,gE,gF]
   refine tk 5 ?_ rfl (by kernel_rfl) (fun _ _ _ h => h) (.inl ⟨by rfl, ?_⟩) hHeld ?_; rotate_left; · (intro w _; go_simp; try with_reducible rfl)
   clear hHeld; intro hHeld; try simp only [gA,gB,gC,Act.put,gD,gE,gF]
   refine wpAnyL_load 1 (i := 6) (oi := _) (v := .agg (bvs b0).toArray) rfl rfl (by kernel_rfl) (by kernel_rfl) (by kernel_rfl) (by kernel_rfl) (by kernel_rfl) (by kernel_rfl) (fun _ _ _ h => h) (yieldsIf_load_mid (by rfl) 142 (.tmp 45) (by rfl) (gn5) (j * 64) (by rfl) (bvs b0) _ (fun w hw => hw) Tryz.underlying142 rfl hz5.out) (by assumption) (fun hNew => ?_)
   clear hHeld
   have hHeld := hNew
   clear hNew
   try simp only [gA,gB,gC,Act.put,gD,gE,gF]
   refine tk 7 ?_ rfl (by kernel_rfl) (fun _ _ _ h => h) (.inl ⟨by rfl, ?_⟩) hHeld ?_; rotate_left; · (intro w _; go_simp; try with_reducible rfl)
   clear hHeld; intro hHeld; try simp only [gA,gB,gC,Act.put,gD,gE,gF]
   refine wpAnyL_load 2 (i := 8) (oi := _) (v := .agg (bvs b).toArray) rfl rfl (by kernel_rfl) (by kernel_rfl) (by kernel_rfl) (by kernel_rfl) (by kernel_rfl) (by kernel_rfl) (fun _ _ _ h => h) (yieldsIf_load_mid (by rfl) 142 (.tmp 47) (by rfl) (N) (1) (by rfl) (bvs b) _ (fun w hw => hw) Tryz.underlying142 rfl hzs.out) (by assumption) (fun hNew => ?_)
   clear hHeld
   have hHeld := hNew
   clear hNew
   try simp only [gA,gB,gC,Act.put,gD,gE,gF]
   refine wpAnyL_ready (rs := [9]) (by kernel_rfl) (by simp) (AllReadyL.cons (o := _) rfl (fun K hK => ?_) AllReadyL.nil)
   try simp only [gA,gB,gC]
   go_simp
   clear hHeld
   refine hK.out _ _ ?_ (fun hHeld => ?_)
   ·exact (HoldC.past (by kernel_rfl) (HoldC.past (by kernel_rfl) (HoldC.past (by kernel_rfl) HoldC.nil)))
   clear hK K
   try simp only [gA,gB,gC,Act.put,gD,gE,gF]
   refine wpAnyL_done (by kernel_rfl) ?_ _
   clear hHeld
   go_wp2_with fail
   refine wp_region_L [(8, fun w' => w'.cell? ⟨p, 0, none⟩ = some (.slice (some ⟨gn5, 0, none⟩) n5 cn5)), (8, fun w' => w'.rangeAt N 1 (bvs b))] (by kernel_rfl) ?_ (fun hHeld => ?_)
   ·exact (HoldC.cons (c50) (HoldC.cons (HR5.out) HoldC.nil))
   refine tk 0 ?_ rfl (by kernel_rfl) (fun _ _ _ h => h) (.inl ⟨by rfl, ?_⟩) hHeld ?_; rotate_left; · (intro w _; go_simp; try with_reducible rfl)
   clear hHeld; intro hHeld; try simp only [gA,gB,gC,Act.put,gD,gE,gF]
   refine tk 1 ?_ rfl (by kernel_rfl) (fun _ _ _ h => h) (.inl ⟨by rfl, ?_⟩) hHeld ?_; rotate_left; · (intro w _; go_simp; try with_reducible rfl)
   clear hHeld; intro hHeld; try simp only [gA,gB,gC,Act.put,gD,gE,gF]
   refine tk 2 ?_ rfl (by kernel_rfl) (fun _ _ _ h => h) (.inl ⟨by rfl, ?_⟩) hHeld ?_; rotate_left; · (intro w _; go_simp; try with_reducible rfl)
   clear hHeld; intro hHeld; try simp only [gA,gB,gC,Act.put,gD,gE,gF]
   refine ld 0 3 ?_ rfl rfl (by kernel_rfl) (fun _ _ _ h => h) (.inl ⟨by rfl, ?_⟩) hHeld ?_; rotate_left; · (intro w hSw; (try dsimp only at hSw); go_simp; try with_reducible rfl)
   clear hHeld; intro hHeld; try simp only [gA,gB,gC,Act.put,gD,gE,gF]
   refine tk 4 ?_ rfl (by kernel_rfl) (fun _ _ _ h => h) (.inl ⟨by rfl, ?_⟩) hHeld ?_; rotate_left; · (intro w _; go_simp; try with_reducible rfl)
   clear hHeld; intro hHeld; try simp only [gA,gB,gC,Act.put,gD,gE,gF]
   refine tk 5 ?_ rfl (by kernel_rfl) (fun _ _ _ h => h) (.inl ⟨by rfl, ?_⟩) hHeld ?_; rotate_left; · (intro w _; go_simp; try with_reducible rfl)
   clear hHeld; intro hHeld; try simp only [gA,gB,gC,Act.put,gD,gE,gF]
   refine wpAnyL_load 1 (i := 6) (oi := _) (v := .agg (bvs b).toArray) rfl rfl (by kernel_rfl) (by kernel_rfl) (by kernel_rfl) (by kernel_rfl) (by kernel_rfl) (by kernel_rfl) (fun _ _ _ h => h) (yieldsIf_load_mid (by rfl) 142 (.tmp 55) (by rfl) (N) (1) (by rfl) (bvs b) _ (fun w hw => hw) Tryz.underlying142 rfl hzs.out) (by assumption) (fun hNew => ?_)
   clear hHeld
   have hHeld := hNew
   clear hNew
   try simp only [gA,gB,gC,Act.put,gD,gE,gF]
   refine tk 7 ?_ rfl (by kernel_rfl) (fun _ _ _ h => h) (.inl ⟨by rfl, ?_⟩) hHeld ?_; rotate_left; · (intro w _; go_simp; try with_reducible rfl)
   clear hHeld; intro hHeld; try simp only [gA,gB,gC,Act.put,gD,gE,gF]
   refine wpAnyL_ready (rs := [8]) (by kernel_rfl) (by simp) (AllReadyL.cons (o := _) rfl (fun K hK => ?_) AllReadyL.nil)
   try simp only [gA,gB,gC]
   rw [if_pos (by rfl)]
   refine wp_store_mid 142 (.tmp 57) (.tmp 56) (by rfl) gn5 (j * 64) (bvs b).toArray (by rfl) (by rfl) th5.out hzt.out hone.out ?_
   clear hHeld
   refine hK.out _ _ ?_ (fun hHeld => ?_)
   ·exact (HoldC.past (by kernel_rfl) (HoldC.past (by kernel_rfl) HoldC.nil))
   clear hK K
   try simp only [gA,gB,gC,Act.put,gD,gE,gF]
   refine wpAnyL_done (by kernel_rfl) ?_ _
   clear hHeld
   go_wp2
   go_ret
   exact ⟨by rw [HRW.out]; rfl, hfin.out _ HD5n.out⟩
theorem dsync_any (p : Nat) (S : List Nat) (d : DS) (w : World) (h : DiskAt w p S d) (ho : d.ops <= 1000000000) (hw : d.since.length <= 1000000) :
  Calls Tryz.prog 67 #[.pointer (some ⟨p, 0, none⟩)] w fun e w' => e = .returned (.int .i64 (d.sync).1) /\ Did w w' p S (d.sync).2 := by
 obtain ⟨w1, hw1⟩ : ∃ w1, w1 = w.alloc (.cells #[.pointer (some ⟨p, 0, none⟩)] 85) := ⟨_, rfl⟩
 have hc1 : Chg [] w w1 := by rw [hw1]; exact (Chg.refl _ _).alloc _
 have h1 : DiskAt w1 p S d := h.keep hc1 (by simp)
 have hB0 : w1.cell? ⟨w.heap.size, 0, none⟩ = some (.pointer (some ⟨p, 0, none⟩)) := by rw [hw1]; exact blk_cell (heap_alloc_new w _) 0 _ rfl
 have CG := LH (dgone_any p S d w1 h1)
 have CO := LH (dop_any p S d w1 h1 ho)
 have HW1 := LH hw1
 by_cases hd : d.dead = true
 ·have HS : Hid (d.sync = (14, d)) := LH (by unfold DS.sync; rw [if_pos hd])
  have HF : Hid (Did w w1 p S d) := LH (Did.pre hc1 (Did.same h1))
  rw [hd] at CG
  rw [HS.out]
  clear hd h h1 hc1 hw1 CO
  go_enter Tryz.func67, Tryz.ntmps67
  go_wp2_with fail
  rw [<- HW1.out]
  refine CG.out.mono ?_
  rintro e w' ⟨rfl, hq⟩
  subst hq
  go_wp2
  go_ret
  exact ⟨rfl, HF.out⟩
 ·by_cases hf : d.fuse = 0
  ·have hd' : d.dead = false := by simpa using hd
   have ho2 : d.op = (false, { d with dead := true }) := by unfold DS.op; rw [if_pos hf]
   have HS : Hid (d.sync = (14, { d with dead := true })) := LH (by unfold DS.sync; rw [if_neg hd, ho2]; rfl)
   rw [hd'] at CG
   rw [ho2] at CO
   dsimp only at CO
   rw [HS.out]
   have HC1 := LH hc1
   clear hd h h1 hc1 hw1 hf hd' ho2
   go_enter Tryz.func67, Tryz.ntmps67
   go_wp2_with fail
   rw [<- HW1.out]
   refine CG.out.mono ?_
   rintro e w' ⟨rfl, hq⟩
   subst hq
   go_wp2_with fail
   refine CO.out.mono ?_
   rintro e w' ⟨rfl, hq⟩
   have HF := LH (Did.pre HC1.out hq)
   clear hq
   go_wp2
   go_ret
   exact ⟨rfl, HF.out⟩
  ·exact dsync_ok p S d w h ho hw (by simpa using hd) hf
theorem dwrite_dead (p : Nat) (S : List Nat) (d : DS) (k : Int) (v : Value) (b : List UInt8) (w : World) (h : DiskAt w p S d) (hd : d.dead = true) :
  Calls Tryz.prog 66 #[.pointer (some ⟨p, 0, none⟩), .int .i64 k, v] w fun e w' => e = .returned (.int .i64 (d.write k b).1) /\ Did w w' p S (d.write k b).2 := by
 have CG := LH (dgone_any p S d w h)
 have HW : Hid (d.write k b = (14, d)) := LH (by unfold DS.write; rw [if_pos hd])
 have HF := LH (Did.same h)
 rw [hd] at CG
 rw [HW.out]
 clear hd h
 go_enter Tryz.func66, Tryz.ntmps66
 go_wp2_with (go_at_call 85; refine CG.out.mono ?_; rintro e w' ⟨rfl, hq⟩; subst hq)
 go_ret
 exact ⟨rfl, HF.out⟩
theorem dwrite_any (p : Nat) (S : List Nat) (d : DS) (k : Int) (v : Value) (b : List UInt8) (w : World) (h : DiskAt w p S d) (ho : d.ops <= 1000000000) (hw : d.since.length <= 1000000) (hk : 0 <= k /\ k < d.n) (hb : b.length = 64) (hv : BytesAt w v b) :
  Calls Tryz.prog 66 #[.pointer (some ⟨p, 0, none⟩), .int .i64 k, v] w fun e w' => e = .returned (.int .i64 (d.write k b).1) /\ Did w w' p S (d.write k b).2 := by
 by_cases hd : d.dead = true
 ·exact dwrite_dead p S d k v b w h hd
 ·obtain ⟨j, rfl⟩ := Int.eq_ofNat_of_zero_le hk.1
  obtain ⟨a, cap, rfl, h1, h2, h3⟩ := hv
  rcases h3 with ⟨rfl, _⟩ | ⟨g, o, rfl, hc⟩
  ·simp at hb
  ·rw [hb]
   refine dwrite_ok p S d j g o cap b w h ho hw (by simpa using hd) (by omega) hb (fun i u hu => ?_)
   have hi : i < b.length := by
    have := (List.getElem?_eq_some_iff.1 hu).1
    rwa [bvs_len] at this
   rw [bvs_at b i hi] at hu
   cases hu
   exact hc i hi
def DS.setFuse (d : DS) (n : Int) : DS := { d with fuse := max n (-1) }
def DS.new (n : Nat) : DS := { n := n, now := fun _ => zeros 64, lasts := fun _ => zeros 64, since := [], fuse := -1, ops := 0, dead := false }
theorem zero_sec : (Tryz.prog.info? 142).map (fun i => (i.zero.map (·.cells), i.size, i.bytes)) = some (some (Array.replicate 64 (.int .u8 0)), 64, 64) := by kernel_rfl
def secZ (n : Nat) : Array Value := madeCells (Array.replicate 64 (.int .u8 0)) (n * 64)
theorem secZ_size (n : Nat) : (secZ n).size = n * 64 := size_madeCells _ _
theorem secZ_at (n i : Nat) (h : i < n * 64) : (secZ n)[i]? = some (bv 0) := by
 unfold secZ madeCells
 have h2 : i % 64 < 64 := Nat.mod_lt _ (by omega)
 have h3 : (Array.replicate 64 (Value.int .u8 0))[i % 64]! = Value.int .u8 0 := by
  rw [getElem!_pos _ _ (by simpa using h2), Array.getElem_replicate]
 simp [h, bv, h3]
theorem make_secs (n : Nat) (hn : n <= 100000) (w : World) : (Instr.makeSlice 110 (.int .i64 (n : Int)) (.int .i64 (n : Int))).run Tryz.prog w = .ok (.slice (some ⟨w.heap.size, 0, none⟩) n n) (w.alloc (.cells (secZ n) 142)) := by
 obtain ⟨i, hi, hz⟩ := Option.map_eq_some_iff.1 zero_sec
 simp only [Prod.mk.injEq, Option.map_eq_some_iff] at hz
 obtain ⟨⟨z, hz1, hz2⟩, h3, h4⟩ := hz
 have h := run_make (P := Tryz.prog) w 110 142 i z Tryz.underlying110 hi hz1 .i64 .i64 n n (by omega) (Int.le_refl _) (by rw [h4]; omega) (by omega)
 simp only [Int.toNat_natCast, hz2, h3] at h
 exact h
theorem zeros_getD (n i : Nat) : (zeros n).getD i 0 = 0 := by
 unfold zeros
 rw [List.getD_eq_getElem?_getD, List.getElem?_replicate]
 split <;> rfl
theorem secs_made {w : World} {g n : Nat} (h : w.heap[g]? = some (.cells (secZ n) 142 (0, 0))) : SecsAt w g n (fun _ => zeros 64) :=
 ⟨_, h, by rw [secZ_size]; exact Nat.le_refl _, fun k hk => ⟨by simp [zeros], fun i hi => by rw [secZ_at _ _ (by omega), zeros_getD]⟩⟩
def Newly (w w' : World) (p : Nat) (S : List Nat) (d : DS) : Prop := DiskAt w' p S d /\ (∀ x ∈ S, w.heap.size <= x) /\ Chg [] w w'
theorem newly_of {w w' : World} {gn gl p n : Nat} (hp : w'.heap[p]? = some (.cells #[.slice (some ⟨gn, 0, none⟩) n n, .slice (some ⟨gl, 0, none⟩) n n, .slice none 0 0, .int .i64 (-1), .int .i64 0, .bool false] 113 (0, 0)))
  (h1 : w'.heap[gn]? = some (.cells (secZ n) 142 (0, 0))) (h2 : w'.heap[gl]? = some (.cells (secZ n) 142 (0, 0))) (hn : n <= 4160) (ha : p ≠ gn /\ p ≠ gl /\ gn ≠ gl) (hb : w.heap.size <= p /\ w.heap.size <= gn /\ w.heap.size <= gl) (hc : Chg [] w w') :
  Newly w w' p [p, gn, gl] (DS.new n) := by
 refine ⟨⟨gn, gl, n, n, .slice none 0 0, ⟨hp, secs_made h1, secs_made h2, World.ownsRow_nil _ _ _ _, by simp [DS.new], hn, ⟨Nat.le_refl _, by show n <= maxLen; unfold maxLen; omega⟩, ⟨Nat.le_refl _, by show n <= maxLen; unfold maxLen; omega⟩, ⟨by simp [DS.new], by simp [DS.new]⟩, ha, by simp [Value.ownBlock],
  ⟨by simp, by simp, by simp, by simp [Value.ownBlock]⟩, ?_⟩⟩, ?_, hc⟩
 ·intro x hx
  simp at hx
  rcases hx with rfl | rfl | rfl
  ·exact blk_lt hp
  ·exact blk_lt h1
  ·exact blk_lt h2
 ·intro x hx
  simp at hx
  rcases hx with rfl | rfl | rfl
  ·exact hb.1
  ·exact hb.2.1
  ·exact hb.2.2
theorem heap_at {w : World} {o : Obj} {k : Nat} (h : k = w.heap.size) : (w.alloc o).heap[k]? = some o := by rw [h]; exact heap_alloc_new w o
theorem three_new (w : World) (o1 o2 o3 : Obj) : (((w.alloc o1).alloc o2).alloc o3).heap[w.heap.size]? = some o1 /\ (((w.alloc o1).alloc o2).alloc o3).heap[w.heap.size + 1]? = some o2 /\ (((w.alloc o1).alloc o2).alloc o3).heap[w.heap.size + 1 + 1]? = some o3 /\ Chg [] w (((w.alloc o1).alloc o2).alloc o3) :=
 ⟨blk_alloc (blk_alloc (heap_alloc_new w o1)), blk_alloc (heap_at (by simp)), heap_at (by simp), (((Chg.refl [] w).alloc _).alloc _).alloc _⟩
theorem dnew_any (n : Nat) (w : World) (h2 : 2 <= n) (hm : n <= 4160) :
  Calls Tryz.prog 44 #[.int .i64 (n : Int)] w fun e w' => ∃ p S, e = .returned (.tuple #[.pointer (some ⟨p, 0, none⟩), .int .i64 0]) /\ Newly w w' p S (DS.new n) := by
 have q1 : decide ((n : Int) < 2) = false := decide_eq_false (by omega)
 have q2 : decide ((n : Int) > 4160) = false := decide_eq_false (by omega)
 have hmk := make_secs n (by omega)
 have HS := LH (secZ_size n)
 generalize hz : secZ n = Z at *
 have HZ := LH hz
 clear hz
 go_enter Tryz.func44, Tryz.ntmps44
 go_wp2_with fail
 refine wp_region_L [] (by kernel_rfl) ?_ (fun hHeld => ?_)
 ·exact HoldC.nil
 refine tk 0 ?_ rfl (by kernel_rfl) (fun _ _ _ h => h) (.inl ⟨by rfl, ?_⟩) hHeld ?_; rotate_left; · (intro w _; go_simp; try with_reducible rfl)
 clear hHeld; intro hHeld; try simp only [gA,gB,gC,Act.put,gD,gE,gF]
 refine tk 2 ?_ rfl (by kernel_rfl) (fun _ _ _ h => h) (.inl ⟨by rfl, ?_⟩) hHeld ?_; rotate_left; · (intro w _; go_simp; try with_reducible rfl)
 clear hHeld; intro hHeld; try simp only [gA,gB,gC,Act.put,gD,gE,gF]
 refine wpAnyL_ready (rs := [1, 3]) (by kernel_rfl) (by simp) ?_
 refine AllReadyL.cons (o := _) rfl (fun K hK => ?_) (AllReadyL.cons (o := _) rfl (fun K hK => ?_) AllReadyL.nil)
 ·try simp only [gA,gB,gC]
  go_simp
  clear hHeld
  refine hK.out _ _ ?_ (fun hHeld => ?_)
  ·exact HoldC.nil
  clear hK K
  try simp only [gA,gB,gC,Act.put,gD,gE,gF]
  refine wpAnyL_ready (rs := [3]) (by kernel_rfl) (by simp) (AllReadyL.cons (o := _) rfl (fun K hK => ?_) AllReadyL.nil)
  try simp only [gA,gB,gC]
  go_simp
  clear hHeld
  refine hK.out _ _ ?_ (fun hHeld => ?_)
  ·exact HoldC.nil
  clear hK K
  try simp only [gA,gB,gC,Act.put,gD,gE,gF]
  refine tk 4 ?_ rfl (by kernel_rfl) (fun _ _ _ h => h) (.inl ⟨by rfl, ?_⟩) hHeld ?_; rotate_left; · (intro w _; go_simp; try with_reducible rfl)
  clear hHeld; intro hHeld; try simp only [gA,gB,gC,Act.put,gD,gE,gF]
  refine wpAnyL_ready (rs := [5]) (by kernel_rfl) (by simp) (AllReadyL.cons (o := _) rfl (fun K hK => ?_) AllReadyL.nil)
  try simp only [gA,gB,gC]
  go_simp
  clear hHeld
  refine hK.out _ _ ?_ (fun hHeld => ?_)
  ·exact HoldC.nil
  clear hK K
  try simp only [gA,gB,gC,Act.put,gD,gE,gF]
  refine tk 6 ?_ rfl (by kernel_rfl) (fun _ _ _ h => h) (.inl ⟨by rfl, ?_⟩) hHeld ?_; rotate_left; · (intro w _; go_simp; try with_reducible rfl)
  clear hHeld; intro hHeld; try simp only [gA,gB,gC,Act.put,gD,gE,gF]
  refine tk 7 ?_ rfl (by kernel_rfl) (fun _ _ _ h => h) (.inl ⟨by rfl, ?_⟩) hHeld ?_; rotate_left; · (intro w _; go_simp; try with_reducible rfl)
  clear hHeld; intro hHeld; try simp only [gA,gB,gC,Act.put,gD,gE,gF]
  refine wpAnyL_done (by kernel_rfl) ?_ _
  clear hHeld
  go_wp2
  go_ret2
  obtain ⟨h1, h2', h3, hc⟩ := three_new w (.cells Z 142) (.cells Z 142) (.cells #[.slice (some ⟨w.heap.size, 0, none⟩) n n, .slice (some ⟨w.heap.size + 1, 0, none⟩) n n, .slice none 0 0, .int .i64 (-1), .int .i64 0, .bool false] 113)
  rw [<- HZ.out] at *
  exact ⟨w.heap.size + 1 + 1, _, rfl, newly_of h3 h1 h2' hm (by omega) (by omega) hc.drew⟩
 ·try simp only [gA,gB,gC]
  go_simp
  clear hHeld
  refine hK.out _ _ ?_ (fun hHeld => ?_)
  ·exact HoldC.nil
  clear hK K
  try simp only [gA,gB,gC,Act.put,gD,gE,gF]
  refine wpAnyL_ready (rs := [1]) (by kernel_rfl) (by simp) (AllReadyL.cons (o := _) rfl (fun K hK => ?_) AllReadyL.nil)
  try simp only [gA,gB,gC]
  go_simp
  clear hHeld
  refine hK.out _ _ ?_ (fun hHeld => ?_)
  ·exact HoldC.nil
  clear hK K
  try simp only [gA,gB,gC,Act.put,gD,gE,gF]
  refine tk 4 ?_ rfl (by kernel_rfl) (fun _ _ _ h => h) (.inl ⟨by rfl, ?_⟩) hHeld ?_; rotate_left; · (intro w _; go_simp; try with_reducible rfl)
  clear hHeld; intro hHeld; try simp only [gA,gB,gC,Act.put,gD,gE,gF]
  refine wpAnyL_ready (rs := [5]) (by kernel_rfl) (by simp) (AllReadyL.cons (o := _) rfl (fun K hK => ?_) AllReadyL.nil)
  try simp only [gA,gB,gC]
  go_simp
  clear hHeld
  refine hK.out _ _ ?_ (fun hHeld => ?_)
  ·exact HoldC.nil
  clear hK K
  try simp only [gA,gB,gC,Act.put,gD,gE,gF]
  refine tk 6 ?_ rfl (by kernel_rfl) (fun _ _ _ h => h) (.inl ⟨by rfl, ?_⟩) hHeld ?_; rotate_left; · (intro w _; go_simp; try with_reducible rfl)
  clear hHeld; intro hHeld; try simp only [gA,gB,gC,Act.put,gD,gE,gF]
  refine tk 7 ?_ rfl (by kernel_rfl) (fun _ _ _ h => h) (.inl ⟨by rfl, ?_⟩) hHeld ?_; rotate_left; · (intro w _; go_simp; try with_reducible rfl)
  clear hHeld; intro hHeld; try simp only [gA,gB,gC,Act.put,gD,gE,gF]
  refine wpAnyL_done (by kernel_rfl) ?_ _
  clear hHeld
  go_wp2
  go_ret2
  obtain ⟨h1, h2', h3, hc⟩ := three_new w (.cells Z 142) (.cells Z 142) (.cells #[.slice (some ⟨w.heap.size + 1, 0, none⟩) n n, .slice (some ⟨w.heap.size, 0, none⟩) n n, .slice none 0 0, .int .i64 (-1), .int .i64 0, .bool false] 113)
  rw [<- HZ.out] at *
  exact ⟨w.heap.size + 1 + 1, _, rfl, newly_of h3 h2' h1 hm (by omega) (by omega) hc.drew⟩
def flat (k : Nat) (f : Nat -> List UInt8) : List UInt8 := (List.range k).flatMap f
theorem flat_succ (k : Nat) (f : Nat -> List UInt8) : flat (k + 1) f = flat k f ++ f k := by simp [flat, List.range_succ]
theorem flat_len (k : Nat) (f : Nat -> List UInt8) (h : ∀ i, i < k -> (f i).length = 64) : (flat k f).length = k * 64 := by
 induction k with
 | zero => rfl
 | succ k ih => rw [flat_succ, List.length_append, ih (fun i hi => h i (by omega)), h k (by omega)]; omega
theorem rcopy_any (v : Value) (l : List UInt8) (w : World) (h : BytesAt w v l) (hl : l.length <= 1000000000) :
  Calls Tryz.prog 61 #[v] w fun e w' => ∃ v', e = .returned v' /\ BRow w' v' l /\ (∀ g, v'.ownBlock = some g -> w.heap.size <= g) /\ Chg [] w w' := by
 obtain ⟨a, cap, rfl, h1, h2, h3⟩ := h
 have H3 := LH h3
 clear h3
 go_enter Tryz.func61, Tryz.ntmps61
 go_wp2
 go_loopg [3, 4] l.length (fun g' s3 s4 wr => ∃ (k : Nat) (a3 : Option Addr) (c3 : Nat), s3 = .slice a3 (l.take k).length c3 /\ s4 = .int .i64 k /\ k <= l.length /\ l.length <= k + g' /\ Hid (BRow wr s3 (l.take k) /\ (∀ g, s3.ownBlock = some g -> w.heap.size <= g) /\ Chg [] w wr))
 case atStart => exact ⟨0, none, 0, rfl, rfl, by omega, by omega, LH ⟨BRow.nil _, by simp [Value.ownBlock], Chg.refl _ _⟩⟩
 case round =>
  obtain ⟨k, a3, c3, rfl, rfl, hk, hkg, HR⟩ := hrel
  obtain ⟨s3, hs3⟩ : ∃ s3, s3 = Value.slice a3 (l.take k).length c3 := ⟨_, rfl⟩
  have HS3 := LH hs3
  rw [<- hs3] at HR
  clear hs3
  by_cases hlt : k < l.length
  ·rcases H3.out with ⟨h0, _⟩ | ⟨g, o, rfl, hcell⟩
   ·rw [h0] at hlt; simp at hlt
   have hcl : wr.cell? ⟨g, o + k, none⟩ = some (.int .u8 ((l.getD k 0).toNat : Int)) := HR.out.2.2.cell (hcell k hlt) (by simp)
   obtain ⟨c, hc⟩ : ∃ c, c = l.getD k 0 := ⟨_, rfl⟩
   rw [<- hc] at hcl
   have HT : Hid (l.take (k + 1) = l.take k ++ [c]) := LH (by rw [hc]; exact take_snocU l k hlt)
   have HB := LH (one_byte wr c _ rfl)
   unfold bv at HB
   have HR2 := LH (HR.out.1.keep (w' := wr.alloc (.cells #[.int .u8 (c.toNat : Int)] 5)) (fun g hg => heap_alloc_old wr _ (HR.out.1.lt g hg)))
   have hkz : (k : Int) < (l.length : Int) := by omega
   have hkz1 : (k : Int).toNat = k := by omega
   have hsz : Hid ((l.take k).length + [c].length <= 140737488355328) := LH (by rw [List.length_take]; simp; omega)
   clear hc hcell
   go_wp2_with (at_builtin; refine wpList_appB rfl (.tmp 11) (.tmp 16) rfl s3 (l.take k) HS3.out.symm HR2.out _ [c] rfl HB.out hsz.out ?_; intro v1 w1 ho1 hg1 hat1)
   have HO1 := LH ho1
   have HG1 := LH hg1
   have HA1 := LH hat1
   clear ho1 hg1 hat1
   go_roundg (gk - 1)
   case measure => omega
   case rel =>
    have hr : BRow w1 v1 (l.take (k + 1)) := by rw [HT.out]; exact HO1.out
    obtain ⟨a, c4, he, _⟩ := hr.bytes
    refine ⟨k + 1, a, c4, he, by go_num, by omega, by omega, LH ⟨hr, fun g hg => ?_, (HR.out.2.2.alloc _).grown HG1.out (fun g hg => .inr (HR.out.2.1 g hg))⟩⟩
    rcases HA1.out with h | h
    ·exact HR.out.2.1 g (by rw [<- h]; exact hg)
    ·rw [h] at hg
     have h1 := HR.out.2.2.size
     have h2 : wr.heap.size + 1 = g := by simpa using hg
     omega
  ·have hkn : k = l.length := by omega
   have HK : Hid (l.take k = l) := LH (by rw [hkn, List.take_length])
   clear hkn
   go_wp2
   go_ret
   exact ⟨s3, by rw [HS3.out]; rfl, by have := HR.out.1; rwa [HK.out] at this, HR.out.2.1, HR.out.2.2⟩
def penRaw (l : List UInt8) (bad : Int) (m : List UInt8) : List UInt8 × Int :=
 if bad ≠ 0 then (l, bad) else if 65535 < m.length then (l, 3) else penAdd l bad (beBytes 2 m.length ++ m)
theorem two_row (w : World) (a b : UInt8) (va vb : Value) (ha : bv a = va) (hb : bv b = vb) : BRow (w.alloc (.cells #[va, vb] 5)) (.slice (some ⟨w.heap.size, 0, none⟩) 2 2) [a, b] := by
 refine ⟨by simp [bvs], .inr ⟨w.heap.size, 2, #[va, vb], rfl, Nat.zero_le _, heap_alloc_new w _, by simp, by unfold maxLen; omega, rfl, ?_⟩⟩
 simp [bvs, ha, hb]
theorem praw_any (b : Nat) (g : Option Nat) (l : List UInt8) (bad : Int) (v : Value) (m : List UInt8) (w : World) (h : PenAt 194 w b g l bad) (hm : BytesAt w v m) (hml : m.length <= 900000) :
  Calls Tryz.prog 139 #[.pointer (some ⟨b, 0, none⟩), v] w fun e w' => e = .returned (.tuple #[]) /\ Wrote 194 w w' b g (penRaw l bad m) := by
 obtain ⟨a, cap, rfl, h1, h2, h3⟩ := hm
 have HM := LH (show BytesAt w (.slice a m.length cap) m from ⟨a, cap, rfl, h1, h2, h3⟩)
 have HP := LH h
 have hbl := h.lt.1
 by_cases hlong : 65535 < m.length
 ·have HR : Hid (penRaw l bad m = (l, if bad ≠ 0 then bad else 3)) := LH (by
   unfold penRaw
   by_cases hb : bad = 0
   ·rw [if_neg (by simp [hb]), if_pos hlong, if_neg (by simp [hb])]
   ·rw [if_pos hb, if_pos hb])
  have CP := LH (put_err b g l bad 3 (.slice none 0 0) w h (by omega))
  rw [HR.out]
  generalize (if bad ≠ 0 then bad else (3 : Int)) = x1 at *
  have hlz : (65535 : Int) < (m.length : Int) := by omega
  clear h h3
  go_enter Tryz.func139, Tryz.ntmps139
  go_wp2_with fail
  refine CP.out.mono ?_
  rintro e w2 ⟨rfl, HW⟩
  have HW2 := LH HW
  clear HW
  go_wp2
  refine bodyPost_ret (results_none rfl _ _ _) rfl ?_
  exact ⟨rfl, HW2.out⟩
 ·have hlz : ¬ (65535 : Int) < (m.length : Int) := by omega
  obtain ⟨n, hn⟩ : ∃ n, n = m.length := ⟨_, rfl⟩
  have hv1 : bv (UInt8.ofNat (n / 256)) = .int .u8 ((n : Int) / 256) := by
   have h0 := byte_of n 1
   rw [show ((n : Int) / 2 ^ (8 * 1) % 256) = (n : Int) / 256 by omega] at h0
   simpa using h0
  have hv2 : bv (UInt8.ofNat n) = .int .u8 ((n : Int) % 256) := by
   have := byte_of n 0
   simpa using this
  have hbe : beBytes 2 n = [UInt8.ofNat (n / 256), UInt8.ofNat n] := by simp [beBytes]
  obtain ⟨w1, hw1⟩ : ∃ w1, w1 = w.alloc (.cells #[.int .u8 ((n : Int) / 256), .int .u8 ((n : Int) % 256)] 5) := ⟨_, rfl⟩
  have hc1 : Chg [] w w1 := by rw [hw1]; exact (Chg.refl _ _).alloc _
  have HT : Hid (BRow w1 (.slice (some ⟨w.heap.size, 0, none⟩) 2 2) (beBytes 2 n)) := LH (by rw [hw1, hbe]; exact two_row w _ _ _ _ hv1 hv2)
  have HM1 : Hid (BytesAt w1 (.slice a m.length cap) m) := LH (by
   refine ⟨a, cap, rfl, h1, h2, ?_⟩
   rcases h3 with h3 | ⟨g, o, e, hcell⟩
   ·exact .inl h3
   ·exact .inr ⟨g, o, e, fun i hi => hc1.cell (hcell i hi) (by simp)⟩)
  have HW1 := LH hw1
  have HC1 := LH hc1
  have HN := LH hn
  have hlb : Hid ((beBytes 2 n).length = 2) := LH (by rw [beBytes_len])
  have HR : Hid (penRaw l bad m = penAdd l bad (beBytes 2 n ++ m)) := LH (by
   unfold penRaw
   by_cases hb : bad = 0
   ·rw [if_neg (by simp [hb]), if_neg hlong, hn]
   ·rw [if_pos hb]; unfold penAdd; rw [if_pos hb])
  have hsz : Hid ((beBytes 2 n).length + m.length <= 140737488355328) := LH (by rw [beBytes_len]; omega)
  rw [HR.out]
  rw [<- hn] at hlz h1
  have hn0 : (0 : Int) <= (n : Int) := by omega
  have hn1 : (n : Int) <= 65535 := by omega
  rw [<- hn]
  clear h h3 hw1 hc1 hv1 hv2 hbe hn
  go_enter Tryz.func139, Tryz.ntmps139
  go_wp2_with (at_builtin; rw [<- HW1.out]; refine wpList_appB rfl (.tmp 17) (.tmp 18) rfl (.slice (some ⟨w.heap.size, 0, none⟩) 2 2) (beBytes 2 n) rfl HT.out _ m (by rw [<- HN.out]; rfl) HM1.out hsz.out ?_; intro v1 w2 ho1 hg1 hat1)
  have hc2 : Chg [] w w2 := HC1.out.grown hg1 (fun k hk => .inr (by
   have : w.heap.size = k := by simpa [Value.ownBlock] using hk
   omega))
  have hl12 : (beBytes 2 n ++ m).length = 2 + m.length := by rw [List.length_append, hlb.out]
  obtain ⟨a1, c1, he1, _⟩ := ho1.bytes
  have CP := LH (put_any b g l bad a1 c1 (beBytes 2 n ++ m) w2 (HP.out.keep hc2 (by simp) (by simp)) (by rw [<- he1]; exact ho1.bytes) (by rw [hl12]; omega))
  rw [<- he1] at CP
  have HC2 := LH hc2
  clear ho1 hg1 hat1 he1 hc2 hl12
  refine CP.out.mono ?_
  rintro e w3 ⟨rfl, HW⟩
  have HW3 := LH (Wrote.before HW HC2.out)
  clear HW CP
  go_wp2
  go_end0
  exact ⟨rfl, HW3.out⟩
def nsec (n : Nat) : Nat := (n + 63) / 64
def secAt (b : List UInt8) (k : Nat) : List UInt8 := (b.drop (k * 64)).take 64 ++ zeros (64 - ((b.drop (k * 64)).take 64).length)
theorem secAt_len (b : List UInt8) (k : Nat) : (secAt b k).length = 64 := by
 unfold secAt zeros
 rw [List.length_append, List.length_replicate, List.length_take]
 omega
def DS.lay (d : DS) (pos : Nat) (b : List UInt8) : Nat -> Nat -> Int × DS
 | 0, _ => d.sync
 | k + 1, j => if (d.write (pos + j : Nat) (secAt b j)).1 ≠ 0 then d.write (pos + j : Nat) (secAt b j) else (d.write (pos + j : Nat) (secAt b j)).2.lay pos b k (j + 1)
def DS.lays (d : DS) (pos : Nat) (b : List UInt8) : Int × DS := d.lay pos b (nsec b.length) 0
structure SS where
 d : DS
 first : Nat
 rows : List SRow
def SS.has (s : SS) (i : Int) : Prop := 0 <= i /\ i < s.rows.length
instance (s : SS) (i : Int) : Decidable (s.has i) := inferInstanceAs (Decidable (_ /\ _))
def SS.row (s : SS) (i : Int) : SRow := s.rows.getD i.toNat noRow
def SS.used (s : SS) (i : Int) : Bool := decide (s.has i) && (s.row i).used
def SS.key (s : SS) (i : Int) : List UInt8 := if s.used i then (s.row i).key else []
def SS.pos (s : SS) (i : Int) : Nat := s.first + 8 * i.toNat
def SS.data (s : SS) (i : Int) : List UInt8 := (flat (nsec (s.row i).n) (fun k => s.d.now (s.pos i + 1 + k))).take (s.row i).n
def SS.get (s : SS) (i : Int) : List UInt8 × Int :=
 if ¬ s.has i then ([], 1) else if (s.row i).used = false then ([], 6) else if s.d.dead then ([], 14) else (s.data i, 0)
def headBytes (n : Nat) (key : List UInt8) : List UInt8 := (penRaw (penNum (penNum [] 0 1 1).1 (penNum [] 0 1 1).2 n 2).1 (penNum (penNum [] 0 1 1).1 (penNum [] 0 1 1).2 n 2).2 key).1
def SS.put (s : SS) (i : Int) (key b : List UInt8) : Int × SS :=
 if ¬ s.has i then (1, s) else if 40 < key.length ∨ 448 < b.length then (3, s) else if (s.row i).used then (7, s) else
  if (s.d.lays (s.pos i + 1) b).1 ≠ 0 then ((s.d.lays (s.pos i + 1) b).1, { s with d := (s.d.lays (s.pos i + 1) b).2 }) else
  if ((s.d.lays (s.pos i + 1) b).2.lays (s.pos i) (headBytes b.length key)).1 ≠ 0 then (((s.d.lays (s.pos i + 1) b).2.lays (s.pos i) (headBytes b.length key)).1, { s with d := ((s.d.lays (s.pos i + 1) b).2.lays (s.pos i) (headBytes b.length key)).2 }) else
  (0, { s with d := ((s.d.lays (s.pos i + 1) b).2.lays (s.pos i) (headBytes b.length key)).2, rows := s.rows.set i.toNat ⟨true, b.length, key⟩ })
def SS.clear (s : SS) (i : Int) : Int × SS :=
 if ¬ s.has i then (1, s) else if (s.row i).used = false then (6, s) else
  if (s.d.lays (s.pos i) (zeros 64)).1 ≠ 0 then ((s.d.lays (s.pos i) (zeros 64)).1, { s with d := (s.d.lays (s.pos i) (zeros 64)).2 }) else
  (0, { s with d := (s.d.lays (s.pos i) (zeros 64)).2, rows := s.rows.set i.toNat noRow })
def rowFree : List SRow -> Nat -> Int
 | [], _ => -1
 | r :: rs, k => if r.used = false then (k : Int) else rowFree rs (k + 1)
def SS.free (s : SS) : Int := rowFree s.rows 0
structure SS.Ok (s : SS) : Prop where
 room : s.first + 8 * s.rows.length <= s.d.n
 rows : ∀ r ∈ s.rows, r.n <= 448 /\ r.key.length <= 40
structure RowD where
 e : TypeId
 size : Nat
 v : Value
 n : Nat
 xs : List Value
def RowD.At (w : World) (r : RowD) : Prop := w.ownsRow 0 r.e r.size r.v r.n r.xs
def blks (p : Nat) (rs : List RowD) : List Nat := p :: rs.filterMap (·.v.ownBlock)
structure ObjAt (w : World) (p t : Nat) (cs : Array Value) (rs : List RowD) : Prop where
 head : w.heap[p]? = some (.cells cs t (0, 0))
 rows : ∀ r ∈ rs, r.At w
 apart : (blks p rs).Nodup
theorem mem_blks {p k : Nat} {rs : List RowD} (h : k ∈ blks p rs) : k = p ∨ ∃ r ∈ rs, r.v.ownBlock = some k := by
 rcases List.mem_cons.1 h with h | h
 ·exact .inl h
 ·obtain ⟨r, hr, he⟩ := List.mem_filterMap.1 h
  exact .inr ⟨r, hr, he⟩
theorem blks_row {p k : Nat} {rs : List RowD} {r : RowD} (h : r ∈ rs) (hk : r.v.ownBlock = some k) : k ∈ blks p rs := List.mem_cons_of_mem _ (List.mem_filterMap.2 ⟨r, h, hk⟩)
theorem blks_head {p : Nat} {rs : List RowD} : p ∈ blks p rs := List.mem_cons_self ..
theorem ObjAt.lim {w : World} {p t : Nat} {cs : Array Value} {rs : List RowD} (h : ObjAt w p t cs rs) : ∀ x ∈ blks p rs, x < w.heap.size := fun x hx => by
 rcases mem_blks hx with rfl | ⟨r, hr, he⟩
 ·exact blk_lt h.head
 ·exact (World.ownsRow.lt (h.rows r hr) x he).2
theorem ObjAt.keep {w w' : World} {p t : Nat} {cs : Array Value} {rs : List RowD} {T : List Nat} (h : ObjAt w p t cs rs) (hc : Chg T w w') (ha : ∀ x ∈ blks p rs, x ∉ T) : ObjAt w' p t cs rs :=
 ⟨hc.keep h.head (ha p blks_head), fun r hr => row_keep (h.rows r hr) (fun g hg => hc.block g (World.ownsRow.lt (h.rows r hr) g hg).2 (ha g (blks_row hr hg))), h.apart⟩
theorem ObjAt.row_ne {w : World} {p t : Nat} {cs : Array Value} {rs : List RowD} (h : ObjAt w p t cs rs) {r : RowD} (hr : r ∈ rs) {k : Nat} (hk : r.v.ownBlock = some k) : k ≠ p := fun e => by
 have := (List.nodup_cons.1 h.apart).1
 exact this (List.mem_filterMap.2 ⟨r, hr, by rw [hk, e]⟩)
theorem ObjAt.setHead {w : World} {p t : Nat} {cs : Array Value} {rs : List RowD} (h : ObjAt w p t cs rs) (j : Nat) (u : Value) : ObjAt (w.setCell ⟨p, j, none⟩ u) p t (cs.setIfInBounds j u) rs :=
 ⟨set_blk h.head, fun r hr => row_keep (h.rows r hr) (fun g hg => Below.heap_setCell w ⟨p, j, none⟩ u g (h.row_ne hr hg)), h.apart⟩
theorem row_swap {p : Nat} {a b : List RowD} {r r' : RowD} {N : Nat} (h : (blks p (a ++ r :: b)).Nodup) (hl : ∀ x ∈ blks p (a ++ r :: b), x < N) (hat : ∀ k, r'.v.ownBlock = some k -> r.v.ownBlock = some k ∨ N <= k) :
  (blks p (a ++ r' :: b)).Nodup /\ ∀ x ∈ blks p (a ++ r' :: b), x ∈ blks p (a ++ r :: b) ∨ N <= x := by
 have hmem : ∀ x ∈ blks p (a ++ r' :: b), x ∈ blks p (a ++ r :: b) ∨ N <= x := fun x hx => by
  rcases mem_blks hx with rfl | ⟨q, hq, he⟩
  ·exact .inl blks_head
  ·rcases List.mem_append.1 hq with hq | hq
   ·exact .inl (blks_row (List.mem_append_left _ hq) he)
   ·rcases List.mem_cons.1 hq with rfl | hq
    ·rcases hat x he with h1 | h1
     ·exact .inl (blks_row (List.mem_append_right _ (List.mem_cons_self ..)) h1)
     ·exact .inr h1
    ·exact .inl (blks_row (List.mem_append_right _ (List.mem_cons_of_mem _ hq)) he)
 refine ⟨?_, hmem⟩
 unfold blks at *
 rw [List.filterMap_append, List.filterMap_cons] at *
 cases hr : r'.v.ownBlock with
 | none =>
  simp only [hr]
  cases hr2 : r.v.ownBlock with
  | none => rw [hr2] at h; exact h
  | some k =>
   rw [hr2] at h
   refine h.sublist ?_
   exact (List.Sublist.append_left (List.sublist_cons_self _ _) _).cons_cons _
 | some k =>
  simp only [hr]
  rcases hat k hr with h1 | h1
  ·rw [h1] at h; exact h
  ·have hbase : (p :: (a.filterMap (·.v.ownBlock) ++ b.filterMap (·.v.ownBlock))).Nodup := by
    cases hr2 : r.v.ownBlock with
    | none => rw [hr2] at h; exact h
    | some k2 =>
     rw [hr2] at h
     exact h.sublist ((List.Sublist.append_left (List.sublist_cons_self _ _) _).cons_cons _)
   have hlt : ∀ x ∈ p :: (a.filterMap (·.v.ownBlock) ++ b.filterMap (·.v.ownBlock)), x < N := fun x hx => hl x (by
    rcases List.mem_cons.1 hx with rfl | hx
    ·exact List.mem_cons_self ..
    ·refine List.mem_cons_of_mem _ ?_
     rcases List.mem_append.1 hx with hx | hx
     ·exact List.mem_append_left _ hx
     ·refine List.mem_append_right _ ?_
      cases hr2 : r.v.ownBlock with
      | none => exact hx
      | some k2 => exact List.mem_cons_of_mem _ hx)
   have hk : k ∉ p :: (a.filterMap (·.v.ownBlock) ++ b.filterMap (·.v.ownBlock)) := fun hm => by have := hlt k hm; omega
   have hperm : (p :: (a.filterMap (·.v.ownBlock) ++ k :: b.filterMap (·.v.ownBlock))).Perm (k :: p :: (a.filterMap (·.v.ownBlock) ++ b.filterMap (·.v.ownBlock))) :=
    ((List.perm_middle).cons p).trans (List.Perm.swap k p _)
   exact hperm.nodup_iff.2 (List.nodup_cons.2 ⟨hk, hbase⟩)
theorem ObjAt.grow {w w2 : World} {p t : Nat} {cs : Array Value} {a b : List RowD} {r r' : RowD} (h : ObjAt w p t cs (a ++ r :: b)) (hg : w.grownBy w2 r.v.ownBlock) (hrow : r'.At w2)
  (hat : ∀ k, r'.v.ownBlock = some k -> r.v.ownBlock = some k ∨ w.heap.size <= k) : ObjAt w2 p t cs (a ++ r' :: b) /\ (∀ x ∈ blks p (a ++ r' :: b), x ∈ blks p (a ++ r :: b) ∨ w.heap.size <= x) /\ Chg (blks p (a ++ r :: b)) w w2 := by
 have hmr : r ∈ a ++ r :: b := List.mem_append_right _ (List.mem_cons_self ..)
 obtain ⟨h1, h2⟩ := row_swap (r' := r') h.apart h.lim hat
 have hc : Chg r.v.ownBlock.toList w w2 := (Chg.refl _ w).grown hg (fun k hk => .inl (by rw [hk]; simp))
 refine ⟨⟨hc.keep h.head ?_, fun q hq => ?_, h1⟩, h2, hc.mono (fun x hx => .inl (blks_row hmr (by simpa using hx)))⟩
 ·intro hm
  exact h.row_ne hmr (by simpa using hm : r.v.ownBlock = some p) rfl
 ·have hother : ∀ q, q ∈ a ∨ q ∈ b -> q ∈ a ++ r :: b -> q.At w2 := fun q hab hq => row_keep (h.rows q hq) (fun g hgq => hc.block g (World.ownsRow.lt (h.rows q hq) g hgq).2 (by
   intro hm
   have hrg : r.v.ownBlock = some g := by simpa using hm
   have hnd := (List.nodup_cons.1 h.apart).2
   rw [List.filterMap_append, List.filterMap_cons, hrg] at hnd
   simp only at hnd
   have hd := List.nodup_append.1 hnd
   rcases hab with hab | hab
   ·exact hd.2.2 g (List.mem_filterMap.2 ⟨q, hab, hgq⟩) g (List.mem_cons_self ..) rfl
   ·exact (List.nodup_cons.1 hd.2.1).1 (List.mem_filterMap.2 ⟨q, hab, hgq⟩)))
  rcases List.mem_append.1 hq with hq1 | hq1
  ·exact hother q (.inl hq1) (List.mem_append_left _ hq1)
  ·rcases List.mem_cons.1 hq1 with rfl | hq1
   ·exact hrow
   ·exact hother q (.inr hq1) (List.mem_append_right _ (List.mem_cons_of_mem _ hq1))
theorem row_set {w : World} {base e size n g cap : Nat} {xs : List Value} (h : w.ownsRow base e size (.slice (some ⟨g, 0, none⟩) n cap) n xs) (j : Nat) (u : Value) (hj : j < n * size) :
  (w.setCell ⟨g, j, none⟩ u).ownsRow base e size (.slice (some ⟨g, 0, none⟩) n cap) n (xs.set j u) := by
 refine ⟨by rw [List.length_set]; exact h.1, .inr ?_⟩
 rcases h.2 with ⟨h1, _⟩ | ⟨g', cap', cur, hv, hb, hg, h1, h2, h3, h4⟩
 ·cases h1
 ·obtain ⟨rfl, rfl⟩ : g = g' /\ cap = cap' := by simpa using hv
  refine ⟨g, cap, cur.setIfInBounds j u, rfl, hb, set_blk hg, h1, h2, by simpa using h3, ?_⟩
  rw [Array.toList_setIfInBounds, <- h4]
  apply List.ext_getElem? (fun i => ?_)
  simp only [List.getElem?_take, List.getElem?_set]
  by_cases hi : i < n * size
  ·rw [if_pos hi, if_pos hi]
   by_cases hij : j = i
   ·subst hij
    rw [if_pos rfl, if_pos rfl]
    have hlt : j < cur.toList.length := by
     have : n * size <= cap * size := Nat.mul_le_mul_right _ h1
     simp; omega
    rw [if_pos hlt, if_pos (by rw [List.length_take]; omega)]
   ·rw [if_neg hij, if_neg hij]
  ·rw [if_neg hi, if_neg (show ¬ j = i by omega), if_neg hi]
def rcell (x : SRow × Value) : List Value := [.bool x.1.used, .int .i64 (x.1.n : Int), x.2]
def rcells (R : List (SRow × Value)) : List Value := R.flatMap rcell
theorem rcells_at : ∀ (R : List (SRow × Value)) (i j : Nat) (x : SRow × Value), R[i]? = some x -> j < 3 -> (rcells R)[i * 3 + j]? = (rcell x)[j]?
 | [], i, j, x, h, _ => by simp at h
 | y :: R, i, j, x, h, hj => by
  have e : rcells (y :: R) = rcell y ++ rcells R := rfl
  have hy : (rcell y).length = 3 := rfl
  rw [e]
  cases i with
  | zero =>
   simp at h; subst h
   rw [Nat.zero_mul, Nat.zero_add, List.getElem?_append_left (by omega)]
  | succ i =>
   rw [List.getElem?_append_right (by omega), hy, show (i + 1) * 3 + j - 3 = i * 3 + j by omega]
   exact rcells_at R i j x (by simpa using h) hj
theorem rcells_app (R : List (SRow × Value)) (x : SRow × Value) : rcells (R ++ [x]) = rcells R ++ rcell x := by simp [rcells]
theorem rcells_set : ∀ (R : List (SRow × Value)) (i : Nat) (x : SRow × Value), i < R.length -> rcells (R.set i x) = (((rcells R).set (i * 3) (.bool x.1.used)).set (i * 3 + 1) (.int .i64 (x.1.n : Int))).set (i * 3 + 2) x.2
 | [], i, x, h => by simp at h
 | y :: R, i, x, h => by
  have e : ∀ z, rcells (z :: R) = rcell z ++ rcells R := fun _ => rfl
  cases i with
  | zero => rw [List.set_cons_zero, e, e]; rfl
  | succ i =>
   have ih := rcells_set R i x (by simpa using h)
   have e2 : rcells (y :: R.set i x) = rcell y ++ rcells (R.set i x) := rfl
   rw [List.set_cons_succ, e2, ih, e]
   have h3 : (rcell y).length = 3 := rfl
   rw [List.set_append_right _ _ (by omega), List.set_append_right _ _ (by omega), List.set_append_right _ _ (by omega), h3, show (i + 1) * 3 - 3 = i * 3 by omega, show (i + 1) * 3 + 1 - 3 = i * 3 + 1 by omega, show (i + 1) * 3 + 2 - 3 = i * 3 + 2 by omega]
def rowD (rv : Value) (R : List (SRow × Value)) : RowD := ⟨186, 3, rv, R.length, rcells R⟩
def KeyAt (w : World) (v : Value) (l : List UInt8) : Prop := BytesAt w v l /\ (l ≠ [] -> ∀ g, v.ownBlock = some g -> ∃ cs fr, w.heap[g]? = some (.cells cs 5 fr))
theorem KeyAt.nil (w : World) : KeyAt w (.slice none 0 0) [] := ⟨BytesAt.nil w, fun h => absurd rfl h⟩
theorem KeyAt.chg {w w' : World} {v : Value} {l : List UInt8} {S : List Nat} (h : KeyAt w v l) (hc : Chg S w w') (hn : ∀ k, v.ownBlock = some k -> k ∉ S) : KeyAt w' v l :=
 ⟨h.1.chg hc hn, fun hl g hg => by
  obtain ⟨cs, fr, h1⟩ := h.2 hl g hg
  exact ⟨cs, fr, hc.keep h1 (hn g hg)⟩⟩
theorem KeyAt.chgW {w w' : World} {v : Value} {l : List UInt8} {S : List Nat} (h : KeyAt w v l) (hc : Chg S w w') (hn : l ≠ [] -> ∀ k, v.ownBlock = some k -> k ∉ S) : KeyAt w' v l :=
 ⟨h.1.chgW hc hn, fun hl g hg => by
  obtain ⟨cs, fr, h1⟩ := h.2 hl g hg
  exact ⟨cs, fr, hc.keep h1 (hn hl g hg)⟩⟩
theorem BRow.keyAt {w : World} {v : Value} {l : List UInt8} (h : BRow w v l) : KeyAt w v l := ⟨h.bytes, fun hl g hg => by
 rcases h.2 with ⟨rfl, h0⟩ | ⟨g', cap, cur, rfl, hbg, hg', _⟩
 ·simp [Value.ownBlock] at hg
 ·obtain rfl : g' = g := by simpa [Value.ownBlock] using hg
  exact ⟨_, _, hg'⟩⟩
structure SlotsOk (w : World) (q p : Nat) (S U : List Nat) (s : SS) (rv : Value) (R : List (SRow × Value)) : Prop where
 obj : ObjAt w q 183 #[.pointer (some ⟨p, 0, none⟩), .int .i64 (s.first : Int), rv] [rowD rv R]
 disk : DiskAt w p S s.d
 rows : R.map (·.1) = s.rows
 sep : ∀ x ∈ blks q [rowD rv R], x ∉ S
 keys : ∀ x ∈ R, KeyAt w x.2 x.1.key /\ ∀ g, x.2.ownBlock = some g -> g < w.heap.size /\ g ∉ U
 uS : ∀ x ∈ S, x ∈ U
 uB : ∀ x ∈ blks q [rowD rv R], x ∈ U
 uL : ∀ x ∈ U, x < w.heap.size
 ok : s.Ok
def SlotsAt (w : World) (q p : Nat) (U : List Nat) (s : SS) : Prop := ∃ S rv R, SlotsOk w q p S U s rv R
theorem SlotsAt.keep {w w' : World} {q p : Nat} {U T : List Nat} {s : SS} (h : SlotsAt w q p U s) (hc : Chg T w w') (ha : ∀ x ∈ U, x ∉ T) (hk : T = [] ∨ True) (hT : ∀ x ∈ T, x ∈ U ∨ w.heap.size <= x ∨ ∀ S rv R, SlotsOk w q p S U s rv R -> ∀ y ∈ R, y.2.ownBlock ≠ some x) : SlotsAt w' q p U s := by
 obtain ⟨S, rv, R, h⟩ := h
 refine ⟨S, rv, R, h.obj.keep hc (fun x hx => ha x (h.uB x hx)), h.disk.keep hc (fun x hx => ha x (h.uS x hx)), h.rows, h.sep, fun x hx => ?_, h.uS, h.uB, fun x hx => Nat.lt_of_lt_of_le (h.uL x hx) hc.size, h.ok⟩
 obtain ⟨h1, h2⟩ := h.keys x hx
 refine ⟨h1.chg hc (fun k hk hm => ?_), fun g hg => ⟨Nat.lt_of_lt_of_le (h2 g hg).1 hc.size, (h2 g hg).2⟩⟩
 rcases hT k hm with h3 | h3 | h3
 ·exact (h2 k hk).2 h3
 ·have := (h2 k hk).1; omega
 ·exact h3 S rv R h x hx hk
theorem SlotsAt.keep0 {w w' : World} {q p : Nat} {U : List Nat} {s : SS} (h : SlotsAt w q p U s) (hc : Chg [] w w') : SlotsAt w' q p U s := h.keep hc (by simp) (.inl rfl) (by simp)
def Sid (w w' : World) (q p : Nat) (U : List Nat) (s : SS) : Prop := ∃ U', SlotsAt w' q p U' s /\ (∀ x ∈ U', x ∈ U ∨ w.heap.size <= x) /\ Chg U w w'
theorem Sid.same {w : World} {q p : Nat} {U : List Nat} {s : SS} (h : SlotsAt w q p U s) : Sid w w q p U s := ⟨U, h, fun x hx => .inl hx, Chg.refl _ _⟩
theorem SlotsOk.len {w : World} {q p : Nat} {S U : List Nat} {s : SS} {rv : Value} {R : List (SRow × Value)} (h : SlotsOk w q p S U s rv R) : R.length = s.rows.length := by rw [<- h.rows, List.length_map]
theorem SlotsOk.few {w : World} {q p : Nat} {S U : List Nat} {s : SS} {rv : Value} {R : List (SRow × Value)} (h : SlotsOk w q p S U s rv R) : s.first + 8 * s.rows.length <= 4160 := by
 obtain ⟨gn, gl, cn, cl, v, hd⟩ := h.disk
 exact Nat.le_trans h.ok.room hd.few
theorem SlotsOk.form {w : World} {q p : Nat} {S U : List Nat} {s : SS} {rv : Value} {R : List (SRow × Value)} (h : SlotsOk w q p S U s rv R) : ∃ a cap, rv = .slice a s.rows.length cap /\ s.rows.length <= cap := by
 rw [<- h.len]
 have hr : w.ownsRow 0 186 3 rv R.length (rcells R) := h.obj.rows _ (List.mem_singleton.2 rfl)
 rcases hr.2 with ⟨h1, h2⟩ | ⟨g, cap, cur, h1, _, _, h3, h4, _⟩
 ·exact ⟨none, 0, by rw [h1, h2], by omega⟩
 ·exact ⟨_, cap, h1, h3⟩
theorem SlotsOk.at {w : World} {q p : Nat} {S U : List Nat} {s : SS} {rv : Value} {R : List (SRow × Value)} (h : SlotsOk w q p S U s rv R) (i : Nat) (hi : i < s.rows.length) :
  ∃ g cap kv, rv = .slice (some ⟨g, 0, none⟩) s.rows.length cap /\ s.rows.length <= cap /\ cap <= maxLen /\ R[i]? = some (s.rows.getD i noRow, kv) /\ w.cell? ⟨g, i * 3, none⟩ = some (.bool (s.rows.getD i noRow).used) /\
   w.cell? ⟨g, i * 3 + 1, none⟩ = some (.int .i64 ((s.rows.getD i noRow).n : Int)) /\ w.cell? ⟨g, i * 3 + 2, none⟩ = some kv /\ BytesAt w kv (s.rows.getD i noRow).key /\ ∀ k, kv.ownBlock = some k -> k < w.heap.size /\ k ∉ U := by
 have hl := h.len
 have hr : w.ownsRow 0 186 3 rv R.length (rcells R) := h.obj.rows _ (List.mem_singleton.2 rfl)
 have hiR : i < R.length := by omega
 have hri : s.rows.getD i noRow = (R[i]).1 := by
  rw [<- h.rows, List.getD_eq_getElem?_getD, List.getElem?_map, List.getElem?_eq_getElem hiR]; rfl
 rcases hr.2 with ⟨h1, h2⟩ | ⟨g, cap, cur, h1, _, _, h3, h4, _⟩
 ·omega
 ·subst h1
  have hcell : ∀ j, j < 3 -> ∀ u, (rcell R[i])[j]? = some u -> w.cell? ⟨g, i * 3 + j, none⟩ = some u := fun j hj u hu => by
   have := hr.cells (g := g) rfl (i * 3 + j) u (by rw [rcells_at R i j R[i] (List.getElem?_eq_getElem hiR) hj]; exact hu)
   rwa [add_none, Nat.zero_add] at this
  refine ⟨g, cap, (R[i]).2, by rw [hl], by omega, h4, by rw [hri]; exact List.getElem?_eq_getElem hiR, ?_, ?_, ?_, ?_⟩
  ·rw [hri]; exact hcell 0 (by omega) _ rfl
  ·rw [hri]; exact hcell 1 (by omega) _ rfl
  ·exact hcell 2 (by omega) _ rfl
  ·rw [hri]; exact ⟨(h.keys _ (List.getElem_mem hiR)).1.1, (h.keys _ (List.getElem_mem hiR)).2⟩
theorem shas_any (q p : Nat) (U : List Nat) (s : SS) (i : Int) (w : World) (h : SlotsAt w q p U s) : Calls Tryz.prog 129 #[.pointer (some ⟨q, 0, none⟩), .int .i64 i] w fun e w' => e = .returned (.bool (decide (s.has i))) /\ w = w' := by
 obtain ⟨S, rv, R, H⟩ := h
 obtain ⟨a, cap, hrv, hcap⟩ := H.form
 have c2 := blk_cell H.obj.head 2 _ rfl
 subst hrv
 have hd : decide (s.has i) = (decide (0 <= i) && decide (i < (s.rows.length : Int))) := by
  rw [Bool.eq_iff_iff]
  simp only [decide_eq_true_eq, Bool.and_eq_true]
  exact Iff.rfl
 have HD := LH hd
 clear H hd
 generalize s.rows.length = n at *
 by_cases h1 : 0 <= i
 ·have d1 : decide (i ≥ 0) = true := decide_eq_true h1
  have HX : Hid (decide (s.has i) = decide (i < (n : Int))) := LH (by rw [HD.out, decide_eq_true h1, Bool.true_and])
  go_enter Tryz.func129, Tryz.ntmps129
  go_wp2
  go_ret
  exact ⟨by rw [HX.out]; rfl, rfl⟩
 ·have d1 : decide (i ≥ 0) = false := decide_eq_false h1
  have HX : Hid (decide (s.has i) = false) := LH (by rw [HD.out, decide_eq_false h1, Bool.false_and])
  go_enter Tryz.func129, Tryz.ntmps129
  go_wp2
  go_ret
  exact ⟨by rw [HX.out]; rfl, rfl⟩
theorem scount_any (q p : Nat) (U : List Nat) (s : SS) (w : World) (h : SlotsAt w q p U s) : Calls Tryz.prog 92 #[.pointer (some ⟨q, 0, none⟩)] w fun e w' => e = .returned (.int .i64 (s.rows.length : Int)) /\ w = w' := by
 obtain ⟨S, rv, R, H⟩ := h
 obtain ⟨a, cap, hrv, hcap⟩ := H.form
 have c2 := blk_cell H.obj.head 2 _ rfl
 subst hrv
 clear H
 go_enter Tryz.func92, Tryz.ntmps92
 go_wp2
 go_ret
 exact ⟨rfl, rfl⟩
theorem sat_any (q p : Nat) (U : List Nat) (s : SS) (i : Nat) (w : World) (h : SlotsAt w q p U s) (hi : i <= 1000) : Calls Tryz.prog 137 #[.pointer (some ⟨q, 0, none⟩), .int .i64 (i : Int)] w fun e w' => e = .returned (.int .i64 ((s.pos i : Nat) : Int)) /\ w = w' := by
 obtain ⟨S, rv, R, H⟩ := h
 have c1 := blk_cell H.obj.head 1 _ rfl
 have hfew := H.few
 have HX : Hid ((s.first : Int) + 8 * (i : Int) = ((s.pos i : Nat) : Int)) := LH (by unfold SS.pos; simp)
 have hf : s.first <= 4160 := by omega
 clear H hfew
 generalize s.first = f at *
 go_enter Tryz.func137, Tryz.ntmps137
 go_wp2
 go_ret
 exact ⟨by rw [<- HX.out]; rfl, rfl⟩
theorem ssec_any (n : Nat) (w : World) (hn : n <= 1000000000) : Calls Tryz.prog 136 #[.int .i64 (n : Int)] w fun e w' => e = .returned (.int .i64 ((nsec n : Nat) : Int)) /\ w = w' := by
 have HX : Hid (((n : Int) + 64 - 1) / 64 = ((nsec n : Nat) : Int)) := LH (by unfold nsec; omega)
 go_enter Tryz.func136, Tryz.ntmps136
 go_wp2
 go_ret
 exact ⟨by rw [<- HX.out]; rfl, rfl⟩
theorem SS.used_true {s : SS} {i : Int} (h : s.has i) : s.used i = (s.row i).used := by unfold SS.used; rw [decide_eq_true h, Bool.true_and]
theorem SS.used_false {s : SS} {i : Int} (h : ¬ s.has i) : s.used i = false := by unfold SS.used; rw [decide_eq_false h, Bool.false_and]
theorem sused_any (q p : Nat) (U : List Nat) (s : SS) (i : Int) (w : World) (h : SlotsAt w q p U s) : Calls Tryz.prog 93 #[.pointer (some ⟨q, 0, none⟩), .int .i64 i] w fun e w' => e = .returned (.bool (s.used i)) /\ w = w' := by
 have CH := LH (shas_any q p U s i w h)
 by_cases hi : s.has i
 ·rw [decide_eq_true hi] at CH
  obtain ⟨S, rv, R, H⟩ := h
  obtain ⟨h0, h1⟩ := hi
  obtain ⟨j, rfl⟩ := Int.eq_ofNat_of_zero_le h0
  obtain ⟨g, cap, kv, hrv, hcap, hcm, hR, k0, k1, k2, k3, k4⟩ := H.at j (by omega)
  have c2 := blk_cell H.obj.head 2 _ rfl
  subst hrv
  have HX : Hid (s.used (j : Int) = (s.rows.getD j noRow).used) := LH (by rw [SS.used_true ⟨h0, h1⟩]; rfl)
  rw [HX.out]
  generalize s.rows.getD j noRow = r at *
  generalize s.rows.length = n at *
  have hjz : (j : Int) < (n : Int) := h1
  have hjz1 : (j : Int).toNat = j := by omega
  clear H hR k3 k4
  go_enter Tryz.func93, Tryz.ntmps93
  go_wp2_with (go_at_call 129; refine CH.out.mono ?_; rintro e w' ⟨rfl, hq⟩; subst hq)
  go_ret
  exact ⟨rfl, rfl⟩
 ·rw [decide_eq_false hi] at CH
  rw [SS.used_false hi]
  clear hi h
  go_enter Tryz.func93, Tryz.ntmps93
  go_wp2_with (go_at_call 129; refine CH.out.mono ?_; rintro e w' ⟨rfl, hq⟩; subst hq)
  go_ret
  exact ⟨rfl, rfl⟩
theorem skey_any (q p : Nat) (U : List Nat) (s : SS) (i : Int) (w : World) (h : SlotsAt w q p U s) : Calls Tryz.prog 95 #[.pointer (some ⟨q, 0, none⟩), .int .i64 i] w fun e w' => (∃ v, e = .returned v /\ BRow w' v (s.key i)) /\ Chg [] w w' := by
 have CU := LH (sused_any q p U s i w h)
 by_cases hu : s.used i = true
 ·have hi : s.has i := by
   by_cases hi : s.has i
   ·exact hi
   ·rw [SS.used_false hi] at hu; cases hu
  have hk : s.key i = (s.row i).key := by unfold SS.key; rw [if_pos hu]
  rw [hu] at CU
  obtain ⟨S, rv, R, H⟩ := h
  obtain ⟨h0, h1⟩ := hi
  obtain ⟨j, rfl⟩ := Int.eq_ofNat_of_zero_le h0
  obtain ⟨g, cap, kv, hrv, hcap, hcm, hR, k0, k1, k2, k3, k4⟩ := H.at j (by omega)
  have c2 := blk_cell H.obj.head 2 _ rfl
  subst hrv
  have hkl : (s.rows.getD j noRow).key.length <= 40 := by
   rw [List.getD_eq_getElem?_getD, List.getElem?_eq_getElem (show j < s.rows.length by omega)]
   exact (H.ok.rows _ (List.getElem_mem _)).2
  have CC := LH (clone_any kv _ w k3 (by omega))
  have HX : Hid (s.key (j : Int) = (s.rows.getD j noRow).key) := LH (by rw [hk]; rfl)
  rw [HX.out]
  generalize s.rows.getD j noRow = r at *
  generalize s.rows.length = n at *
  have hjz : (j : Int) < (n : Int) := h1
  have hjz1 : (j : Int).toNat = j := by omega
  obtain ⟨ak, ck, hkv⟩ := k3.slice
  subst hkv
  clear H hR k3 k4 hu hk hkl
  go_enter Tryz.func95, Tryz.ntmps95
  go_wp2_with (go_at_call 93; refine CU.out.mono ?_; rintro e w' ⟨rfl, hq⟩; subst hq)
  refine CC.out.mono ?_
  rintro e w1 ⟨v1, rfl, hr, hn, hc⟩
  have HR := LH (And.intro hr hc)
  clear hr hn hc CC
  go_wp2
  go_ret
  exact ⟨⟨_, rfl, HR.out.1⟩, HR.out.2⟩
 ·have hu' : s.used i = false := by simpa using hu
  have hk : s.key i = [] := by unfold SS.key; rw [if_neg hu]
  rw [hu'] at CU
  rw [hk]
  clear hu hu' hk h
  go_enter Tryz.func95, Tryz.ntmps95
  go_wp2_with (go_at_call 93; refine CU.out.mono ?_; rintro e w' ⟨rfl, hq⟩; subst hq)
  go_ret
  exact ⟨⟨_, rfl, BRow.nil _⟩, Chg.refl _ _⟩
theorem rowFree_cons (r : SRow) (l : List SRow) (k : Nat) : rowFree (r :: l) k = if r.used = false then (k : Int) else rowFree l (k + 1) := rfl
theorem rowFree_drop (l : List SRow) (k : Nat) (hk : k <= l.length) (h : ∀ q, q < k -> (l.getD q noRow).used = true) : ∀ j, rowFree l j = rowFree (l.drop k) (j + k) := by
 induction l generalizing k with
 | nil => intro j; simp at hk; subst hk; rfl
 | cons r l ih =>
  intro j
  cases k with
  | zero => rfl
  | succ k =>
   have h0 := h 0 (by omega)
   simp at h0
   rw [List.drop_succ_cons, rowFree_cons, if_neg (by simp [h0]), ih k (by simpa using hk) (fun q hq => by simpa using h (q + 1) (by omega)) (j + 1), show j + 1 + k = j + (k + 1) by omega]
theorem sfree_any (q p : Nat) (U : List Nat) (s : SS) (w : World) (h : SlotsAt w q p U s) : Calls Tryz.prog 103 #[.pointer (some ⟨q, 0, none⟩)] w fun e w' => e = .returned (.int .i64 s.free) /\ w = w' := by
 have CC := LH (scount_any q p U s w h)
 obtain ⟨S, rv, R, H⟩ := h
 have HH := LH H
 obtain ⟨a, cap0, hrv, hcap⟩ := H.form
 have c2 := blk_cell H.obj.head 2 _ rfl
 have hfew := H.few
 obtain ⟨n, hn⟩ : ∃ n, n = s.rows.length := ⟨_, rfl⟩
 rw [<- hn] at CC hrv hcap
 have HN := LH hn
 have HRV := LH hrv
 subst hrv
 have hnf : n <= 1000 := by omega
 clear H hfew hn
 go_enter Tryz.func103, Tryz.ntmps103
 go_wp2_with (go_at_call 92; refine CC.out.mono ?_; rintro e w' ⟨rfl, hq⟩; subst hq)
 go_loop [6] (fun i => ∃ k : Nat, k <= n /\ i = .int .i64 k /\ Hid (∀ x, x < k -> (s.rows.getD x noRow).used = true)) (fun i => n - (intOf i).toNat)
 case atStart => exact ⟨0, Nat.zero_le _, rfl, LH (fun q hq => absurd hq (by omega))⟩
 case round =>
  obtain ⟨k, hk, rfl, HZ⟩ := hrel
  by_cases hlt : k < n
  ·obtain ⟨g, cap, kv, hrv2, hcap2, hcm, hR, k0, k1, k2, k3, k4⟩ := HH.out.at k (by rw [<- HN.out]; exact hlt)
   have hF := rowFree_drop s.rows k (by rw [<- HN.out]; omega) HZ.out 0
   rw [List.drop_eq_getElem_cons (by rw [<- HN.out]; exact hlt)] at hF
   have hge : s.rows.getD k noRow = s.rows[k]'(by rw [<- HN.out]; exact hlt) := by rw [List.getD_eq_getElem?_getD, List.getElem?_eq_getElem]; rfl
   rw [<- hge] at hF
   have HRK : Hid (s.rows.getD k noRow = s.rows.getD k noRow) := LH rfl
   rw [<- HN.out] at hrv2
   obtain ⟨rfl, rfl⟩ : a = some ⟨g, 0, none⟩ /\ cap0 = cap := by
    have := Value.slice.inj hrv2
    exact ⟨this.1, this.2.2⟩
   have hkz : (k : Int) < (n : Int) := by omega
   have hkz1 : (k : Int).toNat = k := by omega
   have hu : ∃ u, u = (s.rows.getD k noRow).used := ⟨_, rfl⟩
   obtain ⟨u, hu⟩ := hu
   rw [<- hu] at k0
   have HU := LH hu
   have HF := LH hF
   clear hu hF hge hrv2 hR k1 k2 k3 k4
   cases u
   ·have HX : Hid (s.free = (k : Int)) := LH (by
     unfold SS.free
     rw [HF.out, rowFree_cons]
     rw [if_pos HU.out.symm]
     simp)
    go_wp2
    go_ret
    exact ⟨by rw [HX.out]; rfl, rfl⟩
   ·have HZ1 : Hid (∀ x, x < k + 1 -> (s.rows.getD x noRow).used = true) := LH (fun x hx => by
     rcases Nat.lt_or_ge x k with h | h
     ·exact HZ.out x h
     ·obtain rfl : x = k := by omega
      exact HU.out.symm)
    go_wp2
    go_round
    case rel => exact ⟨k + 1, by omega, by go_num, HZ1⟩
    case measure => simp [intOf]; omega
  ·have hkn : k = n := by omega
   have HX : Hid (s.free = -1) := LH (by
    unfold SS.free
    rw [rowFree_drop s.rows k (by rw [hkn, HN.out]; exact Nat.le_refl _) HZ.out 0, List.drop_of_length_le (by rw [hkn, HN.out]; exact Nat.le_refl _)]
    rfl)
   clear hkn
   go_wp2
   go_ret
   exact ⟨by rw [HX.out]; rfl, rfl⟩
theorem bytes_string (w : World) (v : Value) (l : List UInt8) (h : BytesAt w v l) : (convert 22 9 v).run Tryz.prog w = .ok (.string ⟨l.toArray⟩) w := by
 obtain ⟨a, cap, rfl, h1, h2, h3⟩ := h
 rcases h3 with ⟨rfl, rfl⟩ | ⟨g, o, rfl, hc⟩
 ·cases a with
  | none => exact run_convert_bytes_nil w 22 5 Tryz.underlying22 Tryz.underlying5 _ _ 9 Tryz.underlying9
  | some a => exact run_convert_bytes_back w 22 9 5 a 0 [] Tryz.underlying22 Tryz.underlying5 Tryz.underlying9 (fun j hj => absurd hj (by simp))
 ·refine run_convert_bytes_back w 22 9 5 ⟨g, o, none⟩ cap l Tryz.underlying22 Tryz.underlying5 Tryz.underlying9 (fun j hj => ?_)
  rw [add_none, hc j hj, List.getD_eq_getElem?_getD, List.getElem?_eq_getElem hj]
  rfl
theorem equal_any (u v : Value) (l m : List UInt8) (w : World) (hu : BytesAt w u l) (hv : BytesAt w v m) :
  Calls Tryz.prog 102 #[u, v] w fun e w' => e = .returned (.bool (decide (l = m))) /\ w = w' := by
 have h1 := bytes_string w u l hu
 have h2 := bytes_string w v m hv
 clear hu hv
 go_enter Tryz.func102, Tryz.ntmps102
 go_wp2
 go_ret
 exact ⟨ret_bool (show (l == m) = decide (l = m) by rw [Bool.eq_iff_iff]; simp), rfl⟩
end Go.Proofs.YtnbhanmpmjjkkaaGreatDoor.W
