/- The law's awake: the walk. -/
import Derived.Test.YtipfgghdoicdhaaDoorS10
import Derived.Test.YtipfgghdoicdhaaDoorSame
import Derived.Test.YtipfgghdoicdhaaDoorDNew
namespace Go.Proofs.YtipfgghdoicdhaaDoor.W
open Go.RowKit
set_option linter.unusedVariables false
set_option linter.unusedSimpArgs false

def ws0 : SS := ⟨DS.new 17, 1, [noRow, noRow]⟩
def ws1 : SS := (ws0.put 0 [7] [1, 2]).2
theorem ws0_open : (DS.new 17).slots 1 = (0, some ws0) := by rfl
theorem ws1_put : (ws0.put 0 [7] [1, 2]).1 = 0 := by kernel_rfl
theorem ws1_get : ws1.get 0 = ([1, 2], 0) := by kernel_rfl
theorem ws1_find : ws1.find [7] = 0 := by kernel_rfl
theorem ws1_free : ws1.free = 1 := by kernel_rfl
end Go.Proofs.YtipfgghdoicdhaaDoor.W
namespace Go.Proofs.YtipfgghdoicdhaaDoor.W
open Go.RowKit
set_option linter.unusedVariables false
set_option linter.unusedSimpArgs false

theorem SlotsAt.own {w : World} {q p : Nat} {U : List Nat} {s : SS} (h : SlotsAt w q p U s) : ∀ x ∈ U, x < w.heap.size := by
  obtain ⟨S, rv, R, H⟩ := h
  exact H.uL
theorem one_bytes (w : World) (a : UInt8) : BytesAt (w.alloc (.cells #[bv a] 5)) (.slice (some ⟨w.heap.size, 0, none⟩) 1 1) [a] :=
  (row_of_block (l := [a]) (heap_alloc_new w _) (by unfold maxLen; simp)).bytes
theorem two_bytes (w : World) (a b : UInt8) : BytesAt (w.alloc (.cells #[bv a, bv b] 5)) (.slice (some ⟨w.heap.size, 0, none⟩) 2 2) [a, b] :=
  (row_of_block (l := [a, b]) (heap_alloc_new w _) (by unfold maxLen; simp)).bytes

set_option maxHeartbeats 8000000 in
set_option maxRecDepth 100000 in
theorem awake_any (w : World) : Calls Tryd.prog 9 #[] w fun e w' => e = .returned (.bool true) ∧ Chg [] w w' := by
  have CN := Lib.hid (dnew_any 17 w (by omega) (by omega))
  go_enter Tryd.func9, Tryd.ntmps9
  go_wp2_with fail
  refine CN.out.mono ?_
  rintro e w1 ⟨p, S, rfl, hd1, hS1, hc1⟩
  have CO := Lib.hid (sopen_any p S _ 1 w1 hd1)
  rw [ws0_open] at CO
  have HC1 := Lib.hid hc1
  have HS1 := Lib.hid hS1
  clear hd1 hS1 hc1 CN
  go_wp2_with fail
  refine CO.out.mono ?_
  rintro e w2 ⟨hc2, q, U, rfl, hs2, hU2⟩
  have HC2 := Lib.hid (HC1.out.trans hc2 (by simp))
  have HU2 : Hid (∀ x ∈ U, w.heap.size ≤ x ∧ x < w2.heap.size) := Lib.hid (fun x hx => ⟨by
    rcases hU2 x hx with h | h
    · exact HS1.out x h
    · have := HC1.out.size; omega, hs2.own x hx⟩)
  have HS2 := Lib.hid hs2
  have CC := Lib.hid (scount_any q p U ws0 w2 hs2)
  rw [show ws0.rows.length = 2 from rfl] at CC
  clear hs2 hU2 hc2 CO HS1
  go_wp2_with (go_at_call 22; refine CC.out.mono ?_; rintro e w' ⟨rfl, hq⟩; subst hq)
  have hA := one_bytes w2 7
  have hcA : Chg [] w2 (w2.alloc (.cells #[bv 7] 5)) := (Chg.refl _ _).alloc _
  have hB := two_bytes (w2.alloc (.cells #[bv 7] 5)) 1 2
  have hsz : (w2.alloc (.cells #[bv 7] 5)).heap.size = w2.heap.size + 1 := by simp
  rw [hsz] at hB
  have hA := hA.chg ((Chg.refl [] (w2.alloc (.cells #[bv 7] 5))).alloc (.cells #[bv 1, bv 2] 5)) (by simp)
  have hcB := hcA.alloc (.cells #[bv 1, bv 2] 5)
  have CP := Lib.hid (sput_any q p U ws0 0 _ _ [7] [1, 2] _ (HS2.out.keep0 hcB) hA (fun _ k hk => by
    obtain rfl : w2.heap.size = k := by simpa [Value.ownBlock] using hk
    intro hm
    have := (HU2.out _ hm).2
    omega) hB (fun _ k hk => by
    obtain rfl : w2.heap.size + 1 = k := by simpa [Value.ownBlock] using hk
    intro hm
    have := (HU2.out _ hm).2
    omega) (by decide) (by decide) (by decide) (by decide))
  have HCB := Lib.hid (HC2.out.trans hcB (by simp))
  clear hA hcA hB hsz hcB CC
  refine CP.out.mono ?_
  rintro e w3 ⟨he, hs3⟩
  rw [ws1_put] at he
  subst he
  obtain ⟨U3, hs3, hU3, hc3⟩ := hs3
  have hs3 : SlotsAt w3 q p U3 ws1 := hs3
  have HC3 : Hid (Chg [] w w3) := Lib.hid (HCB.out.trans hc3 (fun x hx => .inr (HU2.out x hx).1))
  have CG := Lib.hid (sget_any q p U3 ws1 0 w3 hs3)
  rw [ws1_get] at CG
  have HS3 := Lib.hid hs3
  clear hs3 hU3 hc3 CP
  go_wp2_with fail
  refine CG.out.mono ?_
  rintro e w4 ⟨⟨v4, rfl, hb4, ho4⟩, hc4⟩
  have HC4 := Lib.hid (HC3.out.trans hc4 (by simp))
  have HS4 := Lib.hid (HS3.out.keep0 hc4)
  have hsz : (w4.alloc (.cells #[bv 1, bv 2] 5)).heap.size = w4.heap.size + 1 := by simp
  have hc5 : Chg [] w4 (w4.alloc (.cells #[bv 1, bv 2] 5)) := (Chg.refl _ _).alloc _
  have CS := Lib.hid (same_any v4 _ [1, 2] [1, 2] _ (hb4.chg hc5 (by simp)) (two_bytes w4 1 2) (by decide) (by decide))
  rw [decide_eq_true rfl] at CS
  obtain ⟨a4, c4, rfl⟩ := hb4.slice
  have HC5 := Lib.hid hc5
  have hone : ∀ n, ((w4.alloc (.cells #[bv 1, bv 2] 5)).drewN n).heap.size = w4.heap.size + 1 := fun n => hsz
  clear hb4 ho4 hc4 CG hc5
  go_wp2_with fail
  refine CS.out.mono ?_
  rintro e w5 ⟨rfl, n, hw5⟩
  have hc5 : Chg [] w4 w5 := by rw [hw5]; exact HC5.out.drewN n
  have HC6 := Lib.hid (HC4.out.trans hc5 (by simp))
  have HS5 := Lib.hid (HS4.out.keep0 hc5)
  have CF := Lib.hid (sfind_any q p U3 ws1 _ [7] _ (HS5.out.keep0 ((Chg.refl [] w5).alloc (.cells #[bv 7] 5))) (one_bytes w5 7))
  have CR := Lib.hid (sfree_any q p U3 ws1 _ (HS5.out.keep0 ((Chg.refl [] w5).alloc (.cells #[bv 7] 5))))
  rw [ws1_find] at CF
  rw [ws1_free] at CR
  clear hw5 hc5 CS hone hsz
  go_wp2_with fail
  refine CF.out.mono ?_
  rintro e w' ⟨rfl, hq⟩
  subst hq
  go_wp2_with fail
  refine CR.out.mono ?_
  rintro e w' ⟨rfl, hq⟩
  subst hq
  go_wp2
  go_ret
  exact ⟨rfl, HC6.out.alloc _⟩
end Go.Proofs.YtipfgghdoicdhaaDoor.W
