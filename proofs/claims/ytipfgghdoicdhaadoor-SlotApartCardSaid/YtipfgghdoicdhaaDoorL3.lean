/- SlotKnown: the walk. -/
import Derived.Test.YtipfgghdoicdhaaDoorL1
namespace Go.Proofs.YtipfgghdoicdhaaDoor.W
open Go.RowKit
set_option linter.unusedVariables false
set_option linter.unusedSimpArgs false

set_option maxHeartbeats 8000000 in
set_option maxRecDepth 100000 in
/-- Open, of no disk. -/
theorem sopen_nil (first : Int) (w : World) :
    Calls Tryd.prog 14 #[.pointer none, .int .i64 first] w fun e w' => e = .returned (.tuple #[.pointer none, .int .i64 1]) ∧ Chg [] w w' := by
  go_enter_defers Tryd.func14, Tryd.ntmps14
  go_wp2_with fail
  exact ⟨.tuple #[.pointer none, .int .i64 1], by simp [results, Tryd.results14, go_sem], rfl, ((Chg.refl _ _).alloc _).alloc _⟩

def Z41 : Array Value := (bvs (zeros 41)).toArray
theorem make_41 (w : World) : (Instr.makeSlice 31 (.int .i64 41) (.int .i64 41)).run Tryd.prog w = .ok (.slice (some ⟨w.heap.size, 0, none⟩) 41 41) (w.alloc (.cells Z41 5)) := by
  obtain ⟨i, hi, h1, h2, h3⟩ := info_parts facts_u8
  have h := run_make (P := Tryd.prog) w 31 5 i _ Tryd.underlying31 hi h1 .i64 .i64 41 41 (by omega) (Int.le_refl _) (by rw [h3]; omega) (by omega)
  rw [h2] at h
  have hz : madeCells (Value.int .u8 0).cells ((41 : Int).toNat * 1) = Z41 := by kernel_rfl
  rw [hz] at h
  exact h
theorem z41_bytes (w : World) : BytesAt (w.alloc (.cells Z41 5)) (.slice (some ⟨w.heap.size, 0, none⟩) 41 41) (zeros 41) :=
  (row_of_block (l := zeros 41) (heap_alloc_new w _) (by decide)).bytes
theorem pair_of {α β : Type} {x : α × β} {a : α} (h : x.1 = a) : x = (a, x.2) := by subst h; rfl
theorem ws0_long : ws0.put 0 (zeros 41) [] = (3, ws0) := by rfl
theorem ws0_none : ws0.put 2 [] [] = (1, ws0) := by rfl
theorem ws0_get : ws0.get 0 = ([], 6) := by rfl
def ks1 : SS := (ws0.put 1 [1] []).2
theorem ks1_put : ws0.put 1 [1] [] = (0, ks1) := pair_of (by kernel_rfl)
theorem ks1_there : ks1.put 1 [2] [] = (7, ks1) := by
  have h : (ks1.row 1).used = true := by kernel_rfl
  unfold SS.put
  have hl : ks1.rows.length = 2 := by kernel_rfl
  rw [if_neg (by unfold SS.has; rw [hl]; decide), if_neg (by decide), if_pos h]
def ks2 : SS := (ks1.clear 1).2
theorem ks2_clear : ks1.clear 1 = (0, ks2) := pair_of (by kernel_rfl)
theorem ks2_free : ks2.free = 0 := by kernel_rfl
theorem d17_far : (DS.new 17).slots 18 = (1, none) := by rfl
theorem ks1_ops : ks1.d.ops ≤ 900000000 ∧ ks1.d.since.length ≤ 900000 := by
  refine ⟨Nat.le_of_ble_eq_true (by kernel_rfl), Nat.le_of_ble_eq_true (by kernel_rfl)⟩
end Go.Proofs.YtipfgghdoicdhaaDoor.W
namespace Go.Proofs.YtipfgghdoicdhaaDoor.W
open Go.RowKit
set_option linter.unusedVariables false
set_option linter.unusedSimpArgs false

/-- Slots that have come about since w0. -/
def Since (w0 w : World) (q p : Nat) (U : List Nat) (s : SS) : Prop := SlotsAt w q p U s ∧ (∀ x ∈ U, w0.heap.size ≤ x) ∧ Chg [] w0 w
theorem Since.keep {w0 w w' : World} {q p : Nat} {U : List Nat} {s : SS} (h : Since w0 w q p U s) (hc : Chg [] w w') : Since w0 w' q p U s := ⟨h.1.keep0 hc, h.2.1, h.2.2.trans hc (by simp)⟩
theorem Since.sid {w0 w w' : World} {q p : Nat} {U : List Nat} {s s' : SS} (h : Since w0 w q p U s) (hs : Sid w w' q p U s') : ∃ U', Since w0 w' q p U' s' := by
  obtain ⟨U', h1, h2, h3⟩ := hs
  refine ⟨U', h1, fun x hx => ?_, h.2.2.trans h3 (fun x hx => .inr (h.2.1 x hx))⟩
  rcases h2 x hx with h4 | h4
  · exact h.2.1 x h4
  · exact Nat.le_trans h.2.2.size h4
theorem Since.fresh {w0 w : World} {q p : Nat} {U : List Nat} {s : SS} (h : Since w0 w q p U s) {k : Nat} (hk : w.heap.size ≤ k) : k ∉ U := fun hm => by
  have := h.1.own k hm
  omega

set_option maxHeartbeats 8000000 in
set_option maxRecDepth 100000 in
theorem known_any (w : World) : Calls Tryd.prog 4 #[] w fun e w' => e = .returned (.bool true) ∧ Chg [] w w' := by
  have CA := Lib.hid (awake_any w)
  go_enter Tryd.func4, Tryd.ntmps4
  go_wp2_with fail
  refine CA.out.mono ?_
  rintro e w0 ⟨rfl, hc0⟩
  have HC0 := Lib.hid hc0
  have CN := Lib.hid (dnew_any 17 w0 (by omega) (by omega))
  clear hc0 CA
  go_wp2_with fail
  refine CN.out.mono ?_
  rintro e w1 ⟨p, S, rfl, hd1, hS1, hc1⟩
  have CO := Lib.hid (sopen_any p S _ 1 w1 hd1)
  rw [ws0_open] at CO
  have HD1 := Lib.hid hd1
  have HC1 := Lib.hid hc1
  have HS1 := Lib.hid hS1
  clear hd1 hS1 hc1 CN
  go_wp2_with fail
  refine CO.out.mono ?_
  rintro e w2 ⟨hc2, q, U, rfl, hs2, hU2⟩
  have H2 : Hid (Since w0 w2 q p U ws0) := Lib.hid ⟨hs2, fun x hx => by
    rcases hU2 x hx with h | h
    · exact HS1.out x h
    · have := HC1.out.size; omega, HC1.out.trans hc2 (by simp)⟩
  have HD2 := Lib.hid (HD1.out.keep hc2 (by simp))
  have CZ := Lib.hid (sopen_nil 1 w2)
  clear hs2 hU2 hc2 CO HS1
  go_wp2_with fail
  refine CZ.out.mono ?_
  rintro e w3 ⟨rfl, hc3⟩
  have H3 := Lib.hid (H2.out.keep hc3)
  have CF := Lib.hid (sopen_any p S _ 18 w3 (HD2.out.keep hc3 (by simp)))
  rw [d17_far] at CF
  clear hc3 CZ
  go_wp2_with fail
  refine CF.out.mono ?_
  rintro e w4 ⟨hc4, he⟩
  dsimp only at he
  subst he
  have H4 := Lib.hid (H3.out.keep hc4)
  have hcz : Chg [] w4 (w4.alloc (.cells Z41 5)) := (Chg.refl _ _).alloc _
  have H4a := Lib.hid (H4.out.keep hcz)
  have C1 := Lib.hid (sput_any q p U ws0 0 _ (.slice none 0 0) (zeros 41) [] _ H4a.out.1 (z41_bytes w4) (fun _ k hk => by
    obtain rfl : w4.heap.size = k := by simpa [Value.ownBlock] using hk
    exact H4.out.fresh (Nat.le_refl _)) (BytesAt.nil _) (by simp [Value.ownBlock]) (by decide) (by decide) (by decide) (by decide))
  rw [ws0_long] at C1
  have hmk := make_41
  clear hc4 CF hcz
  go_wp2_with fail
  refine C1.out.mono ?_
  rintro e w5 ⟨rfl, hs5⟩
  obtain ⟨U5, H5⟩ := H4a.out.sid hs5
  have C2 := Lib.hid (sput_any q p U5 ws0 2 (.slice none 0 0) (.slice none 0 0) [] [] _ H5.1 (BytesAt.nil _) (by simp [Value.ownBlock]) (BytesAt.nil _) (by simp [Value.ownBlock]) (by decide) (by decide) (by decide) (by decide))
  rw [ws0_none] at C2
  have HH5 := Lib.hid H5
  clear H5 hs5 C1
  go_wp2_with fail
  refine C2.out.mono ?_
  rintro e w6 ⟨rfl, hs6⟩
  obtain ⟨U6, H6⟩ := HH5.out.sid hs6
  have CG := Lib.hid (sget_any q p U6 ws0 0 _ H6.1)
  rw [ws0_get] at CG
  have HH6 := Lib.hid H6
  clear H6 hs6 C2
  go_wp2_with fail
  refine CG.out.mono ?_
  rintro e w7 ⟨⟨v7, rfl, hb7, ho7⟩, hc7⟩
  have H7 := Lib.hid (HH6.out.keep hc7)
  have C3 := Lib.hid (sput_any q p U6 ws0 1 _ (.slice none 0 0) [1] [] _ (H7.out.keep ((Chg.refl [] w7).alloc (.cells #[bv 1] 5))).1 (one_bytes w7 1) (fun _ k hk => by
    obtain rfl : w7.heap.size = k := by simpa [Value.ownBlock] using hk
    exact H7.out.fresh (Nat.le_refl _)) (BytesAt.nil _) (by simp [Value.ownBlock]) (by decide) (by decide) (by decide) (by decide))
  rw [ks1_put] at C3
  have H7a := Lib.hid (H7.out.keep ((Chg.refl [] w7).alloc (.cells #[bv 1] 5)))
  obtain ⟨a7, c7, rfl⟩ := hb7.slice
  clear hb7 ho7 hc7 CG
  go_wp2_with fail
  refine C3.out.mono ?_
  rintro e w8 ⟨rfl, hs8⟩
  obtain ⟨U8, H8⟩ := H7a.out.sid hs8
  have HH8 := Lib.hid H8
  have H8a := Lib.hid (H8.keep ((Chg.refl [] w8).alloc (.cells #[bv 2] 5)))
  have C4 := Lib.hid (sput_any q p U8 ks1 1 _ (.slice none 0 0) [2] [] _ H8a.out.1 (one_bytes w8 2) (fun _ k hk => by
    obtain rfl : w8.heap.size = k := by simpa [Value.ownBlock] using hk
    exact HH8.out.fresh (Nat.le_refl _)) (BytesAt.nil _) (by simp [Value.ownBlock]) (by decide) (by decide) ks1_ops.1 ks1_ops.2)
  rw [ks1_there] at C4
  clear H8 hs8 C3
  go_wp2_with fail
  refine C4.out.mono ?_
  rintro e w9 ⟨rfl, hs9⟩
  obtain ⟨U9, H9⟩ := H8a.out.sid hs9
  have C5 := Lib.hid (sclear_any q p U9 ks1 1 _ H9.1 ks1_ops.1 ks1_ops.2)
  rw [ks2_clear] at C5
  have HH9 := Lib.hid H9
  clear H9 hs9 C4
  go_wp2_with fail
  refine C5.out.mono ?_
  rintro e w10 ⟨rfl, hs10⟩
  obtain ⟨U10, H10⟩ := HH9.out.sid hs10
  have C6 := Lib.hid (sfree_any q p U10 ks2 _ H10.1)
  rw [ks2_free] at C6
  have HH10 := Lib.hid H10
  clear H10 hs10 C5
  go_wp2_with fail
  refine C6.out.mono ?_
  rintro e w' ⟨rfl, hq⟩
  subst hq
  go_wp2
  go_ret
  exact ⟨rfl, HC0.out.trans HH10.out.2.2 (by simp)⟩
end Go.Proofs.YtipfgghdoicdhaaDoor.W
