/- SlotKnown: the walk. -/
import Derived.Test.YtipfgghdoicdhaaDoorL2
namespace Go.Proofs.YtipfgghdoicdhaaDoor.W
open Go.RowKit
set_option linter.unusedVariables false
set_option linter.unusedSimpArgs false

/-- Slots that have come about since w0. -/
def Since (w0 w : World) (q p : Nat) (U : List Nat) (s : SS) : Prop := SlotsAt w q p U s ∧ (∀ x ∈ U, w0.heap.size ≤ x) ∧ Chg [] w0 w
theorem Since.keep {w0 w w' : World} {q p : Nat} {U : List Nat} {s : SS} (h : Since w0 w q p U s) (hc : Chg [] w w') : Since w0 w' q p U s := ⟨h.1.keep0 hc, h.2.1, h.2.2.trans hc (by simp)⟩
theorem Since.sid {w0 w w' : World} {q p : Nat} {U : List Nat} {s s' : SS} (h : Since w0 w q p U s) (hs : Sid w w' q p U s') : ∃ U', Since w0 w' q p U' s' := by
  obtain ⟨U', h1, h2, h3⟩ := hs
  refine ⟨U', h1, fun x hx => ?_, h.2.2.trans h3 (fun x hx => .inr (h.2.1 x hx))⟩
  rcases h2 x hx with h4 | h4
  · exact h.2.1 x h4
  · exact Nat.le_trans h.2.2.size h4
theorem Since.fresh {w0 w : World} {q p : Nat} {U : List Nat} {s : SS} (h : Since w0 w q p U s) {k : Nat} (hk : w.heap.size ≤ k) : k ∉ U := fun hm => by
  have := h.1.own k hm
  omega

set_option maxHeartbeats 8000000 in
set_option maxRecDepth 100000 in
theorem known_any (w : World) : Calls Tryd.prog 4 #[] w fun e w' => e = .returned (.bool true) ∧ Chg [] w w' := by
  have CA := Lib.hid (awake_any w)
  go_enter Tryd.func4, Tryd.ntmps4
  go_wp2_with fail
  refine CA.out.mono ?_
  rintro e w0 ⟨rfl, hc0⟩
  have HC0 := Lib.hid hc0
  have CN := Lib.hid (dnew_any 17 w0 (by omega) (by omega))
  clear hc0 CA
  go_wp2_with fail
  refine CN.out.mono ?_
  rintro e w1 ⟨p, S, rfl, hd1, hS1, hc1⟩
  have CO := Lib.hid (sopen_any p S _ 1 w1 hd1)
  rw [ws0_open] at CO
  have HD1 := Lib.hid hd1
  have HC1 := Lib.hid hc1
  have HS1 := Lib.hid hS1
  clear hd1 hS1 hc1 CN
  go_wp2_with fail
  refine CO.out.mono ?_
  rintro e w2 ⟨hc2, q, U, rfl, hs2, hU2⟩
  have H2 : Hid (Since w0 w2 q p U ws0) := Lib.hid ⟨hs2, fun x hx => by
    rcases hU2 x hx with h | h
    · exact HS1.out x h
    · have := HC1.out.size; omega, HC1.out.trans hc2 (by simp)⟩
  have HD2 := Lib.hid (HD1.out.keep hc2 (by simp))
  have CZ := Lib.hid (sopen_nil 1 w2)
  clear hs2 hU2 hc2 CO HS1
  go_wp2_with fail
  refine CZ.out.mono ?_
  rintro e w3 ⟨rfl, hc3⟩
  have H3 := Lib.hid (H2.out.keep hc3)
  have CF := Lib.hid (sopen_any p S _ 18 w3 (HD2.out.keep hc3 (by simp)))
  rw [d17_far] at CF
  clear hc3 CZ
  go_wp2_with fail
  refine CF.out.mono ?_
  rintro e w4 ⟨hc4, he⟩
  dsimp only at he
  subst he
  have H4 := Lib.hid (H3.out.keep hc4)
  have hcz : Chg [] w4 (w4.alloc (.cells Z41 5)) := (Chg.refl _ _).alloc _
  have H4a := Lib.hid (H4.out.keep hcz)
  have C1 := Lib.hid (sput_any q p U ws0 0 _ (.slice none 0 0) (zeros 41) [] _ H4a.out.1 (z41_bytes w4) (fun k hk => by
    obtain rfl : w4.heap.size = k := by simpa [Value.ownBlock] using hk
    exact ⟨H4.out.fresh (Nat.le_refl _), by simp⟩) (BytesAt.nil _) (by simp [Value.ownBlock]) (by decide) (by decide) (by decide) (by decide))
  rw [ws0_long] at C1
  have hmk := make_41
  clear hc4 CF hcz
  go_wp2_with fail
  refine C1.out.mono ?_
  rintro e w5 ⟨rfl, hs5⟩
  obtain ⟨U5, H5⟩ := H4a.out.sid hs5
  have C2 := Lib.hid (sput_any q p U5 ws0 2 (.slice none 0 0) (.slice none 0 0) [] [] _ H5.1 (BytesAt.nil _) (by simp [Value.ownBlock]) (BytesAt.nil _) (by simp [Value.ownBlock]) (by decide) (by decide) (by decide) (by decide))
  rw [ws0_none] at C2
  have HH5 := Lib.hid H5
  clear H5 hs5 C1
  go_wp2_with fail
  refine C2.out.mono ?_
  rintro e w6 ⟨rfl, hs6⟩
  obtain ⟨U6, H6⟩ := HH5.out.sid hs6
  have CG := Lib.hid (sget_any q p U6 ws0 0 _ H6.1)
  rw [ws0_get] at CG
  have HH6 := Lib.hid H6
  clear H6 hs6 C2
  go_wp2_with fail
  refine CG.out.mono ?_
  rintro e w7 ⟨⟨v7, rfl, hb7, ho7⟩, hc7⟩
  have H7 := Lib.hid (HH6.out.keep hc7)
  have C3 := Lib.hid (sput_any q p U6 ws0 1 _ (.slice none 0 0) [1] [] _ (H7.out.keep ((Chg.refl [] w7).alloc (.cells #[bv 1] 5))).1 (one_bytes w7 1) (fun k hk => by
    obtain rfl : w7.heap.size = k := by simpa [Value.ownBlock] using hk
    exact ⟨H7.out.fresh (Nat.le_refl _), by simp⟩) (BytesAt.nil _) (by simp [Value.ownBlock]) (by decide) (by decide) (by decide) (by decide))
  rw [ks1_put] at C3
  have H7a := Lib.hid (H7.out.keep ((Chg.refl [] w7).alloc (.cells #[bv 1] 5)))
  obtain ⟨a7, c7, rfl⟩ := hb7.slice
  clear hb7 ho7 hc7 CG
  go_wp2_with fail
  refine C3.out.mono ?_
  rintro e w8 ⟨rfl, hs8⟩
  obtain ⟨U8, H8⟩ := H7a.out.sid hs8
  have HH8 := Lib.hid H8
  have H8a := Lib.hid (H8.keep ((Chg.refl [] w8).alloc (.cells #[bv 2] 5)))
  have C4 := Lib.hid (sput_any q p U8 ks1 1 _ (.slice none 0 0) [2] [] _ H8a.out.1 (one_bytes w8 2) (fun k hk => by
    obtain rfl : w8.heap.size = k := by simpa [Value.ownBlock] using hk
    exact ⟨HH8.out.fresh (Nat.le_refl _), by simp⟩) (BytesAt.nil _) (by simp [Value.ownBlock]) (by decide) (by decide) ks1_ops.1 ks1_ops.2)
  rw [ks1_there] at C4
  clear H8 hs8 C3
  go_wp2_with fail
  refine C4.out.mono ?_
  rintro e w9 ⟨rfl, hs9⟩
  obtain ⟨U9, H9⟩ := H8a.out.sid hs9
  have C5 := Lib.hid (sclear_any q p U9 ks1 1 _ H9.1 ks1_ops.1 ks1_ops.2)
  rw [ks2_clear] at C5
  have HH9 := Lib.hid H9
  clear H9 hs9 C4
  go_wp2_with fail
  refine C5.out.mono ?_
  rintro e w10 ⟨rfl, hs10⟩
  obtain ⟨U10, H10⟩ := HH9.out.sid hs10
  have C6 := Lib.hid (sfree_any q p U10 ks2 _ H10.1)
  rw [ks2_free] at C6
  have HH10 := Lib.hid H10
  clear H10 hs10 C5
  go_wp2_with fail
  refine C6.out.mono ?_
  rintro e w' ⟨rfl, hq⟩
  subst hq
  go_wp2
  go_ret
  exact ⟨rfl, HC0.out.trans HH10.out.2.2 (by simp)⟩
end Go.Proofs.YtipfgghdoicdhaaDoor.W
