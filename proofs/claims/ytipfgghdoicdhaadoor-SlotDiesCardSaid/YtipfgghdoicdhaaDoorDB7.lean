/- Texts laid together. -/
import Derived.Test.YtipfgghdoicdhaaDoorDB6
/- SlotDies: the walk. -/
namespace Go.Proofs.YtipfgghdoicdhaaDoor.W
open Go.RowKit
set_option linter.unusedVariables false
set_option linter.unusedSimpArgs false

theorem i64_low7 (n : Nat) (h : n ≤ 255) : bits .and .i64 (n : Int) 127 = ((n % 128 : Nat) : Int) := by
  show IntKind.i64.wrap ((BitVec.ofInt 64 (n : Int) &&& BitVec.ofInt 64 ((127 : Nat) : Int)).toNat : Int) = _
  rw [BitVec.toNat_and, ofInt_i64 n (by omega), ofInt_i64 127 (by omega), show (127 : Nat) = 2 ^ 7 - 1 from rfl, Nat.and_two_pow_sub_one_eq_mod, IntKind.wrap_i64]
  omega

theorem slot5i (x : Int) : ∃ j : Nat, j < 5 ∧ (IntKind.i64.wrap (x.tmod 5 + 5)).tmod 5 = (j : Int) := by
  have h1 : x.tmod 5 < 5 := Int.tmod_lt_of_pos x (by omega)
  have h2 : -5 < x.tmod 5 := Int.lt_tmod_of_pos x (by omega)
  rw [IntWalk.i64_in _ ⟨by omega, by omega⟩]
  have h3 : (x.tmod 5 + 5).tmod 5 = (x.tmod 5 + 5) % 5 := Int.tmod_eq_emod_of_nonneg (by omega)
  rw [h3]
  exact ⟨((x.tmod 5 + 5) % 5).toNat, by omega, by omega⟩

set_option maxHeartbeats 16000000 in
set_option maxRecDepth 100000 in
theorem dies_any (a : Option Addr) (n cap : Nat) (f : Nat → Dd) (fn : Nat) (hfn : fn ≤ 255) (ca : Option Addr) (cc : Nat) (ch : List UInt8) (w : World) (h : DeedsAt w a n f) (hch : Came w (.slice ca ch.length cc) ch) (hcl : ch.length ≤ maxLen) :
    Calls Tryd.prog 6 #[.slice a n cap, .int .u8 (fn : Int), .slice ca ch.length cc] w fun e w' => e = .returned (.bool true) ∧ Chg [] w w' := by
  have CA := Lib.hid (awake_any w)
  have HD := Lib.hid h
  have HCH := Lib.hid hch
  unfold maxLen at hcl
  clear h hch
  go_enter Tryd.func6, Tryd.ntmps6
  go_wp2_with fail
  refine CA.out.mono ?_
  rintro e w0 ⟨rfl, hc0⟩
  have HC0 := Lib.hid hc0
  have CR := Lib.hid (room_any a n cap 40 f w0 (HD.out.keep hc0) (by omega))
  clear hc0 CA
  go_wp2_with fail
  refine CR.out.mono ?_
  rintro e w0' ⟨hroom, hq⟩
  subst hq
  rcases hroom with ⟨rfl, hfew⟩ | rfl
  rotate_left
  · go_wp2
    go_ret
    exact ⟨rfl, HC0.out⟩
  by_cases hc200 : ch.length ≤ 200
  rotate_left
  · have hz : (200 : Int) < (ch.length : Int) := by omega
    go_wp2
    go_ret
    exact ⟨rfl, HC0.out⟩
  have hz200 : ¬ (200 : Int) < (ch.length : Int) := by omega
  have HF := Lib.hid hfew
  have CN := Lib.hid (dnew_any 41 w0 (by omega) (by omega))
  clear hfew CR
  go_wp2_with fail
  refine CN.out.mono ?_
  rintro e w1 ⟨p, S, rfl, hd1, hS1, hc1⟩
  have CO := Lib.hid (sopen_any p S _ 1 w1 hd1)
  rw [as0_open] at CO
  have HC1 := Lib.hid hc1
  have HS1 := Lib.hid hS1
  clear hd1 hS1 hc1 CN
  go_wp2_with fail
  refine CO.out.mono ?_
  rintro e w2 ⟨hc2, q, U, rfl, hs2, hU2⟩
  have H2 : Hid (Since w w2 q p U as0) := Lib.hid ⟨hs2, fun x hx => by
    have a0 := HC0.out.size
    rcases hU2 x hx with h | h
    · have := HS1.out x h; omega
    · have := HC1.out.size; omega, (HC0.out.trans HC1.out (by simp)).trans hc2 (by simp)⟩
  have CF := Lib.hid (hs2.fuse ((fn % 128 : Nat) : Int) (by omega))
  have hband := i64_low7 fn hfn
  clear hs2 hU2 hc2 CO HS1
  go_wp2_with fail
  refine CF.out.mono ?_
  rintro e w3 ⟨rfl, hs3⟩
  obtain ⟨U3, H3⟩ := H2.out.sid hs3
  have HT0 := Lib.hid (as0_toldR ((fn % 128 : Nat) : Int))
  have HSH0 : Hid (ShapeR { as0 with d := as0.d.setFuse ((fn % 128 : Nat) : Int) } ∧ ({ as0 with d := as0.d.setFuse ((fn % 128 : Nat) : Int) } : SS).d.ops = 0) := Lib.hid ⟨⟨rfl, rfl, rfl⟩, rfl⟩
  generalize ({ as0 with d := as0.d.setFuse ((fn % 128 : Nat) : Int) } : SS) = s0 at *
  have CC := Lib.hid (fun w' (hc : Chg [] w3 w') => (scount_any q p U3 s0 w' (H3.1.keep0 hc)).mono (R' := fun e w'' => e = .returned (.int .i64 5) ∧ w' = w'') fun e w'' h => ⟨by rw [h.1, HSH0.out.1.2.1]; rfl, h.2⟩)
  have HH3 := Lib.hid H3
  have hm1 := make_5w
  have hm2 := make_5b
  clear H3 hs3 H2 CF hband
  go_wp2_with (first
    | (go_at_call 22; refine (CC.out _ (Chg.refl _ _)).mono ?_; rintro e w' ⟨rfl, hq⟩; subst hq)
    | (go_at_call 22; refine (CC.out _ ((Chg.refl _ _).alloc _)).mono ?_; rintro e w' ⟨rfl, hq⟩; subst hq))
  have HA : Hid (MemAt w (((w3.alloc (.cells (five fun _ => .slice none 0 0) 31)).alloc (.cells (five (bo fun _ => false)) 4)).alloc (.cells #[] 5)) q p w3.heap.size (w3.heap.size + 1) U3 s0 (fun _ => false) (fun _ => []) (fun _ => .slice none 0 0)) := Lib.hid (by
    have hfr := fun (k : Nat) (hk : w3.heap.size ≤ k) => HH3.out.fresh hk
    have hsz := HH3.out.2.2.size
    refine MemAt.keep (wr := (w3.alloc (.cells (five fun _ => .slice none 0 0) 31)).alloc (.cells (five (bo fun _ => false)) 4)) ⟨HH3.out.keep (((Chg.refl [] w3).alloc _).alloc _), blk_alloc (heap_alloc_new w3 _), ?_, ⟨hfr _ (by omega), hfr _ (by omega), by omega, by omega, by omega⟩, fun j hj => ⟨BytesAt.nil _, by simp⟩⟩ ((Chg.refl [] _).alloc _)
    have h1 := heap_alloc_new (w3.alloc (.cells (five fun _ => .slice none 0 0) 31)) (.cells (five (bo fun _ => false)) 4)
    simpa using h1)
  generalize ((w3.alloc (.cells (five fun _ => .slice none 0 0) 31)).alloc (.cells (five (bo fun _ => false)) 4)).alloc (.cells #[] 5) = w4 at *
  obtain ⟨g14, hg14⟩ : ∃ g14, g14 = w3.heap.size + 1 + 1 := ⟨_, rfl⟩
  rw [← hg14]
  obtain ⟨gu, hgu⟩ : ∃ gu, gu = w3.heap.size + 1 := ⟨_, rfl⟩
  rw [← hgu] at HA ⊢
  generalize w3.heap.size = gw at *
  clear hg14 hgu CC HH3 HC1 hm1 hm2
  go_loopg [13, 14, 15] n (fun g' s13 s14 s15 wr => ∃ (k : Nat) (U : List Nat) (s : SS) (u : Nat → Bool) (v : Nat → List UInt8) (vals : Nat → Value) (ix : Int) (a14 : Option Addr) (c14 : Nat) (pb : List UInt8), s13 = .int .i64 ix ∧ s14 = .slice a14 pb.length c14 ∧ s15 = .int .i64 k ∧ k ≤ n ∧ n ≤ k + g' ∧ Hid (MemAt w wr q p gw gu U s u v vals ∧ Came w (.slice a14 pb.length c14) pb ∧ Way s u v ix pb k))
  case atStart => exact ⟨0, U3, s0, _, _, _, -1, some ⟨g14, 0, none⟩, 0, [], rfl, rfl, rfl, by omega, by omega, Lib.hid ⟨HA.out, ⟨⟨_, _, rfl, by simp, by unfold maxLen; omega, .inl ⟨rfl, rfl⟩⟩, by simp⟩, Way.rest HT0.out HSH0.out.1 [] (by rw [HSH0.out.2]; omega)⟩⟩
  case round =>
    obtain ⟨k, U, s, u, v, vals, ix, a14, c14, pb, rfl, rfl, rfl, hk, hkg, HR⟩ := hrel
    clear HA HT0 HSH0
    by_cases hgo : k < n ∧ s.d.dead = false
    · obtain ⟨hlt, hdead⟩ := hgo
      obtain ⟨hT, hops, hix⟩ := HR.out.2.2.lives hdead
      subst hix
      have hkz : (k : Int) < (n : Int) := by omega
      have hkz1 : (k : Int).toNat = k := by omega
      obtain ⟨g, o, rfl, hdeed⟩ : ∃ g o, a = some ⟨g, o, none⟩ ∧ ∀ i, i < n → _ := HD.out.resolve_left (by omega)
      obtain ⟨d0, d1, d2, d3, d4, m3, m4, wf0, wf1, wf2⟩ := hdeed k hlt
      have hcr := HR.out.1.since.2.2
      have e0 := hcr.cell d0 (by simp)
      have e1 := hcr.cell d1 (by simp)
      have e3 := hcr.cell d3 (by simp)
      have e4 := hcr.cell d4 (by simp)
      have CD := Lib.hid HR.out.1.since.1.dead
      rw [hdead] at CD
      have CC := Lib.hid (fun w' (hc : Chg [] wr w') => (scount_any q p U s w' (HR.out.1.since.1.keep0 hc)).mono (R' := fun e w'' => e = .returned (.int .i64 5) ∧ w' = w'') fun e w'' h => ⟨by rw [h.1, HR.out.2.2.shape.2.1]; rfl, h.2⟩)
      go_wp2_with fail
      refine CD.out.mono ?_
      rintro e w' ⟨rfl, hq⟩
      subst hq
      go_wp2_with fail
      refine wp_region_L [(14, fun w' => w'.cell? ⟨g, o + k * 5 + 1, none⟩ = some (.int .i64 (f k).i))] (by kernel_rfl) ?_ (fun hHeld => ?_)
      · exact (HoldC.cons (e1) HoldC.nil)
      refine wpAnyL_take (i := 0) (oi := _) (v := ?_) rfl (by kernel_rfl) (by kernel_rfl) (by kernel_rfl) (by kernel_rfl) (by kernel_rfl) (fun _ _ _ h => h) (Or.inl ⟨by rfl, ?_⟩) (by assumption) (fun hNew => ?_)
      rotate_left
      · intro w _
        go_simp
        try with_reducible rfl
      clear hHeld
      have hHeld := hNew
      clear hNew
      try simp only [List.getElem_toArray, List.getElem_cons_succ, List.getElem_cons_zero, Act.put, List.setIfInBounds_toArray, List.set_cons_zero, List.set_cons_succ]
      refine wpAnyL_take (i := 1) (oi := _) (v := ?_) rfl (by kernel_rfl) (by kernel_rfl) (by kernel_rfl) (by kernel_rfl) (by kernel_rfl) (fun _ _ _ h => h) (Or.inl ⟨by rfl, ?_⟩) (by assumption) (fun hNew => ?_)
      rotate_left
      · intro w _
        go_simp
        try with_reducible rfl
      clear hHeld
      have hHeld := hNew
      clear hNew
      try simp only [List.getElem_toArray, List.getElem_cons_succ, List.getElem_cons_zero, Act.put, List.setIfInBounds_toArray, List.set_cons_zero, List.set_cons_succ]
      refine wpAnyL_take (i := 2) (oi := _) (v := ?_) rfl (by kernel_rfl) (by kernel_rfl) (by kernel_rfl) (by kernel_rfl) (by kernel_rfl) (fun _ _ _ h => h) (Or.inl ⟨by rfl, ?_⟩) (by assumption) (fun hNew => ?_)
      rotate_left
      · intro w _
        go_simp
        try with_reducible rfl
      clear hHeld
      have hHeld := hNew
      clear hNew
      try simp only [List.getElem_toArray, List.getElem_cons_succ, List.getElem_cons_zero, Act.put, List.setIfInBounds_toArray, List.set_cons_zero, List.set_cons_succ]
      refine wpAnyL_take (i := 3) (oi := _) (v := ?_) rfl (by kernel_rfl) (by kernel_rfl) (by kernel_rfl) (by kernel_rfl) (by kernel_rfl) (fun _ _ _ h => h) (Or.inl ⟨by rfl, ?_⟩) (by assumption) (fun hNew => ?_)
      rotate_left
      · intro w _
        go_simp
        try with_reducible rfl
      clear hHeld
      have hHeld := hNew
      clear hNew
      try simp only [List.getElem_toArray, List.getElem_cons_succ, List.getElem_cons_zero, Act.put, List.setIfInBounds_toArray, List.set_cons_zero, List.set_cons_succ]
      refine wpAnyL_take (i := 5) (oi := _) (v := ?_) rfl (by kernel_rfl) (by kernel_rfl) (by kernel_rfl) (by kernel_rfl) (by kernel_rfl) (fun _ _ _ h => h) (Or.inl ⟨by rfl, ?_⟩) (by assumption) (fun hNew => ?_)
      rotate_left
      · intro w _
        go_simp
        try with_reducible rfl
      clear hHeld
      have hHeld := hNew
      clear hNew
      try simp only [List.getElem_toArray, List.getElem_cons_succ, List.getElem_cons_zero, Act.put, List.setIfInBounds_toArray, List.set_cons_zero, List.set_cons_succ]
      refine wpAnyL_take (i := 8) (oi := _) (v := ?_) rfl (by kernel_rfl) (by kernel_rfl) (by kernel_rfl) (by kernel_rfl) (by kernel_rfl) (fun _ _ _ h => h) (Or.inl ⟨by rfl, ?_⟩) (by assumption) (fun hNew => ?_)
      rotate_left
      · intro w _
        go_simp
        try with_reducible rfl
      clear hHeld
      have hHeld := hNew
      clear hNew
      try simp only [List.getElem_toArray, List.getElem_cons_succ, List.getElem_cons_zero, Act.put, List.setIfInBounds_toArray, List.set_cons_zero, List.set_cons_succ]
      refine wpAnyL_take (i := 11) (oi := _) (v := ?_) rfl (by kernel_rfl) (by kernel_rfl) (by kernel_rfl) (by kernel_rfl) (by kernel_rfl) (fun _ _ _ h => h) (Or.inl ⟨by rfl, ?_⟩) (by assumption) (fun hNew => ?_)
      rotate_left
      · intro w _
        go_simp
        try with_reducible rfl
      clear hHeld
      have hHeld := hNew
      clear hNew
      try simp only [List.getElem_toArray, List.getElem_cons_succ, List.getElem_cons_zero, Act.put, List.setIfInBounds_toArray, List.set_cons_zero, List.set_cons_succ]
      refine wpAnyL_load 0 (i := 4) (oi := _) (v := ?_) rfl rfl (by kernel_rfl) (by kernel_rfl) (by kernel_rfl) (by kernel_rfl) (by kernel_rfl) (by kernel_rfl) (fun _ _ _ h => h) (Or.inl ⟨by rfl, ?_⟩) (by assumption) (fun hNew => ?_)
      rotate_left
      · intro w hSw
        (try dsimp only at hSw)
        go_simp
        try with_reducible rfl
      clear hHeld
      have hHeld := hNew
      clear hNew
      try simp only [List.getElem_toArray, List.getElem_cons_succ, List.getElem_cons_zero, Act.put, List.setIfInBounds_toArray, List.set_cons_zero, List.set_cons_succ]
      refine wpAnyL_ready (rs := [6]) (by kernel_rfl) (by simp) ?_
      refine AllReadyL.cons (o := _) rfl (fun K hK => ?_) AllReadyL.nil
      try simp only [List.getElem_toArray, List.getElem_cons_succ, List.getElem_cons_zero]
      go_simp
      refine (CC.out _ (by exact (Chg.refl [] wr).drew)).mono ?_
      rintro e w' ⟨rfl, hq⟩
      subst hq
      try go_wp2_with fail
      clear hHeld
      refine hK.out _ _ ?_ (fun hHeld => ?_)
      · exact (HoldC.cons (e1) HoldC.nil)
      clear hK K
      try simp only [List.getElem_toArray, List.getElem_cons_succ, List.getElem_cons_zero, Act.put, List.setIfInBounds_toArray, List.set_cons_zero, List.set_cons_succ]
      refine wpAnyL_take (i := 7) (oi := _) (v := ?_) rfl (by kernel_rfl) (by kernel_rfl) (by kernel_rfl) (by kernel_rfl) (by kernel_rfl) (fun _ _ _ h => h) (Or.inl ⟨by rfl, ?_⟩) (by assumption) (fun hNew => ?_)
      rotate_left
      · intro w _
        go_simp
        try with_reducible rfl
      clear hHeld
      have hHeld := hNew
      clear hNew
      try simp only [List.getElem_toArray, List.getElem_cons_succ, List.getElem_cons_zero, Act.put, List.setIfInBounds_toArray, List.set_cons_zero, List.set_cons_succ]
      refine wpAnyL_ready (rs := [9]) (by kernel_rfl) (by simp) ?_
      refine AllReadyL.cons (o := _) rfl (fun K hK => ?_) AllReadyL.nil
      try simp only [List.getElem_toArray, List.getElem_cons_succ, List.getElem_cons_zero]
      go_simp
      refine (CC.out _ (by exact (Chg.refl [] wr).drew)).mono ?_
      rintro e w' ⟨rfl, hq⟩
      subst hq
      try go_wp2_with fail
      clear hHeld
      refine hK.out _ _ ?_ (fun hHeld => ?_)
      · exact (HoldC.cons (e1) HoldC.nil)
      clear hK K
      try simp only [List.getElem_toArray, List.getElem_cons_succ, List.getElem_cons_zero, Act.put, List.setIfInBounds_toArray, List.set_cons_zero, List.set_cons_succ]
      refine wpAnyL_take (i := 10) (oi := _) (v := ?_) rfl (by kernel_rfl) (by kernel_rfl) (by kernel_rfl) (by kernel_rfl) (by kernel_rfl) (fun _ _ _ h => h) (Or.inl ⟨by rfl, ?_⟩) (by assumption) (fun hNew => ?_)
      rotate_left
      · intro w _
        go_simp
        try with_reducible rfl
      clear hHeld
      have hHeld := hNew
      clear hNew
      try simp only [List.getElem_toArray, List.getElem_cons_succ, List.getElem_cons_zero, Act.put, List.setIfInBounds_toArray, List.set_cons_zero, List.set_cons_succ]
      refine wpAnyL_ready (rs := [12]) (by kernel_rfl) (by simp) ?_
      refine AllReadyL.cons (o := _) rfl (fun K hK => ?_) AllReadyL.nil
      try simp only [List.getElem_toArray, List.getElem_cons_succ, List.getElem_cons_zero]
      go_simp
      refine (CC.out _ (by exact (Chg.refl [] wr).drew)).mono ?_
      rintro e w' ⟨rfl, hq⟩
      subst hq
      try go_wp2_with fail
      clear hHeld
      refine hK.out _ _ ?_ (fun hHeld => ?_)
      · exact (HoldC.cons (e1) HoldC.nil)
      clear hK K
      try simp only [List.getElem_toArray, List.getElem_cons_succ, List.getElem_cons_zero, Act.put, List.setIfInBounds_toArray, List.set_cons_zero, List.set_cons_succ]
      refine wpAnyL_take (i := 13) (oi := _) (v := ?_) rfl (by kernel_rfl) (by kernel_rfl) (by kernel_rfl) (by kernel_rfl) (by kernel_rfl) (fun _ _ _ h => h) (Or.inl ⟨by rfl, ?_⟩) (by assumption) (fun hNew => ?_)
      rotate_left
      · intro w _
        go_simp
        try with_reducible rfl
      clear hHeld
      have hHeld := hNew
      clear hNew
      try simp only [List.getElem_toArray, List.getElem_cons_succ, List.getElem_cons_zero, Act.put, List.setIfInBounds_toArray, List.set_cons_zero, List.set_cons_succ]
      refine wpAnyL_ready (rs := [14]) (by kernel_rfl) (by simp) ?_
      refine AllReadyL.cons (o := _) rfl (fun K hK => ?_) AllReadyL.nil
      try simp only [List.getElem_toArray, List.getElem_cons_succ, List.getElem_cons_zero]
      go_simp
      clear hHeld
      refine hK.out _ _ ?_ (fun hHeld => ?_)
      · exact (HoldC.past (by kernel_rfl) HoldC.nil)
      clear hK K
      try simp only [List.getElem_toArray, List.getElem_cons_succ, List.getElem_cons_zero, Act.put, List.setIfInBounds_toArray, List.set_cons_zero, List.set_cons_succ]
      refine wpAnyL_done (by kernel_rfl) ?_ _
      clear hHeld
      obtain ⟨j, hj, ej⟩ := slot5i (f k).i
      rw [show (IntKind.i64.wrap ((f k).i.tmod 5 + 5)).tmod 5 = (j : Int) from ej]
      have A4 := Lib.hid (HR.out.1.keep (by exact (Chg.refl [] wr).drew : Chg [] wr wr.drew))
      have P14 := Lib.hid HR.out.2.1
      have WY := Lib.hid HR.out.2.2
      have HT := Lib.hid hT
      have hsm := HF.out.2 k hlt
      have hn60 := HF.out.1
      have hsi : s.d.since.length = 0 := by rw [hT.rest.none]; rfl
      have x0 : wr.drew.cell? ⟨g, o + k * 5, none⟩ = some (.int .i64 (f k).c) := e0
      have x3 : wr.drew.cell? ⟨g, o + k * 5 + 3, none⟩ = some (f k).kv := e3
      have x4 : wr.drew.cell? ⟨g, o + k * 5 + 4, none⟩ = some (f k).bv := e4
      have u0 : wr.drew.cell? ⟨gu, j, none⟩ = some (.bool (u j)) := blk_cell A4.out.cu j _ (five_at _ j hj)
      have hgw : g < w.heap.size := World.block_lt_of_cell? w _ d0
      have hou := A4.out.out
      have g1 : ¬ g = gu := by omega
      have g2 : ¬ g = gw := by omega
      have g3 : ¬ gu = g := by omega
      have g4 : ¬ gw = g := by omega
      have g5 : ¬ gu = gw := by omega
      have g6 : ¬ gw = gu := by omega
      have hjz : (j : Int) < 5 := by omega
      have hjz1 : (j : Int).toNat = j := by omega
      obtain ⟨w5, hw5⟩ : ∃ w5, w5 = wr.drew := ⟨_, rfl⟩
      rw [← hw5] at A4 x0 x3 x4 u0 ⊢
      have M3 := Lib.hid (m3.chg A4.out.since.2.2)
      have M4 := Lib.hid (m4.chg A4.out.since.2.2)
      have M4w := Lib.hid m4
      have D0 := Lib.hid d0
      have D3 := Lib.hid d3
      have D4 := Lib.hid d4
      have CP := Lib.hid (sput_any q p U s (j : Int) (f k).kv (f k).bv (f k).key (f k).b w5.drew (A4.out.since.1.keep0 (by exact (Chg.refl [] w5).drew)) (M3.out.chg (by exact (Chg.refl [] w5).drew)).1 (fun hl x hx hm => by
        have a1 := m3.2 hl x hx
        have a2 := A4.out.since.2.1 x hm
        omega) (M4.out.chg (by exact (Chg.refl [] w5).drew)).1 (fun hl x hx hm => by
        have a1 := m4.2 hl x hx
        have a2 := A4.out.since.2.1 x hm
        omega) (by have := hsm.1; omega) (by have := hsm.2; omega) (by omega) (by omega))
      have CL := Lib.hid (sclear_any q p U s (j : Int) w5 A4.out.since.1 (by omega) (by omega))
      obtain ⟨a3, q3, v3⟩ := m3.1.slice
      obtain ⟨a4, q4, v4⟩ := m4.1.slice
      have V4 := Lib.hid v4
      have V3 := Lib.hid v3
      rw [v3, v4] at CP
      rw [v3] at x3
      rw [v4] at x4
      clear hsm hcr hdeed m3 m4 d0 d1 d2 d3 d4 wf0 wf1 wf2 v3 v4 HR ej e0 e1 e3 e4 hgw hou hT hw5 CC CD hdead
      obtain ⟨fc, hfc⟩ : ∃ fc, fc = (f k).c := ⟨_, rfl⟩
      rw [← hfc] at x0 D0
      obtain ⟨kl, hkl⟩ : ∃ kl, kl = (f k).key.length := ⟨_, rfl⟩
      rw [← hkl] at x3 CP
      obtain ⟨bl, hbl⟩ : ∃ bl, bl = (f k).b.length := ⟨_, rfl⟩
      rw [← hbl] at x4 CP
      have HKL := Lib.hid hkl
      have HBL := Lib.hid hbl
      clear hfc hkl hbl
      by_cases h4 : fc ≤ 4
      · have h6 : (fc == 6) = false := by simp; omega
        by_cases hA : kl ≤ 40 ∧ bl ≤ 448 ∧ u j = false
        · obtain ⟨hA1, hA2, hA3⟩ := hA
          have z1 : (kl : Int) ≤ 40 := by omega
          have z2 : (bl : Int) ≤ 448 := by omega
          rw [hA3] at u0
          have WP := Lib.hid (way_put HT.out WY.out.shape j hj (f k).key (f k).b hA3 (by rw [← HKL.out]; exact hA1) (by rw [← HBL.out]; exact hA2) k hops pb)
          have HU := Lib.hid hA3
          clear hA3
          go_wp2_with fail
          refine wp_region_L [(13, fun w' => w'.cell? ⟨g, o + k * 5 + 3, none⟩ = some (.slice a3 kl q3)), (13, fun w' => w'.cell? ⟨g, o + k * 5 + 4, none⟩ = some (.slice a4 bl q4))] (by kernel_rfl) ?_ (fun hHeld => ?_)
          · exact (HoldC.cons (x3) (HoldC.cons (x4) HoldC.nil))
          refine wpAnyL_take (i := 0) (oi := _) (v := ?_) rfl (by kernel_rfl) (by kernel_rfl) (by kernel_rfl) (by kernel_rfl) (by kernel_rfl) (fun _ _ _ h => h) (Or.inl ⟨by rfl, ?_⟩) (by assumption) (fun hNew => ?_)
          rotate_left
          · intro w _
            go_simp
            try with_reducible rfl
          clear hHeld
          have hHeld := hNew
          clear hNew
          try simp only [List.getElem_toArray, List.getElem_cons_succ, List.getElem_cons_zero, Act.put, List.setIfInBounds_toArray, List.set_cons_zero, List.set_cons_succ]
          refine wpAnyL_take (i := 1) (oi := _) (v := ?_) rfl (by kernel_rfl) (by kernel_rfl) (by kernel_rfl) (by kernel_rfl) (by kernel_rfl) (fun _ _ _ h => h) (Or.inl ⟨by rfl, ?_⟩) (by assumption) (fun hNew => ?_)
          rotate_left
          · intro w _
            go_simp
            try with_reducible rfl
          clear hHeld
          have hHeld := hNew
          clear hNew
          try simp only [List.getElem_toArray, List.getElem_cons_succ, List.getElem_cons_zero, Act.put, List.setIfInBounds_toArray, List.set_cons_zero, List.set_cons_succ]
          refine wpAnyL_take (i := 2) (oi := _) (v := ?_) rfl (by kernel_rfl) (by kernel_rfl) (by kernel_rfl) (by kernel_rfl) (by kernel_rfl) (fun _ _ _ h => h) (Or.inl ⟨by rfl, ?_⟩) (by assumption) (fun hNew => ?_)
          rotate_left
          · intro w _
            go_simp
            try with_reducible rfl
          clear hHeld
          have hHeld := hNew
          clear hNew
          try simp only [List.getElem_toArray, List.getElem_cons_succ, List.getElem_cons_zero, Act.put, List.setIfInBounds_toArray, List.set_cons_zero, List.set_cons_succ]
          refine wpAnyL_take (i := 3) (oi := _) (v := ?_) rfl (by kernel_rfl) (by kernel_rfl) (by kernel_rfl) (by kernel_rfl) (by kernel_rfl) (fun _ _ _ h => h) (Or.inl ⟨by rfl, ?_⟩) (by assumption) (fun hNew => ?_)
          rotate_left
          · intro w _
            go_simp
            try with_reducible rfl
          clear hHeld
          have hHeld := hNew
          clear hNew
          try simp only [List.getElem_toArray, List.getElem_cons_succ, List.getElem_cons_zero, Act.put, List.setIfInBounds_toArray, List.set_cons_zero, List.set_cons_succ]
          refine wpAnyL_take (i := 4) (oi := _) (v := ?_) rfl (by kernel_rfl) (by kernel_rfl) (by kernel_rfl) (by kernel_rfl) (by kernel_rfl) (fun _ _ _ h => h) (Or.inl ⟨by rfl, ?_⟩) (by assumption) (fun hNew => ?_)
          rotate_left
          · intro w _
            go_simp
            try with_reducible rfl
          clear hHeld
          have hHeld := hNew
          clear hNew
          try simp only [List.getElem_toArray, List.getElem_cons_succ, List.getElem_cons_zero, Act.put, List.setIfInBounds_toArray, List.set_cons_zero, List.set_cons_succ]
          refine wpAnyL_take (i := 5) (oi := _) (v := ?_) rfl (by kernel_rfl) (by kernel_rfl) (by kernel_rfl) (by kernel_rfl) (by kernel_rfl) (fun _ _ _ h => h) (Or.inl ⟨by rfl, ?_⟩) (by assumption) (fun hNew => ?_)
          rotate_left
          · intro w _
            go_simp
            try with_reducible rfl
          clear hHeld
          have hHeld := hNew
          clear hNew
          try simp only [List.getElem_toArray, List.getElem_cons_succ, List.getElem_cons_zero, Act.put, List.setIfInBounds_toArray, List.set_cons_zero, List.set_cons_succ]
          refine wpAnyL_take (i := 7) (oi := _) (v := ?_) rfl (by kernel_rfl) (by kernel_rfl) (by kernel_rfl) (by kernel_rfl) (by kernel_rfl) (fun _ _ _ h => h) (Or.inl ⟨by rfl, ?_⟩) (by assumption) (fun hNew => ?_)
          rotate_left
          · intro w _
            go_simp
            try with_reducible rfl
          clear hHeld
          have hHeld := hNew
          clear hNew
          try simp only [List.getElem_toArray, List.getElem_cons_succ, List.getElem_cons_zero, Act.put, List.setIfInBounds_toArray, List.set_cons_zero, List.set_cons_succ]
          refine wpAnyL_take (i := 8) (oi := _) (v := ?_) rfl (by kernel_rfl) (by kernel_rfl) (by kernel_rfl) (by kernel_rfl) (by kernel_rfl) (fun _ _ _ h => h) (Or.inl ⟨by rfl, ?_⟩) (by assumption) (fun hNew => ?_)
          rotate_left
          · intro w _
            go_simp
            try with_reducible rfl
          clear hHeld
          have hHeld := hNew
          clear hNew
          try simp only [List.getElem_toArray, List.getElem_cons_succ, List.getElem_cons_zero, Act.put, List.setIfInBounds_toArray, List.set_cons_zero, List.set_cons_succ]
          refine wpAnyL_take (i := 9) (oi := _) (v := ?_) rfl (by kernel_rfl) (by kernel_rfl) (by kernel_rfl) (by kernel_rfl) (by kernel_rfl) (fun _ _ _ h => h) (Or.inl ⟨by rfl, ?_⟩) (by assumption) (fun hNew => ?_)
          rotate_left
          · intro w _
            go_simp
            try with_reducible rfl
          clear hHeld
          have hHeld := hNew
          clear hNew
          try simp only [List.getElem_toArray, List.getElem_cons_succ, List.getElem_cons_zero, Act.put, List.setIfInBounds_toArray, List.set_cons_zero, List.set_cons_succ]
          refine wpAnyL_take (i := 10) (oi := _) (v := ?_) rfl (by kernel_rfl) (by kernel_rfl) (by kernel_rfl) (by kernel_rfl) (by kernel_rfl) (fun _ _ _ h => h) (Or.inl ⟨by rfl, ?_⟩) (by assumption) (fun hNew => ?_)
          rotate_left
          · intro w _
            go_simp
            try with_reducible rfl
          clear hHeld
          have hHeld := hNew
          clear hNew
          try simp only [List.getElem_toArray, List.getElem_cons_succ, List.getElem_cons_zero, Act.put, List.setIfInBounds_toArray, List.set_cons_zero, List.set_cons_succ]
          refine wpAnyL_load 0 (i := 6) (oi := _) (v := ?_) rfl rfl (by kernel_rfl) (by kernel_rfl) (by kernel_rfl) (by kernel_rfl) (by kernel_rfl) (by kernel_rfl) (fun _ _ _ h => h) (Or.inl ⟨by rfl, ?_⟩) (by assumption) (fun hNew => ?_)
          rotate_left
          · intro w hSw
            (try dsimp only at hSw)
            go_simp
            try with_reducible rfl
          clear hHeld
          have hHeld := hNew
          clear hNew
          try simp only [List.getElem_toArray, List.getElem_cons_succ, List.getElem_cons_zero, Act.put, List.setIfInBounds_toArray, List.set_cons_zero, List.set_cons_succ]
          refine wpAnyL_load 1 (i := 11) (oi := _) (v := ?_) rfl rfl (by kernel_rfl) (by kernel_rfl) (by kernel_rfl) (by kernel_rfl) (by kernel_rfl) (by kernel_rfl) (fun _ _ _ h => h) (Or.inl ⟨by rfl, ?_⟩) (by assumption) (fun hNew => ?_)
          rotate_left
          · intro w hSw
            (try dsimp only at hSw)
            go_simp
            try with_reducible rfl
          clear hHeld
          have hHeld := hNew
          clear hNew
          try simp only [List.getElem_toArray, List.getElem_cons_succ, List.getElem_cons_zero, Act.put, List.setIfInBounds_toArray, List.set_cons_zero, List.set_cons_succ]
          refine wpAnyL_ready (rs := [12]) (by kernel_rfl) (by simp) ?_
          refine AllReadyL.cons (o := _) rfl (fun K hK => ?_) AllReadyL.nil
          try simp only [List.getElem_toArray, List.getElem_cons_succ, List.getElem_cons_zero]
          go_simp
          refine CP.out.mono ?_
          rintro e w6 ⟨rfl, hs6⟩
          have hs6 := Sid.pre (w0 := w5) (by exact (Chg.refl [] w5).drew) hs6
          obtain ⟨U6, A6⟩ := A4.out.sid hs6
          have c6 := A6.since.2.2
          have y3 := c6.cell D3.out (by simp)
          have y4 := c6.cell D4.out (by simp)
          rw [V3.out, ← HKL.out] at y3
          rw [V4.out, ← HBL.out] at y4
          have H6 := Lib.hid A6
          clear hs6 A6 c6 x0 x3 x4 u0 CL CP
          rcases WP.out with ⟨p1, p2⟩ | ⟨p1, p2⟩
          · rw [p1]
            have W6 := Lib.hid p2
            clear p1 p2 WP
            try go_wp2_with fail
            clear hHeld
            refine hK.out _ _ ?_ (fun hHeld => ?_)
            · exact (HoldC.cons (y3) (HoldC.cons (y4) HoldC.nil))
            clear hK K
            try simp only [List.getElem_toArray, List.getElem_cons_succ, List.getElem_cons_zero, Act.put, List.setIfInBounds_toArray, List.set_cons_zero, List.set_cons_succ]
            refine wpAnyL_ready (rs := [13]) (by kernel_rfl) (by simp) ?_
            refine AllReadyL.cons (o := _) rfl (fun K hK => ?_) AllReadyL.nil
            try simp only [List.getElem_toArray, List.getElem_cons_succ, List.getElem_cons_zero]
            go_simp
            clear hHeld
            refine hK.out _ _ ?_ (fun hHeld => ?_)
            · exact (HoldC.past (by kernel_rfl) (HoldC.past (by kernel_rfl) HoldC.nil))
            clear hK K
            try simp only [List.getElem_toArray, List.getElem_cons_succ, List.getElem_cons_zero, Act.put, List.setIfInBounds_toArray, List.set_cons_zero, List.set_cons_succ]
            refine wpAnyL_done (by kernel_rfl) ?_ _
            clear hHeld
            have u0 : w6.cell? ⟨gu, j, none⟩ = some (.bool false) := by
              have h := blk_cell H6.out.cu j _ (five_at _ j hj)
              unfold bo at h
              rw [HU.out] at h
              exact h
            have u1 := blk_frozen H6.out.cu j
            have u2 := blk_lt H6.out.cu
            have y0 := blk_cell H6.out.cw j _ (five_at _ j hj)
            have y1 := blk_frozen H6.out.cw j
            have y2 := blk_lt H6.out.cw
            go_wp2
            go_roundg (gk - 1)
            case measure => omega
            case rel => exact ⟨k + 1, U6, _, set5 u j true, set5 v j (f k).b, set5 vals j (.slice a4 bl q4), -1, a14, c14, pb, rfl, rfl, by go_num, by omega, by omega, Lib.hid ⟨(H6.out.setU j hj true).setW j hj _ _ (by rw [HBL.out, ← V4.out]; exact M4w.out), P14.out, W6.out⟩⟩
          · rw [p1]
            have W6 := Lib.hid p2
            clear p1 p2 WP
            try go_wp2_with fail
            clear hHeld
            refine hK.out _ _ ?_ (fun hHeld => ?_)
            · exact (HoldC.cons (y3) (HoldC.cons (y4) HoldC.nil))
            clear hK K
            try simp only [List.getElem_toArray, List.getElem_cons_succ, List.getElem_cons_zero, Act.put, List.setIfInBounds_toArray, List.set_cons_zero, List.set_cons_succ]
            refine wpAnyL_ready (rs := [13]) (by kernel_rfl) (by simp) ?_
            refine AllReadyL.cons (o := _) rfl (fun K hK => ?_) AllReadyL.nil
            try simp only [List.getElem_toArray, List.getElem_cons_succ, List.getElem_cons_zero]
            go_simp
            clear hHeld
            refine hK.out _ _ ?_ (fun hHeld => ?_)
            · exact (HoldC.past (by kernel_rfl) (HoldC.past (by kernel_rfl) HoldC.nil))
            clear hK K
            try simp only [List.getElem_toArray, List.getElem_cons_succ, List.getElem_cons_zero, Act.put, List.setIfInBounds_toArray, List.set_cons_zero, List.set_cons_succ]
            refine wpAnyL_done (by kernel_rfl) ?_ _
            clear hHeld
            go_wp2_with fail
            refine wp_region_L [(7, fun w' => w'.cell? ⟨g, o + k * 5 + 4, none⟩ = some (.slice a4 bl q4))] (by kernel_rfl) ?_ (fun hHeld => ?_)
            · exact (HoldC.cons (y4) HoldC.nil)
            refine wpAnyL_take (i := 0) (oi := _) (v := ?_) rfl (by kernel_rfl) (by kernel_rfl) (by kernel_rfl) (by kernel_rfl) (by kernel_rfl) (fun _ _ _ h => h) (Or.inl ⟨by rfl, ?_⟩) (by assumption) (fun hNew => ?_)
            rotate_left
            · intro w _
              go_simp
              try with_reducible rfl
            clear hHeld
            have hHeld := hNew
            clear hNew
            try simp only [List.getElem_toArray, List.getElem_cons_succ, List.getElem_cons_zero, Act.put, List.setIfInBounds_toArray, List.set_cons_zero, List.set_cons_succ]
            refine wpAnyL_take (i := 1) (oi := _) (v := ?_) rfl (by kernel_rfl) (by kernel_rfl) (by kernel_rfl) (by kernel_rfl) (by kernel_rfl) (fun _ _ _ h => h) (Or.inl ⟨by rfl, ?_⟩) (by assumption) (fun hNew => ?_)
            rotate_left
            · intro w _
              go_simp
              try with_reducible rfl
            clear hHeld
            have hHeld := hNew
            clear hNew
            try simp only [List.getElem_toArray, List.getElem_cons_succ, List.getElem_cons_zero, Act.put, List.setIfInBounds_toArray, List.set_cons_zero, List.set_cons_succ]
            refine wpAnyL_take (i := 2) (oi := _) (v := ?_) rfl (by kernel_rfl) (by kernel_rfl) (by kernel_rfl) (by kernel_rfl) (by kernel_rfl) (fun _ _ _ h => h) (Or.inl ⟨by rfl, ?_⟩) (by assumption) (fun hNew => ?_)
            rotate_left
            · intro w _
              go_simp
              try with_reducible rfl
            clear hHeld
            have hHeld := hNew
            clear hNew
            try simp only [List.getElem_toArray, List.getElem_cons_succ, List.getElem_cons_zero, Act.put, List.setIfInBounds_toArray, List.set_cons_zero, List.set_cons_succ]
            refine wpAnyL_take (i := 3) (oi := _) (v := ?_) rfl (by kernel_rfl) (by kernel_rfl) (by kernel_rfl) (by kernel_rfl) (by kernel_rfl) (fun _ _ _ h => h) (Or.inl ⟨by rfl, ?_⟩) (by assumption) (fun hNew => ?_)
            rotate_left
            · intro w _
              go_simp
              try with_reducible rfl
            clear hHeld
            have hHeld := hNew
            clear hNew
            try simp only [List.getElem_toArray, List.getElem_cons_succ, List.getElem_cons_zero, Act.put, List.setIfInBounds_toArray, List.set_cons_zero, List.set_cons_succ]
            refine wpAnyL_take (i := 4) (oi := _) (v := ?_) rfl (by kernel_rfl) (by kernel_rfl) (by kernel_rfl) (by kernel_rfl) (by kernel_rfl) (fun _ _ _ h => h) (Or.inl ⟨by rfl, ?_⟩) (by assumption) (fun hNew => ?_)
            rotate_left
            · intro w _
              go_simp
              try with_reducible rfl
            clear hHeld
            have hHeld := hNew
            clear hNew
            try simp only [List.getElem_toArray, List.getElem_cons_succ, List.getElem_cons_zero, Act.put, List.setIfInBounds_toArray, List.set_cons_zero, List.set_cons_succ]
            refine wpAnyL_take (i := 6) (oi := _) (v := ?_) rfl (by kernel_rfl) (by kernel_rfl) (by kernel_rfl) (by kernel_rfl) (by kernel_rfl) (fun _ _ _ h => h) (Or.inl ⟨by rfl, ?_⟩) (by assumption) (fun hNew => ?_)
            rotate_left
            · intro w _
              go_simp
              try with_reducible rfl
            clear hHeld
            have hHeld := hNew
            clear hNew
            try simp only [List.getElem_toArray, List.getElem_cons_succ, List.getElem_cons_zero, Act.put, List.setIfInBounds_toArray, List.set_cons_zero, List.set_cons_succ]
            refine wpAnyL_load 0 (i := 5) (oi := _) (v := ?_) rfl rfl (by kernel_rfl) (by kernel_rfl) (by kernel_rfl) (by kernel_rfl) (by kernel_rfl) (by kernel_rfl) (fun _ _ _ h => h) (Or.inl ⟨by rfl, ?_⟩) (by assumption) (fun hNew => ?_)
            rotate_left
            · intro w hSw
              (try dsimp only at hSw)
              go_simp
              try with_reducible rfl
            clear hHeld
            have hHeld := hNew
            clear hNew
            try simp only [List.getElem_toArray, List.getElem_cons_succ, List.getElem_cons_zero, Act.put, List.setIfInBounds_toArray, List.set_cons_zero, List.set_cons_succ]
            refine wpAnyL_ready (rs := [7]) (by kernel_rfl) (by simp) ?_
            refine AllReadyL.cons (o := _) rfl (fun K hK => ?_) AllReadyL.nil
            try simp only [List.getElem_toArray, List.getElem_cons_succ, List.getElem_cons_zero]
            go_simp
            clear hHeld
            refine hK.out _ _ ?_ (fun hHeld => ?_)
            · exact (HoldC.past (by kernel_rfl) HoldC.nil)
            clear hK K
            try simp only [List.getElem_toArray, List.getElem_cons_succ, List.getElem_cons_zero, Act.put, List.setIfInBounds_toArray, List.set_cons_zero, List.set_cons_succ]
            refine wpAnyL_done (by kernel_rfl) ?_ _
            clear hHeld
            have H7 := Lib.hid (H6.out.keep (by exact (Chg.refl [] w6).drew : Chg [] w6 w6.drew))
            go_wp2
            go_roundg (gk - 1)
            case measure => omega
            case rel => exact ⟨k + 1, U6, _, u, v, vals, (j : Int), a4, q4, (f k).b, rfl, by rw [← HBL.out], by go_num, by omega, by omega, Lib.hid ⟨H7.out, by rw [← V4.out]; exact M4w.out, W6.out⟩⟩
        · have hA' : 40 < kl ∨ (kl ≤ 40 ∧ 448 < bl) ∨ (kl ≤ 40 ∧ bl ≤ 448 ∧ u j = true) := by
            cases hu : u j
            · by_cases q1 : kl ≤ 40
              · by_cases q2 : bl ≤ 448
                · exact absurd ⟨q1, q2, hu⟩ hA
                · exact .inr (.inl ⟨q1, by omega⟩)
              · exact .inl (by omega)
            · by_cases q1 : kl ≤ 40
              · by_cases q2 : bl ≤ 448
                · exact .inr (.inr ⟨q1, q2, rfl⟩)
                · exact .inr (.inl ⟨q1, by omega⟩)
              · exact .inl (by omega)
          clear hA CP CL
          rcases hA' with h | ⟨h, h'⟩ | ⟨h, h', h''⟩
          · have z1 : ¬ (kl : Int) ≤ 40 := by omega
            go_wp2
            go_roundg (gk - 1)
            case measure => omega
            case rel => exact ⟨k + 1, U, s, u, v, vals, -1, a14, c14, pb, rfl, rfl, by go_num, by omega, by omega, Lib.hid ⟨A4.out, P14.out, ⟨WY.out.shape, WY.out.ends, fun h => ⟨(WY.out.lives h).1, by have := (WY.out.lives h).2.1; omega, rfl⟩, WY.out.few⟩⟩⟩
          · have z1 : (kl : Int) ≤ 40 := by omega
            have z2 : ¬ (bl : Int) ≤ 448 := by omega
            go_wp2
            go_roundg (gk - 1)
            case measure => omega
            case rel => exact ⟨k + 1, U, s, u, v, vals, -1, a14, c14, pb, rfl, rfl, by go_num, by omega, by omega, Lib.hid ⟨A4.out, P14.out, ⟨WY.out.shape, WY.out.ends, fun h => ⟨(WY.out.lives h).1, by have := (WY.out.lives h).2.1; omega, rfl⟩, WY.out.few⟩⟩⟩
          · have z1 : (kl : Int) ≤ 40 := by omega
            have z2 : (bl : Int) ≤ 448 := by omega
            rw [h''] at u0
            clear h''
            go_wp2
            go_roundg (gk - 1)
            case measure => omega
            case rel => exact ⟨k + 1, U, s, u, v, vals, -1, a14, c14, pb, rfl, rfl, by go_num, by omega, by omega, Lib.hid ⟨A4.out, P14.out, ⟨WY.out.shape, WY.out.ends, fun h => ⟨(WY.out.lives h).1, by have := (WY.out.lives h).2.1; omega, rfl⟩, WY.out.few⟩⟩⟩
      · have q4 : decide (fc ≤ 4) = false := decide_eq_false h4
        by_cases h6 : fc = 6
        · have q6 : (fc == 6) = true := by simp [h6]
          clear h6 CP
          cases hu : u j
          · rw [hu] at u0
            clear hu CL
            go_wp2
            go_roundg (gk - 1)
            case measure => omega
            case rel => exact ⟨k + 1, U, s, u, v, vals, -1, a14, c14, pb, rfl, rfl, by go_num, by omega, by omega, Lib.hid ⟨A4.out, P14.out, ⟨WY.out.shape, WY.out.ends, fun h => ⟨(WY.out.lives h).1, by have := (WY.out.lives h).2.1; omega, rfl⟩, WY.out.few⟩⟩⟩
          · rw [hu] at u0
            have WC := Lib.hid (way_clear HT.out WY.out.shape j hj hu k hops pb)
            have HU := Lib.hid hu
            have y0 := blk_cell A4.out.cw j _ (five_at _ j hj)
            clear hu
            go_wp2_with fail
            refine CL.out.mono ?_
            rintro e w6 ⟨rfl, hs6⟩
            obtain ⟨U6, A6⟩ := A4.out.sid hs6
            have H6 := Lib.hid A6
            clear hs6 A6 x0 x3 x4 u0 y0 CL
            rcases WC.out with ⟨p1, p2⟩ | ⟨p1, p2⟩
            · rw [p1]
              have W6 := Lib.hid p2
              clear p1 p2 WC
              have u0 : w6.cell? ⟨gu, j, none⟩ = some (.bool true) := by
                have h := blk_cell H6.out.cu j _ (five_at _ j hj)
                unfold bo at h
                rw [HU.out] at h
                exact h
              have u1 := blk_frozen H6.out.cu j
              have u2 := blk_lt H6.out.cu
              go_wp2
              go_roundg (gk - 1)
              case measure => omega
              case rel => exact ⟨k + 1, U6, _, set5 u j false, v, vals, -1, a14, c14, pb, rfl, rfl, by go_num, by omega, by omega, Lib.hid ⟨H6.out.setU j hj false, P14.out, W6.out⟩⟩
            · rw [p1]
              have W6 := Lib.hid p2
              clear p1 p2 WC
              have hcm := H6.out.came j hj
              obtain ⟨a9, q9, v9⟩ := hcm.1.slice
              have y0 : w6.cell? ⟨gw, j, none⟩ = some (.slice a9 (v j).length q9) := by
                have h := blk_cell H6.out.cw j _ (five_at _ j hj)
                rw [v9] at h
                exact h
              rw [v9] at hcm
              have HCM := Lib.hid hcm
              clear hcm v9
              go_wp2_with fail
              refine wp_region_L [(6, fun w' => w'.cell? ⟨gw, j, none⟩ = some (.slice a9 (v j).length q9))] (by kernel_rfl) ?_ (fun hHeld => ?_)
              · exact (HoldC.cons (y0) HoldC.nil)
              refine wpAnyL_take (i := 0) (oi := _) (v := ?_) rfl (by kernel_rfl) (by kernel_rfl) (by kernel_rfl) (by kernel_rfl) (by kernel_rfl) (fun _ _ _ h => h) (Or.inl ⟨by rfl, ?_⟩) (by assumption) (fun hNew => ?_)
              rotate_left
              · intro w _
                go_simp
                try with_reducible rfl
              clear hHeld
              have hHeld := hNew
              clear hNew
              try simp only [List.getElem_toArray, List.getElem_cons_succ, List.getElem_cons_zero, Act.put, List.setIfInBounds_toArray, List.set_cons_zero, List.set_cons_succ]
              refine wpAnyL_take (i := 1) (oi := _) (v := ?_) rfl (by kernel_rfl) (by kernel_rfl) (by kernel_rfl) (by kernel_rfl) (by kernel_rfl) (fun _ _ _ h => h) (Or.inl ⟨by rfl, ?_⟩) (by assumption) (fun hNew => ?_)
              rotate_left
              · intro w _
                go_simp
                try with_reducible rfl
              clear hHeld
              have hHeld := hNew
              clear hNew
              try simp only [List.getElem_toArray, List.getElem_cons_succ, List.getElem_cons_zero, Act.put, List.setIfInBounds_toArray, List.set_cons_zero, List.set_cons_succ]
              refine wpAnyL_take (i := 2) (oi := _) (v := ?_) rfl (by kernel_rfl) (by kernel_rfl) (by kernel_rfl) (by kernel_rfl) (by kernel_rfl) (fun _ _ _ h => h) (Or.inl ⟨by rfl, ?_⟩) (by assumption) (fun hNew => ?_)
              rotate_left
              · intro w _
                go_simp
                try with_reducible rfl
              clear hHeld
              have hHeld := hNew
              clear hNew
              try simp only [List.getElem_toArray, List.getElem_cons_succ, List.getElem_cons_zero, Act.put, List.setIfInBounds_toArray, List.set_cons_zero, List.set_cons_succ]
              refine wpAnyL_take (i := 3) (oi := _) (v := ?_) rfl (by kernel_rfl) (by kernel_rfl) (by kernel_rfl) (by kernel_rfl) (by kernel_rfl) (fun _ _ _ h => h) (Or.inl ⟨by rfl, ?_⟩) (by assumption) (fun hNew => ?_)
              rotate_left
              · intro w _
                go_simp
                try with_reducible rfl
              clear hHeld
              have hHeld := hNew
              clear hNew
              try simp only [List.getElem_toArray, List.getElem_cons_succ, List.getElem_cons_zero, Act.put, List.setIfInBounds_toArray, List.set_cons_zero, List.set_cons_succ]
              refine wpAnyL_take (i := 5) (oi := _) (v := ?_) rfl (by kernel_rfl) (by kernel_rfl) (by kernel_rfl) (by kernel_rfl) (by kernel_rfl) (fun _ _ _ h => h) (Or.inl ⟨by rfl, ?_⟩) (by assumption) (fun hNew => ?_)
              rotate_left
              · intro w _
                go_simp
                try with_reducible rfl
              clear hHeld
              have hHeld := hNew
              clear hNew
              try simp only [List.getElem_toArray, List.getElem_cons_succ, List.getElem_cons_zero, Act.put, List.setIfInBounds_toArray, List.set_cons_zero, List.set_cons_succ]
              refine wpAnyL_load 0 (i := 4) (oi := _) (v := ?_) rfl rfl (by kernel_rfl) (by kernel_rfl) (by kernel_rfl) (by kernel_rfl) (by kernel_rfl) (by kernel_rfl) (fun _ _ _ h => h) (Or.inl ⟨by rfl, ?_⟩) (by assumption) (fun hNew => ?_)
              rotate_left
              · intro w hSw
                (try dsimp only at hSw)
                go_simp
                try with_reducible rfl
              clear hHeld
              have hHeld := hNew
              clear hNew
              try simp only [List.getElem_toArray, List.getElem_cons_succ, List.getElem_cons_zero, Act.put, List.setIfInBounds_toArray, List.set_cons_zero, List.set_cons_succ]
              refine wpAnyL_ready (rs := [6]) (by kernel_rfl) (by simp) ?_
              refine AllReadyL.cons (o := _) rfl (fun K hK => ?_) AllReadyL.nil
              try simp only [List.getElem_toArray, List.getElem_cons_succ, List.getElem_cons_zero]
              go_simp
              clear hHeld
              refine hK.out _ _ ?_ (fun hHeld => ?_)
              · exact (HoldC.past (by kernel_rfl) HoldC.nil)
              clear hK K
              try simp only [List.getElem_toArray, List.getElem_cons_succ, List.getElem_cons_zero, Act.put, List.setIfInBounds_toArray, List.set_cons_zero, List.set_cons_succ]
              refine wpAnyL_done (by kernel_rfl) ?_ _
              clear hHeld
              have H7 := Lib.hid (H6.out.keep (by exact (Chg.refl [] w6).drew : Chg [] w6 w6.drew))
              go_wp2
              go_roundg (gk - 1)
              case measure => omega
              case rel => exact ⟨k + 1, U6, _, u, v, vals, (j : Int), a9, q9, v j, rfl, rfl, by go_num, by omega, by omega, Lib.hid ⟨H7.out, HCM.out, W6.out⟩⟩
        · have q6 : (fc == 6) = false := by simp [h6]
          clear h6 CP CL
          go_wp2
          go_roundg (gk - 1)
          case measure => omega
          case rel => exact ⟨k + 1, U, s, u, v, vals, -1, a14, c14, pb, rfl, rfl, by go_num, by omega, by omega, Lib.hid ⟨A4.out, P14.out, ⟨WY.out.shape, WY.out.ends, fun h => ⟨(WY.out.lives h).1, by have := (WY.out.lives h).2.1; omega, rfl⟩, WY.out.few⟩⟩⟩
    · have hgo' : k = n ∨ (k < n ∧ s.d.dead = true) := by
        cases hd : s.d.dead
        · left
          by_cases hlt : k < n
          · exact absurd ⟨hlt, hd⟩ hgo
          · omega
        · by_cases hlt : k < n
          · exact .inr ⟨hlt, rfl⟩
          · left; omega
      obtain ⟨rows, u2, v2, hr5, hT2, hall⟩ := HR.out.2.2.ends ch
      have hsh := HR.out.2.2.shape
      have han := hT2.anew (by show (s.d.n - s.first) / 8 = rows.length; rw [hsh.1, hsh.2.2, hr5]) (by show s.d.n ≠ 0; rw [hsh.2.2]; decide)
      rw [show (({ s with d := s.d.crash ch, rows := rows } : SS).first : Int) = 1 by show (s.first : Int) = 1; rw [hsh.1]; rfl] at han
      have han : (s.d.crash ch).slots 1 = (0, some { s with d := s.d.crash ch, rows := rows }) := han
      have CK := Lib.hid (HR.out.1.since.1.crash _ ch (by rw [hsh.2.2]; decide) (by have := HR.out.2.2.few; omega) (HCH.out.1.chg HR.out.1.since.2.2 (by simp)) (by omega))
      have CD := Lib.hid HR.out.1.since.1.dead
      have HAN := Lib.hid han
      have HT2 := Lib.hid hT2
      have HALL := Lib.hid hall
      have R5 := Lib.hid hr5
      clear hgo han hT2 hall hr5 hsh
      rcases hgo' with hkn | ⟨hlt, hdead⟩
      all_goals try rw [hdead] at CD
      all_goals try clear hdead
      all_goals first | (have hkz : (k : Int) < (n : Int) := by omega) | (have hkz : ¬ (k : Int) < (n : Int) := by omega)
      all_goals go_wp2_with fail
      all_goals try ((go_at_call 26; refine CD.out.mono ?_); rintro e w' ⟨rfl, hq⟩; subst hq; go_wp2_with fail)
      all_goals
        refine CK.out.mono ?_
        rintro e w5 ⟨p2, S2, rfl, hd2, hS2, hc5⟩
        have CO2 := Lib.hid (sopen_any p2 S2 (s.d.crash ch) 1 w5 hd2)
        rw [HAN.out] at CO2
        have A5 := Lib.hid (HR.out.1.keep hc5)
        have P14 := Lib.hid HR.out.2.1
        have HS2 := Lib.hid hS2
        have HC5 := Lib.hid hc5
        clear hd2 hS2 hc5 CK CD
        go_wp2_with fail
        refine CO2.out.mono ?_
        rintro e w6 ⟨hc6, q2, U2, rfl, hs6, hU6⟩
        have A6 := Lib.hid (A5.out.keep hc6)
        have T6 := Lib.hid hs6
        obtain ⟨s2, hs2⟩ : ∃ s2, s2 = ({ s with d := s.d.crash ch, rows := rows } : SS) := ⟨_, rfl⟩
        rw [← hs2] at T6 HT2
        have R5' : Hid (s2.rows.length = 5) := Lib.hid (by rw [hs2]; exact R5.out)
        clear hc6 hs6 hU6 CO2 HAN hs2 R5
        have CC2 := Lib.hid (fun w' (hc : Chg [] w6 w') => (scount_any q2 p2 U2 s2 w' (T6.out.keep0 hc)).mono (R' := fun e w'' => e = .returned (.int .i64 5) ∧ w' = w'') fun e w'' h => ⟨by rw [h.1, R5'.out]; rfl, h.2⟩)
        clear hkz hkg
        try clear hkn
        try clear hlt
        go_wp2_with fail
        go_loopg [19] 5 (fun g' s19 wr => ∃ (m : Nat), s19 = .int .i64 (m : Int) ∧ m ≤ 5 ∧ 5 ≤ m + g' ∧ Hid (MemAt w wr q p gw gu U s u v vals ∧ SlotsAt wr q2 p2 U2 s2 ∧ Chg [] w6 wr))
        case atStart => exact ⟨0, rfl, by omega, by omega, Lib.hid ⟨A6.out, T6.out, Chg.refl _ _⟩⟩
        case round =>
          obtain ⟨m, rfl, hm, hmg, HM⟩ := hrel
          clear A6 T6 A5
          by_cases hm5 : m < 5
          · have hmz : (m : Int) < 5 := by omega
            have hmz0 : (0 : Int) ≤ (m : Int) := by omega
            have hmz1 : (m : Int).toNat = m := by omega
            have hget := HT2.out.get m (by rw [R5'.out]; exact hm5)
            have hus := HT2.out.used m (by rw [R5'.out]; exact hm5)
            have hused : s2.used (m : Int) = u2 m := by
              have hh : s2.has (m : Int) := ⟨by omega, by rw [R5'.out]; omega⟩
              unfold SS.used
              rw [decide_eq_true hh, Bool.true_and]
              exact hus
            have hvl : u2 m = true → (v2 m).length ≤ 448 := fun hu => by
              rw [← HT2.out.data m (by rw [R5'.out]; exact hm5) hu]
              have h1 := HT2.out.small m (by rw [R5'.out]; exact hm5)
              have h2 : s2.row (m : Int) = s2.rows.getD m noRow := rfl
              unfold SS.data
              rw [List.length_take, h2]
              omega
            have CG := Lib.hid (sget_any q2 p2 U2 s2 (m : Int) wr HM.out.2.1)
            have CU := Lib.hid (fun w' (hc : Chg [] wr w') => sused_any q2 p2 U2 s2 (m : Int) w' (HM.out.2.1.keep0 hc))
            have CC := Lib.hid (CC2.out wr HM.out.2.2)
            rw [hget] at CG
            rw [hused] at CU
            have HAL := Lib.hid (HALL.out m hm5)
            have HVL := Lib.hid hvl
            clear hget hus hused hvl
            go_wp2_with fail
            refine CC.out.mono ?_
            rintro e w' ⟨rfl, hq⟩
            subst hq
            by_cases hix : (m : Int) = ix
            · have q1 : ((m : Int) == ix) = true := by simp [hix]
              cases hu : u2 m
              · rw [hu] at CG
                simp only [Bool.false_eq_true, if_false] at CG
                clear hix hu
                go_wp2_with fail
                refine CG.out.mono ?_
                rintro e w7 ⟨⟨v7, rfl, hb7, ho7⟩, hc7⟩
                have M7 := Lib.hid (And.intro (HM.out.1.keep hc7) (And.intro (HM.out.2.1.keep0 hc7) (HM.out.2.2.trans hc7 (by simp))))
                obtain ⟨a7, q7, rfl⟩ := hb7.slice
                clear hb7 ho7 hc7 CG
                go_wp2
                go_roundg (gk - 1)
                case measure => omega
                case rel => exact ⟨m + 1, by go_num, by omega, by omega, M7⟩
              · rw [hu] at CG
                simp only [if_true] at CG
                have hv := HAL.out.2 hix hu
                have hvl := HVL.out hu
                rw [hv] at CG hvl
                clear hix hu hv
                go_wp2_with fail
                refine CG.out.mono ?_
                rintro e w7 ⟨⟨v7, rfl, hb7, ho7⟩, hc7⟩
                have M7 := Lib.hid (And.intro (HM.out.1.keep hc7) (And.intro (HM.out.2.1.keep0 hc7) (HM.out.2.2.trans hc7 (by simp))))
                have CS := Lib.hid (same_any v7 (.slice a14 pb.length c14) pb pb w7 hb7 (P14.out.1.chg M7.out.1.since.2.2 (by simp)) (by omega) (by omega))
                rw [decide_eq_true rfl] at CS
                obtain ⟨a7, q7, rfl⟩ := hb7.slice
                clear hb7 ho7 hc7 CG
                go_wp2_with fail
                refine CS.out.mono ?_
                rintro e w8 ⟨rfl, n8, hw8⟩
                have hc8 : Chg [] w7 w8 := by rw [hw8]; exact (Chg.refl _ _).drewN n8
                have M8 := Lib.hid (And.intro (M7.out.1.keep hc8) (And.intro (M7.out.2.1.keep0 hc8) (M7.out.2.2.trans hc8 (by simp))))
                clear hw8 hc8 CS
                go_wp2
                go_roundg (gk - 1)
                case measure => omega
                case rel => exact ⟨m + 1, by go_num, by omega, by omega, M8⟩
            · have q1 : ((m : Int) == ix) = false := by simp [hix]
              obtain ⟨hu2, hv2⟩ := HAL.out.1 hix
              rw [hu2] at CG CU HVL
              cases hu : u m
              · rw [hu] at CG CU
                simp only [Bool.false_eq_true, if_false] at CG
                have U0 := Lib.hid hu
                clear hix hu hu2 hv2
                go_wp2_with fail
                refine CG.out.mono ?_
                rintro e w7 ⟨⟨v7, rfl, hb7, ho7⟩, hc7⟩
                have M7 := Lib.hid (And.intro (HM.out.1.keep hc7) (And.intro (HM.out.2.1.keep0 hc7) (HM.out.2.2.trans hc7 (by simp))))
                have C7 := Lib.hid hc7
                obtain ⟨a7, q7, rfl⟩ := hb7.slice
                have u0 : w7.cell? ⟨gu, m, none⟩ = some (.bool false) := by
                  have h := blk_cell M7.out.1.cu m _ (five_at _ m hm5)
                  unfold bo at h
                  rw [U0.out] at h
                  exact h
                clear hb7 ho7 hc7 CG
                go_wp2_with fail
                refine wp_region_L [(26, fun w' => w'.cell? ⟨gu, m, none⟩ = some (.bool false))] (by kernel_rfl) ?_ (fun hHeld => ?_)
                · exact (HoldC.cons (u0) HoldC.nil)
                refine wpAnyL_take (i := 0) (oi := _) (v := ?_) rfl (by kernel_rfl) (by kernel_rfl) (by kernel_rfl) (by kernel_rfl) (by kernel_rfl) (fun _ _ _ h => h) (Or.inl ⟨by rfl, ?_⟩) (by assumption) (fun hNew => ?_)
                rotate_left
                · intro w _
                  go_simp
                  try with_reducible rfl
                clear hHeld
                have hHeld := hNew
                clear hNew
                try simp only [List.getElem_toArray, List.getElem_cons_succ, List.getElem_cons_zero, Act.put, List.setIfInBounds_toArray, List.set_cons_zero, List.set_cons_succ]
                refine wpAnyL_take (i := 1) (oi := _) (v := ?_) rfl (by kernel_rfl) (by kernel_rfl) (by kernel_rfl) (by kernel_rfl) (by kernel_rfl) (fun _ _ _ h => h) (Or.inl ⟨by rfl, ?_⟩) (by assumption) (fun hNew => ?_)
                rotate_left
                · intro w _
                  go_simp
                  try with_reducible rfl
                clear hHeld
                have hHeld := hNew
                clear hNew
                try simp only [List.getElem_toArray, List.getElem_cons_succ, List.getElem_cons_zero, Act.put, List.setIfInBounds_toArray, List.set_cons_zero, List.set_cons_succ]
                refine wpAnyL_take (i := 3) (oi := _) (v := ?_) rfl (by kernel_rfl) (by kernel_rfl) (by kernel_rfl) (by kernel_rfl) (by kernel_rfl) (fun _ _ _ h => h) (Or.inl ⟨by rfl, ?_⟩) (by assumption) (fun hNew => ?_)
                rotate_left
                · intro w _
                  go_simp
                  try with_reducible rfl
                clear hHeld
                have hHeld := hNew
                clear hNew
                try simp only [List.getElem_toArray, List.getElem_cons_succ, List.getElem_cons_zero, Act.put, List.setIfInBounds_toArray, List.set_cons_zero, List.set_cons_succ]
                refine wpAnyL_take (i := 4) (oi := _) (v := ?_) rfl (by kernel_rfl) (by kernel_rfl) (by kernel_rfl) (by kernel_rfl) (by kernel_rfl) (fun _ _ _ h => h) (Or.inl ⟨by rfl, ?_⟩) (by assumption) (fun hNew => ?_)
                rotate_left
                · intro w _
                  go_simp
                  try with_reducible rfl
                clear hHeld
                have hHeld := hNew
                clear hNew
                try simp only [List.getElem_toArray, List.getElem_cons_succ, List.getElem_cons_zero, Act.put, List.setIfInBounds_toArray, List.set_cons_zero, List.set_cons_succ]
                refine wpAnyL_take (i := 5) (oi := _) (v := ?_) rfl (by kernel_rfl) (by kernel_rfl) (by kernel_rfl) (by kernel_rfl) (by kernel_rfl) (fun _ _ _ h => h) (Or.inl ⟨by rfl, ?_⟩) (by assumption) (fun hNew => ?_)
                rotate_left
                · intro w _
                  go_simp
                  try with_reducible rfl
                clear hHeld
                have hHeld := hNew
                clear hNew
                try simp only [List.getElem_toArray, List.getElem_cons_succ, List.getElem_cons_zero, Act.put, List.setIfInBounds_toArray, List.set_cons_zero, List.set_cons_succ]
                refine wpAnyL_load 0 (i := 6) (oi := _) (v := ?_) rfl rfl (by kernel_rfl) (by kernel_rfl) (by kernel_rfl) (by kernel_rfl) (by kernel_rfl) (by kernel_rfl) (fun _ _ _ h => h) (Or.inl ⟨by rfl, ?_⟩) (by assumption) (fun hNew => ?_)
                rotate_left
                · intro w hSw
                  (try dsimp only at hSw)
                  go_simp
                  try with_reducible rfl
                clear hHeld
                have hHeld := hNew
                clear hNew
                try simp only [List.getElem_toArray, List.getElem_cons_succ, List.getElem_cons_zero, Act.put, List.setIfInBounds_toArray, List.set_cons_zero, List.set_cons_succ]
                refine wpAnyL_ready (rs := [2]) (by kernel_rfl) (by simp) ?_
                refine AllReadyL.cons (o := _) rfl (fun K hK => ?_) AllReadyL.nil
                try simp only [List.getElem_toArray, List.getElem_cons_succ, List.getElem_cons_zero]
                go_simp
                refine (CU.out w7.drew (C7.out.trans (by exact (Chg.refl [] w7).drew) (by simp))).mono ?_
                rintro e w' ⟨rfl, hq⟩
                subst hq
                have u1 : w7.drew.cell? ⟨gu, m, none⟩ = some (.bool false) := u0
                try go_wp2_with fail
                clear hHeld
                refine hK.out _ _ ?_ (fun hHeld => ?_)
                · exact (HoldC.cons (u1) HoldC.nil)
                clear hK K
                try simp only [List.getElem_toArray, List.getElem_cons_succ, List.getElem_cons_zero, Act.put, List.setIfInBounds_toArray, List.set_cons_zero, List.set_cons_succ]
                refine wpAnyL_take (i := 7) (oi := _) (v := ?_) rfl (by kernel_rfl) (by kernel_rfl) (by kernel_rfl) (by kernel_rfl) (by kernel_rfl) (fun _ _ _ h => h) (Or.inl ⟨by rfl, ?_⟩) (by assumption) (fun hNew => ?_)
                rotate_left
                · intro w _
                  go_simp
                  try with_reducible rfl
                clear hHeld
                have hHeld := hNew
                clear hNew
                try simp only [List.getElem_toArray, List.getElem_cons_succ, List.getElem_cons_zero, Act.put, List.setIfInBounds_toArray, List.set_cons_zero, List.set_cons_succ]
                refine wpAnyL_take (i := 8) (oi := _) (v := ?_) rfl (by kernel_rfl) (by kernel_rfl) (by kernel_rfl) (by kernel_rfl) (by kernel_rfl) (fun _ _ _ h => h) (Or.inl ⟨by rfl, ?_⟩) (by assumption) (fun hNew => ?_)
                rotate_left
                · intro w _
                  go_simp
                  try with_reducible rfl
                clear hHeld
                have hHeld := hNew
                clear hNew
                try simp only [List.getElem_toArray, List.getElem_cons_succ, List.getElem_cons_zero, Act.put, List.setIfInBounds_toArray, List.set_cons_zero, List.set_cons_succ]
                refine wpAnyL_take (i := 9) (oi := _) (v := ?_) rfl (by kernel_rfl) (by kernel_rfl) (by kernel_rfl) (by kernel_rfl) (by kernel_rfl) (fun _ _ _ h => h) (Or.inl ⟨by rfl, ?_⟩) (by assumption) (fun hNew => ?_)
                rotate_left
                · intro w _
                  go_simp
                  try with_reducible rfl
                clear hHeld
                have hHeld := hNew
                clear hNew
                try simp only [List.getElem_toArray, List.getElem_cons_succ, List.getElem_cons_zero, Act.put, List.setIfInBounds_toArray, List.set_cons_zero, List.set_cons_succ]
                refine wpAnyL_take (i := 10) (oi := _) (v := ?_) rfl (by kernel_rfl) (by kernel_rfl) (by kernel_rfl) (by kernel_rfl) (by kernel_rfl) (fun _ _ _ h => h) (Or.inl ⟨by rfl, ?_⟩) (by assumption) (fun hNew => ?_)
                rotate_left
                · intro w _
                  go_simp
                  try with_reducible rfl
                clear hHeld
                have hHeld := hNew
                clear hNew
                try simp only [List.getElem_toArray, List.getElem_cons_succ, List.getElem_cons_zero, Act.put, List.setIfInBounds_toArray, List.set_cons_zero, List.set_cons_succ]
                refine wpAnyL_take (i := 11) (oi := _) (v := ?_) rfl (by kernel_rfl) (by kernel_rfl) (by kernel_rfl) (by kernel_rfl) (by kernel_rfl) (fun _ _ _ h => h) (Or.inl ⟨by rfl, ?_⟩) (by assumption) (fun hNew => ?_)
                rotate_left
                · intro w _
                  go_simp
                  try with_reducible rfl
                clear hHeld
                have hHeld := hNew
                clear hNew
                try simp only [List.getElem_toArray, List.getElem_cons_succ, List.getElem_cons_zero, Act.put, List.setIfInBounds_toArray, List.set_cons_zero, List.set_cons_succ]
                refine wpAnyL_load 0 (i := 12) (oi := _) (v := ?_) rfl rfl (by kernel_rfl) (by kernel_rfl) (by kernel_rfl) (by kernel_rfl) (by kernel_rfl) (by kernel_rfl) (fun _ _ _ h => h) (Or.inl ⟨by rfl, ?_⟩) (by assumption) (fun hNew => ?_)
                rotate_left
                · intro w hSw
                  (try dsimp only at hSw)
                  go_simp
                  try with_reducible rfl
                clear hHeld
                have hHeld := hNew
                clear hNew
                try simp only [List.getElem_toArray, List.getElem_cons_succ, List.getElem_cons_zero, Act.put, List.setIfInBounds_toArray, List.set_cons_zero, List.set_cons_succ]
                refine wpAnyL_take (i := 13) (oi := _) (v := ?_) rfl (by kernel_rfl) (by kernel_rfl) (by kernel_rfl) (by kernel_rfl) (by kernel_rfl) (fun _ _ _ h => h) (Or.inl ⟨by rfl, ?_⟩) (by assumption) (fun hNew => ?_)
                rotate_left
                · intro w _
                  go_simp
                  try with_reducible rfl
                clear hHeld
                have hHeld := hNew
                clear hNew
                try simp only [List.getElem_toArray, List.getElem_cons_succ, List.getElem_cons_zero, Act.put, List.setIfInBounds_toArray, List.set_cons_zero, List.set_cons_succ]
                refine wpAnyL_take (i := 14) (oi := _) (v := _) rfl (by kernel_rfl) (by kernel_rfl) (by kernel_rfl) (by kernel_rfl) (by kernel_rfl) (fun _ _ _ h => h) (Or.inr ⟨by rfl, rfl⟩) (by assumption) (fun hNew => ?_)
                clear hHeld
                have hHeld := hNew
                clear hNew
                try simp only [List.getElem_toArray, List.getElem_cons_succ, List.getElem_cons_zero, Act.put, List.setIfInBounds_toArray, List.set_cons_zero, List.set_cons_succ]
                refine wpAnyL_take (i := 15) (oi := _) (v := _) rfl (by kernel_rfl) (by kernel_rfl) (by kernel_rfl) (by kernel_rfl) (by kernel_rfl) (fun _ _ _ h => h) (Or.inr ⟨by rfl, rfl⟩) (by assumption) (fun hNew => ?_)
                clear hHeld
                have hHeld := hNew
                clear hNew
                try simp only [List.getElem_toArray, List.getElem_cons_succ, List.getElem_cons_zero, Act.put, List.setIfInBounds_toArray, List.set_cons_zero, List.set_cons_succ]
                refine wpAnyL_take (i := 16) (oi := _) (v := _) rfl (by kernel_rfl) (by kernel_rfl) (by kernel_rfl) (by kernel_rfl) (by kernel_rfl) (fun _ _ _ h => h) (Or.inr ⟨by rfl, rfl⟩) (by assumption) (fun hNew => ?_)
                clear hHeld
                have hHeld := hNew
                clear hNew
                try simp only [List.getElem_toArray, List.getElem_cons_succ, List.getElem_cons_zero, Act.put, List.setIfInBounds_toArray, List.set_cons_zero, List.set_cons_succ]
                refine wpAnyL_take (i := 17) (oi := _) (v := _) rfl (by kernel_rfl) (by kernel_rfl) (by kernel_rfl) (by kernel_rfl) (by kernel_rfl) (fun _ _ _ h => h) (Or.inr ⟨by rfl, rfl⟩) (by assumption) (fun hNew => ?_)
                clear hHeld
                have hHeld := hNew
                clear hNew
                try simp only [List.getElem_toArray, List.getElem_cons_succ, List.getElem_cons_zero, Act.put, List.setIfInBounds_toArray, List.set_cons_zero, List.set_cons_succ]
                refine wpAnyL_take (i := 18) (oi := _) (v := _) rfl (by kernel_rfl) (by kernel_rfl) (by kernel_rfl) (by kernel_rfl) (by kernel_rfl) (fun _ _ _ h => h) (Or.inr ⟨by rfl, rfl⟩) (by assumption) (fun hNew => ?_)
                clear hHeld
                have hHeld := hNew
                clear hNew
                try simp only [List.getElem_toArray, List.getElem_cons_succ, List.getElem_cons_zero, Act.put, List.setIfInBounds_toArray, List.set_cons_zero, List.set_cons_succ]
                refine wpAnyL_take (i := 19) (oi := _) (v := _) rfl (by kernel_rfl) (by kernel_rfl) (by kernel_rfl) (by kernel_rfl) (by kernel_rfl) (fun _ _ _ h => h) (Or.inr ⟨by rfl, rfl⟩) (by assumption) (fun hNew => ?_)
                clear hHeld
                have hHeld := hNew
                clear hNew
                try simp only [List.getElem_toArray, List.getElem_cons_succ, List.getElem_cons_zero, Act.put, List.setIfInBounds_toArray, List.set_cons_zero, List.set_cons_succ]
                refine wpAnyL_take (i := 20) (oi := _) (v := _) rfl (by kernel_rfl) (by kernel_rfl) (by kernel_rfl) (by kernel_rfl) (by kernel_rfl) (fun _ _ _ h => h) (Or.inr ⟨by rfl, rfl⟩) (by assumption) (fun hNew => ?_)
                clear hHeld
                have hHeld := hNew
                clear hNew
                try simp only [List.getElem_toArray, List.getElem_cons_succ, List.getElem_cons_zero, Act.put, List.setIfInBounds_toArray, List.set_cons_zero, List.set_cons_succ]
                refine wpAnyL_take (i := 21) (oi := _) (v := _) rfl (by kernel_rfl) (by kernel_rfl) (by kernel_rfl) (by kernel_rfl) (by kernel_rfl) (fun _ _ _ h => h) (Or.inr ⟨by rfl, rfl⟩) (by assumption) (fun hNew => ?_)
                clear hHeld
                have hHeld := hNew
                clear hNew
                try simp only [List.getElem_toArray, List.getElem_cons_succ, List.getElem_cons_zero, Act.put, List.setIfInBounds_toArray, List.set_cons_zero, List.set_cons_succ]
                refine wpAnyL_take (i := 22) (oi := _) (v := _) rfl (by kernel_rfl) (by kernel_rfl) (by kernel_rfl) (by kernel_rfl) (by kernel_rfl) (fun _ _ _ h => h) (Or.inr ⟨by rfl, rfl⟩) (by assumption) (fun hNew => ?_)
                clear hHeld
                have hHeld := hNew
                clear hNew
                try simp only [List.getElem_toArray, List.getElem_cons_succ, List.getElem_cons_zero, Act.put, List.setIfInBounds_toArray, List.set_cons_zero, List.set_cons_succ]
                refine wpAnyL_take (i := 23) (oi := _) (v := _) rfl (by kernel_rfl) (by kernel_rfl) (by kernel_rfl) (by kernel_rfl) (by kernel_rfl) (fun _ _ _ h => h) (Or.inr ⟨by rfl, rfl⟩) (by assumption) (fun hNew => ?_)
                clear hHeld
                have hHeld := hNew
                clear hNew
                try simp only [List.getElem_toArray, List.getElem_cons_succ, List.getElem_cons_zero, Act.put, List.setIfInBounds_toArray, List.set_cons_zero, List.set_cons_succ]
                refine wpAnyL_take (i := 24) (oi := _) (v := _) rfl (by kernel_rfl) (by kernel_rfl) (by kernel_rfl) (by kernel_rfl) (by kernel_rfl) (fun _ _ _ h => h) (Or.inr ⟨by rfl, rfl⟩) (by assumption) (fun hNew => ?_)
                clear hHeld
                have hHeld := hNew
                clear hNew
                try simp only [List.getElem_toArray, List.getElem_cons_succ, List.getElem_cons_zero, Act.put, List.setIfInBounds_toArray, List.set_cons_zero, List.set_cons_succ]
                refine wpAnyL_take (i := 25) (oi := _) (v := ?_) rfl (by kernel_rfl) (by kernel_rfl) (by kernel_rfl) (by kernel_rfl) (by kernel_rfl) (fun _ _ _ h => h) (Or.inl ⟨by rfl, ?_⟩) (by assumption) (fun hNew => ?_)
                rotate_left
                · intro w _
                  go_simp
                  try with_reducible rfl
                clear hHeld
                have hHeld := hNew
                clear hNew
                try simp only [List.getElem_toArray, List.getElem_cons_succ, List.getElem_cons_zero, Act.put, List.setIfInBounds_toArray, List.set_cons_zero, List.set_cons_succ]
                refine wpAnyL_ready (rs := [26]) (by kernel_rfl) (by simp) ?_
                refine AllReadyL.cons (o := _) rfl (fun K hK => ?_) AllReadyL.nil
                try simp only [List.getElem_toArray, List.getElem_cons_succ, List.getElem_cons_zero]
                go_simp
                clear hHeld
                refine hK.out _ _ ?_ (fun hHeld => ?_)
                · exact (HoldC.past (by kernel_rfl) HoldC.nil)
                clear hK K
                try simp only [List.getElem_toArray, List.getElem_cons_succ, List.getElem_cons_zero, Act.put, List.setIfInBounds_toArray, List.set_cons_zero, List.set_cons_succ]
                refine wpAnyL_done (by kernel_rfl) ?_ _
                clear hHeld
                have M8 : Hid (MemAt w w7.drew q p gw gu U s u v vals ∧ SlotsAt w7.drew q2 p2 U2 s2 ∧ Chg [] w6 w7.drew) := Lib.hid (by
                  have h : Chg [] w7 w7.drew := by exact (Chg.refl [] w7).drew
                  exact ⟨M7.out.1.keep h, M7.out.2.1.keep0 h, M7.out.2.2.trans h (by simp)⟩)
                clear u0 u1
                generalize w7.drew = w8 at *
                go_wp2
                go_roundg (gk - 1)
                case measure => omega
                case rel => exact ⟨m + 1, by go_num, by omega, by omega, M8⟩
              · rw [hu] at CG CU HVL
                simp only [if_true] at CG
                rw [hv2 hu] at CG HVL
                have hvl := HVL.out rfl
                have U0 := Lib.hid hu
                clear hix hu hu2 hv2
                go_wp2_with fail
                refine CG.out.mono ?_
                rintro e w7 ⟨⟨v7, rfl, hb7, ho7⟩, hc7⟩
                have M7 := Lib.hid (And.intro (HM.out.1.keep hc7) (And.intro (HM.out.2.1.keep0 hc7) (HM.out.2.2.trans hc7 (by simp))))
                have C7 := Lib.hid hc7
                have HB7 := Lib.hid hb7
                obtain ⟨a7, q7, rfl⟩ := hb7.slice
                have u0 : w7.cell? ⟨gu, m, none⟩ = some (.bool true) := by
                  have h := blk_cell M7.out.1.cu m _ (five_at _ m hm5)
                  unfold bo at h
                  rw [U0.out] at h
                  exact h
                have hcm := M7.out.1.came m hm5
                obtain ⟨a9, q9, v9⟩ := hcm.1.slice
                have y0 : w7.cell? ⟨gw, m, none⟩ = some (.slice a9 (v m).length q9) := by
                  have h := blk_cell M7.out.1.cw m _ (five_at _ m hm5)
                  rw [v9] at h
                  exact h
                rw [v9] at hcm
                have CS := Lib.hid (same_any (.slice a7 (v m).length q7) (.slice a9 (v m).length q9) (v m) (v m) w7.drew (HB7.out.chg (by exact (Chg.refl [] w7).drew) (by simp)) ((hcm.1.chg M7.out.1.since.2.2 (by simp)).chg (by exact (Chg.refl [] w7).drew) (by simp)) (by omega) (by omega))
                rw [decide_eq_true rfl] at CS
                clear hb7 ho7 hc7 CG hcm v9
                go_wp2_with fail
                refine wp_region_L [(26, fun w' => w'.cell? ⟨gu, m, none⟩ = some (.bool true)), (26, fun w' => w'.cell? ⟨gw, m, none⟩ = some (.slice a9 (v m).length q9))] (by kernel_rfl) ?_ (fun hHeld => ?_)
                · exact (HoldC.cons (u0) (HoldC.cons (y0) HoldC.nil))
                refine wpAnyL_take (i := 0) (oi := _) (v := ?_) rfl (by kernel_rfl) (by kernel_rfl) (by kernel_rfl) (by kernel_rfl) (by kernel_rfl) (fun _ _ _ h => h) (Or.inl ⟨by rfl, ?_⟩) (by assumption) (fun hNew => ?_)
                rotate_left
                · intro w _
                  go_simp
                  try with_reducible rfl
                clear hHeld
                have hHeld := hNew
                clear hNew
                try simp only [List.getElem_toArray, List.getElem_cons_succ, List.getElem_cons_zero, Act.put, List.setIfInBounds_toArray, List.set_cons_zero, List.set_cons_succ]
                refine wpAnyL_take (i := 1) (oi := _) (v := ?_) rfl (by kernel_rfl) (by kernel_rfl) (by kernel_rfl) (by kernel_rfl) (by kernel_rfl) (fun _ _ _ h => h) (Or.inl ⟨by rfl, ?_⟩) (by assumption) (fun hNew => ?_)
                rotate_left
                · intro w _
                  go_simp
                  try with_reducible rfl
                clear hHeld
                have hHeld := hNew
                clear hNew
                try simp only [List.getElem_toArray, List.getElem_cons_succ, List.getElem_cons_zero, Act.put, List.setIfInBounds_toArray, List.set_cons_zero, List.set_cons_succ]
                refine wpAnyL_take (i := 3) (oi := _) (v := ?_) rfl (by kernel_rfl) (by kernel_rfl) (by kernel_rfl) (by kernel_rfl) (by kernel_rfl) (fun _ _ _ h => h) (Or.inl ⟨by rfl, ?_⟩) (by assumption) (fun hNew => ?_)
                rotate_left
                · intro w _
                  go_simp
                  try with_reducible rfl
                clear hHeld
                have hHeld := hNew
                clear hNew
                try simp only [List.getElem_toArray, List.getElem_cons_succ, List.getElem_cons_zero, Act.put, List.setIfInBounds_toArray, List.set_cons_zero, List.set_cons_succ]
                refine wpAnyL_take (i := 4) (oi := _) (v := ?_) rfl (by kernel_rfl) (by kernel_rfl) (by kernel_rfl) (by kernel_rfl) (by kernel_rfl) (fun _ _ _ h => h) (Or.inl ⟨by rfl, ?_⟩) (by assumption) (fun hNew => ?_)
                rotate_left
                · intro w _
                  go_simp
                  try with_reducible rfl
                clear hHeld
                have hHeld := hNew
                clear hNew
                try simp only [List.getElem_toArray, List.getElem_cons_succ, List.getElem_cons_zero, Act.put, List.setIfInBounds_toArray, List.set_cons_zero, List.set_cons_succ]
                refine wpAnyL_take (i := 5) (oi := _) (v := ?_) rfl (by kernel_rfl) (by kernel_rfl) (by kernel_rfl) (by kernel_rfl) (by kernel_rfl) (fun _ _ _ h => h) (Or.inl ⟨by rfl, ?_⟩) (by assumption) (fun hNew => ?_)
                rotate_left
                · intro w _
                  go_simp
                  try with_reducible rfl
                clear hHeld
                have hHeld := hNew
                clear hNew
                try simp only [List.getElem_toArray, List.getElem_cons_succ, List.getElem_cons_zero, Act.put, List.setIfInBounds_toArray, List.set_cons_zero, List.set_cons_succ]
                refine wpAnyL_load 0 (i := 6) (oi := _) (v := ?_) rfl rfl (by kernel_rfl) (by kernel_rfl) (by kernel_rfl) (by kernel_rfl) (by kernel_rfl) (by kernel_rfl) (fun _ _ _ h => h) (Or.inl ⟨by rfl, ?_⟩) (by assumption) (fun hNew => ?_)
                rotate_left
                · intro w hSw
                  (try dsimp only at hSw)
                  go_simp
                  try with_reducible rfl
                clear hHeld
                have hHeld := hNew
                clear hNew
                try simp only [List.getElem_toArray, List.getElem_cons_succ, List.getElem_cons_zero, Act.put, List.setIfInBounds_toArray, List.set_cons_zero, List.set_cons_succ]
                refine wpAnyL_ready (rs := [2]) (by kernel_rfl) (by simp) ?_
                refine AllReadyL.cons (o := _) rfl (fun K hK => ?_) AllReadyL.nil
                try simp only [List.getElem_toArray, List.getElem_cons_succ, List.getElem_cons_zero]
                go_simp
                refine (CU.out w7.drew (C7.out.trans (by exact (Chg.refl [] w7).drew) (by simp))).mono ?_
                rintro e w' ⟨rfl, hq⟩
                subst hq
                have u1 : w7.drew.cell? ⟨gu, m, none⟩ = some (.bool true) := u0
                have y1 : w7.drew.cell? ⟨gw, m, none⟩ = some (.slice a9 (v m).length q9) := y0
                try go_wp2_with fail
                clear hHeld
                refine hK.out _ _ ?_ (fun hHeld => ?_)
                · exact (HoldC.cons (u1) (HoldC.cons (y1) HoldC.nil))
                clear hK K
                try simp only [List.getElem_toArray, List.getElem_cons_succ, List.getElem_cons_zero, Act.put, List.setIfInBounds_toArray, List.set_cons_zero, List.set_cons_succ]
                refine wpAnyL_take (i := 7) (oi := _) (v := ?_) rfl (by kernel_rfl) (by kernel_rfl) (by kernel_rfl) (by kernel_rfl) (by kernel_rfl) (fun _ _ _ h => h) (Or.inl ⟨by rfl, ?_⟩) (by assumption) (fun hNew => ?_)
                rotate_left
                · intro w _
                  go_simp
                  try with_reducible rfl
                clear hHeld
                have hHeld := hNew
                clear hNew
                try simp only [List.getElem_toArray, List.getElem_cons_succ, List.getElem_cons_zero, Act.put, List.setIfInBounds_toArray, List.set_cons_zero, List.set_cons_succ]
                refine wpAnyL_take (i := 8) (oi := _) (v := ?_) rfl (by kernel_rfl) (by kernel_rfl) (by kernel_rfl) (by kernel_rfl) (by kernel_rfl) (fun _ _ _ h => h) (Or.inl ⟨by rfl, ?_⟩) (by assumption) (fun hNew => ?_)
                rotate_left
                · intro w _
                  go_simp
                  try with_reducible rfl
                clear hHeld
                have hHeld := hNew
                clear hNew
                try simp only [List.getElem_toArray, List.getElem_cons_succ, List.getElem_cons_zero, Act.put, List.setIfInBounds_toArray, List.set_cons_zero, List.set_cons_succ]
                refine wpAnyL_take (i := 9) (oi := _) (v := ?_) rfl (by kernel_rfl) (by kernel_rfl) (by kernel_rfl) (by kernel_rfl) (by kernel_rfl) (fun _ _ _ h => h) (Or.inl ⟨by rfl, ?_⟩) (by assumption) (fun hNew => ?_)
                rotate_left
                · intro w _
                  go_simp
                  try with_reducible rfl
                clear hHeld
                have hHeld := hNew
                clear hNew
                try simp only [List.getElem_toArray, List.getElem_cons_succ, List.getElem_cons_zero, Act.put, List.setIfInBounds_toArray, List.set_cons_zero, List.set_cons_succ]
                refine wpAnyL_take (i := 10) (oi := _) (v := ?_) rfl (by kernel_rfl) (by kernel_rfl) (by kernel_rfl) (by kernel_rfl) (by kernel_rfl) (fun _ _ _ h => h) (Or.inl ⟨by rfl, ?_⟩) (by assumption) (fun hNew => ?_)
                rotate_left
                · intro w _
                  go_simp
                  try with_reducible rfl
                clear hHeld
                have hHeld := hNew
                clear hNew
                try simp only [List.getElem_toArray, List.getElem_cons_succ, List.getElem_cons_zero, Act.put, List.setIfInBounds_toArray, List.set_cons_zero, List.set_cons_succ]
                refine wpAnyL_take (i := 11) (oi := _) (v := ?_) rfl (by kernel_rfl) (by kernel_rfl) (by kernel_rfl) (by kernel_rfl) (by kernel_rfl) (fun _ _ _ h => h) (Or.inl ⟨by rfl, ?_⟩) (by assumption) (fun hNew => ?_)
                rotate_left
                · intro w _
                  go_simp
                  try with_reducible rfl
                clear hHeld
                have hHeld := hNew
                clear hNew
                try simp only [List.getElem_toArray, List.getElem_cons_succ, List.getElem_cons_zero, Act.put, List.setIfInBounds_toArray, List.set_cons_zero, List.set_cons_succ]
                refine wpAnyL_load 0 (i := 12) (oi := _) (v := ?_) rfl rfl (by kernel_rfl) (by kernel_rfl) (by kernel_rfl) (by kernel_rfl) (by kernel_rfl) (by kernel_rfl) (fun _ _ _ h => h) (Or.inl ⟨by rfl, ?_⟩) (by assumption) (fun hNew => ?_)
                rotate_left
                · intro w hSw
                  (try dsimp only at hSw)
                  go_simp
                  try with_reducible rfl
                clear hHeld
                have hHeld := hNew
                clear hNew
                try simp only [List.getElem_toArray, List.getElem_cons_succ, List.getElem_cons_zero, Act.put, List.setIfInBounds_toArray, List.set_cons_zero, List.set_cons_succ]
                refine wpAnyL_take (i := 13) (oi := _) (v := ?_) rfl (by kernel_rfl) (by kernel_rfl) (by kernel_rfl) (by kernel_rfl) (by kernel_rfl) (fun _ _ _ h => h) (Or.inl ⟨by rfl, ?_⟩) (by assumption) (fun hNew => ?_)
                rotate_left
                · intro w _
                  go_simp
                  try with_reducible rfl
                clear hHeld
                have hHeld := hNew
                clear hNew
                try simp only [List.getElem_toArray, List.getElem_cons_succ, List.getElem_cons_zero, Act.put, List.setIfInBounds_toArray, List.set_cons_zero, List.set_cons_succ]
                refine wpAnyL_take (i := 14) (oi := _) (v := ?_) rfl (by kernel_rfl) (by kernel_rfl) (by kernel_rfl) (by kernel_rfl) (by kernel_rfl) (fun _ _ _ h => h) (Or.inl ⟨by rfl, ?_⟩) (by assumption) (fun hNew => ?_)
                rotate_left
                · intro w _
                  go_simp
                  try with_reducible rfl
                clear hHeld
                have hHeld := hNew
                clear hNew
                try simp only [List.getElem_toArray, List.getElem_cons_succ, List.getElem_cons_zero, Act.put, List.setIfInBounds_toArray, List.set_cons_zero, List.set_cons_succ]
                refine wpAnyL_take (i := 15) (oi := _) (v := ?_) rfl (by kernel_rfl) (by kernel_rfl) (by kernel_rfl) (by kernel_rfl) (by kernel_rfl) (fun _ _ _ h => h) (Or.inl ⟨by rfl, ?_⟩) (by assumption) (fun hNew => ?_)
                rotate_left
                · intro w _
                  go_simp
                  try with_reducible rfl
                clear hHeld
                have hHeld := hNew
                clear hNew
                try simp only [List.getElem_toArray, List.getElem_cons_succ, List.getElem_cons_zero, Act.put, List.setIfInBounds_toArray, List.set_cons_zero, List.set_cons_succ]
                refine wpAnyL_take (i := 16) (oi := _) (v := ?_) rfl (by kernel_rfl) (by kernel_rfl) (by kernel_rfl) (by kernel_rfl) (by kernel_rfl) (fun _ _ _ h => h) (Or.inl ⟨by rfl, ?_⟩) (by assumption) (fun hNew => ?_)
                rotate_left
                · intro w _
                  go_simp
                  try with_reducible rfl
                clear hHeld
                have hHeld := hNew
                clear hNew
                try simp only [List.getElem_toArray, List.getElem_cons_succ, List.getElem_cons_zero, Act.put, List.setIfInBounds_toArray, List.set_cons_zero, List.set_cons_succ]
                refine wpAnyL_take (i := 17) (oi := _) (v := ?_) rfl (by kernel_rfl) (by kernel_rfl) (by kernel_rfl) (by kernel_rfl) (by kernel_rfl) (fun _ _ _ h => h) (Or.inl ⟨by rfl, ?_⟩) (by assumption) (fun hNew => ?_)
                rotate_left
                · intro w _
                  go_simp
                  try with_reducible rfl
                clear hHeld
                have hHeld := hNew
                clear hNew
                try simp only [List.getElem_toArray, List.getElem_cons_succ, List.getElem_cons_zero, Act.put, List.setIfInBounds_toArray, List.set_cons_zero, List.set_cons_succ]
                refine wpAnyL_take (i := 18) (oi := _) (v := ?_) rfl (by kernel_rfl) (by kernel_rfl) (by kernel_rfl) (by kernel_rfl) (by kernel_rfl) (fun _ _ _ h => h) (Or.inl ⟨by rfl, ?_⟩) (by assumption) (fun hNew => ?_)
                rotate_left
                · intro w _
                  go_simp
                  try with_reducible rfl
                clear hHeld
                have hHeld := hNew
                clear hNew
                try simp only [List.getElem_toArray, List.getElem_cons_succ, List.getElem_cons_zero, Act.put, List.setIfInBounds_toArray, List.set_cons_zero, List.set_cons_succ]
                refine wpAnyL_take (i := 19) (oi := _) (v := ?_) rfl (by kernel_rfl) (by kernel_rfl) (by kernel_rfl) (by kernel_rfl) (by kernel_rfl) (fun _ _ _ h => h) (Or.inl ⟨by rfl, ?_⟩) (by assumption) (fun hNew => ?_)
                rotate_left
                · intro w _
                  go_simp
                  try with_reducible rfl
                clear hHeld
                have hHeld := hNew
                clear hNew
                try simp only [List.getElem_toArray, List.getElem_cons_succ, List.getElem_cons_zero, Act.put, List.setIfInBounds_toArray, List.set_cons_zero, List.set_cons_succ]
                refine wpAnyL_take (i := 20) (oi := _) (v := ?_) rfl (by kernel_rfl) (by kernel_rfl) (by kernel_rfl) (by kernel_rfl) (by kernel_rfl) (fun _ _ _ h => h) (Or.inl ⟨by rfl, ?_⟩) (by assumption) (fun hNew => ?_)
                rotate_left
                · intro w _
                  go_simp
                  try with_reducible rfl
                clear hHeld
                have hHeld := hNew
                clear hNew
                try simp only [List.getElem_toArray, List.getElem_cons_succ, List.getElem_cons_zero, Act.put, List.setIfInBounds_toArray, List.set_cons_zero, List.set_cons_succ]
                refine wpAnyL_load 1 (i := 21) (oi := _) (v := ?_) rfl rfl (by kernel_rfl) (by kernel_rfl) (by kernel_rfl) (by kernel_rfl) (by kernel_rfl) (by kernel_rfl) (fun _ _ _ h => h) (Or.inl ⟨by rfl, ?_⟩) (by assumption) (fun hNew => ?_)
                rotate_left
                · intro w hSw
                  (try dsimp only at hSw)
                  go_simp
                  try with_reducible rfl
                clear hHeld
                have hHeld := hNew
                clear hNew
                try simp only [List.getElem_toArray, List.getElem_cons_succ, List.getElem_cons_zero, Act.put, List.setIfInBounds_toArray, List.set_cons_zero, List.set_cons_succ]
                refine wpAnyL_ready (rs := [22]) (by kernel_rfl) (by simp) ?_
                refine AllReadyL.cons (o := _) rfl (fun K hK => ?_) AllReadyL.nil
                try simp only [List.getElem_toArray, List.getElem_cons_succ, List.getElem_cons_zero]
                go_simp
                refine CS.out.mono ?_
                rintro e w8 ⟨rfl, n8, hw8⟩
                have hc8 : Chg [] w7 w8 := by rw [hw8]; exact (by exact (Chg.refl [] w7).drew : Chg [] w7 w7.drew).drewN n8
                have M8 := Lib.hid (And.intro (M7.out.1.keep hc8) (And.intro (M7.out.2.1.keep0 hc8) (M7.out.2.2.trans hc8 (by simp))))
                have u8 := hc8.cell u0 (by simp)
                have y8 := hc8.cell y0 (by simp)
                clear hw8 hc8 CS u0 u1 y0 y1
                try go_wp2_with fail
                clear hHeld
                refine hK.out _ _ ?_ (fun hHeld => ?_)
                · exact (HoldC.cons (u8) (HoldC.cons (y8) HoldC.nil))
                clear hK K
                try simp only [List.getElem_toArray, List.getElem_cons_succ, List.getElem_cons_zero, Act.put, List.setIfInBounds_toArray, List.set_cons_zero, List.set_cons_succ]
                refine wpAnyL_take (i := 23) (oi := _) (v := ?_) rfl (by kernel_rfl) (by kernel_rfl) (by kernel_rfl) (by kernel_rfl) (by kernel_rfl) (fun _ _ _ h => h) (Or.inl ⟨by rfl, ?_⟩) (by assumption) (fun hNew => ?_)
                rotate_left
                · intro w _
                  go_simp
                  try with_reducible rfl
                clear hHeld
                have hHeld := hNew
                clear hNew
                try simp only [List.getElem_toArray, List.getElem_cons_succ, List.getElem_cons_zero, Act.put, List.setIfInBounds_toArray, List.set_cons_zero, List.set_cons_succ]
                refine wpAnyL_take (i := 24) (oi := _) (v := ?_) rfl (by kernel_rfl) (by kernel_rfl) (by kernel_rfl) (by kernel_rfl) (by kernel_rfl) (fun _ _ _ h => h) (Or.inl ⟨by rfl, ?_⟩) (by assumption) (fun hNew => ?_)
                rotate_left
                · intro w _
                  go_simp
                  try with_reducible rfl
                clear hHeld
                have hHeld := hNew
                clear hNew
                try simp only [List.getElem_toArray, List.getElem_cons_succ, List.getElem_cons_zero, Act.put, List.setIfInBounds_toArray, List.set_cons_zero, List.set_cons_succ]
                refine wpAnyL_take (i := 25) (oi := _) (v := ?_) rfl (by kernel_rfl) (by kernel_rfl) (by kernel_rfl) (by kernel_rfl) (by kernel_rfl) (fun _ _ _ h => h) (Or.inl ⟨by rfl, ?_⟩) (by assumption) (fun hNew => ?_)
                rotate_left
                · intro w _
                  go_simp
                  try with_reducible rfl
                clear hHeld
                have hHeld := hNew
                clear hNew
                try simp only [List.getElem_toArray, List.getElem_cons_succ, List.getElem_cons_zero, Act.put, List.setIfInBounds_toArray, List.set_cons_zero, List.set_cons_succ]
                refine wpAnyL_ready (rs := [26]) (by kernel_rfl) (by simp) ?_
                refine AllReadyL.cons (o := _) rfl (fun K hK => ?_) AllReadyL.nil
                try simp only [List.getElem_toArray, List.getElem_cons_succ, List.getElem_cons_zero]
                go_simp
                clear hHeld
                refine hK.out _ _ ?_ (fun hHeld => ?_)
                · exact (HoldC.past (by kernel_rfl) (HoldC.past (by kernel_rfl) HoldC.nil))
                clear hK K
                try simp only [List.getElem_toArray, List.getElem_cons_succ, List.getElem_cons_zero, Act.put, List.setIfInBounds_toArray, List.set_cons_zero, List.set_cons_succ]
                refine wpAnyL_done (by kernel_rfl) ?_ _
                clear hHeld
                clear u8 y8
                go_wp2
                go_roundg (gk - 1)
                case measure => omega
                case rel => exact ⟨m + 1, by go_num, by omega, by omega, M8⟩
          · have hm6 : m = 5 := by omega
            have hmz : ¬ (m : Int) < 5 := by omega
            have CC := Lib.hid (CC2.out wr HM.out.2.2)
            clear hm6
            go_wp2_with fail
            refine CC.out.mono ?_
            rintro e w' ⟨rfl, hq⟩
            subst hq
            go_wp2
            go_ret
            exact ⟨rfl, HM.out.1.since.2.2⟩
end Go.Proofs.YtipfgghdoicdhaaDoor.W

/- SlotDies: what the row asks. -/
namespace Go.Proofs.YtipfgghdoicdhaaDoor.slotDies
open Go.RowKit
theorem walk (a : Option Addr) (n cap : Nat) (f : Nat → Go.Proofs.YtipfgghdoicdhaaDoor.W.Dd) (z : Int) (ca : Option Addr) (cl cc : Nat) (zs : List Int) (X : World) (h : n ≤ maxLen ∧ Go.Proofs.YtipfgghdoicdhaaDoor.W.DeedsAt X a n f) (hz : (Lit.int .u8 z).wf = true) (hc : IsRow .u8 X ca cl cc zs) :
    Calls Tryd.prog 6 #[.slice a n cap, .int .u8 z, .slice ca cl cc] X fun e w' => e = .returned (.bool true) ∧ Below X.heap.size X w' := by
  obtain ⟨ch, rfl, hl, hch⟩ := Go.Proofs.YtipfgghdoicdhaaDoor.W.IsRow.came hc
  simp [Lit.wf, IntKind.min, IntKind.max, IntKind.signed, IntKind.bits] at hz
  obtain ⟨fn, rfl⟩ := Int.eq_ofNat_of_zero_le hz.1
  exact (Go.Proofs.YtipfgghdoicdhaaDoor.W.dies_any a n cap f fn (by omega) ca cc ch X h.2 hch hl).mono fun e w' ⟨h1, h2⟩ => ⟨h1, h2.below (by simp)⟩
end Go.Proofs.YtipfgghdoicdhaaDoor.slotDies
