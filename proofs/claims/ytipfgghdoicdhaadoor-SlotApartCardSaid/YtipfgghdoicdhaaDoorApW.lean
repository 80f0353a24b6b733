/- SlotApart: the walk. -/
import Derived.Test.YtipfgghdoicdhaaDoorAp0
import Derived.Test.YtipfgghdoicdhaaDoorRegP
namespace Go.Proofs.YtipfgghdoicdhaaDoor.W
open Go.RowKit
set_option linter.unusedVariables false
set_option linter.unusedSimpArgs false

theorem slot5 (x : Int) : ∃ j : Nat, j < 5 ∧ (wrap64 (x.tmod 5 + 5)).tmod 5 = (j : Int) := by
  have h1 : x.tmod 5 < 5 := Int.tmod_lt_of_pos x (by omega)
  have h2 : -5 < x.tmod 5 := Int.lt_tmod_of_pos x (by omega)
  rw [IntWalk.wrap64_in _ ⟨by omega, by omega⟩]
  have h3 : (x.tmod 5 + 5).tmod 5 = (x.tmod 5 + 5) % 5 := Int.tmod_eq_emod_of_nonneg (by omega)
  rw [h3]
  exact ⟨((x.tmod 5 + 5) % 5).toNat, by omega, by omega⟩

set_option maxHeartbeats 16000000 in
set_option maxRecDepth 100000 in
theorem apart_any (a : Option Addr) (n cap : Nat) (f : Nat → Dd) (w : World) (h : DeedsAt w a n f) : Calls Tryd.prog 5 #[.slice a n cap] w fun e w' => e = .returned (.bool true) ∧ Chg [] w w' := by
  have CA := Lib.hid (awake_any w)
  have HD := Lib.hid h
  clear h
  go_enter Tryd.func5, Tryd.ntmps5
  go_wp2_with fail
  refine CA.out.mono ?_
  rintro e w0 ⟨rfl, hc0⟩
  have HC0 := Lib.hid hc0
  have CR := Lib.hid (room_any a n cap 60 f w0 (HD.out.keep hc0) (by omega))
  clear hc0 CA
  go_wp2_with fail
  refine CR.out.mono ?_
  rintro e w0' ⟨hroom, hq⟩
  subst hq
  rcases hroom with ⟨rfl, hfew⟩ | rfl
  rotate_left
  · go_wp2
    go_ret
    exact ⟨rfl, HC0.out⟩
  have HF := Lib.hid hfew
  have CN := Lib.hid (dnew_any 41 w0 (by omega) (by omega))
  clear hfew CR
  go_wp2_with fail
  refine CN.out.mono ?_
  rintro e w1 ⟨p, S, rfl, hd1, hS1, hc1⟩
  have CO := Lib.hid (sopen_any p S _ 1 w1 hd1)
  rw [as0_open] at CO
  have HC1 := Lib.hid hc1
  have HS1 := Lib.hid hS1
  clear hd1 hS1 hc1 CN
  go_wp2_with fail
  refine CO.out.mono ?_
  rintro e w2 ⟨hc2, q, U, rfl, hs2, hU2⟩
  have H2 : Hid (Since w w2 q p U as0) := Lib.hid ⟨hs2, fun x hx => by
    have a0 := HC0.out.size
    rcases hU2 x hx with h | h
    · have := HS1.out x h; omega
    · have := HC1.out.size; omega, (HC0.out.trans HC1.out (by simp)).trans hc2 (by simp)⟩
  have CC := Lib.hid (scount_any q p U as0 w2 hs2)
  rw [show as0.rows.length = 5 from rfl] at CC
  have hm1 := make_5w
  have hm2 := make_5b
  clear hs2 hU2 hc2 CO HS1
  go_wp2_with (go_at_call 22; refine CC.out.mono ?_; rintro e w' ⟨rfl, hq⟩; subst hq)
  have HA : Hid (ApAt w ((w2.alloc (.cells (five fun _ => .slice none 0 0) 31)).alloc (.cells (five (bo fun _ => false)) 4)) q p w2.heap.size (w2.heap.size + 1) U as0 (fun _ => false) (fun _ => false) (fun _ => []) (fun _ => []) (fun _ => .slice none 0 0)) := Lib.hid (by
    have hfr := fun (k : Nat) (hk : w2.heap.size ≤ k) => H2.out.fresh hk
    have hsz := H2.out.2.2.size
    refine ⟨H2.out.keep (((Chg.refl [] w2).alloc _).alloc _), as0_told, as0_shape, blk_alloc (heap_alloc_new w2 _), ?_, ⟨hfr _ (by omega), hfr _ (by omega), by omega, by omega, by omega⟩, fun j hj => ⟨BytesAt.nil _, by simp⟩⟩
    have h1 := heap_alloc_new (w2.alloc (.cells (five fun _ => .slice none 0 0) 31)) (.cells (five (bo fun _ => false)) 4)
    simpa using h1)
  generalize (w2.alloc (.cells (five fun _ => .slice none 0 0) 31)).alloc (.cells (five (bo fun _ => false)) 4) = w3 at *
  have hgu : ∃ gu, gu = w2.heap.size + 1 := ⟨_, rfl⟩
  obtain ⟨gu, hgu⟩ := hgu
  rw [← hgu] at HA ⊢
  generalize w2.heap.size = gw at *
  clear hgu CC H2 HC1 hm1 hm2
  go_loopg [9] n (fun g' s9 wr => ∃ (k : Nat) (U : List Nat) (s : SS) (u : Nat → Bool) (v : Nat → List UInt8) (vals : Nat → Value), s9 = .int .i64 k ∧ k ≤ n ∧ n ≤ k + g' ∧ Hid (ApAt w wr q p gw gu U s u u v v vals ∧ s.d.ops ≤ 40 * k))
  case atStart => exact ⟨0, U, as0, _, _, _, rfl, by omega, by omega, Lib.hid ⟨HA.out, by decide⟩⟩
  case round =>
    obtain ⟨k, U, s, u, v, vals, rfl, hk, hkg, HR⟩ := hrel
    clear HA
    by_cases hlt : k < n
    · have hkz : (k : Int) < (n : Int) := by omega
      have hkz1 : (k : Int).toNat = k := by omega
      obtain ⟨g, o, rfl, hdeed⟩ : ∃ g o, a = some ⟨g, o, none⟩ ∧ ∀ i, i < n → _ := HD.out.resolve_left (by omega)
      obtain ⟨d0, d1, d2, d3, d4, m3, m4, wf0, wf1, wf2⟩ := hdeed k hlt
      have hcr := HR.out.1.since.2.2
      have e0 := hcr.cell d0 (by simp)
      have e1 := hcr.cell d1 (by simp)
      have e3 := hcr.cell d3 (by simp)
      have e4 := hcr.cell d4 (by simp)
      go_wp2_with fail
      obtain ⟨j, hj, ej⟩ := slot5 (f k).i
      rw [ej]
      have hsm := HF.out.2 k hlt
      have hn60 := HF.out.1
      have hops : s.d.ops ≤ 40 * k := HR.out.2
      have hsi : s.d.since.length = 0 := by rw [HR.out.1.shape.2.2.2]; rfl
      have HAr := Lib.hid HR.out.1
      have M3 := Lib.hid (m3.chg (hcr.trans (by exact (Chg.refl [] wr).drew : Chg [] wr wr.drew) (by simp)))
      have M4 := Lib.hid (m4.chg (hcr.trans (by exact (Chg.refl [] wr).drew : Chg [] wr wr.drew) (by simp)))
      have M4w := Lib.hid m4
      have D0 := Lib.hid d0
      have D4 := Lib.hid d4
      have D3 := Lib.hid d3
      have hgw : g < w.heap.size := World.block_lt_of_cell? w _ d0
      have hou := HAr.out.out
      have g1 : ¬ g = gu := by omega
      have g2 : ¬ g = gw := by omega
      have g3 : ¬ gu = g := by omega
      have g4 : ¬ gw = g := by omega
      have g5 : ¬ gu = gw := by omega
      have g6 : ¬ gw = gu := by omega
      have hjz : (j : Int) < 5 := by omega
      have hjz1 : (j : Int).toNat = j := by omega
      have CP := Lib.hid (sput_any q p U s (j : Int) (f k).kv (f k).bv (f k).key (f k).b wr.drew (HAr.out.since.1.keep0 (by exact (Chg.refl [] wr).drew)) M3.out.1 (fun hl x hx hm => by
        have a1 := m3.2 hl x hx
        have a2 := HAr.out.since.2.1 x hm
        omega) M4.out.1 (fun hl x hx hm => by
        have a1 := m4.2 hl x hx
        have a2 := HAr.out.since.2.1 x hm
        omega) (by have := hsm.1; omega) (by have := hsm.2; omega) (by omega) (by omega))
      have PT := Lib.hid (put_told HAr.out.told HAr.out.shape j hj (f k).key (f k).b)
      have PO := Lib.hid (put_ops s (j : Int) (f k).key (f k).b)
      have CT := Lib.hid (clear_told HAr.out.told HAr.out.shape j hj)
      have CO := Lib.hid (clear_ops s (j : Int))
      obtain ⟨a3, q3, v3⟩ := m3.1.slice
      obtain ⟨a4, q4, v4⟩ := m4.1.slice
      have V4 := Lib.hid v4
      rw [v3, v4] at CP
      have V3 := Lib.hid v3
      rw [v3] at e3
      rw [v4] at e4
      clear hsm hcr hdeed m3 m4 d0 d1 d2 d3 d4 wf0 wf1 wf2 v3 v4 HR ej e1 hgw hou
      generalize hfc : (f k).c = fc at *
      have c5 := HAr.out.since.2.2
      by_cases hdo : fc ≤ 4
      · have hn6 : (fc == 6) = false := by simp; omega
        refine wp_region_L [(21, fun w' => w'.cell? ⟨g, o + k * 5, none⟩ = some (.int .i64 fc)), (21, fun w' => w'.cell? ⟨g, o + k * 5 + 3, none⟩ = some (.slice a3 (f k).key.length q3)), (21, fun w' => w'.cell? ⟨g, o + k * 5 + 4, none⟩ = some (.slice a4 (f k).b.length q4))] (by kernel_rfl) ?_ (fun hHeld => ?_)
        · exact (HoldC.cons (e0) (HoldC.cons (e3) (HoldC.cons (e4) HoldC.nil)))
        refine wpAnyL_take (i := 0) (oi := _) (v := ?_) rfl (by kernel_rfl) (by kernel_rfl) (by kernel_rfl) (by kernel_rfl) (by kernel_rfl) (fun _ _ _ h => h) (Or.inl ⟨by rfl, ?_⟩) (by assumption) (fun hNew => ?_)
        rotate_left
        · intro w _
          go_simp
          try with_reducible rfl
        clear hHeld
        have hHeld := hNew
        clear hNew
        try simp only [List.getElem_toArray, List.getElem_cons_succ, List.getElem_cons_zero, Act.put, List.setIfInBounds_toArray, List.set_cons_zero, List.set_cons_succ]
        refine wpAnyL_take (i := 1) (oi := _) (v := ?_) rfl (by kernel_rfl) (by kernel_rfl) (by kernel_rfl) (by kernel_rfl) (by kernel_rfl) (fun _ _ _ h => h) (Or.inl ⟨by rfl, ?_⟩) (by assumption) (fun hNew => ?_)
        rotate_left
        · intro w _
          go_simp
          try with_reducible rfl
        clear hHeld
        have hHeld := hNew
        clear hNew
        try simp only [List.getElem_toArray, List.getElem_cons_succ, List.getElem_cons_zero, Act.put, List.setIfInBounds_toArray, List.set_cons_zero, List.set_cons_succ]
        refine wpAnyL_take (i := 2) (oi := _) (v := ?_) rfl (by kernel_rfl) (by kernel_rfl) (by kernel_rfl) (by kernel_rfl) (by kernel_rfl) (fun _ _ _ h => h) (Or.inl ⟨by rfl, ?_⟩) (by assumption) (fun hNew => ?_)
        rotate_left
        · intro w _
          go_simp
          try with_reducible rfl
        clear hHeld
        have hHeld := hNew
        clear hNew
        try simp only [List.getElem_toArray, List.getElem_cons_succ, List.getElem_cons_zero, Act.put, List.setIfInBounds_toArray, List.set_cons_zero, List.set_cons_succ]
        refine wpAnyL_take (i := 3) (oi := _) (v := ?_) rfl (by kernel_rfl) (by kernel_rfl) (by kernel_rfl) (by kernel_rfl) (by kernel_rfl) (fun _ _ _ h => h) (Or.inl ⟨by rfl, ?_⟩) (by assumption) (fun hNew => ?_)
        rotate_left
        · intro w _
          go_simp
          try with_reducible rfl
        clear hHeld
        have hHeld := hNew
        clear hNew
        try simp only [List.getElem_toArray, List.getElem_cons_succ, List.getElem_cons_zero, Act.put, List.setIfInBounds_toArray, List.set_cons_zero, List.set_cons_succ]
        refine wpAnyL_load 0 (i := 4) (oi := _) (v := ?_) rfl rfl (by kernel_rfl) (by kernel_rfl) (by kernel_rfl) (by kernel_rfl) (by kernel_rfl) (by kernel_rfl) (fun _ _ _ h => h) (Or.inl ⟨by rfl, ?_⟩) (by assumption) (fun hNew => ?_)
        rotate_left
        · intro w hSw
          (try dsimp only at hSw)
          go_simp
          try with_reducible rfl
        clear hHeld
        have hHeld := hNew
        clear hNew
        try simp only [List.getElem_toArray, List.getElem_cons_succ, List.getElem_cons_zero, Act.put, List.setIfInBounds_toArray, List.set_cons_zero, List.set_cons_succ]
        refine wpAnyL_take (i := 5) (oi := _) (v := ?_) rfl (by kernel_rfl) (by kernel_rfl) (by kernel_rfl) (by kernel_rfl) (by kernel_rfl) (fun _ _ _ h => h) (Or.inl ⟨by rfl, ?_⟩) (by assumption) (fun hNew => ?_)
        rotate_left
        · intro w _
          go_simp
          try with_reducible rfl
        clear hHeld
        have hHeld := hNew
        clear hNew
        try simp only [List.getElem_toArray, List.getElem_cons_succ, List.getElem_cons_zero, Act.put, List.setIfInBounds_toArray, List.set_cons_zero, List.set_cons_succ]
        refine wpAnyL_take (i := 6) (oi := _) (v := ?_) rfl (by kernel_rfl) (by kernel_rfl) (by kernel_rfl) (by kernel_rfl) (by kernel_rfl) (fun _ _ _ h => h) (Or.inl ⟨by rfl, ?_⟩) (by assumption) (fun hNew => ?_)
        rotate_left
        · intro w _
          go_simp
          try with_reducible rfl
        clear hHeld
        have hHeld := hNew
        clear hNew
        try simp only [List.getElem_toArray, List.getElem_cons_succ, List.getElem_cons_zero, Act.put, List.setIfInBounds_toArray, List.set_cons_zero, List.set_cons_succ]
        refine wpAnyL_take (i := 7) (oi := _) (v := ?_) rfl (by kernel_rfl) (by kernel_rfl) (by kernel_rfl) (by kernel_rfl) (by kernel_rfl) (fun _ _ _ h => h) (Or.inl ⟨by rfl, ?_⟩) (by assumption) (fun hNew => ?_)
        rotate_left
        · intro w _
          go_simp
          try with_reducible rfl
        clear hHeld
        have hHeld := hNew
        clear hNew
        try simp only [List.getElem_toArray, List.getElem_cons_succ, List.getElem_cons_zero, Act.put, List.setIfInBounds_toArray, List.set_cons_zero, List.set_cons_succ]
        refine wpAnyL_take (i := 8) (oi := _) (v := ?_) rfl (by kernel_rfl) (by kernel_rfl) (by kernel_rfl) (by kernel_rfl) (by kernel_rfl) (fun _ _ _ h => h) (Or.inl ⟨by rfl, ?_⟩) (by assumption) (fun hNew => ?_)
        rotate_left
        · intro w _
          go_simp
          try with_reducible rfl
        clear hHeld
        have hHeld := hNew
        clear hNew
        try simp only [List.getElem_toArray, List.getElem_cons_succ, List.getElem_cons_zero, Act.put, List.setIfInBounds_toArray, List.set_cons_zero, List.set_cons_succ]
        refine wpAnyL_take (i := 9) (oi := _) (v := ?_) rfl (by kernel_rfl) (by kernel_rfl) (by kernel_rfl) (by kernel_rfl) (by kernel_rfl) (fun _ _ _ h => h) (Or.inl ⟨by rfl, ?_⟩) (by assumption) (fun hNew => ?_)
        rotate_left
        · intro w _
          go_simp
          try with_reducible rfl
        clear hHeld
        have hHeld := hNew
        clear hNew
        try simp only [List.getElem_toArray, List.getElem_cons_succ, List.getElem_cons_zero, Act.put, List.setIfInBounds_toArray, List.set_cons_zero, List.set_cons_succ]
        refine wpAnyL_take (i := 10) (oi := _) (v := ?_) rfl (by kernel_rfl) (by kernel_rfl) (by kernel_rfl) (by kernel_rfl) (by kernel_rfl) (fun _ _ _ h => h) (Or.inl ⟨by rfl, ?_⟩) (by assumption) (fun hNew => ?_)
        rotate_left
        · intro w _
          go_simp
          try with_reducible rfl
        clear hHeld
        have hHeld := hNew
        clear hNew
        try simp only [List.getElem_toArray, List.getElem_cons_succ, List.getElem_cons_zero, Act.put, List.setIfInBounds_toArray, List.set_cons_zero, List.set_cons_succ]
        refine wpAnyL_take (i := 11) (oi := _) (v := ?_) rfl (by kernel_rfl) (by kernel_rfl) (by kernel_rfl) (by kernel_rfl) (by kernel_rfl) (fun _ _ _ h => h) (Or.inl ⟨by rfl, ?_⟩) (by assumption) (fun hNew => ?_)
        rotate_left
        · intro w _
          go_simp
          try with_reducible rfl
        clear hHeld
        have hHeld := hNew
        clear hNew
        try simp only [List.getElem_toArray, List.getElem_cons_succ, List.getElem_cons_zero, Act.put, List.setIfInBounds_toArray, List.set_cons_zero, List.set_cons_succ]
        refine wpAnyL_take (i := 12) (oi := _) (v := ?_) rfl (by kernel_rfl) (by kernel_rfl) (by kernel_rfl) (by kernel_rfl) (by kernel_rfl) (fun _ _ _ h => h) (Or.inl ⟨by rfl, ?_⟩) (by assumption) (fun hNew => ?_)
        rotate_left
        · intro w _
          go_simp
          try with_reducible rfl
        clear hHeld
        have hHeld := hNew
        clear hNew
        try simp only [List.getElem_toArray, List.getElem_cons_succ, List.getElem_cons_zero, Act.put, List.setIfInBounds_toArray, List.set_cons_zero, List.set_cons_succ]
        refine wpAnyL_load 1 (i := 13) (oi := _) (v := ?_) rfl rfl (by kernel_rfl) (by kernel_rfl) (by kernel_rfl) (by kernel_rfl) (by kernel_rfl) (by kernel_rfl) (fun _ _ _ h => h) (Or.inl ⟨by rfl, ?_⟩) (by assumption) (fun hNew => ?_)
        rotate_left
        · intro w hSw
          (try dsimp only at hSw)
          go_simp
          try with_reducible rfl
        clear hHeld
        have hHeld := hNew
        clear hNew
        try simp only [List.getElem_toArray, List.getElem_cons_succ, List.getElem_cons_zero, Act.put, List.setIfInBounds_toArray, List.set_cons_zero, List.set_cons_succ]
        refine wpAnyL_take (i := 14) (oi := _) (v := ?_) rfl (by kernel_rfl) (by kernel_rfl) (by kernel_rfl) (by kernel_rfl) (by kernel_rfl) (fun _ _ _ h => h) (Or.inl ⟨by rfl, ?_⟩) (by assumption) (fun hNew => ?_)
        rotate_left
        · intro w _
          go_simp
          try with_reducible rfl
        clear hHeld
        have hHeld := hNew
        clear hNew
        try simp only [List.getElem_toArray, List.getElem_cons_succ, List.getElem_cons_zero, Act.put, List.setIfInBounds_toArray, List.set_cons_zero, List.set_cons_succ]
        refine wpAnyL_take (i := 15) (oi := _) (v := ?_) rfl (by kernel_rfl) (by kernel_rfl) (by kernel_rfl) (by kernel_rfl) (by kernel_rfl) (fun _ _ _ h => h) (Or.inl ⟨by rfl, ?_⟩) (by assumption) (fun hNew => ?_)
        rotate_left
        · intro w _
          go_simp
          try with_reducible rfl
        clear hHeld
        have hHeld := hNew
        clear hNew
        try simp only [List.getElem_toArray, List.getElem_cons_succ, List.getElem_cons_zero, Act.put, List.setIfInBounds_toArray, List.set_cons_zero, List.set_cons_succ]
        refine wpAnyL_take (i := 16) (oi := _) (v := ?_) rfl (by kernel_rfl) (by kernel_rfl) (by kernel_rfl) (by kernel_rfl) (by kernel_rfl) (fun _ _ _ h => h) (Or.inl ⟨by rfl, ?_⟩) (by assumption) (fun hNew => ?_)
        rotate_left
        · intro w _
          go_simp
          try with_reducible rfl
        clear hHeld
        have hHeld := hNew
        clear hNew
        try simp only [List.getElem_toArray, List.getElem_cons_succ, List.getElem_cons_zero, Act.put, List.setIfInBounds_toArray, List.set_cons_zero, List.set_cons_succ]
        refine wpAnyL_take (i := 17) (oi := _) (v := ?_) rfl (by kernel_rfl) (by kernel_rfl) (by kernel_rfl) (by kernel_rfl) (by kernel_rfl) (fun _ _ _ h => h) (Or.inl ⟨by rfl, ?_⟩) (by assumption) (fun hNew => ?_)
        rotate_left
        · intro w _
          go_simp
          try with_reducible rfl
        clear hHeld
        have hHeld := hNew
        clear hNew
        try simp only [List.getElem_toArray, List.getElem_cons_succ, List.getElem_cons_zero, Act.put, List.setIfInBounds_toArray, List.set_cons_zero, List.set_cons_succ]
        refine wpAnyL_load 2 (i := 18) (oi := _) (v := ?_) rfl rfl (by kernel_rfl) (by kernel_rfl) (by kernel_rfl) (by kernel_rfl) (by kernel_rfl) (by kernel_rfl) (fun _ _ _ h => h) (Or.inl ⟨by rfl, ?_⟩) (by assumption) (fun hNew => ?_)
        rotate_left
        · intro w hSw
          (try dsimp only at hSw)
          go_simp
          try with_reducible rfl
        clear hHeld
        have hHeld := hNew
        clear hNew
        try simp only [List.getElem_toArray, List.getElem_cons_succ, List.getElem_cons_zero, Act.put, List.setIfInBounds_toArray, List.set_cons_zero, List.set_cons_succ]
        refine wpAnyL_ready (rs := [19]) (by kernel_rfl) (by simp) ?_
        refine AllReadyL.cons (o := _) rfl (fun K hK => ?_) AllReadyL.nil
        try simp only [List.getElem_toArray, List.getElem_cons_succ, List.getElem_cons_zero]
        go_simp
        refine CP.out.mono ?_
        rintro e w5 ⟨rfl, hs5⟩
        have hs5 := Sid.pre (w0 := wr) (by exact (Chg.refl [] wr).drew) hs5
        rcases PT.out with ⟨p1, p2, p3, p4⟩ | ⟨p1, p2⟩
        · obtain ⟨U5, A5⟩ := HAr.out.sid hs5 p3 p4
          have H5 := Lib.hid A5
          have c5 := A5.since.2.2
          have x0 := c5.cell D0.out (by simp)
          have x3 := c5.cell D3.out (by simp)
          have x4 := c5.cell D4.out (by simp)
          rw [V3.out] at x3
          rw [V4.out] at x4
          rw [p1]
          have P2 := Lib.hid p2
          clear p1 p2 p3 p4 hs5 c5 A5 e0 e3 e4 CP
          try go_wp2_with fail
          clear hHeld
          refine hK.out _ _ ?_ (fun hHeld => ?_)
          · exact (HoldC.cons (x0) (HoldC.cons (x3) (HoldC.cons (x4) HoldC.nil)))
          clear hK K
          try simp only [List.getElem_toArray, List.getElem_cons_succ, List.getElem_cons_zero, Act.put, List.setIfInBounds_toArray, List.set_cons_zero, List.set_cons_succ]
          refine wpAnyL_take (i := 20) (oi := _) (v := ?_) rfl (by kernel_rfl) (by kernel_rfl) (by kernel_rfl) (by kernel_rfl) (by kernel_rfl) (fun _ _ _ h => h) (Or.inl ⟨by rfl, ?_⟩) (by assumption) (fun hNew => ?_)
          rotate_left
          · intro w _
            go_simp
            try with_reducible rfl
          clear hHeld
          have hHeld := hNew
          clear hNew
          try simp only [List.getElem_toArray, List.getElem_cons_succ, List.getElem_cons_zero, Act.put, List.setIfInBounds_toArray, List.set_cons_zero, List.set_cons_succ]
          refine wpAnyL_ready (rs := [21]) (by kernel_rfl) (by simp) ?_
          refine AllReadyL.cons (o := _) rfl (fun K hK => ?_) AllReadyL.nil
          try simp only [List.getElem_toArray, List.getElem_cons_succ, List.getElem_cons_zero]
          go_simp
          clear hHeld
          refine hK.out _ _ ?_ (fun hHeld => ?_)
          · exact (HoldC.past (by kernel_rfl) (HoldC.past (by kernel_rfl) (HoldC.past (by kernel_rfl) HoldC.nil)))
          clear hK K
          try simp only [List.getElem_toArray, List.getElem_cons_succ, List.getElem_cons_zero, Act.put, List.setIfInBounds_toArray, List.set_cons_zero, List.set_cons_succ]
          refine wpAnyL_done (by kernel_rfl) ?_ _
          clear hHeld
          have u0 : w5.cell? ⟨gu, j, none⟩ = some (.bool false) := by
            have h := blk_cell H5.out.cu j _ (five_at _ j hj)
            unfold bo at h
            rw [P2.out] at h
            exact h
          have u1 := blk_frozen H5.out.cu j
          have u2 := blk_lt H5.out.cu
          have y0 := blk_cell H5.out.cw j _ (five_at _ j hj)
          have y1 := blk_frozen H5.out.cw j
          have y2 := blk_lt H5.out.cw
          go_wp2
          go_roundg (gk - 1)
          case measure => omega
          case rel => exact ⟨k + 1, U5, _, set5 u j true, set5 v j (f k).b, set5 vals j (.slice a4 (f k).b.length q4), by go_num, by omega, by omega, Lib.hid ⟨(H5.out.setU j hj true).setW j hj _ _ (by rw [← V4.out]; exact M4w.out), by have := PO.out; omega⟩⟩
        · rw [p2] at hs5
          obtain ⟨U5, A5⟩ := HAr.out.sid hs5 HAr.out.told HAr.out.shape
          have H5 := Lib.hid A5
          have c5 := A5.since.2.2
          have x0 := c5.cell D0.out (by simp)
          have x3 := c5.cell D3.out (by simp)
          have x4 := c5.cell D4.out (by simp)
          rw [V3.out] at x3
          rw [V4.out] at x4
          generalize (s.put (j : Int) (f k).key (f k).b).1 = r1 at *
          have q1 : (r1 == 0) = false := by simp [p1]
          clear p1 p2 hs5 c5 A5 e0 e3 e4 CP
          try go_wp2_with fail
          clear hHeld
          refine hK.out _ _ ?_ (fun hHeld => ?_)
          · exact (HoldC.cons (x0) (HoldC.cons (x3) (HoldC.cons (x4) HoldC.nil)))
          clear hK K
          try simp only [List.getElem_toArray, List.getElem_cons_succ, List.getElem_cons_zero, Act.put, List.setIfInBounds_toArray, List.set_cons_zero, List.set_cons_succ]
          refine wpAnyL_take (i := 20) (oi := _) (v := ?_) rfl (by kernel_rfl) (by kernel_rfl) (by kernel_rfl) (by kernel_rfl) (by kernel_rfl) (fun _ _ _ h => h) (Or.inl ⟨by rfl, ?_⟩) (by assumption) (fun hNew => ?_)
          rotate_left
          · intro w _
            go_simp
            try with_reducible rfl
          clear hHeld
          have hHeld := hNew
          clear hNew
          try simp only [List.getElem_toArray, List.getElem_cons_succ, List.getElem_cons_zero, Act.put, List.setIfInBounds_toArray, List.set_cons_zero, List.set_cons_succ]
          refine wpAnyL_ready (rs := [21]) (by kernel_rfl) (by simp) ?_
          refine AllReadyL.cons (o := _) rfl (fun K hK => ?_) AllReadyL.nil
          try simp only [List.getElem_toArray, List.getElem_cons_succ, List.getElem_cons_zero]
          go_simp
          clear hHeld
          refine hK.out _ _ ?_ (fun hHeld => ?_)
          · exact (HoldC.past (by kernel_rfl) (HoldC.past (by kernel_rfl) (HoldC.past (by kernel_rfl) HoldC.nil)))
          clear hK K
          try simp only [List.getElem_toArray, List.getElem_cons_succ, List.getElem_cons_zero, Act.put, List.setIfInBounds_toArray, List.set_cons_zero, List.set_cons_succ]
          refine wpAnyL_done (by kernel_rfl) ?_ _
          clear hHeld
          go_wp2
          go_roundg (gk - 1)
          case measure => omega
          case rel => exact ⟨k + 1, U5, s, u, v, vals, by go_num, by omega, by omega, Lib.hid ⟨H5.out, by omega⟩⟩
      · have q4 : decide (fc ≤ 4) = false := decide_eq_false hdo
        refine wp_region_L [(21, fun w' => w'.cell? ⟨g, o + k * 5, none⟩ = some (.int .i64 fc))] (by kernel_rfl) ?_ (fun hHeld => ?_)
        · exact (HoldC.cons (e0) HoldC.nil)
        refine wpAnyL_take (i := 0) (oi := _) (v := ?_) rfl (by kernel_rfl) (by kernel_rfl) (by kernel_rfl) (by kernel_rfl) (by kernel_rfl) (fun _ _ _ h => h) (Or.inl ⟨by rfl, ?_⟩) (by assumption) (fun hNew => ?_)
        rotate_left
        · intro w _
          go_simp
          try with_reducible rfl
        clear hHeld
        have hHeld := hNew
        clear hNew
        try simp only [List.getElem_toArray, List.getElem_cons_succ, List.getElem_cons_zero, Act.put, List.setIfInBounds_toArray, List.set_cons_zero, List.set_cons_succ]
        refine wpAnyL_take (i := 1) (oi := _) (v := ?_) rfl (by kernel_rfl) (by kernel_rfl) (by kernel_rfl) (by kernel_rfl) (by kernel_rfl) (fun _ _ _ h => h) (Or.inl ⟨by rfl, ?_⟩) (by assumption) (fun hNew => ?_)
        rotate_left
        · intro w _
          go_simp
          try with_reducible rfl
        clear hHeld
        have hHeld := hNew
        clear hNew
        try simp only [List.getElem_toArray, List.getElem_cons_succ, List.getElem_cons_zero, Act.put, List.setIfInBounds_toArray, List.set_cons_zero, List.set_cons_succ]
        refine wpAnyL_take (i := 2) (oi := _) (v := ?_) rfl (by kernel_rfl) (by kernel_rfl) (by kernel_rfl) (by kernel_rfl) (by kernel_rfl) (fun _ _ _ h => h) (Or.inl ⟨by rfl, ?_⟩) (by assumption) (fun hNew => ?_)
        rotate_left
        · intro w _
          go_simp
          try with_reducible rfl
        clear hHeld
        have hHeld := hNew
        clear hNew
        try simp only [List.getElem_toArray, List.getElem_cons_succ, List.getElem_cons_zero, Act.put, List.setIfInBounds_toArray, List.set_cons_zero, List.set_cons_succ]
        refine wpAnyL_take (i := 3) (oi := _) (v := ?_) rfl (by kernel_rfl) (by kernel_rfl) (by kernel_rfl) (by kernel_rfl) (by kernel_rfl) (fun _ _ _ h => h) (Or.inl ⟨by rfl, ?_⟩) (by assumption) (fun hNew => ?_)
        rotate_left
        · intro w _
          go_simp
          try with_reducible rfl
        clear hHeld
        have hHeld := hNew
        clear hNew
        try simp only [List.getElem_toArray, List.getElem_cons_succ, List.getElem_cons_zero, Act.put, List.setIfInBounds_toArray, List.set_cons_zero, List.set_cons_succ]
        refine wpAnyL_load 0 (i := 4) (oi := _) (v := ?_) rfl rfl (by kernel_rfl) (by kernel_rfl) (by kernel_rfl) (by kernel_rfl) (by kernel_rfl) (by kernel_rfl) (fun _ _ _ h => h) (Or.inl ⟨by rfl, ?_⟩) (by assumption) (fun hNew => ?_)
        rotate_left
        · intro w hSw
          (try dsimp only at hSw)
          go_simp
          try with_reducible rfl
        clear hHeld
        have hHeld := hNew
        clear hNew
        try simp only [List.getElem_toArray, List.getElem_cons_succ, List.getElem_cons_zero, Act.put, List.setIfInBounds_toArray, List.set_cons_zero, List.set_cons_succ]
        refine wpAnyL_take (i := 5) (oi := _) (v := ?_) rfl (by kernel_rfl) (by kernel_rfl) (by kernel_rfl) (by kernel_rfl) (by kernel_rfl) (fun _ _ _ h => h) (Or.inl ⟨by rfl, ?_⟩) (by assumption) (fun hNew => ?_)
        rotate_left
        · intro w _
          go_simp
          try with_reducible rfl
        clear hHeld
        have hHeld := hNew
        clear hNew
        try simp only [List.getElem_toArray, List.getElem_cons_succ, List.getElem_cons_zero, Act.put, List.setIfInBounds_toArray, List.set_cons_zero, List.set_cons_succ]
        refine wpAnyL_take (i := 6) (oi := _) (v := ?_) rfl (by kernel_rfl) (by kernel_rfl) (by kernel_rfl) (by kernel_rfl) (by kernel_rfl) (fun _ _ _ h => h) (Or.inl ⟨by rfl, ?_⟩) (by assumption) (fun hNew => ?_)
        rotate_left
        · intro w _
          go_simp
          try with_reducible rfl
        clear hHeld
        have hHeld := hNew
        clear hNew
        try simp only [List.getElem_toArray, List.getElem_cons_succ, List.getElem_cons_zero, Act.put, List.setIfInBounds_toArray, List.set_cons_zero, List.set_cons_succ]
        refine wpAnyL_take (i := 7) (oi := _) (v := _) rfl (by kernel_rfl) (by kernel_rfl) (by kernel_rfl) (by kernel_rfl) (by kernel_rfl) (fun _ _ _ h => h) (Or.inr ⟨by rfl, rfl⟩) (by assumption) (fun hNew => ?_)
        clear hHeld
        have hHeld := hNew
        clear hNew
        try simp only [List.getElem_toArray, List.getElem_cons_succ, List.getElem_cons_zero, Act.put, List.setIfInBounds_toArray, List.set_cons_zero, List.set_cons_succ]
        refine wpAnyL_take (i := 8) (oi := _) (v := _) rfl (by kernel_rfl) (by kernel_rfl) (by kernel_rfl) (by kernel_rfl) (by kernel_rfl) (fun _ _ _ h => h) (Or.inr ⟨by rfl, rfl⟩) (by assumption) (fun hNew => ?_)
        clear hHeld
        have hHeld := hNew
        clear hNew
        try simp only [List.getElem_toArray, List.getElem_cons_succ, List.getElem_cons_zero, Act.put, List.setIfInBounds_toArray, List.set_cons_zero, List.set_cons_succ]
        refine wpAnyL_take (i := 9) (oi := _) (v := _) rfl (by kernel_rfl) (by kernel_rfl) (by kernel_rfl) (by kernel_rfl) (by kernel_rfl) (fun _ _ _ h => h) (Or.inr ⟨by rfl, rfl⟩) (by assumption) (fun hNew => ?_)
        clear hHeld
        have hHeld := hNew
        clear hNew
        try simp only [List.getElem_toArray, List.getElem_cons_succ, List.getElem_cons_zero, Act.put, List.setIfInBounds_toArray, List.set_cons_zero, List.set_cons_succ]
        refine wpAnyL_take (i := 10) (oi := _) (v := _) rfl (by kernel_rfl) (by kernel_rfl) (by kernel_rfl) (by kernel_rfl) (by kernel_rfl) (fun _ _ _ h => h) (Or.inr ⟨by rfl, rfl⟩) (by assumption) (fun hNew => ?_)
        clear hHeld
        have hHeld := hNew
        clear hNew
        try simp only [List.getElem_toArray, List.getElem_cons_succ, List.getElem_cons_zero, Act.put, List.setIfInBounds_toArray, List.set_cons_zero, List.set_cons_succ]
        refine wpAnyL_take (i := 11) (oi := _) (v := _) rfl (by kernel_rfl) (by kernel_rfl) (by kernel_rfl) (by kernel_rfl) (by kernel_rfl) (fun _ _ _ h => h) (Or.inr ⟨by rfl, rfl⟩) (by assumption) (fun hNew => ?_)
        clear hHeld
        have hHeld := hNew
        clear hNew
        try simp only [List.getElem_toArray, List.getElem_cons_succ, List.getElem_cons_zero, Act.put, List.setIfInBounds_toArray, List.set_cons_zero, List.set_cons_succ]
        refine wpAnyL_take (i := 12) (oi := _) (v := _) rfl (by kernel_rfl) (by kernel_rfl) (by kernel_rfl) (by kernel_rfl) (by kernel_rfl) (fun _ _ _ h => h) (Or.inr ⟨by rfl, rfl⟩) (by assumption) (fun hNew => ?_)
        clear hHeld
        have hHeld := hNew
        clear hNew
        try simp only [List.getElem_toArray, List.getElem_cons_succ, List.getElem_cons_zero, Act.put, List.setIfInBounds_toArray, List.set_cons_zero, List.set_cons_succ]
        refine wpAnyL_take (i := 13) (oi := _) (v := _) rfl (by kernel_rfl) (by kernel_rfl) (by kernel_rfl) (by kernel_rfl) (by kernel_rfl) (fun _ _ _ h => h) (Or.inr ⟨by rfl, rfl⟩) (by assumption) (fun hNew => ?_)
        clear hHeld
        have hHeld := hNew
        clear hNew
        try simp only [List.getElem_toArray, List.getElem_cons_succ, List.getElem_cons_zero, Act.put, List.setIfInBounds_toArray, List.set_cons_zero, List.set_cons_succ]
        refine wpAnyL_take (i := 14) (oi := _) (v := _) rfl (by kernel_rfl) (by kernel_rfl) (by kernel_rfl) (by kernel_rfl) (by kernel_rfl) (fun _ _ _ h => h) (Or.inr ⟨by rfl, rfl⟩) (by assumption) (fun hNew => ?_)
        clear hHeld
        have hHeld := hNew
        clear hNew
        try simp only [List.getElem_toArray, List.getElem_cons_succ, List.getElem_cons_zero, Act.put, List.setIfInBounds_toArray, List.set_cons_zero, List.set_cons_succ]
        refine wpAnyL_take (i := 15) (oi := _) (v := _) rfl (by kernel_rfl) (by kernel_rfl) (by kernel_rfl) (by kernel_rfl) (by kernel_rfl) (fun _ _ _ h => h) (Or.inr ⟨by rfl, rfl⟩) (by assumption) (fun hNew => ?_)
        clear hHeld
        have hHeld := hNew
        clear hNew
        try simp only [List.getElem_toArray, List.getElem_cons_succ, List.getElem_cons_zero, Act.put, List.setIfInBounds_toArray, List.set_cons_zero, List.set_cons_succ]
        refine wpAnyL_take (i := 16) (oi := _) (v := _) rfl (by kernel_rfl) (by kernel_rfl) (by kernel_rfl) (by kernel_rfl) (by kernel_rfl) (fun _ _ _ h => h) (Or.inr ⟨by rfl, rfl⟩) (by assumption) (fun hNew => ?_)
        clear hHeld
        have hHeld := hNew
        clear hNew
        try simp only [List.getElem_toArray, List.getElem_cons_succ, List.getElem_cons_zero, Act.put, List.setIfInBounds_toArray, List.set_cons_zero, List.set_cons_succ]
        refine wpAnyL_take (i := 17) (oi := _) (v := _) rfl (by kernel_rfl) (by kernel_rfl) (by kernel_rfl) (by kernel_rfl) (by kernel_rfl) (fun _ _ _ h => h) (Or.inr ⟨by rfl, rfl⟩) (by assumption) (fun hNew => ?_)
        clear hHeld
        have hHeld := hNew
        clear hNew
        try simp only [List.getElem_toArray, List.getElem_cons_succ, List.getElem_cons_zero, Act.put, List.setIfInBounds_toArray, List.set_cons_zero, List.set_cons_succ]
        refine wpAnyL_take (i := 18) (oi := _) (v := _) rfl (by kernel_rfl) (by kernel_rfl) (by kernel_rfl) (by kernel_rfl) (by kernel_rfl) (fun _ _ _ h => h) (Or.inr ⟨by rfl, rfl⟩) (by assumption) (fun hNew => ?_)
        clear hHeld
        have hHeld := hNew
        clear hNew
        try simp only [List.getElem_toArray, List.getElem_cons_succ, List.getElem_cons_zero, Act.put, List.setIfInBounds_toArray, List.set_cons_zero, List.set_cons_succ]
        refine wpAnyL_take (i := 19) (oi := _) (v := _) rfl (by kernel_rfl) (by kernel_rfl) (by kernel_rfl) (by kernel_rfl) (by kernel_rfl) (fun _ _ _ h => h) (Or.inr ⟨by rfl, rfl⟩) (by assumption) (fun hNew => ?_)
        clear hHeld
        have hHeld := hNew
        clear hNew
        try simp only [List.getElem_toArray, List.getElem_cons_succ, List.getElem_cons_zero, Act.put, List.setIfInBounds_toArray, List.set_cons_zero, List.set_cons_succ]
        refine wpAnyL_take (i := 20) (oi := _) (v := _) rfl (by kernel_rfl) (by kernel_rfl) (by kernel_rfl) (by kernel_rfl) (by kernel_rfl) (fun _ _ _ h => h) (Or.inr ⟨by rfl, rfl⟩) (by assumption) (fun hNew => ?_)
        clear hHeld
        have hHeld := hNew
        clear hNew
        try simp only [List.getElem_toArray, List.getElem_cons_succ, List.getElem_cons_zero, Act.put, List.setIfInBounds_toArray, List.set_cons_zero, List.set_cons_succ]
        refine wpAnyL_ready (rs := [21]) (by kernel_rfl) (by simp) ?_
        refine AllReadyL.cons (o := _) rfl (fun K hK => ?_) AllReadyL.nil
        try simp only [List.getElem_toArray, List.getElem_cons_succ, List.getElem_cons_zero]
        go_simp
        clear hHeld
        refine hK.out _ _ ?_ (fun hHeld => ?_)
        · exact (HoldC.past (by kernel_rfl) HoldC.nil)
        clear hK K
        try simp only [List.getElem_toArray, List.getElem_cons_succ, List.getElem_cons_zero, Act.put, List.setIfInBounds_toArray, List.set_cons_zero, List.set_cons_succ]
        refine wpAnyL_done (by kernel_rfl) ?_ _
        clear hHeld
        have A4 := Lib.hid (HAr.out.keep (by exact (Chg.refl [] wr).drew : Chg [] wr wr.drew))
        have x0 : wr.drew.cell? ⟨g, o + k * 5, none⟩ = some (.int .i64 fc) := e0
        clear e0 e3 e4 CP c5
        generalize wr.drew = w4 at *
        by_cases h6 : fc = 6
        · have q6 : (fc == 6) = true := by simp [h6]
          have u0 : w4.cell? ⟨gu, j, none⟩ = some (.bool (u j)) := blk_cell A4.out.cu j _ (five_at _ j hj)
          have CL := Lib.hid (sclear_any q p U s (j : Int) w4.drew (A4.out.since.1.keep0 (by exact (Chg.refl [] w4).drew)) (by omega) (by omega))
          clear h6
          go_wp2_with fail
          refine wp_region_L [(8, fun w' => w'.cell? ⟨gu, j, none⟩ = some (.bool (u j)))] (by kernel_rfl) ?_ (fun hHeld => ?_)
          · exact (HoldC.cons (u0) HoldC.nil)
          refine wpAnyL_take (i := 0) (oi := _) (v := ?_) rfl (by kernel_rfl) (by kernel_rfl) (by kernel_rfl) (by kernel_rfl) (by kernel_rfl) (fun _ _ _ h => h) (Or.inl ⟨by rfl, ?_⟩) (by assumption) (fun hNew => ?_)
          rotate_left
          · intro w _
            go_simp
            try with_reducible rfl
          clear hHeld
          have hHeld := hNew
          clear hNew
          try simp only [List.getElem_toArray, List.getElem_cons_succ, List.getElem_cons_zero, Act.put, List.setIfInBounds_toArray, List.set_cons_zero, List.set_cons_succ]
          refine wpAnyL_take (i := 1) (oi := _) (v := ?_) rfl (by kernel_rfl) (by kernel_rfl) (by kernel_rfl) (by kernel_rfl) (by kernel_rfl) (fun _ _ _ h => h) (Or.inl ⟨by rfl, ?_⟩) (by assumption) (fun hNew => ?_)
          rotate_left
          · intro w _
            go_simp
            try with_reducible rfl
          clear hHeld
          have hHeld := hNew
          clear hNew
          try simp only [List.getElem_toArray, List.getElem_cons_succ, List.getElem_cons_zero, Act.put, List.setIfInBounds_toArray, List.set_cons_zero, List.set_cons_succ]
          refine wpAnyL_take (i := 4) (oi := _) (v := ?_) rfl (by kernel_rfl) (by kernel_rfl) (by kernel_rfl) (by kernel_rfl) (by kernel_rfl) (fun _ _ _ h => h) (Or.inl ⟨by rfl, ?_⟩) (by assumption) (fun hNew => ?_)
          rotate_left
          · intro w _
            go_simp
            try with_reducible rfl
          clear hHeld
          have hHeld := hNew
          clear hNew
          try simp only [List.getElem_toArray, List.getElem_cons_succ, List.getElem_cons_zero, Act.put, List.setIfInBounds_toArray, List.set_cons_zero, List.set_cons_succ]
          refine wpAnyL_take (i := 5) (oi := _) (v := ?_) rfl (by kernel_rfl) (by kernel_rfl) (by kernel_rfl) (by kernel_rfl) (by kernel_rfl) (fun _ _ _ h => h) (Or.inl ⟨by rfl, ?_⟩) (by assumption) (fun hNew => ?_)
          rotate_left
          · intro w _
            go_simp
            try with_reducible rfl
          clear hHeld
          have hHeld := hNew
          clear hNew
          try simp only [List.getElem_toArray, List.getElem_cons_succ, List.getElem_cons_zero, Act.put, List.setIfInBounds_toArray, List.set_cons_zero, List.set_cons_succ]
          refine wpAnyL_take (i := 6) (oi := _) (v := ?_) rfl (by kernel_rfl) (by kernel_rfl) (by kernel_rfl) (by kernel_rfl) (by kernel_rfl) (fun _ _ _ h => h) (Or.inl ⟨by rfl, ?_⟩) (by assumption) (fun hNew => ?_)
          rotate_left
          · intro w _
            go_simp
            try with_reducible rfl
          clear hHeld
          have hHeld := hNew
          clear hNew
          try simp only [List.getElem_toArray, List.getElem_cons_succ, List.getElem_cons_zero, Act.put, List.setIfInBounds_toArray, List.set_cons_zero, List.set_cons_succ]
          refine wpAnyL_load 0 (i := 7) (oi := _) (v := ?_) rfl rfl (by kernel_rfl) (by kernel_rfl) (by kernel_rfl) (by kernel_rfl) (by kernel_rfl) (by kernel_rfl) (fun _ _ _ h => h) (Or.inl ⟨by rfl, ?_⟩) (by assumption) (fun hNew => ?_)
          rotate_left
          · intro w hSw
            (try dsimp only at hSw)
            go_simp
            try with_reducible rfl
          clear hHeld
          have hHeld := hNew
          clear hNew
          try simp only [List.getElem_toArray, List.getElem_cons_succ, List.getElem_cons_zero, Act.put, List.setIfInBounds_toArray, List.set_cons_zero, List.set_cons_succ]
          refine wpAnyL_ready (rs := [2]) (by kernel_rfl) (by simp) ?_
          refine AllReadyL.cons (o := _) rfl (fun K hK => ?_) AllReadyL.nil
          try simp only [List.getElem_toArray, List.getElem_cons_succ, List.getElem_cons_zero]
          go_simp
          refine CL.out.mono ?_
          rintro e w5 ⟨rfl, hs5⟩
          have hs5 := Sid.pre (w0 := w4) (by exact (Chg.refl [] w4).drew) hs5
          rcases CT.out with ⟨p1, p2, p3, p4⟩ | ⟨p1, p2, p3⟩
          · obtain ⟨U5, A5⟩ := A4.out.sid hs5 p3 p4
            have H5 := Lib.hid A5
            have u5 : w5.cell? ⟨gu, j, none⟩ = some (.bool (u j)) := blk_cell A5.cu j _ (five_at _ j hj)
            rw [p1]
            rw [p2]
            clear p1 p2 p3 p4 hs5 A5 u0 CL
            try go_wp2_with fail
            clear hHeld
            refine hK.out _ _ ?_ (fun hHeld => ?_)
            · exact (HoldC.cons (u5) HoldC.nil)
            clear hK K
            try simp only [List.getElem_toArray, List.getElem_cons_succ, List.getElem_cons_zero, Act.put, List.setIfInBounds_toArray, List.set_cons_zero, List.set_cons_succ]
            refine wpAnyL_take (i := 3) (oi := _) (v := ?_) rfl (by kernel_rfl) (by kernel_rfl) (by kernel_rfl) (by kernel_rfl) (by kernel_rfl) (fun _ _ _ h => h) (Or.inl ⟨by rfl, ?_⟩) (by assumption) (fun hNew => ?_)
            rotate_left
            · intro w _
              go_simp
              try with_reducible rfl
            clear hHeld
            have hHeld := hNew
            clear hNew
            try simp only [List.getElem_toArray, List.getElem_cons_succ, List.getElem_cons_zero, Act.put, List.setIfInBounds_toArray, List.set_cons_zero, List.set_cons_succ]
            refine wpAnyL_ready (rs := [8]) (by kernel_rfl) (by simp) ?_
            refine AllReadyL.cons (o := _) rfl (fun K hK => ?_) AllReadyL.nil
            try simp only [List.getElem_toArray, List.getElem_cons_succ, List.getElem_cons_zero]
            go_simp
            clear hHeld
            refine hK.out _ _ ?_ (fun hHeld => ?_)
            · exact (HoldC.past (by kernel_rfl) HoldC.nil)
            clear hK K
            try simp only [List.getElem_toArray, List.getElem_cons_succ, List.getElem_cons_zero, Act.put, List.setIfInBounds_toArray, List.set_cons_zero, List.set_cons_succ]
            refine wpAnyL_done (by kernel_rfl) ?_ _
            clear hHeld
            have u1 := blk_frozen H5.out.cu j
            have u2 := blk_lt H5.out.cu
            go_wp2
            go_roundg (gk - 1)
            case measure => omega
            case rel => exact ⟨k + 1, U5, _, set5 u j false, v, vals, by go_num, by omega, by omega, Lib.hid ⟨H5.out.setU j hj false, by have := CO.out; omega⟩⟩
          · rw [p3] at hs5
            obtain ⟨U5, A5⟩ := A4.out.sid hs5 A4.out.told A4.out.shape
            have H5 := Lib.hid A5
            have u5 : w5.cell? ⟨gu, j, none⟩ = some (.bool (u j)) := blk_cell A5.cu j _ (five_at _ j hj)
            rw [p2]
            generalize (s.clear (j : Int)).1 = r1 at *
            have q1 : (r1 == 0) = false := by simp [p1]
            have P2 := Lib.hid p2
            clear p1 p2 p3 hs5 A5 u0 CL
            try go_wp2_with fail
            clear hHeld
            refine hK.out _ _ ?_ (fun hHeld => ?_)
            · exact (HoldC.cons (u5) HoldC.nil)
            clear hK K
            try simp only [List.getElem_toArray, List.getElem_cons_succ, List.getElem_cons_zero, Act.put, List.setIfInBounds_toArray, List.set_cons_zero, List.set_cons_succ]
            refine wpAnyL_take (i := 3) (oi := _) (v := ?_) rfl (by kernel_rfl) (by kernel_rfl) (by kernel_rfl) (by kernel_rfl) (by kernel_rfl) (fun _ _ _ h => h) (Or.inl ⟨by rfl, ?_⟩) (by assumption) (fun hNew => ?_)
            rotate_left
            · intro w _
              go_simp
              try with_reducible rfl
            clear hHeld
            have hHeld := hNew
            clear hNew
            try simp only [List.getElem_toArray, List.getElem_cons_succ, List.getElem_cons_zero, Act.put, List.setIfInBounds_toArray, List.set_cons_zero, List.set_cons_succ]
            refine wpAnyL_ready (rs := [8]) (by kernel_rfl) (by simp) ?_
            refine AllReadyL.cons (o := _) rfl (fun K hK => ?_) AllReadyL.nil
            try simp only [List.getElem_toArray, List.getElem_cons_succ, List.getElem_cons_zero]
            go_simp
            clear hHeld
            refine hK.out _ _ ?_ (fun hHeld => ?_)
            · exact (HoldC.past (by kernel_rfl) HoldC.nil)
            clear hK K
            try simp only [List.getElem_toArray, List.getElem_cons_succ, List.getElem_cons_zero, Act.put, List.setIfInBounds_toArray, List.set_cons_zero, List.set_cons_succ]
            refine wpAnyL_done (by kernel_rfl) ?_ _
            clear hHeld
            have u1 := blk_frozen H5.out.cu j
            have u2 := blk_lt H5.out.cu
            go_wp2
            go_roundg (gk - 1)
            case measure => omega
            case rel =>
              have hse : set5 u j false = u := by
                funext i
                unfold set5
                split
                · subst_vars; exact P2.out.symm
                · rfl
              have hf := H5.out.setU j hj false
              rw [hse] at hf
              exact ⟨k + 1, U5, s, u, v, vals, by go_num, by omega, by omega, Lib.hid ⟨hf, by omega⟩⟩
        · have q6 : (fc == 6) = false := by simp [h6]
          clear h6
          go_wp2
          go_roundg (gk - 1)
          case measure => omega
          case rel => exact ⟨k + 1, U, s, u, v, vals, by go_num, by omega, by omega, Lib.hid ⟨A4.out, by omega⟩⟩
    · have hkn : k = n := by omega
      obtain ⟨S', hdk⟩ : ∃ S', DiskAt wr p S' s.d := by
        obtain ⟨S', rv, R, H⟩ := HR.out.1.since.1
        exact ⟨S', H.disk⟩
      have CO := Lib.hid (sopen_any p S' s.d 1 wr hdk)
      obtain ⟨s1, s2, s3, s4⟩ := HR.out.1.shape
      have han := HR.out.1.told.anew (by rw [s1, s2, s3]) (by rw [s3]; decide)
      rw [s1] at han
      rw [show ((1 : Nat) : Int) = 1 from rfl] at han
      rw [han] at CO
      have HAr := Lib.hid HR.out.1
      have S2 := Lib.hid s2
      clear s1 s2 s3 s4 han hdk HR
      go_wp2_with fail
      refine CO.out.mono ?_
      rintro e w4 ⟨hc4, q', U', rfl, ht4, hU4⟩
      have A4 := Lib.hid (HAr.out.keep hc4)
      have T4 := Lib.hid ht4
      clear hc4 ht4 hU4 CO
      go_wp2_with fail
      go_loopg [13, 14] 5 (fun g' s13 s14 wr => ∃ (m : Nat), s14 = .int .i64 ((m : Int) - 1) ∧ s13 = .int .i64 (rowFree (s.rows.drop m) m) ∧ m ≤ 5 ∧ m ≤ g' ∧ Hid (ApAt w wr q p gw gu U s u u v v vals ∧ SlotsAt wr q' p U' s))
      case atStart => exact ⟨5, by simp, by rw [List.drop_eq_nil_of_le (by rw [S2.out]; omega)]; rfl, by omega, by omega, Lib.hid ⟨A4.out, T4.out⟩⟩
      case round =>
        obtain ⟨m, rfl, rfl, hm, hmg, HM⟩ := hrel
        clear A4 T4 HAr
        by_cases hm0 : 0 < m
        · obtain ⟨j, rfl⟩ : ∃ j, m = j + 1 := ⟨m - 1, by omega⟩
          have hj : j < 5 := by omega
          have ej : (((j + 1 : Nat) : Int) - 1) = (j : Int) := by omega
          rw [ej]
          have hjz : (j : Int) < 5 := by omega
          have hjz0 : (0 : Int) ≤ (j : Int) := by omega
          have hjz1 : (j : Int).toNat = j := by omega
          have hget := HM.out.1.told.get j (by rw [S2.out]; exact hj)
          have hused : s.used (j : Int) = u j := by
            have hh : s.has (j : Int) := ⟨by omega, by rw [S2.out]; omega⟩
            have h1 := HM.out.1.told.used j (by rw [S2.out]; exact hj)
            unfold SS.used
            rw [decide_eq_true hh, Bool.true_and]
            exact h1
          have hstep : rowFree (s.rows.drop j) j = if u j = false then (j : Int) else rowFree (s.rows.drop (j + 1)) (j + 1) := by
            have hlt : j < s.rows.length := by rw [S2.out]; exact hj
            have h1 := HM.out.1.told.used j hlt
            rw [List.getD_eq_getElem?_getD, List.getElem?_eq_getElem hlt] at h1
            rw [List.drop_eq_getElem_cons hlt]
            show (if s.rows[j].used = false then (j : Int) else rowFree (s.rows.drop (j + 1)) (j + 1)) = _
            rw [show s.rows[j].used = u j from h1]
          have hvl : u j = true → (v j).length ≤ 448 := fun hu => by
            rw [← HM.out.1.told.data j (by rw [S2.out]; exact hj) hu]
            have h1 := HM.out.1.told.small j (by rw [S2.out]; exact hj)
            have h2 : s.row (j : Int) = s.rows.getD j noRow := rfl
            unfold SS.data
            rw [List.length_take, h2]
            omega
          have CG1 := Lib.hid (sget_any q p U s (j : Int) wr HM.out.1.since.1)
          have CG2 := Lib.hid (fun w' (hc : Chg [] wr w') => sget_any q' p U' s (j : Int) w' (HM.out.2.keep0 hc))
          have CU := Lib.hid (fun w' (hc : Chg [] wr w') => sused_any q p U s (j : Int) w' (HM.out.1.since.1.keep0 hc))
          rw [hget] at CG1 CG2
          rw [hused] at CU
          have HST := Lib.hid hstep
          clear hget hused hstep ej
          have hwant := HM.out.1.came j hj
          obtain ⟨aw, qw, vw⟩ := hwant.1.slice
          have HWT := Lib.hid hwant
          have VW := Lib.hid vw
          clear hwant vw
          cases hu : u j with
          | true =>
            rw [hu] at CG1 CG2 CU HST
            have hvl := hvl hu
            simp only [if_true] at CG1 CG2
            go_wp2_with fail
            refine CG1.out.mono ?_
            rintro e w5 ⟨⟨v5, rfl, hb5, ho5⟩, hc5⟩
            have C2 := Lib.hid (CG2.out w5 hc5)
            have HC5 := Lib.hid hc5
            have HB5 := Lib.hid hb5
            obtain ⟨a5, q5, rfl⟩ := hb5.slice
            clear hc5 hb5 ho5 CG1
            go_wp2_with fail
            refine C2.out.mono ?_
            rintro e w6 ⟨⟨v6, rfl, hb6, ho6⟩, hc6⟩
            have HC6 := Lib.hid (HC5.out.trans hc6 (by simp))
            have HB56 := Lib.hid (HB5.out.chg hc6 (by simp))
            have HB6 := Lib.hid hb6
            obtain ⟨a6, q6, rfl⟩ := hb6.slice
            clear hc6 hb6 ho6 C2
            have A6 := Lib.hid (HM.out.1.keep HC6.out)
            have W6 := Lib.hid (HWT.out.chg A6.out.since.2.2)
            have CS1 := Lib.hid (fun w' (hc : Chg [] w6 w') => same_any (.slice a5 (v j).length q5) (vals j) (v j) (v j) w' (HB56.out.chg hc (by simp)) (W6.out.1.chg hc (by simp)) (by omega) (by omega))
            have CS2 := Lib.hid (fun w' (hc : Chg [] w6 w') => same_any (.slice a6 (v j).length q6) (vals j) (v j) (v j) w' (HB6.out.chg hc (by simp)) (W6.out.1.chg hc (by simp)) (by omega) (by omega))
            rw [VW.out, decide_eq_true rfl] at CS1 CS2
            have u0 : w6.cell? ⟨gu, j, none⟩ = some (.bool true) := by
              have h := blk_cell A6.out.cu j _ (five_at _ j hj)
              unfold bo at h
              rw [hu] at h
              exact h
            have y0 : w6.cell? ⟨gw, j, none⟩ = some (.slice aw (v j).length qw) := by
              rw [← VW.out]
              exact blk_cell A6.out.cw j _ (five_at _ j hj)
            clear hvl
            go_wp2_with fail
            refine wp_region_L [(45, fun w' => w'.cell? ⟨gu, j, none⟩ = some (.bool true)), (45, fun w' => w'.cell? ⟨gw, j, none⟩ = some (.slice aw (v j).length qw))] (by kernel_rfl) ?_ (fun hHeld => ?_)
            · exact (HoldC.cons (u0) (HoldC.cons (y0) HoldC.nil))
            refine wpAnyL_take (i := 0) (oi := _) (v := ?_) rfl (by kernel_rfl) (by kernel_rfl) (by kernel_rfl) (by kernel_rfl) (by kernel_rfl) (fun _ _ _ h => h) (Or.inl ⟨by rfl, ?_⟩) (by assumption) (fun hNew => ?_)
            rotate_left
            · intro w _
              go_simp
              try with_reducible rfl
            clear hHeld
            have hHeld := hNew
            clear hNew
            try simp only [List.getElem_toArray, List.getElem_cons_succ, List.getElem_cons_zero, Act.put, List.setIfInBounds_toArray, List.set_cons_zero, List.set_cons_succ]
            refine wpAnyL_take (i := 1) (oi := _) (v := ?_) rfl (by kernel_rfl) (by kernel_rfl) (by kernel_rfl) (by kernel_rfl) (by kernel_rfl) (fun _ _ _ h => h) (Or.inl ⟨by rfl, ?_⟩) (by assumption) (fun hNew => ?_)
            rotate_left
            · intro w _
              go_simp
              try with_reducible rfl
            clear hHeld
            have hHeld := hNew
            clear hNew
            try simp only [List.getElem_toArray, List.getElem_cons_succ, List.getElem_cons_zero, Act.put, List.setIfInBounds_toArray, List.set_cons_zero, List.set_cons_succ]
            refine wpAnyL_take (i := 2) (oi := _) (v := ?_) rfl (by kernel_rfl) (by kernel_rfl) (by kernel_rfl) (by kernel_rfl) (by kernel_rfl) (fun _ _ _ h => h) (Or.inl ⟨by rfl, ?_⟩) (by assumption) (fun hNew => ?_)
            rotate_left
            · intro w _
              go_simp
              try with_reducible rfl
            clear hHeld
            have hHeld := hNew
            clear hNew
            try simp only [List.getElem_toArray, List.getElem_cons_succ, List.getElem_cons_zero, Act.put, List.setIfInBounds_toArray, List.set_cons_zero, List.set_cons_succ]
            refine wpAnyL_take (i := 3) (oi := _) (v := ?_) rfl (by kernel_rfl) (by kernel_rfl) (by kernel_rfl) (by kernel_rfl) (by kernel_rfl) (fun _ _ _ h => h) (Or.inl ⟨by rfl, ?_⟩) (by assumption) (fun hNew => ?_)
            rotate_left
            · intro w _
              go_simp
              try with_reducible rfl
            clear hHeld
            have hHeld := hNew
            clear hNew
            try simp only [List.getElem_toArray, List.getElem_cons_succ, List.getElem_cons_zero, Act.put, List.setIfInBounds_toArray, List.set_cons_zero, List.set_cons_succ]
            refine wpAnyL_take (i := 4) (oi := _) (v := ?_) rfl (by kernel_rfl) (by kernel_rfl) (by kernel_rfl) (by kernel_rfl) (by kernel_rfl) (fun _ _ _ h => h) (Or.inl ⟨by rfl, ?_⟩) (by assumption) (fun hNew => ?_)
            rotate_left
            · intro w _
              go_simp
              try with_reducible rfl
            clear hHeld
            have hHeld := hNew
            clear hNew
            try simp only [List.getElem_toArray, List.getElem_cons_succ, List.getElem_cons_zero, Act.put, List.setIfInBounds_toArray, List.set_cons_zero, List.set_cons_succ]
            refine wpAnyL_take (i := 5) (oi := _) (v := ?_) rfl (by kernel_rfl) (by kernel_rfl) (by kernel_rfl) (by kernel_rfl) (by kernel_rfl) (fun _ _ _ h => h) (Or.inl ⟨by rfl, ?_⟩) (by assumption) (fun hNew => ?_)
            rotate_left
            · intro w _
              go_simp
              try with_reducible rfl
            clear hHeld
            have hHeld := hNew
            clear hNew
            try simp only [List.getElem_toArray, List.getElem_cons_succ, List.getElem_cons_zero, Act.put, List.setIfInBounds_toArray, List.set_cons_zero, List.set_cons_succ]
            refine wpAnyL_take (i := 6) (oi := _) (v := ?_) rfl (by kernel_rfl) (by kernel_rfl) (by kernel_rfl) (by kernel_rfl) (by kernel_rfl) (fun _ _ _ h => h) (Or.inl ⟨by rfl, ?_⟩) (by assumption) (fun hNew => ?_)
            rotate_left
            · intro w _
              go_simp
              try with_reducible rfl
            clear hHeld
            have hHeld := hNew
            clear hNew
            try simp only [List.getElem_toArray, List.getElem_cons_succ, List.getElem_cons_zero, Act.put, List.setIfInBounds_toArray, List.set_cons_zero, List.set_cons_succ]
            refine wpAnyL_take (i := 7) (oi := _) (v := ?_) rfl (by kernel_rfl) (by kernel_rfl) (by kernel_rfl) (by kernel_rfl) (by kernel_rfl) (fun _ _ _ h => h) (Or.inl ⟨by rfl, ?_⟩) (by assumption) (fun hNew => ?_)
            rotate_left
            · intro w _
              go_simp
              try with_reducible rfl
            clear hHeld
            have hHeld := hNew
            clear hNew
            try simp only [List.getElem_toArray, List.getElem_cons_succ, List.getElem_cons_zero, Act.put, List.setIfInBounds_toArray, List.set_cons_zero, List.set_cons_succ]
            refine wpAnyL_take (i := 8) (oi := _) (v := ?_) rfl (by kernel_rfl) (by kernel_rfl) (by kernel_rfl) (by kernel_rfl) (by kernel_rfl) (fun _ _ _ h => h) (Or.inl ⟨by rfl, ?_⟩) (by assumption) (fun hNew => ?_)
            rotate_left
            · intro w _
              go_simp
              try with_reducible rfl
            clear hHeld
            have hHeld := hNew
            clear hNew
            try simp only [List.getElem_toArray, List.getElem_cons_succ, List.getElem_cons_zero, Act.put, List.setIfInBounds_toArray, List.set_cons_zero, List.set_cons_succ]
            refine wpAnyL_load 0 (i := 9) (oi := _) (v := ?_) rfl rfl (by kernel_rfl) (by kernel_rfl) (by kernel_rfl) (by kernel_rfl) (by kernel_rfl) (by kernel_rfl) (fun _ _ _ h => h) (Or.inl ⟨by rfl, ?_⟩) (by assumption) (fun hNew => ?_)
            rotate_left
            · intro w hSw
              (try dsimp only at hSw)
              go_simp
              try with_reducible rfl
            clear hHeld
            have hHeld := hNew
            clear hNew
            try simp only [List.getElem_toArray, List.getElem_cons_succ, List.getElem_cons_zero, Act.put, List.setIfInBounds_toArray, List.set_cons_zero, List.set_cons_succ]
            refine wpAnyL_take (i := 10) (oi := _) (v := ?_) rfl (by kernel_rfl) (by kernel_rfl) (by kernel_rfl) (by kernel_rfl) (by kernel_rfl) (fun _ _ _ h => h) (Or.inl ⟨by rfl, ?_⟩) (by assumption) (fun hNew => ?_)
            rotate_left
            · intro w _
              go_simp
              try with_reducible rfl
            clear hHeld
            have hHeld := hNew
            clear hNew
            try simp only [List.getElem_toArray, List.getElem_cons_succ, List.getElem_cons_zero, Act.put, List.setIfInBounds_toArray, List.set_cons_zero, List.set_cons_succ]
            refine wpAnyL_take (i := 11) (oi := _) (v := ?_) rfl (by kernel_rfl) (by kernel_rfl) (by kernel_rfl) (by kernel_rfl) (by kernel_rfl) (fun _ _ _ h => h) (Or.inl ⟨by rfl, ?_⟩) (by assumption) (fun hNew => ?_)
            rotate_left
            · intro w _
              go_simp
              try with_reducible rfl
            clear hHeld
            have hHeld := hNew
            clear hNew
            try simp only [List.getElem_toArray, List.getElem_cons_succ, List.getElem_cons_zero, Act.put, List.setIfInBounds_toArray, List.set_cons_zero, List.set_cons_succ]
            refine wpAnyL_take (i := 12) (oi := _) (v := ?_) rfl (by kernel_rfl) (by kernel_rfl) (by kernel_rfl) (by kernel_rfl) (by kernel_rfl) (fun _ _ _ h => h) (Or.inl ⟨by rfl, ?_⟩) (by assumption) (fun hNew => ?_)
            rotate_left
            · intro w _
              go_simp
              try with_reducible rfl
            clear hHeld
            have hHeld := hNew
            clear hNew
            try simp only [List.getElem_toArray, List.getElem_cons_succ, List.getElem_cons_zero, Act.put, List.setIfInBounds_toArray, List.set_cons_zero, List.set_cons_succ]
            refine wpAnyL_take (i := 13) (oi := _) (v := ?_) rfl (by kernel_rfl) (by kernel_rfl) (by kernel_rfl) (by kernel_rfl) (by kernel_rfl) (fun _ _ _ h => h) (Or.inl ⟨by rfl, ?_⟩) (by assumption) (fun hNew => ?_)
            rotate_left
            · intro w _
              go_simp
              try with_reducible rfl
            clear hHeld
            have hHeld := hNew
            clear hNew
            try simp only [List.getElem_toArray, List.getElem_cons_succ, List.getElem_cons_zero, Act.put, List.setIfInBounds_toArray, List.set_cons_zero, List.set_cons_succ]
            refine wpAnyL_take (i := 14) (oi := _) (v := ?_) rfl (by kernel_rfl) (by kernel_rfl) (by kernel_rfl) (by kernel_rfl) (by kernel_rfl) (fun _ _ _ h => h) (Or.inl ⟨by rfl, ?_⟩) (by assumption) (fun hNew => ?_)
            rotate_left
            · intro w _
              go_simp
              try with_reducible rfl
            clear hHeld
            have hHeld := hNew
            clear hNew
            try simp only [List.getElem_toArray, List.getElem_cons_succ, List.getElem_cons_zero, Act.put, List.setIfInBounds_toArray, List.set_cons_zero, List.set_cons_succ]
            refine wpAnyL_take (i := 15) (oi := _) (v := ?_) rfl (by kernel_rfl) (by kernel_rfl) (by kernel_rfl) (by kernel_rfl) (by kernel_rfl) (fun _ _ _ h => h) (Or.inl ⟨by rfl, ?_⟩) (by assumption) (fun hNew => ?_)
            rotate_left
            · intro w _
              go_simp
              try with_reducible rfl
            clear hHeld
            have hHeld := hNew
            clear hNew
            try simp only [List.getElem_toArray, List.getElem_cons_succ, List.getElem_cons_zero, Act.put, List.setIfInBounds_toArray, List.set_cons_zero, List.set_cons_succ]
            refine wpAnyL_load 0 (i := 16) (oi := _) (v := ?_) rfl rfl (by kernel_rfl) (by kernel_rfl) (by kernel_rfl) (by kernel_rfl) (by kernel_rfl) (by kernel_rfl) (fun _ _ _ h => h) (Or.inl ⟨by rfl, ?_⟩) (by assumption) (fun hNew => ?_)
            rotate_left
            · intro w hSw
              (try dsimp only at hSw)
              go_simp
              try with_reducible rfl
            clear hHeld
            have hHeld := hNew
            clear hNew
            try simp only [List.getElem_toArray, List.getElem_cons_succ, List.getElem_cons_zero, Act.put, List.setIfInBounds_toArray, List.set_cons_zero, List.set_cons_succ]
            refine wpAnyL_take (i := 17) (oi := _) (v := ?_) rfl (by kernel_rfl) (by kernel_rfl) (by kernel_rfl) (by kernel_rfl) (by kernel_rfl) (fun _ _ _ h => h) (Or.inl ⟨by rfl, ?_⟩) (by assumption) (fun hNew => ?_)
            rotate_left
            · intro w _
              go_simp
              try with_reducible rfl
            clear hHeld
            have hHeld := hNew
            clear hNew
            try simp only [List.getElem_toArray, List.getElem_cons_succ, List.getElem_cons_zero, Act.put, List.setIfInBounds_toArray, List.set_cons_zero, List.set_cons_succ]
            refine wpAnyL_take (i := 18) (oi := _) (v := ?_) rfl (by kernel_rfl) (by kernel_rfl) (by kernel_rfl) (by kernel_rfl) (by kernel_rfl) (fun _ _ _ h => h) (Or.inl ⟨by rfl, ?_⟩) (by assumption) (fun hNew => ?_)
            rotate_left
            · intro w _
              go_simp
              try with_reducible rfl
            clear hHeld
            have hHeld := hNew
            clear hNew
            try simp only [List.getElem_toArray, List.getElem_cons_succ, List.getElem_cons_zero, Act.put, List.setIfInBounds_toArray, List.set_cons_zero, List.set_cons_succ]
            refine wpAnyL_take (i := 19) (oi := _) (v := ?_) rfl (by kernel_rfl) (by kernel_rfl) (by kernel_rfl) (by kernel_rfl) (by kernel_rfl) (fun _ _ _ h => h) (Or.inl ⟨by rfl, ?_⟩) (by assumption) (fun hNew => ?_)
            rotate_left
            · intro w _
              go_simp
              try with_reducible rfl
            clear hHeld
            have hHeld := hNew
            clear hNew
            try simp only [List.getElem_toArray, List.getElem_cons_succ, List.getElem_cons_zero, Act.put, List.setIfInBounds_toArray, List.set_cons_zero, List.set_cons_succ]
            refine wpAnyL_take (i := 20) (oi := _) (v := ?_) rfl (by kernel_rfl) (by kernel_rfl) (by kernel_rfl) (by kernel_rfl) (by kernel_rfl) (fun _ _ _ h => h) (Or.inl ⟨by rfl, ?_⟩) (by assumption) (fun hNew => ?_)
            rotate_left
            · intro w _
              go_simp
              try with_reducible rfl
            clear hHeld
            have hHeld := hNew
            clear hNew
            try simp only [List.getElem_toArray, List.getElem_cons_succ, List.getElem_cons_zero, Act.put, List.setIfInBounds_toArray, List.set_cons_zero, List.set_cons_succ]
            refine wpAnyL_take (i := 21) (oi := _) (v := ?_) rfl (by kernel_rfl) (by kernel_rfl) (by kernel_rfl) (by kernel_rfl) (by kernel_rfl) (fun _ _ _ h => h) (Or.inl ⟨by rfl, ?_⟩) (by assumption) (fun hNew => ?_)
            rotate_left
            · intro w _
              go_simp
              try with_reducible rfl
            clear hHeld
            have hHeld := hNew
            clear hNew
            try simp only [List.getElem_toArray, List.getElem_cons_succ, List.getElem_cons_zero, Act.put, List.setIfInBounds_toArray, List.set_cons_zero, List.set_cons_succ]
            refine wpAnyL_load 1 (i := 22) (oi := _) (v := ?_) rfl rfl (by kernel_rfl) (by kernel_rfl) (by kernel_rfl) (by kernel_rfl) (by kernel_rfl) (by kernel_rfl) (fun _ _ _ h => h) (Or.inl ⟨by rfl, ?_⟩) (by assumption) (fun hNew => ?_)
            rotate_left
            · intro w hSw
              (try dsimp only at hSw)
              go_simp
              try with_reducible rfl
            clear hHeld
            have hHeld := hNew
            clear hNew
            try simp only [List.getElem_toArray, List.getElem_cons_succ, List.getElem_cons_zero, Act.put, List.setIfInBounds_toArray, List.set_cons_zero, List.set_cons_succ]
            refine wpAnyL_ready (rs := [23]) (by kernel_rfl) (by simp) ?_
            refine AllReadyL.cons (o := _) rfl (fun K hK => ?_) AllReadyL.nil
            try simp only [List.getElem_toArray, List.getElem_cons_succ, List.getElem_cons_zero]
            go_simp
            refine (CS1.out w6.drew (by exact (Chg.refl [] w6).drew)).mono ?_
            rintro e w7 ⟨rfl, n7, hw7⟩
            have HC7 : Hid (Chg [] w6 w7) := Lib.hid (by rw [hw7]; exact (by exact (Chg.refl [] w6).drew : Chg [] w6 w6.drew).drewN n7)
            have u7 := HC7.out.cell u0 (by simp)
            have y7 := HC7.out.cell y0 (by simp)
            clear hw7
            try go_wp2_with fail
            clear hHeld
            refine hK.out _ _ ?_ (fun hHeld => ?_)
            · exact (HoldC.cons (u7) (HoldC.cons (y7) HoldC.nil))
            clear hK K
            try simp only [List.getElem_toArray, List.getElem_cons_succ, List.getElem_cons_zero, Act.put, List.setIfInBounds_toArray, List.set_cons_zero, List.set_cons_succ]
            refine wpAnyL_take (i := 24) (oi := _) (v := ?_) rfl (by kernel_rfl) (by kernel_rfl) (by kernel_rfl) (by kernel_rfl) (by kernel_rfl) (fun _ _ _ h => h) (Or.inl ⟨by rfl, ?_⟩) (by assumption) (fun hNew => ?_)
            rotate_left
            · intro w _
              go_simp
              try with_reducible rfl
            clear hHeld
            have hHeld := hNew
            clear hNew
            try simp only [List.getElem_toArray, List.getElem_cons_succ, List.getElem_cons_zero, Act.put, List.setIfInBounds_toArray, List.set_cons_zero, List.set_cons_succ]
            refine wpAnyL_take (i := 25) (oi := _) (v := ?_) rfl (by kernel_rfl) (by kernel_rfl) (by kernel_rfl) (by kernel_rfl) (by kernel_rfl) (fun _ _ _ h => h) (Or.inl ⟨by rfl, ?_⟩) (by assumption) (fun hNew => ?_)
            rotate_left
            · intro w _
              go_simp
              try with_reducible rfl
            clear hHeld
            have hHeld := hNew
            clear hNew
            try simp only [List.getElem_toArray, List.getElem_cons_succ, List.getElem_cons_zero, Act.put, List.setIfInBounds_toArray, List.set_cons_zero, List.set_cons_succ]
            refine wpAnyL_take (i := 26) (oi := _) (v := ?_) rfl (by kernel_rfl) (by kernel_rfl) (by kernel_rfl) (by kernel_rfl) (by kernel_rfl) (fun _ _ _ h => h) (Or.inl ⟨by rfl, ?_⟩) (by assumption) (fun hNew => ?_)
            rotate_left
            · intro w _
              go_simp
              try with_reducible rfl
            clear hHeld
            have hHeld := hNew
            clear hNew
            try simp only [List.getElem_toArray, List.getElem_cons_succ, List.getElem_cons_zero, Act.put, List.setIfInBounds_toArray, List.set_cons_zero, List.set_cons_succ]
            refine wpAnyL_take (i := 27) (oi := _) (v := ?_) rfl (by kernel_rfl) (by kernel_rfl) (by kernel_rfl) (by kernel_rfl) (by kernel_rfl) (fun _ _ _ h => h) (Or.inl ⟨by rfl, ?_⟩) (by assumption) (fun hNew => ?_)
            rotate_left
            · intro w _
              go_simp
              try with_reducible rfl
            clear hHeld
            have hHeld := hNew
            clear hNew
            try simp only [List.getElem_toArray, List.getElem_cons_succ, List.getElem_cons_zero, Act.put, List.setIfInBounds_toArray, List.set_cons_zero, List.set_cons_succ]
            refine wpAnyL_take (i := 28) (oi := _) (v := ?_) rfl (by kernel_rfl) (by kernel_rfl) (by kernel_rfl) (by kernel_rfl) (by kernel_rfl) (fun _ _ _ h => h) (Or.inl ⟨by rfl, ?_⟩) (by assumption) (fun hNew => ?_)
            rotate_left
            · intro w _
              go_simp
              try with_reducible rfl
            clear hHeld
            have hHeld := hNew
            clear hNew
            try simp only [List.getElem_toArray, List.getElem_cons_succ, List.getElem_cons_zero, Act.put, List.setIfInBounds_toArray, List.set_cons_zero, List.set_cons_succ]
            refine wpAnyL_take (i := 29) (oi := _) (v := ?_) rfl (by kernel_rfl) (by kernel_rfl) (by kernel_rfl) (by kernel_rfl) (by kernel_rfl) (fun _ _ _ h => h) (Or.inl ⟨by rfl, ?_⟩) (by assumption) (fun hNew => ?_)
            rotate_left
            · intro w _
              go_simp
              try with_reducible rfl
            clear hHeld
            have hHeld := hNew
            clear hNew
            try simp only [List.getElem_toArray, List.getElem_cons_succ, List.getElem_cons_zero, Act.put, List.setIfInBounds_toArray, List.set_cons_zero, List.set_cons_succ]
            refine wpAnyL_load 1 (i := 30) (oi := _) (v := ?_) rfl rfl (by kernel_rfl) (by kernel_rfl) (by kernel_rfl) (by kernel_rfl) (by kernel_rfl) (by kernel_rfl) (fun _ _ _ h => h) (Or.inl ⟨by rfl, ?_⟩) (by assumption) (fun hNew => ?_)
            rotate_left
            · intro w hSw
              (try dsimp only at hSw)
              go_simp
              try with_reducible rfl
            clear hHeld
            have hHeld := hNew
            clear hNew
            try simp only [List.getElem_toArray, List.getElem_cons_succ, List.getElem_cons_zero, Act.put, List.setIfInBounds_toArray, List.set_cons_zero, List.set_cons_succ]
            refine wpAnyL_ready (rs := [31]) (by kernel_rfl) (by simp) ?_
            refine AllReadyL.cons (o := _) rfl (fun K hK => ?_) AllReadyL.nil
            try simp only [List.getElem_toArray, List.getElem_cons_succ, List.getElem_cons_zero]
            go_simp
            refine (CS2.out w7 HC7.out).mono ?_
            rintro e w8 ⟨rfl, n8, hw8⟩
            have HC8 : Hid (Chg [] w6 w8) := Lib.hid (by rw [hw8]; exact HC7.out.drewN n8)
            have u8 := HC8.out.cell u0 (by simp)
            have y8 := HC8.out.cell y0 (by simp)
            clear hw8
            try go_wp2_with fail
            clear hHeld
            refine hK.out _ _ ?_ (fun hHeld => ?_)
            · exact (HoldC.cons (u8) (HoldC.cons (y8) HoldC.nil))
            clear hK K
            try simp only [List.getElem_toArray, List.getElem_cons_succ, List.getElem_cons_zero, Act.put, List.setIfInBounds_toArray, List.set_cons_zero, List.set_cons_succ]
            refine wpAnyL_take (i := 32) (oi := _) (v := ?_) rfl (by kernel_rfl) (by kernel_rfl) (by kernel_rfl) (by kernel_rfl) (by kernel_rfl) (fun _ _ _ h => h) (Or.inl ⟨by rfl, ?_⟩) (by assumption) (fun hNew => ?_)
            rotate_left
            · intro w _
              go_simp
              try with_reducible rfl
            clear hHeld
            have hHeld := hNew
            clear hNew
            try simp only [List.getElem_toArray, List.getElem_cons_succ, List.getElem_cons_zero, Act.put, List.setIfInBounds_toArray, List.set_cons_zero, List.set_cons_succ]
            refine wpAnyL_take (i := 33) (oi := _) (v := ?_) rfl (by kernel_rfl) (by kernel_rfl) (by kernel_rfl) (by kernel_rfl) (by kernel_rfl) (fun _ _ _ h => h) (Or.inl ⟨by rfl, ?_⟩) (by assumption) (fun hNew => ?_)
            rotate_left
            · intro w _
              go_simp
              try with_reducible rfl
            clear hHeld
            have hHeld := hNew
            clear hNew
            try simp only [List.getElem_toArray, List.getElem_cons_succ, List.getElem_cons_zero, Act.put, List.setIfInBounds_toArray, List.set_cons_zero, List.set_cons_succ]
            refine wpAnyL_take (i := 34) (oi := _) (v := ?_) rfl (by kernel_rfl) (by kernel_rfl) (by kernel_rfl) (by kernel_rfl) (by kernel_rfl) (fun _ _ _ h => h) (Or.inl ⟨by rfl, ?_⟩) (by assumption) (fun hNew => ?_)
            rotate_left
            · intro w _
              go_simp
              try with_reducible rfl
            clear hHeld
            have hHeld := hNew
            clear hNew
            try simp only [List.getElem_toArray, List.getElem_cons_succ, List.getElem_cons_zero, Act.put, List.setIfInBounds_toArray, List.set_cons_zero, List.set_cons_succ]
            refine wpAnyL_take (i := 35) (oi := _) (v := ?_) rfl (by kernel_rfl) (by kernel_rfl) (by kernel_rfl) (by kernel_rfl) (by kernel_rfl) (fun _ _ _ h => h) (Or.inl ⟨by rfl, ?_⟩) (by assumption) (fun hNew => ?_)
            rotate_left
            · intro w _
              go_simp
              try with_reducible rfl
            clear hHeld
            have hHeld := hNew
            clear hNew
            try simp only [List.getElem_toArray, List.getElem_cons_succ, List.getElem_cons_zero, Act.put, List.setIfInBounds_toArray, List.set_cons_zero, List.set_cons_succ]
            refine wpAnyL_take (i := 36) (oi := _) (v := ?_) rfl (by kernel_rfl) (by kernel_rfl) (by kernel_rfl) (by kernel_rfl) (by kernel_rfl) (fun _ _ _ h => h) (Or.inl ⟨by rfl, ?_⟩) (by assumption) (fun hNew => ?_)
            rotate_left
            · intro w _
              go_simp
              try with_reducible rfl
            clear hHeld
            have hHeld := hNew
            clear hNew
            try simp only [List.getElem_toArray, List.getElem_cons_succ, List.getElem_cons_zero, Act.put, List.setIfInBounds_toArray, List.set_cons_zero, List.set_cons_succ]
            refine wpAnyL_take (i := 37) (oi := _) (v := ?_) rfl (by kernel_rfl) (by kernel_rfl) (by kernel_rfl) (by kernel_rfl) (by kernel_rfl) (fun _ _ _ h => h) (Or.inl ⟨by rfl, ?_⟩) (by assumption) (fun hNew => ?_)
            rotate_left
            · intro w _
              go_simp
              try with_reducible rfl
            clear hHeld
            have hHeld := hNew
            clear hNew
            try simp only [List.getElem_toArray, List.getElem_cons_succ, List.getElem_cons_zero, Act.put, List.setIfInBounds_toArray, List.set_cons_zero, List.set_cons_succ]
            refine wpAnyL_take (i := 38) (oi := _) (v := ?_) rfl (by kernel_rfl) (by kernel_rfl) (by kernel_rfl) (by kernel_rfl) (by kernel_rfl) (fun _ _ _ h => h) (Or.inl ⟨by rfl, ?_⟩) (by assumption) (fun hNew => ?_)
            rotate_left
            · intro w _
              go_simp
              try with_reducible rfl
            clear hHeld
            have hHeld := hNew
            clear hNew
            try simp only [List.getElem_toArray, List.getElem_cons_succ, List.getElem_cons_zero, Act.put, List.setIfInBounds_toArray, List.set_cons_zero, List.set_cons_succ]
            refine wpAnyL_take (i := 40) (oi := _) (v := ?_) rfl (by kernel_rfl) (by kernel_rfl) (by kernel_rfl) (by kernel_rfl) (by kernel_rfl) (fun _ _ _ h => h) (Or.inl ⟨by rfl, ?_⟩) (by assumption) (fun hNew => ?_)
            rotate_left
            · intro w _
              go_simp
              try with_reducible rfl
            clear hHeld
            have hHeld := hNew
            clear hNew
            try simp only [List.getElem_toArray, List.getElem_cons_succ, List.getElem_cons_zero, Act.put, List.setIfInBounds_toArray, List.set_cons_zero, List.set_cons_succ]
            refine wpAnyL_take (i := 41) (oi := _) (v := ?_) rfl (by kernel_rfl) (by kernel_rfl) (by kernel_rfl) (by kernel_rfl) (by kernel_rfl) (fun _ _ _ h => h) (Or.inl ⟨by rfl, ?_⟩) (by assumption) (fun hNew => ?_)
            rotate_left
            · intro w _
              go_simp
              try with_reducible rfl
            clear hHeld
            have hHeld := hNew
            clear hNew
            try simp only [List.getElem_toArray, List.getElem_cons_succ, List.getElem_cons_zero, Act.put, List.setIfInBounds_toArray, List.set_cons_zero, List.set_cons_succ]
            refine wpAnyL_take (i := 42) (oi := _) (v := ?_) rfl (by kernel_rfl) (by kernel_rfl) (by kernel_rfl) (by kernel_rfl) (by kernel_rfl) (fun _ _ _ h => h) (Or.inl ⟨by rfl, ?_⟩) (by assumption) (fun hNew => ?_)
            rotate_left
            · intro w _
              go_simp
              try with_reducible rfl
            clear hHeld
            have hHeld := hNew
            clear hNew
            try simp only [List.getElem_toArray, List.getElem_cons_succ, List.getElem_cons_zero, Act.put, List.setIfInBounds_toArray, List.set_cons_zero, List.set_cons_succ]
            refine wpAnyL_loadP 0 [44] (i := 43) (oi := _) (v := ?_) rfl rfl (by kernel_rfl) (by kernel_rfl) (by kernel_rfl) (by kernel_rfl) (by kernel_rfl) (by kernel_rfl) (fun _ _ _ h => h) (Or.inl ⟨by rfl, ?_⟩) (by assumption) (fun hNew => ?_)
            rotate_left
            · intro w hSw
              (try dsimp only at hSw)
              go_simp
              try with_reducible rfl
            clear hHeld
            have hHeld := hNew
            clear hNew
            try simp only [List.getElem_toArray, List.getElem_cons_succ, List.getElem_cons_zero, Act.put, List.setIfInBounds_toArray, List.set_cons_zero, List.set_cons_succ]
            refine wpAnyL_ready (rs := [39]) (by kernel_rfl) (by simp) ?_
            refine AllReadyL.cons (o := _) rfl (fun K hK => ?_) AllReadyL.nil
            try simp only [List.getElem_toArray, List.getElem_cons_succ, List.getElem_cons_zero]
            go_simp
            refine (CU.out w8 (HC6.out.trans HC8.out (by simp))).mono ?_
            rintro e w' ⟨rfl, hq⟩
            subst hq
            try go_wp2_with fail
            clear hHeld
            refine hK.out _ _ ?_ (fun hHeld => ?_)
            · exact (HoldC.cons (u8) (HoldC.cons (y8) HoldC.nil))
            clear hK K
            try simp only [List.getElem_toArray, List.getElem_cons_succ, List.getElem_cons_zero, Act.put, List.setIfInBounds_toArray, List.set_cons_zero, List.set_cons_succ]
            refine wpAnyL_take (i := 44) (oi := _) (v := ?_) rfl (by kernel_rfl) (by kernel_rfl) (by kernel_rfl) (by kernel_rfl) (by kernel_rfl) (fun _ _ _ h => h) (Or.inl ⟨by rfl, ?_⟩) (by assumption) (fun hNew => ?_)
            rotate_left
            · intro w _
              go_simp
              try with_reducible rfl
            clear hHeld
            have hHeld := hNew
            clear hNew
            try simp only [List.getElem_toArray, List.getElem_cons_succ, List.getElem_cons_zero, Act.put, List.setIfInBounds_toArray, List.set_cons_zero, List.set_cons_succ]
            refine wpAnyL_ready (rs := [45]) (by kernel_rfl) (by simp) ?_
            refine AllReadyL.cons (o := _) rfl (fun K hK => ?_) AllReadyL.nil
            try simp only [List.getElem_toArray, List.getElem_cons_succ, List.getElem_cons_zero]
            go_simp
            clear hHeld
            refine hK.out _ _ ?_ (fun hHeld => ?_)
            · exact (HoldC.past (by kernel_rfl) (HoldC.past (by kernel_rfl) HoldC.nil))
            clear hK K
            try simp only [List.getElem_toArray, List.getElem_cons_succ, List.getElem_cons_zero, Act.put, List.setIfInBounds_toArray, List.set_cons_zero, List.set_cons_succ]
            refine wpAnyL_done (by kernel_rfl) ?_ _
            clear hHeld
            go_wp2
            go_roundg (gk - 1)
            case measure => omega
            case rel => exact ⟨j, rfl, by rw [HST.out]; simp, by omega, by omega, Lib.hid ⟨A6.out.keep HC8.out, HM.out.2.keep0 (HC6.out.trans HC8.out (by simp))⟩⟩
          | false =>
            rw [hu] at CG1 CG2 CU HST
            simp only [Bool.false_eq_true, if_false] at CG1 CG2
            go_wp2_with fail
            refine CG1.out.mono ?_
            rintro e w5 ⟨⟨v5, rfl, hb5, ho5⟩, hc5⟩
            have C2 := Lib.hid (CG2.out w5 hc5)
            have HC5 := Lib.hid hc5
            obtain ⟨a5, q5, rfl⟩ := hb5.slice
            clear hc5 hb5 ho5 CG1
            go_wp2_with fail
            refine C2.out.mono ?_
            rintro e w6 ⟨⟨v6, rfl, hb6, ho6⟩, hc6⟩
            have HC6 := Lib.hid (HC5.out.trans hc6 (by simp))
            obtain ⟨a6, q6, rfl⟩ := hb6.slice
            clear hc6 hb6 ho6 C2
            have A6 := Lib.hid (HM.out.1.keep HC6.out)
            have u0 : w6.cell? ⟨gu, j, none⟩ = some (.bool false) := by
              have h := blk_cell A6.out.cu j _ (five_at _ j hj)
              unfold bo at h
              rw [hu] at h
              exact h
            clear hvl
            go_wp2_with fail
            refine wp_region_L [(45, fun w' => w'.cell? ⟨gu, j, none⟩ = some (.bool false))] (by kernel_rfl) ?_ (fun hHeld => ?_)
            · exact (HoldC.cons (u0) HoldC.nil)
            refine wpAnyL_take (i := 0) (oi := _) (v := ?_) rfl (by kernel_rfl) (by kernel_rfl) (by kernel_rfl) (by kernel_rfl) (by kernel_rfl) (fun _ _ _ h => h) (Or.inl ⟨by rfl, ?_⟩) (by assumption) (fun hNew => ?_)
            rotate_left
            · intro w _
              go_simp
              try with_reducible rfl
            clear hHeld
            have hHeld := hNew
            clear hNew
            try simp only [List.getElem_toArray, List.getElem_cons_succ, List.getElem_cons_zero, Act.put, List.setIfInBounds_toArray, List.set_cons_zero, List.set_cons_succ]
            refine wpAnyL_take (i := 1) (oi := _) (v := ?_) rfl (by kernel_rfl) (by kernel_rfl) (by kernel_rfl) (by kernel_rfl) (by kernel_rfl) (fun _ _ _ h => h) (Or.inl ⟨by rfl, ?_⟩) (by assumption) (fun hNew => ?_)
            rotate_left
            · intro w _
              go_simp
              try with_reducible rfl
            clear hHeld
            have hHeld := hNew
            clear hNew
            try simp only [List.getElem_toArray, List.getElem_cons_succ, List.getElem_cons_zero, Act.put, List.setIfInBounds_toArray, List.set_cons_zero, List.set_cons_succ]
            refine wpAnyL_take (i := 2) (oi := _) (v := ?_) rfl (by kernel_rfl) (by kernel_rfl) (by kernel_rfl) (by kernel_rfl) (by kernel_rfl) (fun _ _ _ h => h) (Or.inl ⟨by rfl, ?_⟩) (by assumption) (fun hNew => ?_)
            rotate_left
            · intro w _
              go_simp
              try with_reducible rfl
            clear hHeld
            have hHeld := hNew
            clear hNew
            try simp only [List.getElem_toArray, List.getElem_cons_succ, List.getElem_cons_zero, Act.put, List.setIfInBounds_toArray, List.set_cons_zero, List.set_cons_succ]
            refine wpAnyL_take (i := 3) (oi := _) (v := ?_) rfl (by kernel_rfl) (by kernel_rfl) (by kernel_rfl) (by kernel_rfl) (by kernel_rfl) (fun _ _ _ h => h) (Or.inl ⟨by rfl, ?_⟩) (by assumption) (fun hNew => ?_)
            rotate_left
            · intro w _
              go_simp
              try with_reducible rfl
            clear hHeld
            have hHeld := hNew
            clear hNew
            try simp only [List.getElem_toArray, List.getElem_cons_succ, List.getElem_cons_zero, Act.put, List.setIfInBounds_toArray, List.set_cons_zero, List.set_cons_succ]
            refine wpAnyL_take (i := 4) (oi := _) (v := ?_) rfl (by kernel_rfl) (by kernel_rfl) (by kernel_rfl) (by kernel_rfl) (by kernel_rfl) (fun _ _ _ h => h) (Or.inl ⟨by rfl, ?_⟩) (by assumption) (fun hNew => ?_)
            rotate_left
            · intro w _
              go_simp
              try with_reducible rfl
            clear hHeld
            have hHeld := hNew
            clear hNew
            try simp only [List.getElem_toArray, List.getElem_cons_succ, List.getElem_cons_zero, Act.put, List.setIfInBounds_toArray, List.set_cons_zero, List.set_cons_succ]
            refine wpAnyL_take (i := 5) (oi := _) (v := ?_) rfl (by kernel_rfl) (by kernel_rfl) (by kernel_rfl) (by kernel_rfl) (by kernel_rfl) (fun _ _ _ h => h) (Or.inl ⟨by rfl, ?_⟩) (by assumption) (fun hNew => ?_)
            rotate_left
            · intro w _
              go_simp
              try with_reducible rfl
            clear hHeld
            have hHeld := hNew
            clear hNew
            try simp only [List.getElem_toArray, List.getElem_cons_succ, List.getElem_cons_zero, Act.put, List.setIfInBounds_toArray, List.set_cons_zero, List.set_cons_succ]
            refine wpAnyL_take (i := 6) (oi := _) (v := ?_) rfl (by kernel_rfl) (by kernel_rfl) (by kernel_rfl) (by kernel_rfl) (by kernel_rfl) (fun _ _ _ h => h) (Or.inl ⟨by rfl, ?_⟩) (by assumption) (fun hNew => ?_)
            rotate_left
            · intro w _
              go_simp
              try with_reducible rfl
            clear hHeld
            have hHeld := hNew
            clear hNew
            try simp only [List.getElem_toArray, List.getElem_cons_succ, List.getElem_cons_zero, Act.put, List.setIfInBounds_toArray, List.set_cons_zero, List.set_cons_succ]
            refine wpAnyL_take (i := 7) (oi := _) (v := ?_) rfl (by kernel_rfl) (by kernel_rfl) (by kernel_rfl) (by kernel_rfl) (by kernel_rfl) (fun _ _ _ h => h) (Or.inl ⟨by rfl, ?_⟩) (by assumption) (fun hNew => ?_)
            rotate_left
            · intro w _
              go_simp
              try with_reducible rfl
            clear hHeld
            have hHeld := hNew
            clear hNew
            try simp only [List.getElem_toArray, List.getElem_cons_succ, List.getElem_cons_zero, Act.put, List.setIfInBounds_toArray, List.set_cons_zero, List.set_cons_succ]
            refine wpAnyL_take (i := 8) (oi := _) (v := ?_) rfl (by kernel_rfl) (by kernel_rfl) (by kernel_rfl) (by kernel_rfl) (by kernel_rfl) (fun _ _ _ h => h) (Or.inl ⟨by rfl, ?_⟩) (by assumption) (fun hNew => ?_)
            rotate_left
            · intro w _
              go_simp
              try with_reducible rfl
            clear hHeld
            have hHeld := hNew
            clear hNew
            try simp only [List.getElem_toArray, List.getElem_cons_succ, List.getElem_cons_zero, Act.put, List.setIfInBounds_toArray, List.set_cons_zero, List.set_cons_succ]
            refine wpAnyL_load 0 (i := 9) (oi := _) (v := ?_) rfl rfl (by kernel_rfl) (by kernel_rfl) (by kernel_rfl) (by kernel_rfl) (by kernel_rfl) (by kernel_rfl) (fun _ _ _ h => h) (Or.inl ⟨by rfl, ?_⟩) (by assumption) (fun hNew => ?_)
            rotate_left
            · intro w hSw
              (try dsimp only at hSw)
              go_simp
              try with_reducible rfl
            clear hHeld
            have hHeld := hNew
            clear hNew
            try simp only [List.getElem_toArray, List.getElem_cons_succ, List.getElem_cons_zero, Act.put, List.setIfInBounds_toArray, List.set_cons_zero, List.set_cons_succ]
            refine wpAnyL_take (i := 10) (oi := _) (v := ?_) rfl (by kernel_rfl) (by kernel_rfl) (by kernel_rfl) (by kernel_rfl) (by kernel_rfl) (fun _ _ _ h => h) (Or.inl ⟨by rfl, ?_⟩) (by assumption) (fun hNew => ?_)
            rotate_left
            · intro w _
              go_simp
              try with_reducible rfl
            clear hHeld
            have hHeld := hNew
            clear hNew
            try simp only [List.getElem_toArray, List.getElem_cons_succ, List.getElem_cons_zero, Act.put, List.setIfInBounds_toArray, List.set_cons_zero, List.set_cons_succ]
            refine wpAnyL_take (i := 11) (oi := _) (v := ?_) rfl (by kernel_rfl) (by kernel_rfl) (by kernel_rfl) (by kernel_rfl) (by kernel_rfl) (fun _ _ _ h => h) (Or.inl ⟨by rfl, ?_⟩) (by assumption) (fun hNew => ?_)
            rotate_left
            · intro w _
              go_simp
              try with_reducible rfl
            clear hHeld
            have hHeld := hNew
            clear hNew
            try simp only [List.getElem_toArray, List.getElem_cons_succ, List.getElem_cons_zero, Act.put, List.setIfInBounds_toArray, List.set_cons_zero, List.set_cons_succ]
            refine wpAnyL_take (i := 12) (oi := _) (v := ?_) rfl (by kernel_rfl) (by kernel_rfl) (by kernel_rfl) (by kernel_rfl) (by kernel_rfl) (fun _ _ _ h => h) (Or.inl ⟨by rfl, ?_⟩) (by assumption) (fun hNew => ?_)
            rotate_left
            · intro w _
              go_simp
              try with_reducible rfl
            clear hHeld
            have hHeld := hNew
            clear hNew
            try simp only [List.getElem_toArray, List.getElem_cons_succ, List.getElem_cons_zero, Act.put, List.setIfInBounds_toArray, List.set_cons_zero, List.set_cons_succ]
            refine wpAnyL_take (i := 13) (oi := _) (v := ?_) rfl (by kernel_rfl) (by kernel_rfl) (by kernel_rfl) (by kernel_rfl) (by kernel_rfl) (fun _ _ _ h => h) (Or.inl ⟨by rfl, ?_⟩) (by assumption) (fun hNew => ?_)
            rotate_left
            · intro w _
              go_simp
              try with_reducible rfl
            clear hHeld
            have hHeld := hNew
            clear hNew
            try simp only [List.getElem_toArray, List.getElem_cons_succ, List.getElem_cons_zero, Act.put, List.setIfInBounds_toArray, List.set_cons_zero, List.set_cons_succ]
            refine wpAnyL_take (i := 14) (oi := _) (v := ?_) rfl (by kernel_rfl) (by kernel_rfl) (by kernel_rfl) (by kernel_rfl) (by kernel_rfl) (fun _ _ _ h => h) (Or.inl ⟨by rfl, ?_⟩) (by assumption) (fun hNew => ?_)
            rotate_left
            · intro w _
              go_simp
              try with_reducible rfl
            clear hHeld
            have hHeld := hNew
            clear hNew
            try simp only [List.getElem_toArray, List.getElem_cons_succ, List.getElem_cons_zero, Act.put, List.setIfInBounds_toArray, List.set_cons_zero, List.set_cons_succ]
            refine wpAnyL_take (i := 15) (oi := _) (v := ?_) rfl (by kernel_rfl) (by kernel_rfl) (by kernel_rfl) (by kernel_rfl) (by kernel_rfl) (fun _ _ _ h => h) (Or.inl ⟨by rfl, ?_⟩) (by assumption) (fun hNew => ?_)
            rotate_left
            · intro w _
              go_simp
              try with_reducible rfl
            clear hHeld
            have hHeld := hNew
            clear hNew
            try simp only [List.getElem_toArray, List.getElem_cons_succ, List.getElem_cons_zero, Act.put, List.setIfInBounds_toArray, List.set_cons_zero, List.set_cons_succ]
            refine wpAnyL_load 0 (i := 16) (oi := _) (v := ?_) rfl rfl (by kernel_rfl) (by kernel_rfl) (by kernel_rfl) (by kernel_rfl) (by kernel_rfl) (by kernel_rfl) (fun _ _ _ h => h) (Or.inl ⟨by rfl, ?_⟩) (by assumption) (fun hNew => ?_)
            rotate_left
            · intro w hSw
              (try dsimp only at hSw)
              go_simp
              try with_reducible rfl
            clear hHeld
            have hHeld := hNew
            clear hNew
            try simp only [List.getElem_toArray, List.getElem_cons_succ, List.getElem_cons_zero, Act.put, List.setIfInBounds_toArray, List.set_cons_zero, List.set_cons_succ]
            refine wpAnyL_take (i := 17) (oi := _) (v := ?_) rfl (by kernel_rfl) (by kernel_rfl) (by kernel_rfl) (by kernel_rfl) (by kernel_rfl) (fun _ _ _ h => h) (Or.inl ⟨by rfl, ?_⟩) (by assumption) (fun hNew => ?_)
            rotate_left
            · intro w _
              go_simp
              try with_reducible rfl
            clear hHeld
            have hHeld := hNew
            clear hNew
            try simp only [List.getElem_toArray, List.getElem_cons_succ, List.getElem_cons_zero, Act.put, List.setIfInBounds_toArray, List.set_cons_zero, List.set_cons_succ]
            refine wpAnyL_take (i := 18) (oi := _) (v := _) rfl (by kernel_rfl) (by kernel_rfl) (by kernel_rfl) (by kernel_rfl) (by kernel_rfl) (fun _ _ _ h => h) (Or.inr ⟨by rfl, rfl⟩) (by assumption) (fun hNew => ?_)
            clear hHeld
            have hHeld := hNew
            clear hNew
            try simp only [List.getElem_toArray, List.getElem_cons_succ, List.getElem_cons_zero, Act.put, List.setIfInBounds_toArray, List.set_cons_zero, List.set_cons_succ]
            refine wpAnyL_take (i := 19) (oi := _) (v := _) rfl (by kernel_rfl) (by kernel_rfl) (by kernel_rfl) (by kernel_rfl) (by kernel_rfl) (fun _ _ _ h => h) (Or.inr ⟨by rfl, rfl⟩) (by assumption) (fun hNew => ?_)
            clear hHeld
            have hHeld := hNew
            clear hNew
            try simp only [List.getElem_toArray, List.getElem_cons_succ, List.getElem_cons_zero, Act.put, List.setIfInBounds_toArray, List.set_cons_zero, List.set_cons_succ]
            refine wpAnyL_take (i := 20) (oi := _) (v := _) rfl (by kernel_rfl) (by kernel_rfl) (by kernel_rfl) (by kernel_rfl) (by kernel_rfl) (fun _ _ _ h => h) (Or.inr ⟨by rfl, rfl⟩) (by assumption) (fun hNew => ?_)
            clear hHeld
            have hHeld := hNew
            clear hNew
            try simp only [List.getElem_toArray, List.getElem_cons_succ, List.getElem_cons_zero, Act.put, List.setIfInBounds_toArray, List.set_cons_zero, List.set_cons_succ]
            refine wpAnyL_take (i := 21) (oi := _) (v := _) rfl (by kernel_rfl) (by kernel_rfl) (by kernel_rfl) (by kernel_rfl) (by kernel_rfl) (fun _ _ _ h => h) (Or.inr ⟨by rfl, rfl⟩) (by assumption) (fun hNew => ?_)
            clear hHeld
            have hHeld := hNew
            clear hNew
            try simp only [List.getElem_toArray, List.getElem_cons_succ, List.getElem_cons_zero, Act.put, List.setIfInBounds_toArray, List.set_cons_zero, List.set_cons_succ]
            refine wpAnyL_take (i := 22) (oi := _) (v := _) rfl (by kernel_rfl) (by kernel_rfl) (by kernel_rfl) (by kernel_rfl) (by kernel_rfl) (fun _ _ _ h => h) (Or.inr ⟨by rfl, rfl⟩) (by assumption) (fun hNew => ?_)
            clear hHeld
            have hHeld := hNew
            clear hNew
            try simp only [List.getElem_toArray, List.getElem_cons_succ, List.getElem_cons_zero, Act.put, List.setIfInBounds_toArray, List.set_cons_zero, List.set_cons_succ]
            refine wpAnyL_take (i := 23) (oi := _) (v := _) rfl (by kernel_rfl) (by kernel_rfl) (by kernel_rfl) (by kernel_rfl) (by kernel_rfl) (fun _ _ _ h => h) (Or.inr ⟨by rfl, rfl⟩) (by assumption) (fun hNew => ?_)
            clear hHeld
            have hHeld := hNew
            clear hNew
            try simp only [List.getElem_toArray, List.getElem_cons_succ, List.getElem_cons_zero, Act.put, List.setIfInBounds_toArray, List.set_cons_zero, List.set_cons_succ]
            refine wpAnyL_take (i := 24) (oi := _) (v := _) rfl (by kernel_rfl) (by kernel_rfl) (by kernel_rfl) (by kernel_rfl) (by kernel_rfl) (fun _ _ _ h => h) (Or.inr ⟨by rfl, rfl⟩) (by assumption) (fun hNew => ?_)
            clear hHeld
            have hHeld := hNew
            clear hNew
            try simp only [List.getElem_toArray, List.getElem_cons_succ, List.getElem_cons_zero, Act.put, List.setIfInBounds_toArray, List.set_cons_zero, List.set_cons_succ]
            refine wpAnyL_take (i := 25) (oi := _) (v := _) rfl (by kernel_rfl) (by kernel_rfl) (by kernel_rfl) (by kernel_rfl) (by kernel_rfl) (fun _ _ _ h => h) (Or.inr ⟨by rfl, rfl⟩) (by assumption) (fun hNew => ?_)
            clear hHeld
            have hHeld := hNew
            clear hNew
            try simp only [List.getElem_toArray, List.getElem_cons_succ, List.getElem_cons_zero, Act.put, List.setIfInBounds_toArray, List.set_cons_zero, List.set_cons_succ]
            refine wpAnyL_take (i := 26) (oi := _) (v := _) rfl (by kernel_rfl) (by kernel_rfl) (by kernel_rfl) (by kernel_rfl) (by kernel_rfl) (fun _ _ _ h => h) (Or.inr ⟨by rfl, rfl⟩) (by assumption) (fun hNew => ?_)
            clear hHeld
            have hHeld := hNew
            clear hNew
            try simp only [List.getElem_toArray, List.getElem_cons_succ, List.getElem_cons_zero, Act.put, List.setIfInBounds_toArray, List.set_cons_zero, List.set_cons_succ]
            refine wpAnyL_take (i := 27) (oi := _) (v := _) rfl (by kernel_rfl) (by kernel_rfl) (by kernel_rfl) (by kernel_rfl) (by kernel_rfl) (fun _ _ _ h => h) (Or.inr ⟨by rfl, rfl⟩) (by assumption) (fun hNew => ?_)
            clear hHeld
            have hHeld := hNew
            clear hNew
            try simp only [List.getElem_toArray, List.getElem_cons_succ, List.getElem_cons_zero, Act.put, List.setIfInBounds_toArray, List.set_cons_zero, List.set_cons_succ]
            refine wpAnyL_take (i := 28) (oi := _) (v := _) rfl (by kernel_rfl) (by kernel_rfl) (by kernel_rfl) (by kernel_rfl) (by kernel_rfl) (fun _ _ _ h => h) (Or.inr ⟨by rfl, rfl⟩) (by assumption) (fun hNew => ?_)
            clear hHeld
            have hHeld := hNew
            clear hNew
            try simp only [List.getElem_toArray, List.getElem_cons_succ, List.getElem_cons_zero, Act.put, List.setIfInBounds_toArray, List.set_cons_zero, List.set_cons_succ]
            refine wpAnyL_take (i := 29) (oi := _) (v := _) rfl (by kernel_rfl) (by kernel_rfl) (by kernel_rfl) (by kernel_rfl) (by kernel_rfl) (fun _ _ _ h => h) (Or.inr ⟨by rfl, rfl⟩) (by assumption) (fun hNew => ?_)
            clear hHeld
            have hHeld := hNew
            clear hNew
            try simp only [List.getElem_toArray, List.getElem_cons_succ, List.getElem_cons_zero, Act.put, List.setIfInBounds_toArray, List.set_cons_zero, List.set_cons_succ]
            refine wpAnyL_take (i := 30) (oi := _) (v := _) rfl (by kernel_rfl) (by kernel_rfl) (by kernel_rfl) (by kernel_rfl) (by kernel_rfl) (fun _ _ _ h => h) (Or.inr ⟨by rfl, rfl⟩) (by assumption) (fun hNew => ?_)
            clear hHeld
            have hHeld := hNew
            clear hNew
            try simp only [List.getElem_toArray, List.getElem_cons_succ, List.getElem_cons_zero, Act.put, List.setIfInBounds_toArray, List.set_cons_zero, List.set_cons_succ]
            refine wpAnyL_take (i := 31) (oi := _) (v := _) rfl (by kernel_rfl) (by kernel_rfl) (by kernel_rfl) (by kernel_rfl) (by kernel_rfl) (fun _ _ _ h => h) (Or.inr ⟨by rfl, rfl⟩) (by assumption) (fun hNew => ?_)
            clear hHeld
            have hHeld := hNew
            clear hNew
            try simp only [List.getElem_toArray, List.getElem_cons_succ, List.getElem_cons_zero, Act.put, List.setIfInBounds_toArray, List.set_cons_zero, List.set_cons_succ]
            refine wpAnyL_take (i := 32) (oi := _) (v := _) rfl (by kernel_rfl) (by kernel_rfl) (by kernel_rfl) (by kernel_rfl) (by kernel_rfl) (fun _ _ _ h => h) (Or.inr ⟨by rfl, rfl⟩) (by assumption) (fun hNew => ?_)
            clear hHeld
            have hHeld := hNew
            clear hNew
            try simp only [List.getElem_toArray, List.getElem_cons_succ, List.getElem_cons_zero, Act.put, List.setIfInBounds_toArray, List.set_cons_zero, List.set_cons_succ]
            refine wpAnyL_take (i := 33) (oi := _) (v := _) rfl (by kernel_rfl) (by kernel_rfl) (by kernel_rfl) (by kernel_rfl) (by kernel_rfl) (fun _ _ _ h => h) (Or.inr ⟨by rfl, rfl⟩) (by assumption) (fun hNew => ?_)
            clear hHeld
            have hHeld := hNew
            clear hNew
            try simp only [List.getElem_toArray, List.getElem_cons_succ, List.getElem_cons_zero, Act.put, List.setIfInBounds_toArray, List.set_cons_zero, List.set_cons_succ]
            refine wpAnyL_take (i := 34) (oi := _) (v := ?_) rfl (by kernel_rfl) (by kernel_rfl) (by kernel_rfl) (by kernel_rfl) (by kernel_rfl) (fun _ _ _ h => h) (Or.inl ⟨by rfl, ?_⟩) (by assumption) (fun hNew => ?_)
            rotate_left
            · intro w _
              go_simp
              try with_reducible rfl
            clear hHeld
            have hHeld := hNew
            clear hNew
            try simp only [List.getElem_toArray, List.getElem_cons_succ, List.getElem_cons_zero, Act.put, List.setIfInBounds_toArray, List.set_cons_zero, List.set_cons_succ]
            refine wpAnyL_take (i := 35) (oi := _) (v := ?_) rfl (by kernel_rfl) (by kernel_rfl) (by kernel_rfl) (by kernel_rfl) (by kernel_rfl) (fun _ _ _ h => h) (Or.inl ⟨by rfl, ?_⟩) (by assumption) (fun hNew => ?_)
            rotate_left
            · intro w _
              go_simp
              try with_reducible rfl
            clear hHeld
            have hHeld := hNew
            clear hNew
            try simp only [List.getElem_toArray, List.getElem_cons_succ, List.getElem_cons_zero, Act.put, List.setIfInBounds_toArray, List.set_cons_zero, List.set_cons_succ]
            refine wpAnyL_take (i := 36) (oi := _) (v := ?_) rfl (by kernel_rfl) (by kernel_rfl) (by kernel_rfl) (by kernel_rfl) (by kernel_rfl) (fun _ _ _ h => h) (Or.inl ⟨by rfl, ?_⟩) (by assumption) (fun hNew => ?_)
            rotate_left
            · intro w _
              go_simp
              try with_reducible rfl
            clear hHeld
            have hHeld := hNew
            clear hNew
            try simp only [List.getElem_toArray, List.getElem_cons_succ, List.getElem_cons_zero, Act.put, List.setIfInBounds_toArray, List.set_cons_zero, List.set_cons_succ]
            refine wpAnyL_take (i := 37) (oi := _) (v := ?_) rfl (by kernel_rfl) (by kernel_rfl) (by kernel_rfl) (by kernel_rfl) (by kernel_rfl) (fun _ _ _ h => h) (Or.inl ⟨by rfl, ?_⟩) (by assumption) (fun hNew => ?_)
            rotate_left
            · intro w _
              go_simp
              try with_reducible rfl
            clear hHeld
            have hHeld := hNew
            clear hNew
            try simp only [List.getElem_toArray, List.getElem_cons_succ, List.getElem_cons_zero, Act.put, List.setIfInBounds_toArray, List.set_cons_zero, List.set_cons_succ]
            refine wpAnyL_take (i := 38) (oi := _) (v := ?_) rfl (by kernel_rfl) (by kernel_rfl) (by kernel_rfl) (by kernel_rfl) (by kernel_rfl) (fun _ _ _ h => h) (Or.inl ⟨by rfl, ?_⟩) (by assumption) (fun hNew => ?_)
            rotate_left
            · intro w _
              go_simp
              try with_reducible rfl
            clear hHeld
            have hHeld := hNew
            clear hNew
            try simp only [List.getElem_toArray, List.getElem_cons_succ, List.getElem_cons_zero, Act.put, List.setIfInBounds_toArray, List.set_cons_zero, List.set_cons_succ]
            refine wpAnyL_take (i := 40) (oi := _) (v := ?_) rfl (by kernel_rfl) (by kernel_rfl) (by kernel_rfl) (by kernel_rfl) (by kernel_rfl) (fun _ _ _ h => h) (Or.inl ⟨by rfl, ?_⟩) (by assumption) (fun hNew => ?_)
            rotate_left
            · intro w _
              go_simp
              try with_reducible rfl
            clear hHeld
            have hHeld := hNew
            clear hNew
            try simp only [List.getElem_toArray, List.getElem_cons_succ, List.getElem_cons_zero, Act.put, List.setIfInBounds_toArray, List.set_cons_zero, List.set_cons_succ]
            refine wpAnyL_take (i := 41) (oi := _) (v := ?_) rfl (by kernel_rfl) (by kernel_rfl) (by kernel_rfl) (by kernel_rfl) (by kernel_rfl) (fun _ _ _ h => h) (Or.inl ⟨by rfl, ?_⟩) (by assumption) (fun hNew => ?_)
            rotate_left
            · intro w _
              go_simp
              try with_reducible rfl
            clear hHeld
            have hHeld := hNew
            clear hNew
            try simp only [List.getElem_toArray, List.getElem_cons_succ, List.getElem_cons_zero, Act.put, List.setIfInBounds_toArray, List.set_cons_zero, List.set_cons_succ]
            refine wpAnyL_take (i := 42) (oi := _) (v := ?_) rfl (by kernel_rfl) (by kernel_rfl) (by kernel_rfl) (by kernel_rfl) (by kernel_rfl) (fun _ _ _ h => h) (Or.inl ⟨by rfl, ?_⟩) (by assumption) (fun hNew => ?_)
            rotate_left
            · intro w _
              go_simp
              try with_reducible rfl
            clear hHeld
            have hHeld := hNew
            clear hNew
            try simp only [List.getElem_toArray, List.getElem_cons_succ, List.getElem_cons_zero, Act.put, List.setIfInBounds_toArray, List.set_cons_zero, List.set_cons_succ]
            refine wpAnyL_loadP 0 [44] (i := 43) (oi := _) (v := ?_) rfl rfl (by kernel_rfl) (by kernel_rfl) (by kernel_rfl) (by kernel_rfl) (by kernel_rfl) (by kernel_rfl) (fun _ _ _ h => h) (Or.inl ⟨by rfl, ?_⟩) (by assumption) (fun hNew => ?_)
            rotate_left
            · intro w hSw
              (try dsimp only at hSw)
              go_simp
              try with_reducible rfl
            clear hHeld
            have hHeld := hNew
            clear hNew
            try simp only [List.getElem_toArray, List.getElem_cons_succ, List.getElem_cons_zero, Act.put, List.setIfInBounds_toArray, List.set_cons_zero, List.set_cons_succ]
            refine wpAnyL_ready (rs := [39]) (by kernel_rfl) (by simp) ?_
            refine AllReadyL.cons (o := _) rfl (fun K hK => ?_) AllReadyL.nil
            try simp only [List.getElem_toArray, List.getElem_cons_succ, List.getElem_cons_zero]
            go_simp
            refine (CU.out w6.drew (HC6.out.trans (by exact (Chg.refl [] w6).drew) (by simp))).mono ?_
            rintro e w' ⟨rfl, hq⟩
            subst hq
            have u6 : w6.drew.cell? ⟨gu, j, none⟩ = some (.bool false) := u0
            try go_wp2_with fail
            clear hHeld
            refine hK.out _ _ ?_ (fun hHeld => ?_)
            · exact (HoldC.cons (u6) HoldC.nil)
            clear hK K
            try simp only [List.getElem_toArray, List.getElem_cons_succ, List.getElem_cons_zero, Act.put, List.setIfInBounds_toArray, List.set_cons_zero, List.set_cons_succ]
            refine wpAnyL_take (i := 44) (oi := _) (v := ?_) rfl (by kernel_rfl) (by kernel_rfl) (by kernel_rfl) (by kernel_rfl) (by kernel_rfl) (fun _ _ _ h => h) (Or.inl ⟨by rfl, ?_⟩) (by assumption) (fun hNew => ?_)
            rotate_left
            · intro w _
              go_simp
              try with_reducible rfl
            clear hHeld
            have hHeld := hNew
            clear hNew
            try simp only [List.getElem_toArray, List.getElem_cons_succ, List.getElem_cons_zero, Act.put, List.setIfInBounds_toArray, List.set_cons_zero, List.set_cons_succ]
            refine wpAnyL_ready (rs := [45]) (by kernel_rfl) (by simp) ?_
            refine AllReadyL.cons (o := _) rfl (fun K hK => ?_) AllReadyL.nil
            try simp only [List.getElem_toArray, List.getElem_cons_succ, List.getElem_cons_zero]
            go_simp
            clear hHeld
            refine hK.out _ _ ?_ (fun hHeld => ?_)
            · exact (HoldC.past (by kernel_rfl) HoldC.nil)
            clear hK K
            try simp only [List.getElem_toArray, List.getElem_cons_succ, List.getElem_cons_zero, Act.put, List.setIfInBounds_toArray, List.set_cons_zero, List.set_cons_succ]
            refine wpAnyL_done (by kernel_rfl) ?_ _
            clear hHeld
            have A7 := Lib.hid (A6.out.keep (by exact (Chg.refl [] w6).drew : Chg [] w6 w6.drew))
            have T7 := Lib.hid (HM.out.2.keep0 (HC6.out.trans (by exact (Chg.refl [] w6).drew : Chg [] w6 w6.drew) (by simp)))
            clear u0
            generalize w6.drew = w7 at *
            go_wp2
            go_roundg (gk - 1)
            case measure => omega
            case rel => exact ⟨j, rfl, by rw [HST.out]; simp, by omega, by omega, Lib.hid ⟨A7.out, T7.out⟩⟩
        · obtain rfl : m = 0 := by omega
          have CF1 := Lib.hid (sfree_any q p U s wr HM.out.1.since.1)
          have CF2 := Lib.hid (sfree_any q' p U' s wr HM.out.2)
          have hfr : s.free = rowFree (s.rows.drop 0) 0 := rfl
          rw [hfr] at CF1 CF2
          clear hfr
          have ez : (((0 : Nat) : Int) - 1) = -1 := by omega
          rw [ez]
          clear ez
          obtain ⟨fr, hfr⟩ : ∃ fr, fr = rowFree (s.rows.drop 0) 0 := ⟨_, rfl⟩
          rw [← hfr] at CF1 CF2 ⊢
          clear hfr
          clear hm hmg hm0
          go_wp2_with fail
          refine CF1.out.mono ?_
          rintro e w' ⟨rfl, hq⟩
          subst hq
          go_wp2_with fail
          refine CF2.out.mono ?_
          rintro e w' ⟨rfl, hq⟩
          subst hq
          go_wp2
          go_ret
          exact ⟨rfl, HM.out.1.since.2.2⟩
end Go.Proofs.YtipfgghdoicdhaaDoor.W
