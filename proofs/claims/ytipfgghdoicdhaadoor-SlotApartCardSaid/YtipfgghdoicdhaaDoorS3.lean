/- Package slot: Get. -/
import Derived.Test.YtipfgghdoicdhaaDoorS2
import Derived.Test.YtipfgghdoicdhaaDoorRegL
namespace Go.Proofs.YtipfgghdoicdhaaDoor.W
open Go.RowKit
set_option linter.unusedVariables false
set_option linter.unusedSimpArgs false

/-- What Get answers. -/
def GetPost (r : List UInt8 × Int) (w : World) (e : Ending) (w' : World) : Prop := (∃ v, e = .returned (.tuple #[v, .int .i64 r.2]) ∧ BytesAt w' v r.1 ∧ ∀ k, v.ownBlock = some k → w.heap.size ≤ k) ∧ Chg [] w w'
theorem GetPost.nil {c : Int} {w w' : World} (hc : Chg [] w w') : GetPost ([], c) w (.returned (.tuple #[.slice none 0 0, .int .i64 c])) w' := ⟨⟨_, rfl, BytesAt.nil _, by simp [Value.ownBlock]⟩, hc⟩

set_option maxHeartbeats 8000000 in
set_option maxRecDepth 100000 in
theorem sget_any (q p : Nat) (U : List Nat) (s : SS) (i : Int) (w : World) (h : SlotsAt w q p U s) : Calls Tryd.prog 18 #[.pointer (some ⟨q, 0, none⟩), .int .i64 i] w (GetPost (s.get i) w) := by
  have CH := Lib.hid (shas_any q p U s i w h)
  have HS := Lib.hid h
  obtain ⟨S, rv, R, H⟩ := h
  have c0 : w.cell? ⟨q, 0, none⟩ = some (.pointer (some ⟨p, 0, none⟩)) := blk_cell H.obj.head 0 _ rfl
  by_cases hi : s.has i
  · rw [decide_eq_true hi] at CH
    have hi' := hi
    obtain ⟨h0, h1⟩ := hi'
    obtain ⟨j, rfl⟩ := Int.eq_ofNat_of_zero_le h0
    have hjl : j < s.rows.length := by omega
    obtain ⟨g, cap, kv, hrv, hcap, hcm, hR, k0, k1, k2, k3, k4⟩ := H.at j hjl
    have c2 : w.cell? ⟨q, 2, none⟩ = some rv := blk_cell H.obj.head 2 _ rfl
    have hfew := H.few
    have hrow : s.row (j : Int) = s.rows.getD j noRow := rfl
    have hn448 : (s.rows.getD j noRow).n ≤ 448 := by
      rw [List.getD_eq_getElem?_getD, List.getElem?_eq_getElem hjl]
      exact (H.ok.rows _ (List.getElem_mem _)).1
    have hroom := H.ok.room
    by_cases hu : (s.row (j : Int)).used = false
    · have hg : s.get (j : Int) = ([], 6) := by unfold SS.get; rw [if_neg (by simpa using hi), if_pos hu]
      have HP := Lib.hid (fun (w' : World) (hc : Chg [] w w') => GetPost.nil (c := 6) hc)
      have HG := Lib.hid hg
      rw [HG.out]
      rw [hrow] at hu
      rw [hu] at k0
      subst hrv
      generalize s.rows.getD j noRow = r at *
      generalize s.rows.length = n at *
      have hjz : (j : Int) < (n : Int) := by omega
      have hjz1 : (j : Int).toNat = j := by omega
      clear H hR k1 k2 k3 k4 hu hg hi hrow hroom
      go_enter Tryd.func18, Tryd.ntmps18
      go_wp2_with (go_at_call 49; refine CH.out.mono ?_; rintro e w' ⟨rfl, hq⟩; subst hq)
      go_ret2
      exact HP.out _ (Chg.refl _ _)
    · have hu' : (s.rows.getD j noRow).used = true := by rw [← hrow]; simpa using hu
      have hg : s.get (j : Int) = if s.d.dead then ([], 14) else (s.data (j : Int), 0) := by
        unfold SS.get; rw [if_neg (by simpa using hi), if_neg hu]
      have hdat : s.data (j : Int) = (flat (nsec (s.rows.getD j noRow).n) (fun k => s.d.now (s.pos j + 1 + k))).take (s.rows.getD j noRow).n := rfl
      have hpos : s.pos (j : Int) = s.first + 8 * j := rfl
      rw [hu'] at k0
      have CA := Lib.hid (fun w' (h' : SlotsAt w' q p U s) => sat_any q p U s j w' h' (by omega))
      have CSec := Lib.hid (ssec_any (s.rows.getD j noRow).n w (by omega))
      have CD := Lib.hid (ddead_any p S s.d w H.disk)
      have hm7 : nsec (s.rows.getD j noRow).n ≤ 7 := by unfold nsec; omega
      have hmn : (s.rows.getD j noRow).n ≤ nsec (s.rows.getD j noRow).n * 64 := by unfold nsec; omega
      have HDK := Lib.hid H.disk
      have hlen64 : Hid (∀ k, k < s.d.n → (s.d.now k).length = 64) := Lib.hid (by
        obtain ⟨gn, gl, cn, cl, v, hd⟩ := H.disk
        exact fun k hk => hd.now.len k hk)
      subst hrv
      have HG := Lib.hid hg
      have HDAT := Lib.hid hdat
      generalize hrr : s.rows.getD j noRow = r at *
      have hpl : s.pos (j : Int) + 8 ≤ s.d.n := by rw [hpos]; omega
      generalize s.pos (j : Int) = pos at *
      generalize hrl : s.rows.length = n at *
      have hjz : (j : Int) < (n : Int) := by omega
      have hjz1 : (j : Int).toNat = j := by omega
      obtain ⟨m, hm⟩ : ∃ m, m = nsec r.n := ⟨_, rfl⟩
      rw [← hm] at CSec hm7 hmn
      have HM := Lib.hid hm
      obtain ⟨rn, hrn⟩ : ∃ rn, rn = r.n := ⟨_, rfl⟩
      rw [← hrn] at CSec hmn k1 hn448
      have HRN := Lib.hid hrn
      have hnd : s.d.n ≤ 4160 := by
        obtain ⟨gn, gl, cn, cl, v, hd⟩ := H.disk
        exact hd.few
      have hwr : Hid (IntKind.i64.wrap (IntKind.i64.wrap ((pos : Int) + 1)) = (pos : Int) + 1) := Lib.hid (by rw [IntWalk.i64_in ((pos : Int) + 1) ⟨by omega, by omega⟩, IntWalk.i64_in _ ⟨by omega, by omega⟩])
      clear H hR k2 k3 k4 hu' hg hi hrow hdat hroom hm hrn hrr hrl hu hfew hpos
      by_cases hd : s.d.dead = true
      · have HP := Lib.hid (fun (w' : World) (hc : Chg [] w w') => GetPost.nil (c := 14) hc)
        have HGG : Hid (s.get (j : Int) = ([], 14)) := Lib.hid (by rw [HG.out, if_pos hd])
        rw [HGG.out]
        rw [hd] at CD
        have HDD := Lib.hid hd
        clear hd
        go_enter Tryd.func18, Tryd.ntmps18
        go_wp2_with (first
          | (go_at_call 49; refine CH.out.mono ?_; rintro e w' ⟨rfl, hq⟩; subst hq)
          | (go_at_call 56; refine CSec.out.mono ?_; rintro e w' ⟨rfl, hq⟩; subst hq))
        go_loopg [6, 44] 0 (fun g' s6 s44 wr => s6 = .slice none 0 0 ∧ s44 = .int .i64 0 ∧ wr = w)
        case atStart => exact ⟨rfl, rfl, rfl⟩
        case round =>
          obtain ⟨rfl, rfl, rfl⟩ := hrel
          by_cases hm0 : 0 < m
          · have hmz : (0 : Int) < (m : Int) := by omega
            have CR := Lib.hid (dread_any p S s.d ((pos : Int) + 1) wr.drew (by
              obtain ⟨gn, gl, cn, cl, v, hd⟩ := HDK.out
              exact ⟨gn, gl, cn, cl, v, hd.drew⟩))
            go_wp2_with fail
            refine wp_region_L [(10, fun w' => w'.cell? ⟨q, 0, none⟩ = some (.pointer (some ⟨p, 0, none⟩)))] (by kernel_rfl) ?_ (fun hHeld => ?_)
            · exact (HoldC.cons (c0) HoldC.nil)
            refine wpAnyL_take (i := 0) (oi := _) (v := ?_) rfl (by kernel_rfl) (by kernel_rfl) (by kernel_rfl) (by kernel_rfl) (by kernel_rfl) (fun _ _ _ h => h) (Or.inl ⟨by rfl, ?_⟩) (by assumption) (fun hNew => ?_)
            rotate_left
            · intro w _
              go_simp
              try with_reducible rfl
            clear hHeld
            have hHeld := hNew
            clear hNew
            try simp only [List.getElem_toArray, List.getElem_cons_succ, List.getElem_cons_zero, Act.put, List.setIfInBounds_toArray, List.set_cons_zero, List.set_cons_succ]
            refine wpAnyL_take (i := 1) (oi := _) (v := ?_) rfl (by kernel_rfl) (by kernel_rfl) (by kernel_rfl) (by kernel_rfl) (by kernel_rfl) (fun _ _ _ h => h) (Or.inl ⟨by rfl, ?_⟩) (by assumption) (fun hNew => ?_)
            rotate_left
            · intro w _
              go_simp
              try with_reducible rfl
            clear hHeld
            have hHeld := hNew
            clear hNew
            try simp only [List.getElem_toArray, List.getElem_cons_succ, List.getElem_cons_zero, Act.put, List.setIfInBounds_toArray, List.set_cons_zero, List.set_cons_succ]
            refine wpAnyL_take (i := 2) (oi := _) (v := ?_) rfl (by kernel_rfl) (by kernel_rfl) (by kernel_rfl) (by kernel_rfl) (by kernel_rfl) (fun _ _ _ h => h) (Or.inl ⟨by rfl, ?_⟩) (by assumption) (fun hNew => ?_)
            rotate_left
            · intro w _
              go_simp
              try with_reducible rfl
            clear hHeld
            have hHeld := hNew
            clear hNew
            try simp only [List.getElem_toArray, List.getElem_cons_succ, List.getElem_cons_zero, Act.put, List.setIfInBounds_toArray, List.set_cons_zero, List.set_cons_succ]
            refine wpAnyL_load 0 (i := 3) (oi := _) (v := ?_) rfl rfl (by kernel_rfl) (by kernel_rfl) (by kernel_rfl) (by kernel_rfl) (by kernel_rfl) (by kernel_rfl) (fun _ _ _ h => h) (Or.inl ⟨by rfl, ?_⟩) (by assumption) (fun hNew => ?_)
            rotate_left
            · intro w hSw
              (try dsimp only at hSw)
              go_simp
              try with_reducible rfl
            clear hHeld
            have hHeld := hNew
            clear hNew
            try simp only [List.getElem_toArray, List.getElem_cons_succ, List.getElem_cons_zero, Act.put, List.setIfInBounds_toArray, List.set_cons_zero, List.set_cons_succ]
            refine wpAnyL_take (i := 4) (oi := _) (v := ?_) rfl (by kernel_rfl) (by kernel_rfl) (by kernel_rfl) (by kernel_rfl) (by kernel_rfl) (fun _ _ _ h => h) (Or.inl ⟨by rfl, ?_⟩) (by assumption) (fun hNew => ?_)
            rotate_left
            · intro w _
              go_simp
              try with_reducible rfl
            clear hHeld
            have hHeld := hNew
            clear hNew
            try simp only [List.getElem_toArray, List.getElem_cons_succ, List.getElem_cons_zero, Act.put, List.setIfInBounds_toArray, List.set_cons_zero, List.set_cons_succ]
            refine wpAnyL_take (i := 5) (oi := _) (v := ?_) rfl (by kernel_rfl) (by kernel_rfl) (by kernel_rfl) (by kernel_rfl) (by kernel_rfl) (fun _ _ _ h => h) (Or.inl ⟨by rfl, ?_⟩) (by assumption) (fun hNew => ?_)
            rotate_left
            · intro w _
              go_simp
              try with_reducible rfl
            clear hHeld
            have hHeld := hNew
            clear hNew
            try simp only [List.getElem_toArray, List.getElem_cons_succ, List.getElem_cons_zero, Act.put, List.setIfInBounds_toArray, List.set_cons_zero, List.set_cons_succ]
            refine wpAnyL_take (i := 8) (oi := _) (v := ?_) rfl (by kernel_rfl) (by kernel_rfl) (by kernel_rfl) (by kernel_rfl) (by kernel_rfl) (fun _ _ _ h => h) (Or.inl ⟨by rfl, ?_⟩) (by assumption) (fun hNew => ?_)
            rotate_left
            · intro w _
              go_simp
              try with_reducible rfl
            clear hHeld
            have hHeld := hNew
            clear hNew
            try simp only [List.getElem_toArray, List.getElem_cons_succ, List.getElem_cons_zero, Act.put, List.setIfInBounds_toArray, List.set_cons_zero, List.set_cons_succ]
            refine wpAnyL_ready (rs := [6]) (by kernel_rfl) (by simp) ?_
            refine AllReadyL.cons (o := _) rfl (fun K hK => ?_) AllReadyL.nil
            try simp only [List.getElem_toArray, List.getElem_cons_succ, List.getElem_cons_zero]
            go_simp
            refine (CA.out _ (HS.out.keep0 (by exact (Chg.refl _ _).drew))).mono ?_
            rintro e w' ⟨rfl, hq⟩
            subst hq
            try go_wp2_with fail
            clear hHeld
            refine hK.out _ _ ?_ (fun hHeld => ?_)
            · exact (HoldC.cons (c0) HoldC.nil)
            clear hK K
            try simp only [List.getElem_toArray, List.getElem_cons_succ, List.getElem_cons_zero, Act.put, List.setIfInBounds_toArray, List.set_cons_zero, List.set_cons_succ]
            refine wpAnyL_take (i := 7) (oi := _) (v := ?_) rfl (by kernel_rfl) (by kernel_rfl) (by kernel_rfl) (by kernel_rfl) (by kernel_rfl) (fun _ _ _ h => h) (Or.inl ⟨by rfl, ?_⟩) (by assumption) (fun hNew => ?_)
            rotate_left
            · intro w _
              go_simp
              try with_reducible rfl
            clear hHeld
            have hHeld := hNew
            clear hNew
            try simp only [List.getElem_toArray, List.getElem_cons_succ, List.getElem_cons_zero, Act.put, List.setIfInBounds_toArray, List.set_cons_zero, List.set_cons_succ]
            refine wpAnyL_take (i := 9) (oi := _) (v := ?_) rfl (by kernel_rfl) (by kernel_rfl) (by kernel_rfl) (by kernel_rfl) (by kernel_rfl) (fun _ _ _ h => h) (Or.inl ⟨by rfl, ?_⟩) (by assumption) (fun hNew => ?_)
            rotate_left
            · intro w _
              go_simp
              try with_reducible rfl
            clear hHeld
            have hHeld := hNew
            clear hNew
            try simp only [List.getElem_toArray, List.getElem_cons_succ, List.getElem_cons_zero, Act.put, List.setIfInBounds_toArray, List.set_cons_zero, List.set_cons_succ]
            refine wpAnyL_ready (rs := [10]) (by kernel_rfl) (by simp) ?_
            refine AllReadyL.cons (o := _) rfl (fun K hK => ?_) AllReadyL.nil
            try simp only [List.getElem_toArray, List.getElem_cons_succ, List.getElem_cons_zero]
            go_simp
            try rw [hwr.out]
            try rw [hwr2.out]
            refine CR.out.mono ?_
            rintro e w3 ⟨he, hc3⟩
            rw [if_pos HDD.out] at he
            subst he
            have HC3 : Hid (Chg [] wr w3) := Lib.hid ((by exact (Chg.refl [] wr).drew : Chg [] wr wr.drew).trans hc3 (by simp))
            clear hc3 CR
            try go_wp2_with fail
            clear hHeld
            refine hK.out _ _ ?_ (fun hHeld => ?_)
            · exact (HoldC.past (by kernel_rfl) HoldC.nil)
            clear hK K
            try simp only [List.getElem_toArray, List.getElem_cons_succ, List.getElem_cons_zero, Act.put, List.setIfInBounds_toArray, List.set_cons_zero, List.set_cons_succ]
            refine wpAnyL_take (i := 11) (oi := _) (v := ?_) rfl (by kernel_rfl) (by kernel_rfl) (by kernel_rfl) (by kernel_rfl) (by kernel_rfl) (fun _ _ _ h => h) (Or.inl ⟨by rfl, ?_⟩) (by assumption) (fun hNew => ?_)
            rotate_left
            · intro w _
              go_simp
              try with_reducible rfl
            clear hHeld
            have hHeld := hNew
            clear hNew
            try simp only [List.getElem_toArray, List.getElem_cons_succ, List.getElem_cons_zero, Act.put, List.setIfInBounds_toArray, List.set_cons_zero, List.set_cons_succ]
            refine wpAnyL_take (i := 12) (oi := _) (v := ?_) rfl (by kernel_rfl) (by kernel_rfl) (by kernel_rfl) (by kernel_rfl) (by kernel_rfl) (fun _ _ _ h => h) (Or.inl ⟨by rfl, ?_⟩) (by assumption) (fun hNew => ?_)
            rotate_left
            · intro w _
              go_simp
              try with_reducible rfl
            clear hHeld
            have hHeld := hNew
            clear hNew
            try simp only [List.getElem_toArray, List.getElem_cons_succ, List.getElem_cons_zero, Act.put, List.setIfInBounds_toArray, List.set_cons_zero, List.set_cons_succ]
            refine wpAnyL_take (i := 13) (oi := _) (v := ?_) rfl (by kernel_rfl) (by kernel_rfl) (by kernel_rfl) (by kernel_rfl) (by kernel_rfl) (fun _ _ _ h => h) (Or.inl ⟨by rfl, ?_⟩) (by assumption) (fun hNew => ?_)
            rotate_left
            · intro w _
              go_simp
              try with_reducible rfl
            clear hHeld
            have hHeld := hNew
            clear hNew
            try simp only [List.getElem_toArray, List.getElem_cons_succ, List.getElem_cons_zero, Act.put, List.setIfInBounds_toArray, List.set_cons_zero, List.set_cons_succ]
            refine wpAnyL_take (i := 14) (oi := _) (v := ?_) rfl (by kernel_rfl) (by kernel_rfl) (by kernel_rfl) (by kernel_rfl) (by kernel_rfl) (fun _ _ _ h => h) (Or.inl ⟨by rfl, ?_⟩) (by assumption) (fun hNew => ?_)
            rotate_left
            · intro w _
              go_simp
              try with_reducible rfl
            clear hHeld
            have hHeld := hNew
            clear hNew
            try simp only [List.getElem_toArray, List.getElem_cons_succ, List.getElem_cons_zero, Act.put, List.setIfInBounds_toArray, List.set_cons_zero, List.set_cons_succ]
            refine wpAnyL_take (i := 15) (oi := _) (v := ?_) rfl (by kernel_rfl) (by kernel_rfl) (by kernel_rfl) (by kernel_rfl) (by kernel_rfl) (fun _ _ _ h => h) (Or.inl ⟨by rfl, ?_⟩) (by assumption) (fun hNew => ?_)
            rotate_left
            · intro w _
              go_simp
              try with_reducible rfl
            clear hHeld
            have hHeld := hNew
            clear hNew
            try simp only [List.getElem_toArray, List.getElem_cons_succ, List.getElem_cons_zero, Act.put, List.setIfInBounds_toArray, List.set_cons_zero, List.set_cons_succ]
            refine wpAnyL_done (by kernel_rfl) ?_ _
            clear hHeld
            go_wp2
            go_ret2
            exact HP.out _ HC3.out
          · obtain rfl : m = 0 := by omega
            go_wp2_with (go_at_call 26; refine CD.out.mono ?_; rintro e w' ⟨rfl, hq⟩; subst hq)
            go_ret2
            exact HP.out _ (Chg.refl _ _)
      · have hd' : s.d.dead = false := by simpa using hd
        have HGG : Hid (s.get (j : Int) = (s.data (j : Int), 0)) := Lib.hid (by rw [HG.out, if_neg hd])
        rw [HGG.out]
        rw [hd'] at CD
        have HDD := Lib.hid hd'
        have HK1 := Lib.hid k1
        have HC2 := Lib.hid c2
        have HC0 := Lib.hid c0
        have hkl := World.block_lt_of_cell? w _ k1
        clear hd hd'
        go_enter Tryd.func18, Tryd.ntmps18
        go_wp2_with (first
          | (go_at_call 49; refine CH.out.mono ?_; rintro e w' ⟨rfl, hq⟩; subst hq)
          | (go_at_call 56; refine CSec.out.mono ?_; rintro e w' ⟨rfl, hq⟩; subst hq))
        go_loopg [6, 44] m (fun g' s6 s44 wr => ∃ (k : Nat) (a6 : Option Addr) (c6 : Nat), s6 = .slice a6 (k * 64) c6 ∧ s44 = .int .i64 k ∧ k ≤ m ∧ m ≤ k + g' ∧ Hid (BRow wr s6 (flat k (fun k => s.d.now (pos + 1 + k))) ∧ (∀ g, s6.ownBlock = some g → w.heap.size ≤ g) ∧ Chg [] w wr))
        case atStart => exact ⟨0, none, 0, rfl, rfl, by omega, by omega, Lib.hid ⟨BRow.nil _, by simp [Value.ownBlock], Chg.refl _ _⟩⟩
        case round =>
          obtain ⟨k, a6, c6, rfl, rfl, hk, hkg, HR⟩ := hrel
          obtain ⟨s6, hs6⟩ : ∃ s6, s6 = Value.slice a6 (k * 64) c6 := ⟨_, rfl⟩
          have HS6 := Lib.hid hs6
          rw [← hs6] at HR
          clear hs6 c0 c2 k0 k1
          have c0 := HR.out.2.2.cell HC0.out (by simp)
          by_cases hlt : k < m
          · have hkz : (k : Int) < (m : Int) := by omega
            have hkz1 : (k : Int).toNat = k := by omega
            have hcd : Chg [] w wr.drew := HR.out.2.2.drew
            have CR := Lib.hid (dread_any p S s.d ((pos : Int) + 1 + (k : Int)) wr.drew (HDK.out.keep hcd (by simp)))
            have HSd := Lib.hid (HS.out.keep0 hcd)
            have hwr2 : Hid (IntKind.i64.wrap (IntKind.i64.wrap ((pos : Int) + 1) + (k : Int)) = (pos : Int) + 1 + (k : Int)) := Lib.hid (by rw [IntWalk.i64_in ((pos : Int) + 1) ⟨by omega, by omega⟩, IntWalk.i64_in _ ⟨by omega, by omega⟩])
            have hpk : ((pos : Int) + 1 + (k : Int)).toNat = pos + 1 + k := by omega
            have hl1 := hlen64.out (pos + 1 + k) (by omega)
            have HL1 := Lib.hid hl1
            have HPK := Lib.hid hpk
            clear hcd hpk hl1
            go_wp2_with fail
            refine wp_region_L [(10, fun w' => w'.cell? ⟨q, 0, none⟩ = some (.pointer (some ⟨p, 0, none⟩)))] (by kernel_rfl) ?_ (fun hHeld => ?_)
            · exact (HoldC.cons (c0) HoldC.nil)
            refine wpAnyL_take (i := 0) (oi := _) (v := ?_) rfl (by kernel_rfl) (by kernel_rfl) (by kernel_rfl) (by kernel_rfl) (by kernel_rfl) (fun _ _ _ h => h) (Or.inl ⟨by rfl, ?_⟩) (by assumption) (fun hNew => ?_)
            rotate_left
            · intro w _
              go_simp
              try with_reducible rfl
            clear hHeld
            have hHeld := hNew
            clear hNew
            try simp only [List.getElem_toArray, List.getElem_cons_succ, List.getElem_cons_zero, Act.put, List.setIfInBounds_toArray, List.set_cons_zero, List.set_cons_succ]
            refine wpAnyL_take (i := 1) (oi := _) (v := ?_) rfl (by kernel_rfl) (by kernel_rfl) (by kernel_rfl) (by kernel_rfl) (by kernel_rfl) (fun _ _ _ h => h) (Or.inl ⟨by rfl, ?_⟩) (by assumption) (fun hNew => ?_)
            rotate_left
            · intro w _
              go_simp
              try with_reducible rfl
            clear hHeld
            have hHeld := hNew
            clear hNew
            try simp only [List.getElem_toArray, List.getElem_cons_succ, List.getElem_cons_zero, Act.put, List.setIfInBounds_toArray, List.set_cons_zero, List.set_cons_succ]
            refine wpAnyL_take (i := 2) (oi := _) (v := ?_) rfl (by kernel_rfl) (by kernel_rfl) (by kernel_rfl) (by kernel_rfl) (by kernel_rfl) (fun _ _ _ h => h) (Or.inl ⟨by rfl, ?_⟩) (by assumption) (fun hNew => ?_)
            rotate_left
            · intro w _
              go_simp
              try with_reducible rfl
            clear hHeld
            have hHeld := hNew
            clear hNew
            try simp only [List.getElem_toArray, List.getElem_cons_succ, List.getElem_cons_zero, Act.put, List.setIfInBounds_toArray, List.set_cons_zero, List.set_cons_succ]
            refine wpAnyL_load 0 (i := 3) (oi := _) (v := ?_) rfl rfl (by kernel_rfl) (by kernel_rfl) (by kernel_rfl) (by kernel_rfl) (by kernel_rfl) (by kernel_rfl) (fun _ _ _ h => h) (Or.inl ⟨by rfl, ?_⟩) (by assumption) (fun hNew => ?_)
            rotate_left
            · intro w hSw
              (try dsimp only at hSw)
              go_simp
              try with_reducible rfl
            clear hHeld
            have hHeld := hNew
            clear hNew
            try simp only [List.getElem_toArray, List.getElem_cons_succ, List.getElem_cons_zero, Act.put, List.setIfInBounds_toArray, List.set_cons_zero, List.set_cons_succ]
            refine wpAnyL_take (i := 4) (oi := _) (v := ?_) rfl (by kernel_rfl) (by kernel_rfl) (by kernel_rfl) (by kernel_rfl) (by kernel_rfl) (fun _ _ _ h => h) (Or.inl ⟨by rfl, ?_⟩) (by assumption) (fun hNew => ?_)
            rotate_left
            · intro w _
              go_simp
              try with_reducible rfl
            clear hHeld
            have hHeld := hNew
            clear hNew
            try simp only [List.getElem_toArray, List.getElem_cons_succ, List.getElem_cons_zero, Act.put, List.setIfInBounds_toArray, List.set_cons_zero, List.set_cons_succ]
            refine wpAnyL_take (i := 5) (oi := _) (v := ?_) rfl (by kernel_rfl) (by kernel_rfl) (by kernel_rfl) (by kernel_rfl) (by kernel_rfl) (fun _ _ _ h => h) (Or.inl ⟨by rfl, ?_⟩) (by assumption) (fun hNew => ?_)
            rotate_left
            · intro w _
              go_simp
              try with_reducible rfl
            clear hHeld
            have hHeld := hNew
            clear hNew
            try simp only [List.getElem_toArray, List.getElem_cons_succ, List.getElem_cons_zero, Act.put, List.setIfInBounds_toArray, List.set_cons_zero, List.set_cons_succ]
            refine wpAnyL_take (i := 8) (oi := _) (v := ?_) rfl (by kernel_rfl) (by kernel_rfl) (by kernel_rfl) (by kernel_rfl) (by kernel_rfl) (fun _ _ _ h => h) (Or.inl ⟨by rfl, ?_⟩) (by assumption) (fun hNew => ?_)
            rotate_left
            · intro w _
              go_simp
              try with_reducible rfl
            clear hHeld
            have hHeld := hNew
            clear hNew
            try simp only [List.getElem_toArray, List.getElem_cons_succ, List.getElem_cons_zero, Act.put, List.setIfInBounds_toArray, List.set_cons_zero, List.set_cons_succ]
            refine wpAnyL_ready (rs := [6]) (by kernel_rfl) (by simp) ?_
            refine AllReadyL.cons (o := _) rfl (fun K hK => ?_) AllReadyL.nil
            try simp only [List.getElem_toArray, List.getElem_cons_succ, List.getElem_cons_zero]
            go_simp
            refine (CA.out _ HSd.out).mono ?_
            rintro e w' ⟨rfl, hq⟩
            subst hq
            try go_wp2_with fail
            clear hHeld
            refine hK.out _ _ ?_ (fun hHeld => ?_)
            · exact (HoldC.cons (c0) HoldC.nil)
            clear hK K
            try simp only [List.getElem_toArray, List.getElem_cons_succ, List.getElem_cons_zero, Act.put, List.setIfInBounds_toArray, List.set_cons_zero, List.set_cons_succ]
            refine wpAnyL_take (i := 7) (oi := _) (v := ?_) rfl (by kernel_rfl) (by kernel_rfl) (by kernel_rfl) (by kernel_rfl) (by kernel_rfl) (fun _ _ _ h => h) (Or.inl ⟨by rfl, ?_⟩) (by assumption) (fun hNew => ?_)
            rotate_left
            · intro w _
              go_simp
              try with_reducible rfl
            clear hHeld
            have hHeld := hNew
            clear hNew
            try simp only [List.getElem_toArray, List.getElem_cons_succ, List.getElem_cons_zero, Act.put, List.setIfInBounds_toArray, List.set_cons_zero, List.set_cons_succ]
            refine wpAnyL_take (i := 9) (oi := _) (v := ?_) rfl (by kernel_rfl) (by kernel_rfl) (by kernel_rfl) (by kernel_rfl) (by kernel_rfl) (fun _ _ _ h => h) (Or.inl ⟨by rfl, ?_⟩) (by assumption) (fun hNew => ?_)
            rotate_left
            · intro w _
              go_simp
              try with_reducible rfl
            clear hHeld
            have hHeld := hNew
            clear hNew
            try simp only [List.getElem_toArray, List.getElem_cons_succ, List.getElem_cons_zero, Act.put, List.setIfInBounds_toArray, List.set_cons_zero, List.set_cons_succ]
            refine wpAnyL_ready (rs := [10]) (by kernel_rfl) (by simp) ?_
            refine AllReadyL.cons (o := _) rfl (fun K hK => ?_) AllReadyL.nil
            try simp only [List.getElem_toArray, List.getElem_cons_succ, List.getElem_cons_zero]
            go_simp
            try rw [hwr.out]
            try rw [hwr2.out]
            refine CR.out.mono ?_
            rintro e w3 ⟨he, hc3⟩
            rw [if_neg (by rw [HDD.out]; simp), if_pos ⟨by omega, by omega⟩] at he
            obtain ⟨v3, rfl, hr3, hn3⟩ := he
            rw [HPK.out] at hr3
            have HC3 : Hid (Chg [] wr w3) := Lib.hid ((by exact (Chg.refl [] wr).drew : Chg [] wr wr.drew).trans hc3 (by simp))
            have HR3 := Lib.hid (HR.out.1.keep (fun g hg => HC3.out.block g (HR.out.1.lt g hg) (by simp)))
            have HB3 := Lib.hid hr3.bytes
            obtain ⟨a3, c3, hv3⟩ := hr3.bytes.slice
            rw [HL1.out] at hv3
            subst hv3
            have hsz : Hid ((flat k (fun k => s.d.now (pos + 1 + k))).length + (s.d.now (pos + 1 + k)).length ≤ 140737488355328) := Lib.hid (by
              rw [flat_len k _ (fun i hi => hlen64.out _ (by omega)), HL1.out]; omega)
            clear hc3 CR hr3 hn3
            try go_wp2_with fail
            clear hHeld
            refine hK.out _ _ ?_ (fun hHeld => ?_)
            · exact (HoldC.past (by kernel_rfl) HoldC.nil)
            clear hK K
            try simp only [List.getElem_toArray, List.getElem_cons_succ, List.getElem_cons_zero, Act.put, List.setIfInBounds_toArray, List.set_cons_zero, List.set_cons_succ]
            refine wpAnyL_take (i := 11) (oi := _) (v := ?_) rfl (by kernel_rfl) (by kernel_rfl) (by kernel_rfl) (by kernel_rfl) (by kernel_rfl) (fun _ _ _ h => h) (Or.inl ⟨by rfl, ?_⟩) (by assumption) (fun hNew => ?_)
            rotate_left
            · intro w _
              go_simp
              try with_reducible rfl
            clear hHeld
            have hHeld := hNew
            clear hNew
            try simp only [List.getElem_toArray, List.getElem_cons_succ, List.getElem_cons_zero, Act.put, List.setIfInBounds_toArray, List.set_cons_zero, List.set_cons_succ]
            refine wpAnyL_take (i := 12) (oi := _) (v := ?_) rfl (by kernel_rfl) (by kernel_rfl) (by kernel_rfl) (by kernel_rfl) (by kernel_rfl) (fun _ _ _ h => h) (Or.inl ⟨by rfl, ?_⟩) (by assumption) (fun hNew => ?_)
            rotate_left
            · intro w _
              go_simp
              try with_reducible rfl
            clear hHeld
            have hHeld := hNew
            clear hNew
            try simp only [List.getElem_toArray, List.getElem_cons_succ, List.getElem_cons_zero, Act.put, List.setIfInBounds_toArray, List.set_cons_zero, List.set_cons_succ]
            refine wpAnyL_take (i := 13) (oi := _) (v := ?_) rfl (by kernel_rfl) (by kernel_rfl) (by kernel_rfl) (by kernel_rfl) (by kernel_rfl) (fun _ _ _ h => h) (Or.inl ⟨by rfl, ?_⟩) (by assumption) (fun hNew => ?_)
            rotate_left
            · intro w _
              go_simp
              try with_reducible rfl
            clear hHeld
            have hHeld := hNew
            clear hNew
            try simp only [List.getElem_toArray, List.getElem_cons_succ, List.getElem_cons_zero, Act.put, List.setIfInBounds_toArray, List.set_cons_zero, List.set_cons_succ]
            refine wpAnyL_take (i := 14) (oi := _) (v := ?_) rfl (by kernel_rfl) (by kernel_rfl) (by kernel_rfl) (by kernel_rfl) (by kernel_rfl) (fun _ _ _ h => h) (Or.inl ⟨by rfl, ?_⟩) (by assumption) (fun hNew => ?_)
            rotate_left
            · intro w _
              go_simp
              try with_reducible rfl
            clear hHeld
            have hHeld := hNew
            clear hNew
            try simp only [List.getElem_toArray, List.getElem_cons_succ, List.getElem_cons_zero, Act.put, List.setIfInBounds_toArray, List.set_cons_zero, List.set_cons_succ]
            refine wpAnyL_take (i := 15) (oi := _) (v := ?_) rfl (by kernel_rfl) (by kernel_rfl) (by kernel_rfl) (by kernel_rfl) (by kernel_rfl) (fun _ _ _ h => h) (Or.inl ⟨by rfl, ?_⟩) (by assumption) (fun hNew => ?_)
            rotate_left
            · intro w _
              go_simp
              try with_reducible rfl
            clear hHeld
            have hHeld := hNew
            clear hNew
            try simp only [List.getElem_toArray, List.getElem_cons_succ, List.getElem_cons_zero, Act.put, List.setIfInBounds_toArray, List.set_cons_zero, List.set_cons_succ]
            refine wpAnyL_done (by kernel_rfl) ?_ _
            clear hHeld
            go_wp2_with (at_builtin; refine wpList_appB rfl (.tmp 64) (.tmp 65) rfl s6 (flat k (fun k => s.d.now (pos + 1 + k))) HS6.out.symm HR3.out _ (s.d.now (pos + 1 + k)) (by rfl) HB3.out hsz.out ?_; intro v4 w4 ho4 hg4 hat4)
            have HO4 := Lib.hid ho4
            have HG4 := Lib.hid hg4
            have HA4 := Lib.hid hat4
            clear ho4 hg4 hat4
            go_roundg (gk - 1)
            case measure => omega
            case rel =>
              have hr : BRow w4 v4 (flat (k + 1) (fun k => s.d.now (pos + 1 + k))) := by rw [flat_succ]; exact HO4.out
              obtain ⟨a, c4, he, _⟩ := hr.bytes
              rw [flat_len (k + 1) _ (fun i hi => hlen64.out _ (by omega))] at he
              refine ⟨k + 1, a, c4, he, by go_num, by omega, by omega, Lib.hid ⟨hr, fun g hg => ?_, (HR.out.2.2.trans HC3.out (by simp)).grown HG4.out (fun g hg => .inr (HR.out.2.1 g hg))⟩⟩
              rcases HA4.out with h | h
              · exact HR.out.2.1 g (by rw [← h]; exact hg)
              · rw [h] at hg
                have h1 := HR.out.2.2.size
                have h3 := HC3.out.size
                have h2 : w3.heap.size = g := by simpa using hg
                omega
          · have hkm : k = m := by omega
            obtain rfl := hkm.symm
            have c2 := HR.out.2.2.cell HC2.out (by simp)
            have k1 := HR.out.2.2.cell HK1.out (by simp)
            have CD2 := Lib.hid (ddead_any p S s.d wr (HDK.out.keep HR.out.2.2 (by simp)))
            rw [HDD.out] at CD2
            have hcb : m * 64 ≤ c6 := by
              obtain ⟨_, c, he, h1, _⟩ := HR.out.1.bytes
              rw [HS6.out] at he
              have e1 := (Value.slice.inj he).2.1
              have e2 := (Value.slice.inj he).2.2
              omega
            have hrz : (rn : Int) ≤ (c6 : Int) := by omega
            have hrz1 : (rn : Int).toNat = rn := by omega
            have hfin : ∀ w', Chg [] wr w' → Hid (GetPost (s.data (j : Int), 0) w (.returned (.tuple #[.slice a6 rn c6, .int .i64 0])) w') := fun w' hc => Lib.hid (by
              refine ⟨⟨_, rfl, ?_, ?_⟩, HR.out.2.2.trans hc (by simp)⟩
              · have hb := HR.out.1.bytes.chg hc (by simp)
                obtain ⟨a, c, he, h1, h2, h3⟩ := hb
                rw [HS6.out] at he
                obtain rfl := (Value.slice.inj he).1
                obtain rfl := (Value.slice.inj he).2.2
                rw [HDAT.out, ← HM.out, ← HRN.out]
                have hfl := flat_len m (fun k => s.d.now (pos + 1 + k)) (fun i hi => hlen64.out _ (by omega))
                have hlt : ((flat m (fun k => s.d.now (pos + 1 + k))).take rn).length = rn := by rw [List.length_take]; omega
                refine ⟨a6, c6, by dsimp only; rw [hlt], by dsimp only; rw [hlt]; omega, h2, ?_⟩
                rcases h3 with ⟨h3, h4⟩ | ⟨g, o, e, hcell⟩
                · left
                  exact ⟨by rw [h3]; simp, h4⟩
                · right
                  refine ⟨g, o, e, fun x hx => ?_⟩
                  rw [hlt] at hx
                  rw [getD_take _ _ _ hx]
                  exact hcell x (by omega)
              · intro g hg
                refine HR.out.2.1 g ?_
                rw [HS6.out]
                cases a6 <;> exact hg)
            have HFIN := Lib.hid hfin
            clear hfin
            go_wp2_with (go_at_call 26; refine CD2.out.mono ?_; rintro e w' ⟨rfl, hq⟩; subst hq)
            go_ret2
            exact (HFIN.out _ (Chg.refl _ _)).out
  · have hg : s.get i = ([], 1) := by unfold SS.get; rw [if_pos (by simpa using hi)]
    have HP := Lib.hid (fun (w' : World) (hc : Chg [] w w') => GetPost.nil (c := 1) hc)
    rw [decide_eq_false hi] at CH
    have HG := Lib.hid hg
    rw [HG.out]
    clear H hi hg
    go_enter Tryd.func18, Tryd.ntmps18
    go_wp2_with (go_at_call 49; refine CH.out.mono ?_; rintro e w' ⟨rfl, hq⟩; subst hq)
    go_ret2
    exact HP.out _ (Chg.refl _ _)
end Go.Proofs.YtipfgghdoicdhaaDoor.W
