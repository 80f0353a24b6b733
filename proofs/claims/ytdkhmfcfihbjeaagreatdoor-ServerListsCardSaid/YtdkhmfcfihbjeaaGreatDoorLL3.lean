/- Texts laid together. -/
import Derived.Test.YtdkhmfcfihbjeaaGreatDoorLL2
import Derived.Test.YtdkhmfcfihbjeaaGreatDoorLL1
import Derived.Laws.CopyOwn
/- Package slot: Get. -/
namespace Go.Proofs.YtdkhmfcfihbjeaaGreatDoor.W
open Go.RowKit
set_option linter.unusedVariables false
set_option linter.unusedSimpArgs false

/-- What Get answers. -/
def GetPost (r : List UInt8 × Int) (w : World) (e : Ending) (w' : World) : Prop := (∃ v, e = .returned (.tuple #[v, .int .i64 r.2]) ∧ BytesAt w' v r.1 ∧ ∀ k, v.ownBlock = some k → w.heap.size ≤ k) ∧ Chg [] w w'
theorem GetPost.nil {c : Int} {w w' : World} (hc : Chg [] w w') : GetPost ([], c) w (.returned (.tuple #[.slice none 0 0, .int .i64 c])) w' := ⟨⟨_, rfl, BytesAt.nil _, by simp [Value.ownBlock]⟩, hc⟩

set_option maxHeartbeats 8000000 in
set_option maxRecDepth 100000 in
theorem sget_any (q p : Nat) (U : List Nat) (s : SS) (i : Int) (w : World) (h : SlotsAt w q p U s) : Calls Tryz.prog 144 #[.pointer (some ⟨q, 0, none⟩), .int .i64 i] w (GetPost (s.get i) w) := by
  have CH := Lib.hid (shas_any q p U s i w h)
  have HS := Lib.hid h
  obtain ⟨S, rv, R, H⟩ := h
  have c0 : w.cell? ⟨q, 0, none⟩ = some (.pointer (some ⟨p, 0, none⟩)) := blk_cell H.obj.head 0 _ rfl
  by_cases hi : s.has i
  · rw [decide_eq_true hi] at CH
    have hi' := hi
    obtain ⟨h0, h1⟩ := hi'
    obtain ⟨j, rfl⟩ := Int.eq_ofNat_of_zero_le h0
    have hjl : j < s.rows.length := by omega
    obtain ⟨g, cap, kv, hrv, hcap, hcm, hR, k0, k1, k2, k3, k4⟩ := H.at j hjl
    have c2 : w.cell? ⟨q, 2, none⟩ = some rv := blk_cell H.obj.head 2 _ rfl
    have hfew := H.few
    have hrow : s.row (j : Int) = s.rows.getD j noRow := rfl
    have hn448 : (s.rows.getD j noRow).n ≤ 448 := by
      rw [List.getD_eq_getElem?_getD, List.getElem?_eq_getElem hjl]
      exact (H.ok.rows _ (List.getElem_mem _)).1
    have hroom := H.ok.room
    by_cases hu : (s.row (j : Int)).used = false
    · have hg : s.get (j : Int) = ([], 6) := by unfold SS.get; rw [if_neg (by simpa using hi), if_pos hu]
      have HP := Lib.hid (fun (w' : World) (hc : Chg [] w w') => GetPost.nil (c := 6) hc)
      have HG := Lib.hid hg
      rw [HG.out]
      rw [hrow] at hu
      rw [hu] at k0
      subst hrv
      generalize s.rows.getD j noRow = r at *
      generalize s.rows.length = n at *
      have hjz : (j : Int) < (n : Int) := by omega
      have hjz1 : (j : Int).toNat = j := by omega
      clear H hR k1 k2 k3 k4 hu hg hi hrow hroom
      go_enter Tryz.func144, Tryz.ntmps144
      go_wp2_with (go_at_call 137; refine CH.out.mono ?_; rintro e w' ⟨rfl, hq⟩; subst hq)
      go_ret2
      exact HP.out _ (Chg.refl _ _)
    · have hu' : (s.rows.getD j noRow).used = true := by rw [← hrow]; simpa using hu
      have hg : s.get (j : Int) = if s.d.dead then ([], 14) else (s.data (j : Int), 0) := by
        unfold SS.get; rw [if_neg (by simpa using hi), if_neg hu]
      have hdat : s.data (j : Int) = (flat (nsec (s.rows.getD j noRow).n) (fun k => s.d.now (s.pos j + 1 + k))).take (s.rows.getD j noRow).n := rfl
      have hpos : s.pos (j : Int) = s.first + 8 * j := rfl
      rw [hu'] at k0
      have CA := Lib.hid (fun w' (h' : SlotsAt w' q p U s) => sat_any q p U s j w' h' (by omega))
      have CSec := Lib.hid (ssec_any (s.rows.getD j noRow).n w (by omega))
      have CD := Lib.hid (ddead_any p S s.d w H.disk)
      have hm7 : nsec (s.rows.getD j noRow).n ≤ 7 := by unfold nsec; omega
      have hmn : (s.rows.getD j noRow).n ≤ nsec (s.rows.getD j noRow).n * 64 := by unfold nsec; omega
      have HDK := Lib.hid H.disk
      have hlen64 : Hid (∀ k, k < s.d.n → (s.d.now k).length = 64) := Lib.hid (by
        obtain ⟨gn, gl, cn, cl, v, hd⟩ := H.disk
        exact fun k hk => hd.now.len k hk)
      subst hrv
      have HG := Lib.hid hg
      have HDAT := Lib.hid hdat
      generalize hrr : s.rows.getD j noRow = r at *
      have hpl : s.pos (j : Int) + 8 ≤ s.d.n := by rw [hpos]; omega
      generalize s.pos (j : Int) = pos at *
      generalize hrl : s.rows.length = n at *
      have hjz : (j : Int) < (n : Int) := by omega
      have hjz1 : (j : Int).toNat = j := by omega
      obtain ⟨m, hm⟩ : ∃ m, m = nsec r.n := ⟨_, rfl⟩
      rw [← hm] at CSec hm7 hmn
      have HM := Lib.hid hm
      obtain ⟨rn, hrn⟩ : ∃ rn, rn = r.n := ⟨_, rfl⟩
      rw [← hrn] at CSec hmn k1 hn448
      have HRN := Lib.hid hrn
      have hnd : s.d.n ≤ 4160 := by
        obtain ⟨gn, gl, cn, cl, v, hd⟩ := H.disk
        exact hd.few
      have hwr : Hid (IntKind.i64.wrap (IntKind.i64.wrap ((pos : Int) + 1)) = (pos : Int) + 1) := Lib.hid (by rw [IntWalk.i64_in ((pos : Int) + 1) ⟨by omega, by omega⟩, IntWalk.i64_in _ ⟨by omega, by omega⟩])
      clear H hR k2 k3 k4 hu' hg hi hrow hdat hroom hm hrn hrr hrl hu hfew hpos
      by_cases hd : s.d.dead = true
      · have HP := Lib.hid (fun (w' : World) (hc : Chg [] w w') => GetPost.nil (c := 14) hc)
        have HGG : Hid (s.get (j : Int) = ([], 14)) := Lib.hid (by rw [HG.out, if_pos hd])
        rw [HGG.out]
        rw [hd] at CD
        have HDD := Lib.hid hd
        clear hd
        go_enter Tryz.func144, Tryz.ntmps144
        go_wp2_with (first
          | (go_at_call 137; refine CH.out.mono ?_; rintro e w' ⟨rfl, hq⟩; subst hq)
          | (go_at_call 161; refine CSec.out.mono ?_; rintro e w' ⟨rfl, hq⟩; subst hq))
        go_loopg [6, 44] 0 (fun g' s6 s44 wr => s6 = .slice none 0 0 ∧ s44 = .int .i64 0 ∧ wr = w)
        case atStart => exact ⟨rfl, rfl, rfl⟩
        case round =>
          obtain ⟨rfl, rfl, rfl⟩ := hrel
          by_cases hm0 : 0 < m
          · have hmz : (0 : Int) < (m : Int) := by omega
            have CR := Lib.hid (dread_any p S s.d ((pos : Int) + 1) wr.drew (by
              obtain ⟨gn, gl, cn, cl, v, hd⟩ := HDK.out
              exact ⟨gn, gl, cn, cl, v, hd.drew⟩))
            go_wp2_with fail
            refine wp_region_L [(10, fun w' => w'.cell? ⟨q, 0, none⟩ = some (.pointer (some ⟨p, 0, none⟩)))] (by kernel_rfl) ?_ (fun hHeld => ?_)
            · exact (HoldC.cons (c0) HoldC.nil)
            refine wpAnyL_take (i := 0) (oi := _) (v := ?_) rfl (by kernel_rfl) (by kernel_rfl) (by kernel_rfl) (by kernel_rfl) (by kernel_rfl) (fun _ _ _ h => h) (Or.inl ⟨by rfl, ?_⟩) (by assumption) (fun hNew => ?_)
            rotate_left
            · intro w _
              go_simp
              try with_reducible rfl
            clear hHeld
            have hHeld := hNew
            clear hNew
            try simp only [List.getElem_toArray, List.getElem_cons_succ, List.getElem_cons_zero, Act.put, List.setIfInBounds_toArray, List.set_cons_zero, List.set_cons_succ]
            refine wpAnyL_take (i := 1) (oi := _) (v := ?_) rfl (by kernel_rfl) (by kernel_rfl) (by kernel_rfl) (by kernel_rfl) (by kernel_rfl) (fun _ _ _ h => h) (Or.inl ⟨by rfl, ?_⟩) (by assumption) (fun hNew => ?_)
            rotate_left
            · intro w _
              go_simp
              try with_reducible rfl
            clear hHeld
            have hHeld := hNew
            clear hNew
            try simp only [List.getElem_toArray, List.getElem_cons_succ, List.getElem_cons_zero, Act.put, List.setIfInBounds_toArray, List.set_cons_zero, List.set_cons_succ]
            refine wpAnyL_take (i := 2) (oi := _) (v := ?_) rfl (by kernel_rfl) (by kernel_rfl) (by kernel_rfl) (by kernel_rfl) (by kernel_rfl) (fun _ _ _ h => h) (Or.inl ⟨by rfl, ?_⟩) (by assumption) (fun hNew => ?_)
            rotate_left
            · intro w _
              go_simp
              try with_reducible rfl
            clear hHeld
            have hHeld := hNew
            clear hNew
            try simp only [List.getElem_toArray, List.getElem_cons_succ, List.getElem_cons_zero, Act.put, List.setIfInBounds_toArray, List.set_cons_zero, List.set_cons_succ]
            refine wpAnyL_load 0 (i := 3) (oi := _) (v := ?_) rfl rfl (by kernel_rfl) (by kernel_rfl) (by kernel_rfl) (by kernel_rfl) (by kernel_rfl) (by kernel_rfl) (fun _ _ _ h => h) (Or.inl ⟨by rfl, ?_⟩) (by assumption) (fun hNew => ?_)
            rotate_left
            · intro w hSw
              (try dsimp only at hSw)
              go_simp
              try with_reducible rfl
            clear hHeld
            have hHeld := hNew
            clear hNew
            try simp only [List.getElem_toArray, List.getElem_cons_succ, List.getElem_cons_zero, Act.put, List.setIfInBounds_toArray, List.set_cons_zero, List.set_cons_succ]
            refine wpAnyL_take (i := 4) (oi := _) (v := ?_) rfl (by kernel_rfl) (by kernel_rfl) (by kernel_rfl) (by kernel_rfl) (by kernel_rfl) (fun _ _ _ h => h) (Or.inl ⟨by rfl, ?_⟩) (by assumption) (fun hNew => ?_)
            rotate_left
            · intro w _
              go_simp
              try with_reducible rfl
            clear hHeld
            have hHeld := hNew
            clear hNew
            try simp only [List.getElem_toArray, List.getElem_cons_succ, List.getElem_cons_zero, Act.put, List.setIfInBounds_toArray, List.set_cons_zero, List.set_cons_succ]
            refine wpAnyL_take (i := 5) (oi := _) (v := ?_) rfl (by kernel_rfl) (by kernel_rfl) (by kernel_rfl) (by kernel_rfl) (by kernel_rfl) (fun _ _ _ h => h) (Or.inl ⟨by rfl, ?_⟩) (by assumption) (fun hNew => ?_)
            rotate_left
            · intro w _
              go_simp
              try with_reducible rfl
            clear hHeld
            have hHeld := hNew
            clear hNew
            try simp only [List.getElem_toArray, List.getElem_cons_succ, List.getElem_cons_zero, Act.put, List.setIfInBounds_toArray, List.set_cons_zero, List.set_cons_succ]
            refine wpAnyL_take (i := 8) (oi := _) (v := ?_) rfl (by kernel_rfl) (by kernel_rfl) (by kernel_rfl) (by kernel_rfl) (by kernel_rfl) (fun _ _ _ h => h) (Or.inl ⟨by rfl, ?_⟩) (by assumption) (fun hNew => ?_)
            rotate_left
            · intro w _
              go_simp
              try with_reducible rfl
            clear hHeld
            have hHeld := hNew
            clear hNew
            try simp only [List.getElem_toArray, List.getElem_cons_succ, List.getElem_cons_zero, Act.put, List.setIfInBounds_toArray, List.set_cons_zero, List.set_cons_succ]
            refine wpAnyL_ready (rs := [6]) (by kernel_rfl) (by simp) ?_
            refine AllReadyL.cons (o := _) rfl (fun K hK => ?_) AllReadyL.nil
            try simp only [List.getElem_toArray, List.getElem_cons_succ, List.getElem_cons_zero]
            go_simp
            refine (CA.out _ (HS.out.keep0 (by exact (Chg.refl _ _).drew))).mono ?_
            rintro e w' ⟨rfl, hq⟩
            subst hq
            try go_wp2_with fail
            clear hHeld
            refine hK.out _ _ ?_ (fun hHeld => ?_)
            · exact (HoldC.cons (c0) HoldC.nil)
            clear hK K
            try simp only [List.getElem_toArray, List.getElem_cons_succ, List.getElem_cons_zero, Act.put, List.setIfInBounds_toArray, List.set_cons_zero, List.set_cons_succ]
            refine wpAnyL_take (i := 7) (oi := _) (v := ?_) rfl (by kernel_rfl) (by kernel_rfl) (by kernel_rfl) (by kernel_rfl) (by kernel_rfl) (fun _ _ _ h => h) (Or.inl ⟨by rfl, ?_⟩) (by assumption) (fun hNew => ?_)
            rotate_left
            · intro w _
              go_simp
              try with_reducible rfl
            clear hHeld
            have hHeld := hNew
            clear hNew
            try simp only [List.getElem_toArray, List.getElem_cons_succ, List.getElem_cons_zero, Act.put, List.setIfInBounds_toArray, List.set_cons_zero, List.set_cons_succ]
            refine wpAnyL_take (i := 9) (oi := _) (v := ?_) rfl (by kernel_rfl) (by kernel_rfl) (by kernel_rfl) (by kernel_rfl) (by kernel_rfl) (fun _ _ _ h => h) (Or.inl ⟨by rfl, ?_⟩) (by assumption) (fun hNew => ?_)
            rotate_left
            · intro w _
              go_simp
              try with_reducible rfl
            clear hHeld
            have hHeld := hNew
            clear hNew
            try simp only [List.getElem_toArray, List.getElem_cons_succ, List.getElem_cons_zero, Act.put, List.setIfInBounds_toArray, List.set_cons_zero, List.set_cons_succ]
            refine wpAnyL_ready (rs := [10]) (by kernel_rfl) (by simp) ?_
            refine AllReadyL.cons (o := _) rfl (fun K hK => ?_) AllReadyL.nil
            try simp only [List.getElem_toArray, List.getElem_cons_succ, List.getElem_cons_zero]
            go_simp
            try rw [hwr.out]
            try rw [hwr2.out]
            refine CR.out.mono ?_
            rintro e w3 ⟨he, hc3⟩
            rw [if_pos HDD.out] at he
            subst he
            have HC3 : Hid (Chg [] wr w3) := Lib.hid ((by exact (Chg.refl [] wr).drew : Chg [] wr wr.drew).trans hc3 (by simp))
            clear hc3 CR
            try go_wp2_with fail
            clear hHeld
            refine hK.out _ _ ?_ (fun hHeld => ?_)
            · exact (HoldC.past (by kernel_rfl) HoldC.nil)
            clear hK K
            try simp only [List.getElem_toArray, List.getElem_cons_succ, List.getElem_cons_zero, Act.put, List.setIfInBounds_toArray, List.set_cons_zero, List.set_cons_succ]
            refine wpAnyL_take (i := 11) (oi := _) (v := ?_) rfl (by kernel_rfl) (by kernel_rfl) (by kernel_rfl) (by kernel_rfl) (by kernel_rfl) (fun _ _ _ h => h) (Or.inl ⟨by rfl, ?_⟩) (by assumption) (fun hNew => ?_)
            rotate_left
            · intro w _
              go_simp
              try with_reducible rfl
            clear hHeld
            have hHeld := hNew
            clear hNew
            try simp only [List.getElem_toArray, List.getElem_cons_succ, List.getElem_cons_zero, Act.put, List.setIfInBounds_toArray, List.set_cons_zero, List.set_cons_succ]
            refine wpAnyL_take (i := 12) (oi := _) (v := ?_) rfl (by kernel_rfl) (by kernel_rfl) (by kernel_rfl) (by kernel_rfl) (by kernel_rfl) (fun _ _ _ h => h) (Or.inl ⟨by rfl, ?_⟩) (by assumption) (fun hNew => ?_)
            rotate_left
            · intro w _
              go_simp
              try with_reducible rfl
            clear hHeld
            have hHeld := hNew
            clear hNew
            try simp only [List.getElem_toArray, List.getElem_cons_succ, List.getElem_cons_zero, Act.put, List.setIfInBounds_toArray, List.set_cons_zero, List.set_cons_succ]
            refine wpAnyL_take (i := 13) (oi := _) (v := ?_) rfl (by kernel_rfl) (by kernel_rfl) (by kernel_rfl) (by kernel_rfl) (by kernel_rfl) (fun _ _ _ h => h) (Or.inl ⟨by rfl, ?_⟩) (by assumption) (fun hNew => ?_)
            rotate_left
            · intro w _
              go_simp
              try with_reducible rfl
            clear hHeld
            have hHeld := hNew
            clear hNew
            try simp only [List.getElem_toArray, List.getElem_cons_succ, List.getElem_cons_zero, Act.put, List.setIfInBounds_toArray, List.set_cons_zero, List.set_cons_succ]
            refine wpAnyL_take (i := 14) (oi := _) (v := ?_) rfl (by kernel_rfl) (by kernel_rfl) (by kernel_rfl) (by kernel_rfl) (by kernel_rfl) (fun _ _ _ h => h) (Or.inl ⟨by rfl, ?_⟩) (by assumption) (fun hNew => ?_)
            rotate_left
            · intro w _
              go_simp
              try with_reducible rfl
            clear hHeld
            have hHeld := hNew
            clear hNew
            try simp only [List.getElem_toArray, List.getElem_cons_succ, List.getElem_cons_zero, Act.put, List.setIfInBounds_toArray, List.set_cons_zero, List.set_cons_succ]
            refine wpAnyL_take (i := 15) (oi := _) (v := ?_) rfl (by kernel_rfl) (by kernel_rfl) (by kernel_rfl) (by kernel_rfl) (by kernel_rfl) (fun _ _ _ h => h) (Or.inl ⟨by rfl, ?_⟩) (by assumption) (fun hNew => ?_)
            rotate_left
            · intro w _
              go_simp
              try with_reducible rfl
            clear hHeld
            have hHeld := hNew
            clear hNew
            try simp only [List.getElem_toArray, List.getElem_cons_succ, List.getElem_cons_zero, Act.put, List.setIfInBounds_toArray, List.set_cons_zero, List.set_cons_succ]
            refine wpAnyL_done (by kernel_rfl) ?_ _
            clear hHeld
            go_wp2
            go_ret2
            exact HP.out _ HC3.out
          · obtain rfl : m = 0 := by omega
            go_wp2_with (go_at_call 38; refine CD.out.mono ?_; rintro e w' ⟨rfl, hq⟩; subst hq)
            go_ret2
            exact HP.out _ (Chg.refl _ _)
      · have hd' : s.d.dead = false := by simpa using hd
        have HGG : Hid (s.get (j : Int) = (s.data (j : Int), 0)) := Lib.hid (by rw [HG.out, if_neg hd])
        rw [HGG.out]
        rw [hd'] at CD
        have HDD := Lib.hid hd'
        have HK1 := Lib.hid k1
        have HC2 := Lib.hid c2
        have HC0 := Lib.hid c0
        have hkl := World.block_lt_of_cell? w _ k1
        clear hd hd'
        go_enter Tryz.func144, Tryz.ntmps144
        go_wp2_with (first
          | (go_at_call 137; refine CH.out.mono ?_; rintro e w' ⟨rfl, hq⟩; subst hq)
          | (go_at_call 161; refine CSec.out.mono ?_; rintro e w' ⟨rfl, hq⟩; subst hq))
        go_loopg [6, 44] m (fun g' s6 s44 wr => ∃ (k : Nat) (a6 : Option Addr) (c6 : Nat), s6 = .slice a6 (k * 64) c6 ∧ s44 = .int .i64 k ∧ k ≤ m ∧ m ≤ k + g' ∧ Hid (BRow wr s6 (flat k (fun k => s.d.now (pos + 1 + k))) ∧ (∀ g, s6.ownBlock = some g → w.heap.size ≤ g) ∧ Chg [] w wr))
        case atStart => exact ⟨0, none, 0, rfl, rfl, by omega, by omega, Lib.hid ⟨BRow.nil _, by simp [Value.ownBlock], Chg.refl _ _⟩⟩
        case round =>
          obtain ⟨k, a6, c6, rfl, rfl, hk, hkg, HR⟩ := hrel
          obtain ⟨s6, hs6⟩ : ∃ s6, s6 = Value.slice a6 (k * 64) c6 := ⟨_, rfl⟩
          have HS6 := Lib.hid hs6
          rw [← hs6] at HR
          clear hs6 c0 c2 k0 k1
          have c0 := HR.out.2.2.cell HC0.out (by simp)
          by_cases hlt : k < m
          · have hkz : (k : Int) < (m : Int) := by omega
            have hkz1 : (k : Int).toNat = k := by omega
            have hcd : Chg [] w wr.drew := HR.out.2.2.drew
            have CR := Lib.hid (dread_any p S s.d ((pos : Int) + 1 + (k : Int)) wr.drew (HDK.out.keep hcd (by simp)))
            have HSd := Lib.hid (HS.out.keep0 hcd)
            have hwr2 : Hid (IntKind.i64.wrap (IntKind.i64.wrap ((pos : Int) + 1) + (k : Int)) = (pos : Int) + 1 + (k : Int)) := Lib.hid (by rw [IntWalk.i64_in ((pos : Int) + 1) ⟨by omega, by omega⟩, IntWalk.i64_in _ ⟨by omega, by omega⟩])
            have hpk : ((pos : Int) + 1 + (k : Int)).toNat = pos + 1 + k := by omega
            have hl1 := hlen64.out (pos + 1 + k) (by omega)
            have HL1 := Lib.hid hl1
            have HPK := Lib.hid hpk
            clear hcd hpk hl1
            go_wp2_with fail
            refine wp_region_L [(10, fun w' => w'.cell? ⟨q, 0, none⟩ = some (.pointer (some ⟨p, 0, none⟩)))] (by kernel_rfl) ?_ (fun hHeld => ?_)
            · exact (HoldC.cons (c0) HoldC.nil)
            refine wpAnyL_take (i := 0) (oi := _) (v := ?_) rfl (by kernel_rfl) (by kernel_rfl) (by kernel_rfl) (by kernel_rfl) (by kernel_rfl) (fun _ _ _ h => h) (Or.inl ⟨by rfl, ?_⟩) (by assumption) (fun hNew => ?_)
            rotate_left
            · intro w _
              go_simp
              try with_reducible rfl
            clear hHeld
            have hHeld := hNew
            clear hNew
            try simp only [List.getElem_toArray, List.getElem_cons_succ, List.getElem_cons_zero, Act.put, List.setIfInBounds_toArray, List.set_cons_zero, List.set_cons_succ]
            refine wpAnyL_take (i := 1) (oi := _) (v := ?_) rfl (by kernel_rfl) (by kernel_rfl) (by kernel_rfl) (by kernel_rfl) (by kernel_rfl) (fun _ _ _ h => h) (Or.inl ⟨by rfl, ?_⟩) (by assumption) (fun hNew => ?_)
            rotate_left
            · intro w _
              go_simp
              try with_reducible rfl
            clear hHeld
            have hHeld := hNew
            clear hNew
            try simp only [List.getElem_toArray, List.getElem_cons_succ, List.getElem_cons_zero, Act.put, List.setIfInBounds_toArray, List.set_cons_zero, List.set_cons_succ]
            refine wpAnyL_take (i := 2) (oi := _) (v := ?_) rfl (by kernel_rfl) (by kernel_rfl) (by kernel_rfl) (by kernel_rfl) (by kernel_rfl) (fun _ _ _ h => h) (Or.inl ⟨by rfl, ?_⟩) (by assumption) (fun hNew => ?_)
            rotate_left
            · intro w _
              go_simp
              try with_reducible rfl
            clear hHeld
            have hHeld := hNew
            clear hNew
            try simp only [List.getElem_toArray, List.getElem_cons_succ, List.getElem_cons_zero, Act.put, List.setIfInBounds_toArray, List.set_cons_zero, List.set_cons_succ]
            refine wpAnyL_load 0 (i := 3) (oi := _) (v := ?_) rfl rfl (by kernel_rfl) (by kernel_rfl) (by kernel_rfl) (by kernel_rfl) (by kernel_rfl) (by kernel_rfl) (fun _ _ _ h => h) (Or.inl ⟨by rfl, ?_⟩) (by assumption) (fun hNew => ?_)
            rotate_left
            · intro w hSw
              (try dsimp only at hSw)
              go_simp
              try with_reducible rfl
            clear hHeld
            have hHeld := hNew
            clear hNew
            try simp only [List.getElem_toArray, List.getElem_cons_succ, List.getElem_cons_zero, Act.put, List.setIfInBounds_toArray, List.set_cons_zero, List.set_cons_succ]
            refine wpAnyL_take (i := 4) (oi := _) (v := ?_) rfl (by kernel_rfl) (by kernel_rfl) (by kernel_rfl) (by kernel_rfl) (by kernel_rfl) (fun _ _ _ h => h) (Or.inl ⟨by rfl, ?_⟩) (by assumption) (fun hNew => ?_)
            rotate_left
            · intro w _
              go_simp
              try with_reducible rfl
            clear hHeld
            have hHeld := hNew
            clear hNew
            try simp only [List.getElem_toArray, List.getElem_cons_succ, List.getElem_cons_zero, Act.put, List.setIfInBounds_toArray, List.set_cons_zero, List.set_cons_succ]
            refine wpAnyL_take (i := 5) (oi := _) (v := ?_) rfl (by kernel_rfl) (by kernel_rfl) (by kernel_rfl) (by kernel_rfl) (by kernel_rfl) (fun _ _ _ h => h) (Or.inl ⟨by rfl, ?_⟩) (by assumption) (fun hNew => ?_)
            rotate_left
            · intro w _
              go_simp
              try with_reducible rfl
            clear hHeld
            have hHeld := hNew
            clear hNew
            try simp only [List.getElem_toArray, List.getElem_cons_succ, List.getElem_cons_zero, Act.put, List.setIfInBounds_toArray, List.set_cons_zero, List.set_cons_succ]
            refine wpAnyL_take (i := 8) (oi := _) (v := ?_) rfl (by kernel_rfl) (by kernel_rfl) (by kernel_rfl) (by kernel_rfl) (by kernel_rfl) (fun _ _ _ h => h) (Or.inl ⟨by rfl, ?_⟩) (by assumption) (fun hNew => ?_)
            rotate_left
            · intro w _
              go_simp
              try with_reducible rfl
            clear hHeld
            have hHeld := hNew
            clear hNew
            try simp only [List.getElem_toArray, List.getElem_cons_succ, List.getElem_cons_zero, Act.put, List.setIfInBounds_toArray, List.set_cons_zero, List.set_cons_succ]
            refine wpAnyL_ready (rs := [6]) (by kernel_rfl) (by simp) ?_
            refine AllReadyL.cons (o := _) rfl (fun K hK => ?_) AllReadyL.nil
            try simp only [List.getElem_toArray, List.getElem_cons_succ, List.getElem_cons_zero]
            go_simp
            refine (CA.out _ HSd.out).mono ?_
            rintro e w' ⟨rfl, hq⟩
            subst hq
            try go_wp2_with fail
            clear hHeld
            refine hK.out _ _ ?_ (fun hHeld => ?_)
            · exact (HoldC.cons (c0) HoldC.nil)
            clear hK K
            try simp only [List.getElem_toArray, List.getElem_cons_succ, List.getElem_cons_zero, Act.put, List.setIfInBounds_toArray, List.set_cons_zero, List.set_cons_succ]
            refine wpAnyL_take (i := 7) (oi := _) (v := ?_) rfl (by kernel_rfl) (by kernel_rfl) (by kernel_rfl) (by kernel_rfl) (by kernel_rfl) (fun _ _ _ h => h) (Or.inl ⟨by rfl, ?_⟩) (by assumption) (fun hNew => ?_)
            rotate_left
            · intro w _
              go_simp
              try with_reducible rfl
            clear hHeld
            have hHeld := hNew
            clear hNew
            try simp only [List.getElem_toArray, List.getElem_cons_succ, List.getElem_cons_zero, Act.put, List.setIfInBounds_toArray, List.set_cons_zero, List.set_cons_succ]
            refine wpAnyL_take (i := 9) (oi := _) (v := ?_) rfl (by kernel_rfl) (by kernel_rfl) (by kernel_rfl) (by kernel_rfl) (by kernel_rfl) (fun _ _ _ h => h) (Or.inl ⟨by rfl, ?_⟩) (by assumption) (fun hNew => ?_)
            rotate_left
            · intro w _
              go_simp
              try with_reducible rfl
            clear hHeld
            have hHeld := hNew
            clear hNew
            try simp only [List.getElem_toArray, List.getElem_cons_succ, List.getElem_cons_zero, Act.put, List.setIfInBounds_toArray, List.set_cons_zero, List.set_cons_succ]
            refine wpAnyL_ready (rs := [10]) (by kernel_rfl) (by simp) ?_
            refine AllReadyL.cons (o := _) rfl (fun K hK => ?_) AllReadyL.nil
            try simp only [List.getElem_toArray, List.getElem_cons_succ, List.getElem_cons_zero]
            go_simp
            try rw [hwr.out]
            try rw [hwr2.out]
            refine CR.out.mono ?_
            rintro e w3 ⟨he, hc3⟩
            rw [if_neg (by rw [HDD.out]; simp), if_pos ⟨by omega, by omega⟩] at he
            obtain ⟨v3, rfl, hr3, hn3⟩ := he
            rw [HPK.out] at hr3
            have HC3 : Hid (Chg [] wr w3) := Lib.hid ((by exact (Chg.refl [] wr).drew : Chg [] wr wr.drew).trans hc3 (by simp))
            have HR3 := Lib.hid (HR.out.1.keep (fun g hg => HC3.out.block g (HR.out.1.lt g hg) (by simp)))
            have HB3 := Lib.hid hr3.bytes
            obtain ⟨a3, c3, hv3⟩ := hr3.bytes.slice
            rw [HL1.out] at hv3
            subst hv3
            have hsz : Hid ((flat k (fun k => s.d.now (pos + 1 + k))).length + (s.d.now (pos + 1 + k)).length ≤ 140737488355328) := Lib.hid (by
              rw [flat_len k _ (fun i hi => hlen64.out _ (by omega)), HL1.out]; omega)
            clear hc3 CR hr3 hn3
            try go_wp2_with fail
            clear hHeld
            refine hK.out _ _ ?_ (fun hHeld => ?_)
            · exact (HoldC.past (by kernel_rfl) HoldC.nil)
            clear hK K
            try simp only [List.getElem_toArray, List.getElem_cons_succ, List.getElem_cons_zero, Act.put, List.setIfInBounds_toArray, List.set_cons_zero, List.set_cons_succ]
            refine wpAnyL_take (i := 11) (oi := _) (v := ?_) rfl (by kernel_rfl) (by kernel_rfl) (by kernel_rfl) (by kernel_rfl) (by kernel_rfl) (fun _ _ _ h => h) (Or.inl ⟨by rfl, ?_⟩) (by assumption) (fun hNew => ?_)
            rotate_left
            · intro w _
              go_simp
              try with_reducible rfl
            clear hHeld
            have hHeld := hNew
            clear hNew
            try simp only [List.getElem_toArray, List.getElem_cons_succ, List.getElem_cons_zero, Act.put, List.setIfInBounds_toArray, List.set_cons_zero, List.set_cons_succ]
            refine wpAnyL_take (i := 12) (oi := _) (v := ?_) rfl (by kernel_rfl) (by kernel_rfl) (by kernel_rfl) (by kernel_rfl) (by kernel_rfl) (fun _ _ _ h => h) (Or.inl ⟨by rfl, ?_⟩) (by assumption) (fun hNew => ?_)
            rotate_left
            · intro w _
              go_simp
              try with_reducible rfl
            clear hHeld
            have hHeld := hNew
            clear hNew
            try simp only [List.getElem_toArray, List.getElem_cons_succ, List.getElem_cons_zero, Act.put, List.setIfInBounds_toArray, List.set_cons_zero, List.set_cons_succ]
            refine wpAnyL_take (i := 13) (oi := _) (v := ?_) rfl (by kernel_rfl) (by kernel_rfl) (by kernel_rfl) (by kernel_rfl) (by kernel_rfl) (fun _ _ _ h => h) (Or.inl ⟨by rfl, ?_⟩) (by assumption) (fun hNew => ?_)
            rotate_left
            · intro w _
              go_simp
              try with_reducible rfl
            clear hHeld
            have hHeld := hNew
            clear hNew
            try simp only [List.getElem_toArray, List.getElem_cons_succ, List.getElem_cons_zero, Act.put, List.setIfInBounds_toArray, List.set_cons_zero, List.set_cons_succ]
            refine wpAnyL_take (i := 14) (oi := _) (v := ?_) rfl (by kernel_rfl) (by kernel_rfl) (by kernel_rfl) (by kernel_rfl) (by kernel_rfl) (fun _ _ _ h => h) (Or.inl ⟨by rfl, ?_⟩) (by assumption) (fun hNew => ?_)
            rotate_left
            · intro w _
              go_simp
              try with_reducible rfl
            clear hHeld
            have hHeld := hNew
            clear hNew
            try simp only [List.getElem_toArray, List.getElem_cons_succ, List.getElem_cons_zero, Act.put, List.setIfInBounds_toArray, List.set_cons_zero, List.set_cons_succ]
            refine wpAnyL_take (i := 15) (oi := _) (v := ?_) rfl (by kernel_rfl) (by kernel_rfl) (by kernel_rfl) (by kernel_rfl) (by kernel_rfl) (fun _ _ _ h => h) (Or.inl ⟨by rfl, ?_⟩) (by assumption) (fun hNew => ?_)
            rotate_left
            · intro w _
              go_simp
              try with_reducible rfl
            clear hHeld
            have hHeld := hNew
            clear hNew
            try simp only [List.getElem_toArray, List.getElem_cons_succ, List.getElem_cons_zero, Act.put, List.setIfInBounds_toArray, List.set_cons_zero, List.set_cons_succ]
            refine wpAnyL_done (by kernel_rfl) ?_ _
            clear hHeld
            go_wp2_with (at_builtin; refine wpList_appB rfl (.tmp 64) (.tmp 65) rfl s6 (flat k (fun k => s.d.now (pos + 1 + k))) HS6.out.symm HR3.out _ (s.d.now (pos + 1 + k)) (by rfl) HB3.out hsz.out ?_; intro v4 w4 ho4 hg4 hat4)
            have HO4 := Lib.hid ho4
            have HG4 := Lib.hid hg4
            have HA4 := Lib.hid hat4
            clear ho4 hg4 hat4
            go_roundg (gk - 1)
            case measure => omega
            case rel =>
              have hr : BRow w4 v4 (flat (k + 1) (fun k => s.d.now (pos + 1 + k))) := by rw [flat_succ]; exact HO4.out
              obtain ⟨a, c4, he, _⟩ := hr.bytes
              rw [flat_len (k + 1) _ (fun i hi => hlen64.out _ (by omega))] at he
              refine ⟨k + 1, a, c4, he, by go_num, by omega, by omega, Lib.hid ⟨hr, fun g hg => ?_, (HR.out.2.2.trans HC3.out (by simp)).grown HG4.out (fun g hg => .inr (HR.out.2.1 g hg))⟩⟩
              rcases HA4.out with h | h
              · exact HR.out.2.1 g (by rw [← h]; exact hg)
              · rw [h] at hg
                have h1 := HR.out.2.2.size
                have h3 := HC3.out.size
                have h2 : w3.heap.size = g := by simpa using hg
                omega
          · have hkm : k = m := by omega
            obtain rfl := hkm.symm
            have c2 := HR.out.2.2.cell HC2.out (by simp)
            have k1 := HR.out.2.2.cell HK1.out (by simp)
            have CD2 := Lib.hid (ddead_any p S s.d wr (HDK.out.keep HR.out.2.2 (by simp)))
            rw [HDD.out] at CD2
            have hcb : m * 64 ≤ c6 := by
              obtain ⟨_, c, he, h1, _⟩ := HR.out.1.bytes
              rw [HS6.out] at he
              have e1 := (Value.slice.inj he).2.1
              have e2 := (Value.slice.inj he).2.2
              omega
            have hrz : (rn : Int) ≤ (c6 : Int) := by omega
            have hrz1 : (rn : Int).toNat = rn := by omega
            have hfin : ∀ w', Chg [] wr w' → Hid (GetPost (s.data (j : Int), 0) w (.returned (.tuple #[.slice a6 rn c6, .int .i64 0])) w') := fun w' hc => Lib.hid (by
              refine ⟨⟨_, rfl, ?_, ?_⟩, HR.out.2.2.trans hc (by simp)⟩
              · have hb := HR.out.1.bytes.chg hc (by simp)
                obtain ⟨a, c, he, h1, h2, h3⟩ := hb
                rw [HS6.out] at he
                obtain rfl := (Value.slice.inj he).1
                obtain rfl := (Value.slice.inj he).2.2
                rw [HDAT.out, ← HM.out, ← HRN.out]
                have hfl := flat_len m (fun k => s.d.now (pos + 1 + k)) (fun i hi => hlen64.out _ (by omega))
                have hlt : ((flat m (fun k => s.d.now (pos + 1 + k))).take rn).length = rn := by rw [List.length_take]; omega
                refine ⟨a6, c6, by dsimp only; rw [hlt], by dsimp only; rw [hlt]; omega, h2, ?_⟩
                rcases h3 with ⟨h3, h4⟩ | ⟨g, o, e, hcell⟩
                · left
                  exact ⟨by rw [h3]; simp, h4⟩
                · right
                  refine ⟨g, o, e, fun x hx => ?_⟩
                  rw [hlt] at hx
                  rw [getD_take _ _ _ hx]
                  exact hcell x (by omega)
              · intro g hg
                refine HR.out.2.1 g ?_
                rw [HS6.out]
                cases a6 <;> exact hg)
            have HFIN := Lib.hid hfin
            clear hfin
            go_wp2_with (go_at_call 38; refine CD2.out.mono ?_; rintro e w' ⟨rfl, hq⟩; subst hq)
            go_ret2
            exact (HFIN.out _ (Chg.refl _ _)).out
  · have hg : s.get i = ([], 1) := by unfold SS.get; rw [if_pos (by simpa using hi)]
    have HP := Lib.hid (fun (w' : World) (hc : Chg [] w w') => GetPost.nil (c := 1) hc)
    rw [decide_eq_false hi] at CH
    have HG := Lib.hid hg
    rw [HG.out]
    clear H hi hg
    go_enter Tryz.func144, Tryz.ntmps144
    go_wp2_with (go_at_call 137; refine CH.out.mono ?_; rintro e w' ⟨rfl, hq⟩; subst hq)
    go_ret2
    exact HP.out _ (Chg.refl _ _)
end Go.Proofs.YtdkhmfcfihbjeaaGreatDoor.W

/- Package slot: a row is set; Put. -/
namespace Go.Proofs.YtdkhmfcfihbjeaaGreatDoor.W
open Go.RowKit
set_option linter.unusedVariables false
set_option linter.unusedSimpArgs false

theorem Chg.grownBy {g : Nat} {w w' : World} (h : Chg [g] w w') : w.grownBy w' (some g) := ⟨h.os, h.tape, h.output, h.size, fun k hk hn => h.block k hk (by simpa using fun e : k = g => hn (by rw [e]))⟩
theorem SlotsOk.row {w : World} {q p : Nat} {S U : List Nat} {s : SS} {rv : Value} {R : List (SRow × Value)} (h : SlotsOk w q p S U s rv R) : w.ownsRow 0 192 3 rv R.length (rcells R) := h.obj.rows _ (List.mem_singleton.2 rfl)
theorem SlotsOk.there {w : World} {q p : Nat} {S U : List Nat} {s : SS} {rv : Value} {R : List (SRow × Value)} (h : SlotsOk w q p S U s rv R) (i : Nat) (hi : i < s.rows.length) (g cap : Nat) (hrv : rv = .slice (some ⟨g, 0, none⟩) s.rows.length cap) : w.there g (i * 3) 3 := by
  have hl := h.len
  rcases h.row.2 with ⟨h1, h2⟩ | ⟨g', cap', cur, h1, _, hb, h3, h4, h5, _⟩
  · omega
  · rw [hrv] at h1
    obtain ⟨rfl, -, rfl⟩ : g = g' ∧ s.rows.length = R.length ∧ cap = cap' := by simpa using h1
    intro j hj
    have hlt : i * 3 + j < cur.size := by
      have : (i + 1) * 3 ≤ cap * 3 := Nat.mul_le_mul_right _ (by omega)
      omega
    exact ⟨by rw [blk_cell hb _ _ (Array.getElem?_eq_getElem hlt)]; rfl, blk_frozen hb _⟩
theorem SlotsOk.setRow {w : World} {q p : Nat} {S U : List Nat} {s : SS} {rv : Value} {R : List (SRow × Value)} (h : SlotsOk w q p S U s rv R) (i : Nat) (hi : i < s.rows.length) (g cap : Nat) (hrv : rv = .slice (some ⟨g, 0, none⟩) s.rows.length cap)
    (r : SRow) (kv : Value) (hk : BytesAt w kv r.key) (hkU : ∀ k, kv.ownBlock = some k → k < w.heap.size ∧ k ∉ U) (hr : r.n ≤ 448 ∧ r.key.length ≤ 40) :
    Sid w (w.setCells g (i * 3) [.bool r.used, .int .i64 (r.n : Int), kv]) q p U { s with rows := s.rows.set i r } := by
  have hl := h.len
  have hC : Chg [g] w (w.setCells g (i * 3) [.bool r.used, .int .i64 (r.n : Int), kv]) := (Chg.refl _ _).setCells (.inl (by simp)) _
  have hob : rv.ownBlock = some g := by rw [hrv]; rfl
  have hgb : g ∈ blks q [rowD rv R] := blks_row (r := rowD rv R) (List.mem_singleton.2 rfl) hob
  have hgU := h.uB g hgb
  have hrow := h.row
  have hR' : (rowD rv (R.set i (r, kv))).At (w.setCells g (i * 3) [.bool r.used, .int .i64 (r.n : Int), kv]) := by
    show (w.setCells g (i * 3) [.bool r.used, .int .i64 (r.n : Int), kv]).ownsRow 0 192 3 rv (R.set i (r, kv)).length (rcells (R.set i (r, kv)))
    rw [List.length_set, rcells_set R i _ (by omega)]
    rw [hrv, ← hl] at hrow ⊢
    exact row_set (row_set (row_set hrow (i * 3) _ (by omega)) (i * 3 + 1) _ (by omega)) (i * 3 + 2) _ (by omega)
  have hgr := ObjAt.grow (a := []) (b := []) h.obj (r' := rowD rv (R.set i (r, kv))) (by rw [show (rowD rv R).v.ownBlock = some g from hob]; exact hC.grownBy) hR' (fun k hk => .inl hk)
  generalize w.setCells g (i * 3) [.bool r.used, .int .i64 (r.n : Int), kv] = W at *
  have hgu : ∀ x ∈ [g], x ∈ U := fun x hx => (List.mem_singleton.1 hx) ▸ hgU
  have hnot : ∀ k, k ∉ U → k ∉ [g] := fun k hk hm => hk (hgu k hm)
  refine ⟨U, ⟨S, rv, R.set i (r, kv), hgr.1, h.disk.keep hC (fun x hx hm => ?_), ?_, h.sep, fun x hx => ?_, h.uS, h.uB, fun x hx => Nat.lt_of_lt_of_le (h.uL x hx) hC.size, ⟨?_, fun x hx => ?_⟩⟩, fun x hx => .inl hx, hC.mono (fun x hx => .inl (hgu x hx))⟩
  · exact h.sep _ hgb (by rw [← List.mem_singleton.1 hm]; exact hx)
  · rw [List.map_set, h.rows]
  · rcases List.mem_or_eq_of_mem_set hx with hx | rfl
    · obtain ⟨k1, k2⟩ := h.keys x hx
      exact ⟨k1.chg hC (fun k hk => hnot k (k2 k hk).2), fun g' hg' => ⟨Nat.lt_of_lt_of_le (k2 g' hg').1 hC.size, (k2 g' hg').2⟩⟩
    · exact ⟨hk.chg hC (fun k hk => hnot k (hkU k hk).2), fun g' hg' => ⟨Nat.lt_of_lt_of_le (hkU g' hg').1 hC.size, (hkU g' hg').2⟩⟩
  · show s.first + 8 * (s.rows.set i r).length ≤ s.d.n
    rw [List.length_set]
    exact h.ok.room
  · rcases List.mem_or_eq_of_mem_set hx with hx | rfl
    · exact h.ok.rows x hx
    · exact hr

/-- The three steps of a head. -/
def h1 : List UInt8 × Int := penNum [] 0 1 1
def h2 (n : Nat) : List UInt8 × Int := penNum h1.1 h1.2 n 2
def h3 (n : Nat) (key : List UInt8) : List UInt8 × Int := penRaw (h2 n).1 (h2 n).2 key
theorem h1_eq : h1 = ([1], 0) := rfl
theorem h2_eq (n : Nat) (hn : n ≤ 448) : h2 n = ([1] ++ beBytes 2 n, 0) := by
  unfold h2
  rw [h1_eq]
  unfold penNum
  dsimp only
  rw [if_neg (by simp), if_neg (by omega)]
  unfold penAdd
  rw [if_neg (by simp), if_neg (by simp [beBytes_len]), Int.toNat_natCast]
theorem h3_eq (n : Nat) (key : List UInt8) (hn : n ≤ 448) (hk : key.length ≤ 40) : h3 n key = ([1] ++ beBytes 2 n ++ (beBytes 2 key.length ++ key), 0) := by
  unfold h3
  rw [h2_eq n hn]
  unfold penRaw
  rw [if_neg (by simp), if_neg (by omega)]
  unfold penAdd
  rw [if_neg (by simp), if_neg (by simp [beBytes_len]; omega)]
theorem head_h3 (n : Nat) (key : List UInt8) : headBytes n key = (h3 n key).1 := rfl
theorem headBytes_len (n : Nat) (key : List UInt8) (hn : n ≤ 448) (hk : key.length ≤ 40) : (headBytes n key).length = 5 + key.length := by
  rw [head_h3, h3_eq n key hn hk]
  simp [beBytes_len]; omega
theorem DS.lays_ok (d : DS) (pos : Nat) (b : List UInt8) : (d.lays pos b).2.n = d.n ∧ (d.lays pos b).2.ops ≤ d.ops + nsec b.length + 1 ∧ (d.lays pos b).2.since.length ≤ d.since.length + nsec b.length := DS.lay_ok _ _ _ _ _
end Go.Proofs.YtdkhmfcfihbjeaaGreatDoor.W

/- Package slot: Put. -/
namespace Go.Proofs.YtdkhmfcfihbjeaaGreatDoor.W
open Go.RowKit
set_option linter.unusedVariables false
set_option linter.unusedSimpArgs false

/-- What a change of the slots answers. -/
def SidPost (w : World) (q p : Nat) (U : List Nat) (r : Int × SS) (e : Ending) (w' : World) : Prop := e = .returned (.int .i64 r.1) ∧ Sid w w' q p U r.2
theorem SidPost.same {w : World} {q p : Nat} {U : List Nat} {s : SS} {c : Int} (h : SlotsAt w q p U s) : SidPost w q p U (c, s) (.returned (.int .i64 c)) w := ⟨rfl, Sid.same h⟩

theorem SlotsOk.keep0 {w w' : World} {q p : Nat} {S U : List Nat} {s : SS} {rv : Value} {R : List (SRow × Value)} (h : SlotsOk w q p S U s rv R) (hc : Chg [] w w') : SlotsOk w' q p S U s rv R :=
  ⟨h.obj.keep hc (by simp), h.disk.keep hc (by simp), h.rows, h.sep, fun x hx => ⟨(h.keys x hx).1.chg hc (by simp), fun g hg => ⟨Nat.lt_of_lt_of_le ((h.keys x hx).2 g hg).1 hc.size, ((h.keys x hx).2 g hg).2⟩⟩, h.uS, h.uB, fun x hx => Nat.lt_of_lt_of_le (h.uL x hx) hc.size, h.ok⟩

set_option maxHeartbeats 8000000 in
set_option maxRecDepth 100000 in
theorem sput_any (q p : Nat) (U : List Nat) (s : SS) (i : Int) (kv bv : Value) (key b : List UInt8) (w : World) (h : SlotsAt w q p U s) (hk : BytesAt w kv key) (hkU : key ≠ [] → ∀ k, kv.ownBlock = some k → k ∉ U) (hb : BytesAt w bv b) (hbU : b ≠ [] → ∀ k, bv.ownBlock = some k → k ∉ U)
    (hkl : key.length ≤ 1000000) (hbl : b.length ≤ 1000000) (ho : s.d.ops ≤ 900000000) (hw : s.d.since.length ≤ 900000) :
    Calls Tryz.prog 147 #[.pointer (some ⟨q, 0, none⟩), .int .i64 i, kv, bv] w (SidPost w q p U (s.put i key b)) := by
  have CH := Lib.hid (shas_any q p U s i w h)
  have HS := Lib.hid h
  have HK := Lib.hid hk
  have HB := Lib.hid hb
  obtain ⟨S, rv, R, H⟩ := h
  have c0 : w.cell? ⟨q, 0, none⟩ = some (.pointer (some ⟨p, 0, none⟩)) := blk_cell H.obj.head 0 _ rfl
  have c2 : w.cell? ⟨q, 2, none⟩ = some rv := blk_cell H.obj.head 2 _ rfl
  obtain ⟨ka, kc, rfl⟩ := hk.slice
  obtain ⟨ba, bc, rfl⟩ := hb.slice
  by_cases hi : s.has i
  · rw [decide_eq_true hi] at CH
    have hi' := hi
    obtain ⟨h0, h1⟩ := hi'
    obtain ⟨j, rfl⟩ := Int.eq_ofNat_of_zero_le h0
    have hjl : j < s.rows.length := by omega
    by_cases hlong : 40 < key.length ∨ 448 < b.length
    · have hg : s.put (j : Int) key b = (3, s) := by unfold SS.put; rw [if_neg (by simpa using hi), if_pos hlong]
      have HP := Lib.hid (SidPost.same (c := 3) HS.out)
      have HG := Lib.hid hg
      rw [HG.out]
      clear H hi hg hk hb hkU hbU c2
      by_cases hk40 : 40 < key.length
      · have hz : (40 : Int) < (key.length : Int) := by omega
        clear hlong hk40
        go_enter Tryz.func147, Tryz.ntmps147
        go_wp2_with (go_at_call 137; refine CH.out.mono ?_; rintro e w' ⟨rfl, hq⟩; subst hq)
        go_ret
        exact HP.out
      · have hz : ¬ (40 : Int) < (key.length : Int) := by omega
        have hz2 : (448 : Int) < (b.length : Int) := by omega
        clear hlong hk40
        go_enter Tryz.func147, Tryz.ntmps147
        go_wp2_with (go_at_call 137; refine CH.out.mono ?_; rintro e w' ⟨rfl, hq⟩; subst hq)
        go_ret
        exact HP.out
    · obtain ⟨hk40, hb448⟩ : key.length ≤ 40 ∧ b.length ≤ 448 := by omega
      obtain ⟨g, cap, kv0, hrv, hcap, hcm, hR, k0, k1, k2, k3, k4⟩ := H.at j hjl
      have hfew := H.few
      have hrow : s.row (j : Int) = s.rows.getD j noRow := rfl
      have hz1 : ¬ (40 : Int) < (key.length : Int) := by omega
      have hz2 : ¬ (448 : Int) < (b.length : Int) := by omega
      by_cases hu : (s.row (j : Int)).used = true
      · have hg : s.put (j : Int) key b = (7, s) := by unfold SS.put; rw [if_neg (by simpa using hi), if_neg hlong, if_pos hu]
        have HP := Lib.hid (SidPost.same (c := 7) HS.out)
        have HG := Lib.hid hg
        rw [HG.out]
        rw [hrow] at hu
        rw [hu] at k0
        subst hrv
        generalize s.rows.getD j noRow = r at *
        generalize s.rows.length = n at *
        have hjz : (j : Int) < (n : Int) := by omega
        have hjz1 : (j : Int).toNat = j := by omega
        clear H hR k1 k2 k3 k4 hu hg hi hrow hlong hk hb hkU hbU
        go_enter Tryz.func147, Tryz.ntmps147
        go_wp2_with (go_at_call 137; refine CH.out.mono ?_; rintro e w' ⟨rfl, hq⟩; subst hq)
        go_ret
        exact HP.out
      · have hu' : (s.rows.getD j noRow).used = false := by rw [← hrow]; simpa using hu
        have hg : s.put (j : Int) key b = if (s.d.lays (s.pos j + 1) b).1 ≠ 0 then ((s.d.lays (s.pos j + 1) b).1, { s with d := (s.d.lays (s.pos j + 1) b).2 }) else
            if ((s.d.lays (s.pos j + 1) b).2.lays (s.pos j) (headBytes b.length key)).1 ≠ 0 then (((s.d.lays (s.pos j + 1) b).2.lays (s.pos j) (headBytes b.length key)).1, { s with d := ((s.d.lays (s.pos j + 1) b).2.lays (s.pos j) (headBytes b.length key)).2 }) else
            (0, { s with d := ((s.d.lays (s.pos j + 1) b).2.lays (s.pos j) (headBytes b.length key)).2, rows := s.rows.set j ⟨true, b.length, key⟩ }) := by
          unfold SS.put
          rw [if_neg (by simpa using hi), if_neg hlong, if_neg hu]
          rfl
        rw [hu'] at k0
        have hpos : s.pos (j : Int) = s.first + 8 * j := rfl
        have hroom := H.ok.room
        have hns : nsec b.length ≤ 7 := by unfold nsec; omega
        have hns2 : nsec (headBytes b.length key).length = 1 := by rw [headBytes_len _ _ hb448 hk40]; unfold nsec; omega
        have CA := Lib.hid (sat_any q p U s j w HS.out (by omega))
        have CL1 := Lib.hid (slay_any q p U s (s.pos j + 1) _ b w HS.out HB.out hbU (by omega) (by omega) (by omega) (by omega))
        have CA2 : Hid (∀ U' d' w', SlotsAt w' q p U' { s with d := d' } → Calls Tryz.prog 162 #[.pointer (some ⟨q, 0, none⟩), .int .i64 (j : Int)] w' fun e w'' => e = .returned (.int .i64 ((s.pos (j : Int) : Nat) : Int)) ∧ w' = w'') := Lib.hid (fun U' d' w' h' => sat_any q p U' { s with d := d' } j w' h' (by omega))
        have CL2 := Lib.hid (fun U' d' v w' (h' : SlotsAt w' q p U' { s with d := d' }) (hn : d'.n = s.d.n) (hv : BytesAt w' v (headBytes b.length key)) hvU ho' hw' => slay_any q p U' { s with d := d' } (s.pos j) v (headBytes b.length key) w' h' hv hvU (by rw [hns2]; show _ ≤ d'.n; omega) (by rw [headBytes_len _ _ hb448 hk40]; omega) ho' hw')
        have hok1 := s.d.lays_ok (s.pos j + 1) b
        have hok2 := (s.d.lays (s.pos j + 1) b).2.lays_ok (s.pos j) (headBytes b.length key)
        rw [hns2] at hok2
        obtain ⟨Z, hZ⟩ : ∃ Z, Z = s.put (j : Int) key b := ⟨_, rfl⟩
        rw [← hZ] at hg ⊢
        have HKU := Lib.hid hkU
        have HBU := Lib.hid hbU
        have HN2 := Lib.hid hns2
        have hjz : (j : Int) < (s.rows.length : Int) := by omega
        have hjz1 : (j : Int).toNat = j := by omega
        have hpl : s.pos (j : Int) ≤ 4160 := by omega
        subst hrv
        have H3 : Hid ((h2 b.length).2 = 0 ∧ (h3 b.length key).2 = 0) := Lib.hid ⟨by rw [h2_eq _ hb448], by rw [h3_eq _ _ hb448 hk40]⟩
        clear H hR k1 k2 k3 k4 hu hu' hi hrow hlong hk hb hkU hbU hpos hroom hns2 hZ
        generalize s.d.lays (s.pos j + 1) b = z1 at *
        obtain ⟨r1, d1⟩ := z1
        dsimp only at CL1 CL2 hok1 hok2 hg
        obtain ⟨pos, hps⟩ : ∃ pos, pos = s.pos (j : Int) := ⟨_, rfl⟩
        rw [← hps] at CL1 CL2 CA CA2 hpl hok2 hg
        have HG := Lib.hid hg
        clear hg
        have HPS := Lib.hid hps
        obtain ⟨n, hn⟩ : ∃ n, n = s.rows.length := ⟨_, rfl⟩
        rw [← hn] at c2 hjz hcap hjl
        have HN := Lib.hid hn
        clear hps hn h1 hfew
        go_enter Tryz.func147, Tryz.ntmps147
        go_wp2_with (first
          | (go_at_call 137; refine CH.out.mono ?_; rintro e w' ⟨rfl, hq⟩; subst hq)
          | (go_at_call 162; refine CA.out.mono ?_; rintro e w' ⟨rfl, hq⟩; subst hq))
        refine CL1.out.mono ?_
        rintro e w1 ⟨rfl, hs1⟩
        by_cases hr1 : r1 = 0
        · subst hr1
          have HG1 := Lib.hid HG.out
          rw [if_neg (show ¬ (0 : Int) ≠ 0 by simp)] at HG1
          obtain ⟨U1, hS1, hU1, hC1⟩ := hs1
          obtain ⟨w2, hw2⟩ : ∃ w2, w2 = w1.alloc (.cells #[.slice none 0 0, .int .i64 0] 110) := ⟨_, rfl⟩
          have hc2 : Chg [] w1 w2 := by rw [hw2]; exact (Chg.refl _ _).alloc _
          have hp2 : PenAt 110 w2 w1.heap.size none [] 0 := ⟨.slice none 0 0, by rw [hw2]; exact heap_alloc_new w1 _, BRow.nil _, rfl, by simp, by simp⟩
          have HS1 := Lib.hid hS1
          have HU1 := Lib.hid hU1
          have HC1 := Lib.hid hC1
          have HW2 := Lib.hid hw2
          have CN1 := Lib.hid (pnum_any w1.heap.size none [] 0 1 1 w2 hp2 (by omega) (by omega))
          rw [show penNum [] 0 1 (1 : Int).toNat = h1 from rfl] at CN1
          have HC2 := Lib.hid hc2
          clear hS1 hU1 hC1 hw2 hp2 hc2 CL1
          go_wp2_with fail
          rw [← HW2.out]
          refine CN1.out.mono ?_
          rintro e w3 ⟨rfl, hw3⟩
          obtain ⟨g3, hp3, hg3, hc3⟩ := hw3
          have HC3 : Hid (Chg [] w1 w3) := Lib.hid (HC2.out.trans hc3 (fun x hx => .inr (by
            have : x = w1.heap.size := by simpa using hx
            omega)))
          have hge3 : ∀ k, g3 = some k → w1.heap.size ≤ k := by
            intro k hk
            rcases hg3 with rfl | ⟨k', rfl, h'⟩
            · cases hk
            · obtain rfl : k' = k := by simpa using hk
              exact Nat.le_trans HC2.out.size h'
          have CN2 := Lib.hid (pnum_any w1.heap.size g3 h1.1 h1.2 (b.length : Int) 2 w3 hp3 (by omega) (by omega))
          rw [show penNum h1.1 h1.2 (b.length : Int) (2 : Int).toNat = h2 b.length from rfl] at CN2
          have HGE3 := Lib.hid hge3
          clear hp3 hg3 hc3 hge3 CN1
          go_wp2_with fail
          refine CN2.out.mono ?_
          rintro e w4 ⟨rfl, hw4⟩
          obtain ⟨g4, hp4, hg4, hc4⟩ := hw4
          have HC4 : Hid (Chg [] w1 w4) := Lib.hid (HC3.out.trans hc4 (fun x hx => .inr (by
            rcases List.mem_cons.1 hx with rfl | hx
            · exact Nat.le_refl _
            · exact HGE3.out x (by simpa using hx))))
          have hge4 : ∀ k, g4 = some k → w1.heap.size ≤ k := by
            intro k hk
            rcases hg4 with rfl | ⟨k', rfl, h'⟩
            · exact HGE3.out k hk
            · obtain rfl : k' = k := by simpa using hk
              exact Nat.le_trans HC3.out.size h'
          have hkey4 : BytesAt w4 (.slice ka key.length kc) key := (HK.out.chgW HC1.out HKU.out).chg HC4.out (by simp)
          have CR := Lib.hid (praw_any w1.heap.size g4 (h2 b.length).1 (h2 b.length).2 _ key w4 hp4 hkey4 (by omega))
          rw [show penRaw (h2 b.length).1 (h2 b.length).2 key = h3 b.length key from rfl] at CR
          have HGE4 := Lib.hid hge4
          clear hp4 hg4 hc4 hge4 CN2 hkey4
          go_wp2_with fail
          refine CR.out.mono ?_
          rintro e w5 ⟨rfl, hw5⟩
          obtain ⟨g5, hp5, hg5, hc5⟩ := hw5
          have HC5 : Hid (Chg [] w1 w5) := Lib.hid (HC4.out.trans hc5 (fun x hx => .inr (by
            rcases List.mem_cons.1 hx with rfl | hx
            · exact Nat.le_refl _
            · exact HGE4.out x (by simpa using hx))))
          rw [H3.out.2] at hp5
          have CB := Lib.hid (pbytes_any w1.heap.size g5 (h3 b.length key).1 w5 hp5)
          rw [← head_h3] at CB
          clear hp5 hg5 hc5 CR
          go_wp2_with fail
          refine CB.out.mono ?_
          rintro e w6 ⟨v6, rfl, hr6, ho6, hc6⟩
          have HC6 : Hid (Chg [] w1 w6) := Lib.hid (HC5.out.trans hc6 (by simp))
          have hS6 : SlotsAt w6 q p U1 { s with d := d1 } := HS1.out.keep0 HC6.out
          have hv6 : headBytes b.length key ≠ [] → ∀ k, v6.ownBlock = some k → k ∉ U1 := fun _ k hk hm => by
            have a1 := ho6 k hk
            obtain ⟨_, _, _, H1⟩ := HS1.out
            have a2 := H1.uL k hm
            have a3 := HC5.out.size
            omega
          have CAT := Lib.hid (CA2.out U1 d1 w6 hS6)
          have CL := Lib.hid (CL2.out U1 d1 v6 w6 hS6 hok1.1 hr6.bytes hv6 (by rw [HN2.out]; show d1.ops + 1 + 1 ≤ _; omega) (by rw [HN2.out]; show d1.since.length + 1 ≤ _; omega))
          clear CL2 CA2 hS6 hv6 hr6 ho6 hc6 CB
          generalize d1.lays pos (headBytes b.length key) = z2 at *
          obtain ⟨r2, d2⟩ := z2
          dsimp only at CL hok2 HG1
          go_wp2_with (go_at_call 162; refine CAT.out.mono ?_; rintro e w' ⟨rfl, hq⟩; subst hq)
          refine CL.out.mono ?_
          rintro e w7 ⟨rfl, hs7⟩
          have hs7' := Sid.glue HU1.out HC1.out (Sid.pre HC6.out hs7)
          by_cases hr2 : r2 = 0
          · subst hr2
            rw [if_neg (show ¬ (0 : Int) ≠ 0 by simp)] at HG1
            obtain ⟨U7, ⟨S7, rv7, R7, H7⟩, hU7, hC7⟩ := hs7'
            have c07 : w7.cell? ⟨q, 0, none⟩ = some (.pointer (some ⟨p, 0, none⟩)) := blk_cell H7.obj.head 0 _ rfl
            obtain ⟨g7, cap7, kv7, hrv7, hcap7, hcm7, hR7, _, _, _, _, _⟩ := H7.at j (by rw [HN.out] at hjl; exact hjl)
            have c27 : w7.cell? ⟨q, 2, none⟩ = some rv7 := blk_cell H7.obj.head 2 _ rfl
            rw [show ({ s with d := d2 } : SS).rows.length = s.rows.length from rfl, ← HN.out] at hrv7 hcap7
            have CC := Lib.hid (clone_any _ key w7.drew ((HK.out.chgW hC7 HKU.out).chg (by exact (Chg.refl [] w7).drew) (by simp)) (by omega))
            have HH7 := Lib.hid H7
            have HU7 := Lib.hid hU7
            have HC7 := Lib.hid hC7
            have HRV : Hid (∃ x, x = rv7 ∧ x = .slice (some ⟨g7, 0, none⟩) n cap7) := Lib.hid ⟨rv7, rfl, hrv7⟩
            subst hrv7
            clear H7 hU7 hC7 hs7 hR7 CL CAT
            go_wp2_with fail
            refine wp_region_L [(11, fun w' => w'.cell? ⟨q, 2, none⟩ = some (.slice (some ⟨g7, 0, none⟩) n cap7))] (by kernel_rfl) ?_ (fun hHeld => ?_)
            · exact (HoldC.cons (c27) HoldC.nil)
            refine wpAnyL_take (i := 0) (oi := _) (v := ?_) rfl (by kernel_rfl) (by kernel_rfl) (by kernel_rfl) (by kernel_rfl) (by kernel_rfl) (fun _ _ _ h => h) (Or.inl ⟨by rfl, ?_⟩) (by assumption) (fun hNew => ?_)
            rotate_left
            · intro w _
              go_simp
              try with_reducible rfl
            clear hHeld
            have hHeld := hNew
            clear hNew
            try simp only [List.getElem_toArray, List.getElem_cons_succ, List.getElem_cons_zero, Act.put, List.setIfInBounds_toArray, List.set_cons_zero, List.set_cons_succ]
            refine wpAnyL_take (i := 1) (oi := _) (v := ?_) rfl (by kernel_rfl) (by kernel_rfl) (by kernel_rfl) (by kernel_rfl) (by kernel_rfl) (fun _ _ _ h => h) (Or.inl ⟨by rfl, ?_⟩) (by assumption) (fun hNew => ?_)
            rotate_left
            · intro w _
              go_simp
              try with_reducible rfl
            clear hHeld
            have hHeld := hNew
            clear hNew
            try simp only [List.getElem_toArray, List.getElem_cons_succ, List.getElem_cons_zero, Act.put, List.setIfInBounds_toArray, List.set_cons_zero, List.set_cons_succ]
            refine wpAnyL_take (i := 2) (oi := _) (v := ?_) rfl (by kernel_rfl) (by kernel_rfl) (by kernel_rfl) (by kernel_rfl) (by kernel_rfl) (fun _ _ _ h => h) (Or.inl ⟨by rfl, ?_⟩) (by assumption) (fun hNew => ?_)
            rotate_left
            · intro w _
              go_simp
              try with_reducible rfl
            clear hHeld
            have hHeld := hNew
            clear hNew
            try simp only [List.getElem_toArray, List.getElem_cons_succ, List.getElem_cons_zero, Act.put, List.setIfInBounds_toArray, List.set_cons_zero, List.set_cons_succ]
            refine wpAnyL_load 0 (i := 3) (oi := _) (v := ?_) rfl rfl (by kernel_rfl) (by kernel_rfl) (by kernel_rfl) (by kernel_rfl) (by kernel_rfl) (by kernel_rfl) (fun _ _ _ h => h) (Or.inl ⟨by rfl, ?_⟩) (by assumption) (fun hNew => ?_)
            rotate_left
            · intro w hSw
              (try dsimp only at hSw)
              go_simp
              try with_reducible rfl
            clear hHeld
            have hHeld := hNew
            clear hNew
            try simp only [List.getElem_toArray, List.getElem_cons_succ, List.getElem_cons_zero, Act.put, List.setIfInBounds_toArray, List.set_cons_zero, List.set_cons_succ]
            refine wpAnyL_take (i := 4) (oi := _) (v := ?_) rfl (by kernel_rfl) (by kernel_rfl) (by kernel_rfl) (by kernel_rfl) (by kernel_rfl) (fun _ _ _ h => h) (Or.inl ⟨by rfl, ?_⟩) (by assumption) (fun hNew => ?_)
            rotate_left
            · intro w _
              go_simp
              try with_reducible rfl
            clear hHeld
            have hHeld := hNew
            clear hNew
            try simp only [List.getElem_toArray, List.getElem_cons_succ, List.getElem_cons_zero, Act.put, List.setIfInBounds_toArray, List.set_cons_zero, List.set_cons_succ]
            refine wpAnyL_take (i := 5) (oi := _) (v := ?_) rfl (by kernel_rfl) (by kernel_rfl) (by kernel_rfl) (by kernel_rfl) (by kernel_rfl) (fun _ _ _ h => h) (Or.inl ⟨by rfl, ?_⟩) (by assumption) (fun hNew => ?_)
            rotate_left
            · intro w _
              go_simp
              try with_reducible rfl
            clear hHeld
            have hHeld := hNew
            clear hNew
            try simp only [List.getElem_toArray, List.getElem_cons_succ, List.getElem_cons_zero, Act.put, List.setIfInBounds_toArray, List.set_cons_zero, List.set_cons_succ]
            refine wpAnyL_take (i := 6) (oi := _) (v := ?_) rfl (by kernel_rfl) (by kernel_rfl) (by kernel_rfl) (by kernel_rfl) (by kernel_rfl) (fun _ _ _ h => h) (Or.inl ⟨by rfl, ?_⟩) (by assumption) (fun hNew => ?_)
            rotate_left
            · intro w _
              go_simp
              try with_reducible rfl
            clear hHeld
            have hHeld := hNew
            clear hNew
            try simp only [List.getElem_toArray, List.getElem_cons_succ, List.getElem_cons_zero, Act.put, List.setIfInBounds_toArray, List.set_cons_zero, List.set_cons_succ]
            refine wpAnyL_take (i := 7) (oi := _) (v := ?_) rfl (by kernel_rfl) (by kernel_rfl) (by kernel_rfl) (by kernel_rfl) (by kernel_rfl) (fun _ _ _ h => h) (Or.inl ⟨by rfl, ?_⟩) (by assumption) (fun hNew => ?_)
            rotate_left
            · intro w _
              go_simp
              try with_reducible rfl
            clear hHeld
            have hHeld := hNew
            clear hNew
            try simp only [List.getElem_toArray, List.getElem_cons_succ, List.getElem_cons_zero, Act.put, List.setIfInBounds_toArray, List.set_cons_zero, List.set_cons_succ]
            refine wpAnyL_ready (rs := [8]) (by kernel_rfl) (by simp) ?_
            refine AllReadyL.cons (o := _) rfl (fun K hK => ?_) AllReadyL.nil
            try simp only [List.getElem_toArray, List.getElem_cons_succ, List.getElem_cons_zero]
            go_simp
            refine CC.out.mono ?_
            rintro e w8 ⟨v8, rfl, hr8, ho8, hc8⟩
            have HC8 : Hid (Chg [] w7 w8) := Lib.hid ((by exact (Chg.refl [] w7).drew : Chg [] w7 w7.drew).trans hc8 (by simp))
            obtain ⟨a8, c8, rfl⟩ := hr8.bytes.slice
            have H8 := HH7.out.keep0 HC8.out
            have HSR := Lib.hid (H8.setRow j (by rw [HN.out] at hjl; exact hjl) g7 cap7 (by rw [HN.out]) ⟨true, b.length, key⟩ _ hr8.bytes (fun k hk => ⟨hr8.lt k hk, fun hm => by
              have a1 := ho8 k hk
              have a2 := HH7.out.uL k hm
              have a3 : w7.drew.heap.size = w7.heap.size := rfl
              omega⟩) ⟨hb448, hk40⟩)
            have TH := Lib.hid (H8.there j (by rw [HN.out] at hjl; exact hjl) g7 cap7 (by rw [HN.out]))
            clear H8 hr8 ho8 hc8 CC
            have c28 := HC8.out.cell c27 (by simp)
            try go_wp2_with fail
            clear hHeld
            refine hK.out _ _ ?_ (fun hHeld => ?_)
            · exact (HoldC.cons (c28) HoldC.nil)
            clear hK K
            try simp only [List.getElem_toArray, List.getElem_cons_succ, List.getElem_cons_zero, Act.put, List.setIfInBounds_toArray, List.set_cons_zero, List.set_cons_succ]
            refine wpAnyL_take (i := 9) (oi := _) (v := ?_) rfl (by kernel_rfl) (by kernel_rfl) (by kernel_rfl) (by kernel_rfl) (by kernel_rfl) (fun _ _ _ h => h) (Or.inl ⟨by rfl, ?_⟩) (by assumption) (fun hNew => ?_)
            rotate_left
            · intro w _
              go_simp
              try with_reducible rfl
            clear hHeld
            have hHeld := hNew
            clear hNew
            try simp only [List.getElem_toArray, List.getElem_cons_succ, List.getElem_cons_zero, Act.put, List.setIfInBounds_toArray, List.set_cons_zero, List.set_cons_succ]
            refine wpAnyL_take (i := 10) (oi := _) (v := ?_) rfl (by kernel_rfl) (by kernel_rfl) (by kernel_rfl) (by kernel_rfl) (by kernel_rfl) (fun _ _ _ h => h) (Or.inl ⟨by rfl, ?_⟩) (by assumption) (fun hNew => ?_)
            rotate_left
            · intro w _
              go_simp
              try with_reducible rfl
            clear hHeld
            have hHeld := hNew
            clear hNew
            try simp only [List.getElem_toArray, List.getElem_cons_succ, List.getElem_cons_zero, Act.put, List.setIfInBounds_toArray, List.set_cons_zero, List.set_cons_succ]
            refine wpAnyL_ready (rs := [11]) (by kernel_rfl) (by simp) ?_
            refine AllReadyL.cons (o := _) rfl (fun K hK => ?_) AllReadyL.nil
            try simp only [List.getElem_toArray, List.getElem_cons_succ, List.getElem_cons_zero]
            rw [if_pos (by rfl)]
            refine wp_store_mid 192 (.tmp 92) (.tmp 91) (by rfl) g7 (j * 3) #[.bool true, .int .i64 (b.length : Int), .slice a8 key.length c8] (by rfl) (by rfl) TH.out (by kernel_rfl) (by simp [Value.oneCell']) ?_
            clear hHeld
            refine hK.out _ _ ?_ (fun hHeld => ?_)
            · exact (HoldC.past (by kernel_rfl) HoldC.nil)
            clear hK K
            try simp only [List.getElem_toArray, List.getElem_cons_succ, List.getElem_cons_zero, Act.put, List.setIfInBounds_toArray, List.set_cons_zero, List.set_cons_succ]
            refine wpAnyL_done (by kernel_rfl) ?_ _
            clear hHeld
            go_wp2
            go_ret
            rw [HG1.out]
            exact ⟨rfl, Sid.glue HU7.out HC7.out (Sid.pre HC8.out HSR.out)⟩
          · have q2 : (r2 != 0) = true := by simp [hr2]
            have HG2 : Hid (Z = (r2, { s with d := d2 })) := Lib.hid (by rw [HG1.out, if_pos hr2])
            have HS7 := Lib.hid hs7'
            clear hs7' hs7 hr2
            go_wp2
            go_ret
            rw [HG2.out]
            exact ⟨rfl, HS7.out⟩
        · have q1 : (r1 != 0) = true := by simp [hr1]
          have HG1 : Hid (Z = (r1, { s with d := d1 })) := Lib.hid (by rw [HG.out, if_pos hr1])
          have HS1 := Lib.hid hs1
          clear hs1 CL1 CL2 hr1
          go_wp2
          go_ret
          rw [HG1.out]
          exact ⟨rfl, HS1.out⟩
  · have hg : s.put i key b = (1, s) := by unfold SS.put; rw [if_pos (by simpa using hi)]
    have HP := Lib.hid (SidPost.same (c := 1) HS.out)
    rw [decide_eq_false hi] at CH
    have HG := Lib.hid hg
    rw [HG.out]
    clear H hi hg hk hb hkU hbU c2
    go_enter Tryz.func147, Tryz.ntmps147
    go_wp2_with (go_at_call 137; refine CH.out.mono ?_; rintro e w' ⟨rfl, hq⟩; subst hq)
    go_ret
    exact HP.out
end Go.Proofs.YtdkhmfcfihbjeaaGreatDoor.W

/- Package slot: Clear. -/
namespace Go.Proofs.YtdkhmfcfihbjeaaGreatDoor.W
open Go.RowKit
set_option linter.unusedVariables false
set_option linter.unusedSimpArgs false

set_option maxHeartbeats 8000000 in
set_option maxRecDepth 100000 in
theorem sclear_any (q p : Nat) (U : List Nat) (s : SS) (i : Int) (w : World) (h : SlotsAt w q p U s) (ho : s.d.ops ≤ 900000000) (hw : s.d.since.length ≤ 900000) :
    Calls Tryz.prog 148 #[.pointer (some ⟨q, 0, none⟩), .int .i64 i] w (SidPost w q p U (s.clear i)) := by
  have CH := Lib.hid (shas_any q p U s i w h)
  have HS := Lib.hid h
  obtain ⟨S, rv, R, H⟩ := h
  have c0 : w.cell? ⟨q, 0, none⟩ = some (.pointer (some ⟨p, 0, none⟩)) := blk_cell H.obj.head 0 _ rfl
  have c2 : w.cell? ⟨q, 2, none⟩ = some rv := blk_cell H.obj.head 2 _ rfl
  by_cases hi : s.has i
  · rw [decide_eq_true hi] at CH
    have hi' := hi
    obtain ⟨h0, h1⟩ := hi'
    obtain ⟨j, rfl⟩ := Int.eq_ofNat_of_zero_le h0
    have hjl : j < s.rows.length := by omega
    obtain ⟨g, cap, kv0, hrv, hcap, hcm, hR, k0, k1, k2, k3, k4⟩ := H.at j hjl
    have hfew := H.few
    have hrow : s.row (j : Int) = s.rows.getD j noRow := rfl
    by_cases hu : (s.row (j : Int)).used = false
    · have hg : s.clear (j : Int) = (6, s) := by unfold SS.clear; rw [if_neg (by simpa using hi), if_pos hu]
      have HP := Lib.hid (SidPost.same (c := 6) HS.out)
      have HG := Lib.hid hg
      rw [HG.out]
      rw [hrow] at hu
      rw [hu] at k0
      subst hrv
      generalize s.rows.getD j noRow = r at *
      generalize s.rows.length = n at *
      have hjz : (j : Int) < (n : Int) := by omega
      have hjz1 : (j : Int).toNat = j := by omega
      clear H hR k1 k2 k3 k4 hu hg hi hrow
      go_enter Tryz.func148, Tryz.ntmps148
      go_wp2_with (go_at_call 137; refine CH.out.mono ?_; rintro e w' ⟨rfl, hq⟩; subst hq)
      go_ret
      exact HP.out
    · have hu' : (s.rows.getD j noRow).used = true := by rw [← hrow]; simpa using hu
      have hg : s.clear (j : Int) = if (s.d.lays (s.pos j) (zeros 64)).1 ≠ 0 then ((s.d.lays (s.pos j) (zeros 64)).1, { s with d := (s.d.lays (s.pos j) (zeros 64)).2 }) else
            (0, { s with d := (s.d.lays (s.pos j) (zeros 64)).2, rows := s.rows.set j noRow }) := by
        unfold SS.clear
        rw [if_neg (by simpa using hi), if_neg hu]
        rfl
      rw [hu'] at k0
      have hpos : s.pos (j : Int) = s.first + 8 * j := rfl
      have hroom := H.ok.room
      have hns : nsec (zeros 64).length = 1 := rfl
      have hzl : (zeros 64).length = 64 := rfl
      have CA : Hid (∀ w', SlotsAt w' q p U s → Calls Tryz.prog 162 #[.pointer (some ⟨q, 0, none⟩), .int .i64 (j : Int)] w' fun e w'' => e = .returned (.int .i64 ((s.pos (j : Int) : Nat) : Int)) ∧ w' = w'') := Lib.hid (fun w' h' => sat_any q p U s j w' h' (by omega))
      have CL : Hid (∀ w', SlotsAt w' q p U s → ∀ N, w'.heap[N]? = some (.cells Z64 5 (0, 0)) → N ∉ U → Calls Tryz.prog 163 #[.pointer (some ⟨q, 0, none⟩), .int .i64 ((s.pos (j : Int) : Nat) : Int), .slice (some ⟨N, 0, none⟩) 64 64] w' fun e w'' => e = .returned (.int .i64 (s.d.lays (s.pos j) (zeros 64)).1) ∧ Sid w' w'' q p U { s with d := (s.d.lays (s.pos j) (zeros 64)).2 }) := Lib.hid (fun w' h' N hN hNU => by
        have hr : BRow w' (.slice (some ⟨N, 0, none⟩) (zeros 64).length (zeros 64).length) (zeros 64) := row_of_block hN (by rw [hzl]; unfold maxLen; omega)
        rw [hzl] at hr
        exact slay_any q p U s (s.pos j) _ (zeros 64) w' h' hr.bytes (fun _ k hk => by
          obtain rfl : N = k := by simpa [Value.ownBlock] using hk
          exact hNU) (by rw [hns]; omega) (by rw [hzl]; omega) (by rw [hns]; omega) (by rw [hns]; omega))
      have hok1 := s.d.lays_ok (s.pos j) (zeros 64)
      obtain ⟨Z, hZ⟩ : ∃ Z, Z = s.clear (j : Int) := ⟨_, rfl⟩
      rw [← hZ] at hg ⊢
      have hjz : (j : Int) < (s.rows.length : Int) := by omega
      have hjz1 : (j : Int).toNat = j := by omega
      have hpl : s.pos (j : Int) ≤ 4160 := by omega
      subst hrv
      have HUL := Lib.hid H.uL
      clear H hR k1 k2 k3 k4 hu hu' hi hrow hpos hroom hns hzl hZ
      generalize s.d.lays (s.pos j) (zeros 64) = z1 at *
      obtain ⟨r1, d1⟩ := z1
      dsimp only at CL hok1 hg
      obtain ⟨pos, hps⟩ : ∃ pos, pos = s.pos (j : Int) := ⟨_, rfl⟩
      rw [← hps] at CL CA hpl
      have HG := Lib.hid hg
      obtain ⟨n, hn⟩ : ∃ n, n = s.rows.length := ⟨_, rfl⟩
      rw [← hn] at c2 hjz hcap hjl
      have HN := Lib.hid hn
      have hmk := make_64
      have HC0 := Lib.hid c0
      have HC2 := Lib.hid c2
      clear hps hn h1 hfew hg
      go_enter Tryz.func148, Tryz.ntmps148
      go_wp2_with (go_at_call 137; refine CH.out.mono ?_; rintro e w' ⟨rfl, hq⟩; subst hq)
      have HSD := Lib.hid (HS.out.keep0 (by exact (Chg.refl [] w).drew))
      have HC6 : Hid (Chg [] w (w.drew.alloc (.cells Z64 5))) := Lib.hid (by exact ((Chg.refl [] w).drew).alloc _)
      have HSA := Lib.hid (HS.out.keep0 HC6.out)
      have CL1 := Lib.hid (CL.out _ HSA.out w.drew.heap.size (heap_alloc_new w.drew _) (fun hm => by
        have a1 := HUL.out _ hm
        have a2 : w.drew.heap.size = w.heap.size := rfl
        omega))
      go_wp2_with fail
      refine wp_region_L [] (by kernel_rfl) ?_ (fun hHeld => ?_)
      · exact HoldC.nil
      refine wpAnyL_take (i := 0) (oi := _) (v := ?_) rfl (by kernel_rfl) (by kernel_rfl) (by kernel_rfl) (by kernel_rfl) (by kernel_rfl) (fun _ _ _ h => h) (Or.inl ⟨by rfl, ?_⟩) (by assumption) (fun hNew => ?_)
      rotate_left
      · intro w _
        go_simp
        try with_reducible rfl
      clear hHeld
      have hHeld := hNew
      clear hNew
      try simp only [List.getElem_toArray, List.getElem_cons_succ, List.getElem_cons_zero, Act.put, List.setIfInBounds_toArray, List.set_cons_zero, List.set_cons_succ]
      refine wpAnyL_take (i := 1) (oi := _) (v := ?_) rfl (by kernel_rfl) (by kernel_rfl) (by kernel_rfl) (by kernel_rfl) (by kernel_rfl) (fun _ _ _ h => h) (Or.inl ⟨by rfl, ?_⟩) (by assumption) (fun hNew => ?_)
      rotate_left
      · intro w _
        go_simp
        try with_reducible rfl
      clear hHeld
      have hHeld := hNew
      clear hNew
      try simp only [List.getElem_toArray, List.getElem_cons_succ, List.getElem_cons_zero, Act.put, List.setIfInBounds_toArray, List.set_cons_zero, List.set_cons_succ]
      refine wpAnyL_take (i := 2) (oi := _) (v := ?_) rfl (by kernel_rfl) (by kernel_rfl) (by kernel_rfl) (by kernel_rfl) (by kernel_rfl) (fun _ _ _ h => h) (Or.inl ⟨by rfl, ?_⟩) (by assumption) (fun hNew => ?_)
      rotate_left
      · intro w _
        go_simp
        try with_reducible rfl
      clear hHeld
      have hHeld := hNew
      clear hNew
      try simp only [List.getElem_toArray, List.getElem_cons_succ, List.getElem_cons_zero, Act.put, List.setIfInBounds_toArray, List.set_cons_zero, List.set_cons_succ]
      refine wpAnyL_ready (rs := [3, 4]) (by kernel_rfl) (by simp) ?_
      refine AllReadyL.cons (o := _) rfl (fun K hK => ?_) (AllReadyL.cons (o := _) rfl (fun K hK => ?_) AllReadyL.nil)
      · try simp only [List.getElem_toArray, List.getElem_cons_succ, List.getElem_cons_zero]
        go_simp
        refine (CA.out w.drew HSD.out).mono ?_
        rintro e w' ⟨rfl, hq⟩
        subst hq
        try go_wp2_with fail
        clear hHeld
        refine hK.out _ _ ?_ (fun hHeld => ?_)
        · exact HoldC.nil
        clear hK K
        try simp only [List.getElem_toArray, List.getElem_cons_succ, List.getElem_cons_zero, Act.put, List.setIfInBounds_toArray, List.set_cons_zero, List.set_cons_succ]
        refine wpAnyL_ready (rs := [4]) (by kernel_rfl) (by simp) ?_
        refine AllReadyL.cons (o := _) rfl (fun K hK => ?_) AllReadyL.nil
        try simp only [List.getElem_toArray, List.getElem_cons_succ, List.getElem_cons_zero]
        go_simp
        clear hHeld
        refine hK.out _ _ ?_ (fun hHeld => ?_)
        · exact HoldC.nil
        clear hK K
        try simp only [List.getElem_toArray, List.getElem_cons_succ, List.getElem_cons_zero, Act.put, List.setIfInBounds_toArray, List.set_cons_zero, List.set_cons_succ]
        refine wpAnyL_ready (rs := [5]) (by kernel_rfl) (by simp) ?_
        refine AllReadyL.cons (o := _) rfl (fun K hK => ?_) AllReadyL.nil
        try simp only [List.getElem_toArray, List.getElem_cons_succ, List.getElem_cons_zero]
        go_simp
        refine CL1.out.mono ?_
        rintro e w7 ⟨rfl, hs7⟩
        have hs7' := Sid.pre HC6.out hs7
        try go_wp2_with fail
        clear hHeld
        refine hK.out _ _ ?_ (fun hHeld => ?_)
        · exact HoldC.nil
        clear hK K
        try simp only [List.getElem_toArray, List.getElem_cons_succ, List.getElem_cons_zero, Act.put, List.setIfInBounds_toArray, List.set_cons_zero, List.set_cons_succ]
        refine wpAnyL_take (i := 6) (oi := _) (v := ?_) rfl (by kernel_rfl) (by kernel_rfl) (by kernel_rfl) (by kernel_rfl) (by kernel_rfl) (fun _ _ _ h => h) (Or.inl ⟨by rfl, ?_⟩) (by assumption) (fun hNew => ?_)
        rotate_left
        · intro w _
          go_simp
          try with_reducible rfl
        clear hHeld
        have hHeld := hNew
        clear hNew
        try simp only [List.getElem_toArray, List.getElem_cons_succ, List.getElem_cons_zero, Act.put, List.setIfInBounds_toArray, List.set_cons_zero, List.set_cons_succ]
        refine wpAnyL_done (by kernel_rfl) ?_ _
        clear hHeld
        by_cases hr1 : r1 = 0
        · subst hr1
          have HG1 := Lib.hid HG.out
          rw [if_neg (show ¬ (0 : Int) ≠ 0 by simp)] at HG1
          obtain ⟨U7, ⟨S7, rv7, R7, H7⟩, hU7, hC7⟩ := hs7'
          have c27 : w7.cell? ⟨q, 2, none⟩ = some rv7 := blk_cell H7.obj.head 2 _ rfl
          obtain ⟨g7, cap7, kv7, hrv7, hcap7, hcm7, hR7, _, _, _, _, _⟩ := H7.at j (by rw [HN.out] at hjl; exact hjl)
          rw [show ({ s with d := d1 } : SS).rows.length = s.rows.length from rfl, ← HN.out] at hrv7 hcap7
          have HSR := Lib.hid (H7.setRow j (by rw [HN.out] at hjl; exact hjl) g7 cap7 (by rw [hrv7, HN.out]) noRow (.slice none 0 0) (BytesAt.nil _) (by simp [Value.ownBlock]) ⟨by decide, by decide⟩)
          have TH := Lib.hid (H7.there j (by rw [HN.out] at hjl; exact hjl) g7 cap7 (by rw [hrv7, HN.out]))
          have HU7 := Lib.hid hU7
          have HC7 := Lib.hid hC7
          subst hrv7
          clear H7 hU7 hC7 hs7 hR7 CL CL1
          go_wp2_with (refine wpList_store_mid (by rfl) 192 (.tmp 46) (.tmp 45) (by rfl) g7 (j * 3) #[.bool false, .int .i64 0, .slice none 0 0] (by rfl) (by rfl) TH.out (by kernel_rfl) (by simp [Value.oneCell']) ?_)
          go_ret
          rw [HG1.out]
          exact ⟨rfl, Sid.glue HU7.out HC7.out HSR.out⟩
        · have q1 : (r1 != 0) = true := by simp [hr1]
          have HG1 : Hid (Z = (r1, { s with d := d1 })) := Lib.hid (by rw [HG.out, if_pos hr1])
          have HS7 := Lib.hid hs7'
          clear hs7' hs7 hr1 CL CL1
          go_wp2
          go_ret
          rw [HG1.out]
          exact ⟨rfl, HS7.out⟩
      · try simp only [List.getElem_toArray, List.getElem_cons_succ, List.getElem_cons_zero]
        go_simp
        clear hHeld
        refine hK.out _ _ ?_ (fun hHeld => ?_)
        · exact HoldC.nil
        clear hK K
        try simp only [List.getElem_toArray, List.getElem_cons_succ, List.getElem_cons_zero, Act.put, List.setIfInBounds_toArray, List.set_cons_zero, List.set_cons_succ]
        refine wpAnyL_ready (rs := [3]) (by kernel_rfl) (by simp) ?_
        refine AllReadyL.cons (o := _) rfl (fun K hK => ?_) AllReadyL.nil
        try simp only [List.getElem_toArray, List.getElem_cons_succ, List.getElem_cons_zero]
        go_simp
        refine (CA.out _ HSA.out).mono ?_
        rintro e w' ⟨rfl, hq⟩
        subst hq
        try go_wp2_with fail
        clear hHeld
        refine hK.out _ _ ?_ (fun hHeld => ?_)
        · exact HoldC.nil
        clear hK K
        try simp only [List.getElem_toArray, List.getElem_cons_succ, List.getElem_cons_zero, Act.put, List.setIfInBounds_toArray, List.set_cons_zero, List.set_cons_succ]
        refine wpAnyL_ready (rs := [5]) (by kernel_rfl) (by simp) ?_
        refine AllReadyL.cons (o := _) rfl (fun K hK => ?_) AllReadyL.nil
        try simp only [List.getElem_toArray, List.getElem_cons_succ, List.getElem_cons_zero]
        go_simp
        refine CL1.out.mono ?_
        rintro e w7 ⟨rfl, hs7⟩
        have hs7' := Sid.pre HC6.out hs7
        try go_wp2_with fail
        clear hHeld
        refine hK.out _ _ ?_ (fun hHeld => ?_)
        · exact HoldC.nil
        clear hK K
        try simp only [List.getElem_toArray, List.getElem_cons_succ, List.getElem_cons_zero, Act.put, List.setIfInBounds_toArray, List.set_cons_zero, List.set_cons_succ]
        refine wpAnyL_take (i := 6) (oi := _) (v := ?_) rfl (by kernel_rfl) (by kernel_rfl) (by kernel_rfl) (by kernel_rfl) (by kernel_rfl) (fun _ _ _ h => h) (Or.inl ⟨by rfl, ?_⟩) (by assumption) (fun hNew => ?_)
        rotate_left
        · intro w _
          go_simp
          try with_reducible rfl
        clear hHeld
        have hHeld := hNew
        clear hNew
        try simp only [List.getElem_toArray, List.getElem_cons_succ, List.getElem_cons_zero, Act.put, List.setIfInBounds_toArray, List.set_cons_zero, List.set_cons_succ]
        refine wpAnyL_done (by kernel_rfl) ?_ _
        clear hHeld
        by_cases hr1 : r1 = 0
        · subst hr1
          have HG1 := Lib.hid HG.out
          rw [if_neg (show ¬ (0 : Int) ≠ 0 by simp)] at HG1
          obtain ⟨U7, ⟨S7, rv7, R7, H7⟩, hU7, hC7⟩ := hs7'
          have c27 : w7.cell? ⟨q, 2, none⟩ = some rv7 := blk_cell H7.obj.head 2 _ rfl
          obtain ⟨g7, cap7, kv7, hrv7, hcap7, hcm7, hR7, _, _, _, _, _⟩ := H7.at j (by rw [HN.out] at hjl; exact hjl)
          rw [show ({ s with d := d1 } : SS).rows.length = s.rows.length from rfl, ← HN.out] at hrv7 hcap7
          have HSR := Lib.hid (H7.setRow j (by rw [HN.out] at hjl; exact hjl) g7 cap7 (by rw [hrv7, HN.out]) noRow (.slice none 0 0) (BytesAt.nil _) (by simp [Value.ownBlock]) ⟨by decide, by decide⟩)
          have TH := Lib.hid (H7.there j (by rw [HN.out] at hjl; exact hjl) g7 cap7 (by rw [hrv7, HN.out]))
          have HU7 := Lib.hid hU7
          have HC7 := Lib.hid hC7
          subst hrv7
          clear H7 hU7 hC7 hs7 hR7 CL CL1
          go_wp2_with (refine wpList_store_mid (by rfl) 192 (.tmp 46) (.tmp 45) (by rfl) g7 (j * 3) #[.bool false, .int .i64 0, .slice none 0 0] (by rfl) (by rfl) TH.out (by kernel_rfl) (by simp [Value.oneCell']) ?_)
          go_ret
          rw [HG1.out]
          exact ⟨rfl, Sid.glue HU7.out HC7.out HSR.out⟩
        · have q1 : (r1 != 0) = true := by simp [hr1]
          have HG1 : Hid (Z = (r1, { s with d := d1 })) := Lib.hid (by rw [HG.out, if_pos hr1])
          have HS7 := Lib.hid hs7'
          clear hs7' hs7 hr1 CL CL1
          go_wp2
          go_ret
          rw [HG1.out]
          exact ⟨rfl, HS7.out⟩
  · have hg : s.clear i = (1, s) := by unfold SS.clear; rw [if_pos (by simpa using hi)]
    have HP := Lib.hid (SidPost.same (c := 1) HS.out)
    rw [decide_eq_false hi] at CH
    have HG := Lib.hid hg
    rw [HG.out]
    clear H hi hg c2
    go_enter Tryz.func148, Tryz.ntmps148
    go_wp2_with (go_at_call 137; refine CH.out.mono ?_; rintro e w' ⟨rfl, hq⟩; subst hq)
    go_ret
    exact HP.out
end Go.Proofs.YtdkhmfcfihbjeaaGreatDoor.W

/- Package slot: what Open makes. -/
namespace Go.Proofs.YtdkhmfcfihbjeaaGreatDoor.W
open Go.RowKit
set_option linter.unusedVariables false
set_option linter.unusedSimpArgs false

theorem assertB_nil (w : World) : (Instr.typeAssert .nilIface 20 186 true).run Tryz.prog w = .ok (.tuple #[.agg #[.int .i64 0], .bool false]) w := by kernel_rfl
theorem assertB_give (x : Int) (w : World) : (Instr.typeAssert (.iface 186 (.agg #[.int .i64 x])) 20 186 true).run Tryz.prog w = .ok (.tuple #[.agg #[.int .i64 x], .bool true]) w := by kernel_rfl

set_option maxHeartbeats 2000000 in
set_option maxRecDepth 100000 in
theorem catchB_idle (pa pb : Value) (w : World) :
    CallsD Tryz.prog 134 #[pa, pb] .returning w fun e u' w' => e = .returned (.tuple #[]) ∧ u' = .returning ∧ w' = w.alloc (.cells #[.int .i64 0] 186) := by
  have hta := assertB_nil
  refine callsD_of_wpS Tryz.func134 rfl fun c₀ cs hu => ?_
  rw [Tryz.ntmps134]
  change Code.wpS Tryz.prog _ _ ⟨#[pa, pb, undef, undef, undef, undef, undef, undef, undef, undef, undef, undef, undef, undef, undef], []⟩ _ _
  apply wpS_seq
  apply wpS_region
  simp [wpOpsS, go_sem, recoverD, hu, Exit.thenS, hta]
  apply wpS_seq
  apply wpS_region
  simp [wpOpsS, go_sem, Exit.thenS]
  refine wpS_cond (t := false) (by simp [Act.eval]) ?_
  simp only [Bool.false_eq_true, if_false]
  refine wpS_of_wp (wp_skip ?_)
  cases c₀
  simp_all [bodyPostS, results, Tryz.results134]

set_option maxHeartbeats 2000000 in
set_option maxRecDepth 100000 in
theorem catchB_14 (pa pb : Nat) (v1 v2 : Value) (older : List PanicEntry) (w : World) (ha : w.heap[pa]? = some (.cells #[v1] 95 (0, 0))) (hb : w.heap[pb]? = some (.cells #[v2] 26 (0, 0))) (hne : pa ≠ pb) :
    CallsD Tryz.prog 134 #[.pointer (some ⟨pa, 0, none⟩), .pointer (some ⟨pb, 0, none⟩)] (.panicking ({ v := .iface 186 (.agg #[.int .i64 14]), recovered := false } :: older)) w fun e u' w' =>
      e = .returned (.tuple #[]) ∧ u' = .panicking ({ v := .iface 186 (.agg #[.int .i64 14]), recovered := true } :: older) ∧ Chg [pa, pb] w w' ∧ w'.heap[pa]? = some (.cells #[.pointer none] 95 (0, 0)) ∧ w'.heap[pb]? = some (.cells #[.int .i64 14] 26 (0, 0)) := by
  have hta := assertB_give 14
  have ha0 := blk_cell ha 0 _ rfl
  have hb0 := blk_cell hb 0 _ rfl
  have fa0 := blk_frozen ha 0
  have fb0 := blk_frozen hb 0
  have l1 := blk_lt ha
  have l2 := blk_lt hb
  have l3 : ¬ (pa = w.heap.size) := Nat.ne_of_lt l1
  have l4 : ¬ (pb = w.heap.size) := Nat.ne_of_lt l2
  have l5 : ¬ (w.heap.size = pa) := fun e => l3 e.symm
  have l6 : ¬ (w.heap.size = pb) := fun e => l4 e.symm
  have l7 : ¬ (pb = pa) := fun e => hne e.symm
  have HA := Lib.hid ha
  have HB := Lib.hid hb
  clear ha hb
  refine callsD_of_wpS Tryz.func134 rfl fun c₀ cs hu => ?_
  rw [Tryz.ntmps134]
  change Code.wpS Tryz.prog _ _ ⟨#[_, _, undef, undef, undef, undef, undef, undef, undef, undef, undef, undef, undef, undef, undef], []⟩ _ _
  apply wpS_seq
  apply wpS_region
  simp [wpOpsS, go_sem, recoverD, hu, Exit.thenS, hta]
  apply wpS_seq
  apply wpS_region
  simp [wpOpsS, go_sem, Exit.thenS]
  refine wpS_cond (t := true) (by simp [Act.eval]) ?_
  simp only [if_true]
  refine wpS_of_wp ?_
  go_wp2
  refine ⟨rfl, _, rfl, .tuple #[], by simp [results, Tryz.results134], rfl, rfl, ?_, ?_, ?_⟩
  · exact ((((Chg.refl [pa, pb] w).setCell (p := ⟨pa, 0, none⟩) (.inl (by simp)) _).setCell (p := ⟨pb, 0, none⟩) (.inl (by simp)) _).setCell (p := ⟨pb, 0, none⟩) (.inl (by simp)) _).alloc _
  · exact blk_alloc (blk_sets (blk_sets (set_blk HA.out) hne) hne)
  · exact blk_alloc (set_blk (set_blk (blk_sets HB.out l7)))
set_option maxHeartbeats 2000000 in
set_option maxRecDepth 100000 in
theorem catchB_x (pa pb : Nat) (x : Int) (hx : x ≠ 14) (v1 v2 : Value) (older : List PanicEntry) (w : World) (ha : w.heap[pa]? = some (.cells #[v1] 95 (0, 0))) (hb : w.heap[pb]? = some (.cells #[v2] 26 (0, 0))) (hne : pa ≠ pb) :
    CallsD Tryz.prog 134 #[.pointer (some ⟨pa, 0, none⟩), .pointer (some ⟨pb, 0, none⟩)] (.panicking ({ v := .iface 186 (.agg #[.int .i64 x]), recovered := false } :: older)) w fun e u' w' =>
      e = .returned (.tuple #[]) ∧ u' = .panicking ({ v := .iface 186 (.agg #[.int .i64 x]), recovered := true } :: older) ∧ Chg [pa, pb] w w' ∧ w'.heap[pa]? = some (.cells #[.pointer none] 95 (0, 0)) ∧ w'.heap[pb]? = some (.cells #[.int .i64 4] 26 (0, 0)) := by
  have hta := assertB_give x
  have q14 : (x == 14) = false := by simp [hx]
  have ha0 := blk_cell ha 0 _ rfl
  have hb0 := blk_cell hb 0 _ rfl
  have fa0 := blk_frozen ha 0
  have fb0 := blk_frozen hb 0
  have l1 := blk_lt ha
  have l2 := blk_lt hb
  have l3 : ¬ (pa = w.heap.size) := Nat.ne_of_lt l1
  have l4 : ¬ (pb = w.heap.size) := Nat.ne_of_lt l2
  have l5 : ¬ (w.heap.size = pa) := fun e => l3 e.symm
  have l6 : ¬ (w.heap.size = pb) := fun e => l4 e.symm
  have l7 : ¬ (pb = pa) := fun e => hne e.symm
  have HA := Lib.hid ha
  have HB := Lib.hid hb
  clear ha hb hx
  refine callsD_of_wpS Tryz.func134 rfl fun c₀ cs hu => ?_
  rw [Tryz.ntmps134]
  change Code.wpS Tryz.prog _ _ ⟨#[_, _, undef, undef, undef, undef, undef, undef, undef, undef, undef, undef, undef, undef, undef], []⟩ _ _
  apply wpS_seq
  apply wpS_region
  simp [wpOpsS, go_sem, recoverD, hu, Exit.thenS, hta]
  apply wpS_seq
  apply wpS_region
  simp [wpOpsS, go_sem, Exit.thenS]
  refine wpS_cond (t := true) (by simp [Act.eval]) ?_
  simp only [if_true]
  refine wpS_of_wp ?_
  go_wp2
  refine ⟨rfl, _, rfl, .tuple #[], by simp [results, Tryz.results134], rfl, rfl, ?_, ?_, ?_⟩
  · exact (((Chg.refl [pa, pb] w).setCell (p := ⟨pa, 0, none⟩) (.inl (by simp)) _).setCell (p := ⟨pb, 0, none⟩) (.inl (by simp)) _).alloc _
  · exact blk_alloc (blk_sets (set_blk HA.out) hne)
  · exact blk_alloc (set_blk (blk_sets HB.out l7))
end Go.Proofs.YtdkhmfcfihbjeaaGreatDoor.W
namespace Go.Proofs.YtdkhmfcfihbjeaaGreatDoor.W
open Go.RowKit
set_option linter.unusedVariables false
set_option linter.unusedSimpArgs false

def rowsFrom (d : DS) (first : Nat) : Nat → Nat → Option (List SRow)
  | 0, _ => some []
  | m + 1, k => match headOf (d.now (first + 8 * k)) with
    | none => none
    | some r => (rowsFrom d first m (k + 1)).map (r :: ·)
def DS.slots (d : DS) (first : Int) : Int × Option SS :=
  if first < 0 ∨ (d.n : Int) < first then (1, none) else if d.dead = true ∨ d.n = 0 then (14, none) else
  match rowsFrom d first.toNat ((d.n - first.toNat) / 8) 0 with
  | none => (4, none)
  | some rows => (0, some ⟨d, first.toNat, rows⟩)
def OpenPost (p : Nat) (S : List Nat) (w : World) (r : Int × Option SS) (e : Ending) (w' : World) : Prop := Chg [] w w' ∧ match r with
  | (c, none) => e = .returned (.tuple #[.pointer none, .int .i64 c])
  | (c, some s) => ∃ q U, e = .returned (.tuple #[.pointer (some ⟨q, 0, none⟩), .int .i64 c]) ∧ SlotsAt w' q p U s ∧ ∀ x ∈ U, x ∈ S ∨ w.heap.size ≤ x
theorem headOf_ok {b : List UInt8} {r : SRow} (h : headOf b = some r) : r.n ≤ 448 ∧ r.key.length ≤ 40 := by
  unfold headOf at h
  split at h
  · obtain rfl := Option.some.inj h
    exact ⟨by decide, by decide⟩
  · split at h
    · cases h
    · rename_i hn
      obtain rfl := Option.some.inj h
      have hn0 := eyeNum_nonneg (eyeNum b 0 1).2.1 (eyeNum b 0 1).2.2 2
      refine ⟨by dsimp only; omega, ?_⟩
      dsimp only
      unfold eyeRaw
      split
      · simp
      · split
        · simp
        · split
          · simp
          · split
            · simp
            · rw [List.length_take]; omega
theorem rowsFrom_len {d : DS} {first : Nat} : ∀ (m k : Nat) (rows : List SRow), rowsFrom d first m k = some rows → rows.length = m ∧ ∀ r ∈ rows, r.n ≤ 448 ∧ r.key.length ≤ 40 := by
  intro m
  induction m with
  | zero => intro k rows h; obtain rfl := Option.some.inj h; simp
  | succ m ih =>
    intro k rows h
    unfold rowsFrom at h
    cases hh : headOf (d.now (first + 8 * k)) with
    | none => rw [hh] at h; cases h
    | some r =>
      rw [hh] at h
      dsimp only at h
      obtain ⟨t, h1, rfl⟩ := Option.map_eq_some_iff.1 h
      obtain ⟨h2, h3⟩ := ih _ _ h1
      refine ⟨by simp [h2], fun x hx => ?_⟩
      rcases List.mem_cons.1 hx with rfl | hx
      · exact headOf_ok hh
      · exact h3 x hx

/-- While Open is at work. -/
structure OpenAt (w wr : World) (pa pb q p : Nat) (first : Nat) (rv : Value) (R : List (SRow × Value)) : Prop where
  chg : Chg [] w wr
  lo : w.heap.size ≤ pa ∧ w.heap.size ≤ pb
  ca : wr.heap[pa]? = some (.cells #[.pointer (some ⟨q, 0, none⟩)] 95 (0, 0))
  cb : wr.heap[pb]? = some (.cells #[.int .i64 0] 26 (0, 0))
  obj : ObjAt wr q 190 #[.pointer (some ⟨p, 0, none⟩), .int .i64 (first : Int), rv] [rowD rv R]
  new : ∀ x ∈ blks q [rowD rv R], w.heap.size ≤ x ∧ x ≠ pa ∧ x ≠ pb
  keys : ∀ x ∈ R, BytesAt wr x.2 x.1.key ∧ ∀ g, x.2.ownBlock = some g → g < wr.heap.size ∧ w.heap.size ≤ g ∧ g ∉ blks q [rowD rv R] ∧ g ≠ pa ∧ g ≠ pb
theorem OpenAt.keep {w wr w' : World} {pa pb q p first : Nat} {rv : Value} {R : List (SRow × Value)} (h : OpenAt w wr pa pb q p first rv R) (hc : Chg [] wr w') : OpenAt w w' pa pb q p first rv R :=
  ⟨h.chg.trans hc (by simp), h.lo, hc.keep h.ca (by simp), hc.keep h.cb (by simp), h.obj.keep hc (by simp), h.new, fun x hx => ⟨(h.keys x hx).1.chg hc (by simp), fun g hg => ⟨Nat.lt_of_lt_of_le ((h.keys x hx).2 g hg).1 hc.size, ((h.keys x hx).2 g hg).2⟩⟩⟩
theorem OpenAt.more {w wr w2 : World} {pa pb q p first : Nat} {rv rv' : Value} {R : List (SRow × Value)} (h : OpenAt w wr pa pb q p first rv R) (x : SRow × Value) (hg : wr.grownBy w2 rv.ownBlock) (hrow : w2.ownsRow 0 192 3 rv' (R.length + 1) (rcells R ++ rcell x))
    (hat : ∀ k, rv'.ownBlock = some k → rv.ownBlock = some k ∨ (wr.heap.size ≤ k)) (hx : BytesAt wr x.2 x.1.key) (hxU : ∀ g, x.2.ownBlock = some g → g < wr.heap.size ∧ w.heap.size ≤ g ∧ g ∉ blks q [rowD rv R] ∧ g ≠ pa ∧ g ≠ pb) :
    OpenAt w (w2.setCell ⟨q, 2, none⟩ rv') pa pb q p first rv' (R ++ [x]) := by
  have hR' : (rowD rv' (R ++ [x])).At w2 := by
    show w2.ownsRow 0 192 3 rv' (R ++ [x]).length (rcells (R ++ [x]))
    rw [List.length_append, rcells_app]
    exact hrow
  obtain ⟨g1, g2, g3⟩ := ObjAt.grow (a := []) (b := []) h.obj hg hR' hat
  simp only [List.nil_append] at g1 g2 g3
  have g4 := g1.setHead 2 rv'
  have hne := h.new
  have hpa : pa ∉ blks q [rowD rv R] := fun hm => (hne pa hm).2.1 rfl
  have hpb : pb ∉ blks q [rowD rv R] := fun hm => (hne pb hm).2.2 rfl
  have hqa : pa ≠ q := fun e => (hne q blks_head).2.1 e.symm
  have hqb : pb ≠ q := fun e => (hne q blks_head).2.2 e.symm
  have hc : Chg (blks q [rowD rv R]) wr (w2.setCell ⟨q, 2, none⟩ rv') := g3.setCell (p := ⟨q, 2, none⟩) (.inl blks_head) rv'
  have hbw : ∀ x ∈ blks q [rowD rv R], w.heap.size ≤ x := fun x hx => (hne x hx).1
  have hla := blk_lt h.ca
  have hlb := blk_lt h.cb
  refine ⟨h.chg.trans hc (fun x hx => .inr (hbw x hx)), h.lo, hc.keep h.ca hpa, hc.keep h.cb hpb, g4, fun x hx => ?_, fun y hy => ?_⟩
  · rcases g2 x hx with h1 | h1
    · exact hne x h1
    · exact ⟨Nat.le_trans h.chg.size h1, fun e => by rw [e] at h1; omega, fun e => by rw [e] at h1; omega⟩
  · have hout : ∀ g, g < wr.heap.size → g ∉ blks q [rowD rv R] → g ∉ blks q [rowD rv' (R ++ [x])] := fun g h1 h2 hm => by
      rcases g2 g hm with h3 | h3
      · exact h2 h3
      · omega
    rcases List.mem_append.1 hy with hy | hy
    · obtain ⟨k1, k2⟩ := h.keys y hy
      exact ⟨k1.chg hc (fun k hk => (k2 k hk).2.2.1), fun g hg => ⟨Nat.lt_of_lt_of_le (k2 g hg).1 hc.size, (k2 g hg).2.1, hout g (k2 g hg).1 (k2 g hg).2.2.1, (k2 g hg).2.2.2⟩⟩
    · obtain rfl : y = x := by simpa using hy
      exact ⟨hx.chg hc (fun k hk => (hxU k hk).2.2.1), fun g hg => ⟨Nat.lt_of_lt_of_le (hxU g hg).1 hc.size, (hxU g hg).2.1, hout g (hxU g hg).1 (hxU g hg).2.2.1, (hxU g hg).2.2.2⟩⟩
theorem OpenAt.done {w wr : World} {pa pb q p first : Nat} {S : List Nat} {d : DS} {rv : Value} {R : List (SRow × Value)} (h : OpenAt w wr pa pb q p first rv R) (hd : DiskAt w p S d) (hok : SS.Ok ⟨d, first, R.map (·.1)⟩) :
    ∀ w', Chg [pa, pb] wr w' → Chg [] w w' ∧ SlotsAt w' q p (S ++ blks q [rowD rv R]) ⟨d, first, R.map (·.1)⟩ ∧ ∀ x ∈ S ++ blks q [rowD rv R], x ∈ S ∨ w.heap.size ≤ x := fun w' hc => by
  have hlim : ∀ x ∈ S, x < w.heap.size := by
    obtain ⟨gn, gl, cn, cl, v, H⟩ := hd
    exact H.lim
  have hnp : ∀ x ∈ blks q [rowD rv R], x ∉ [pa, pb] := fun x hx hm => by
    rcases List.mem_cons.1 hm with h1 | h1
    · exact (h.new x hx).2.1 h1
    · exact (h.new x hx).2.2 (by simpa using h1)
  have hcw : Chg [] w w' := h.chg.trans hc (fun x hx => .inr (by
    rcases List.mem_cons.1 hx with h1 | h1
    · rw [h1]; exact h.lo.1
    · rw [show x = pb by simpa using h1]; exact h.lo.2))
  refine ⟨hcw, ⟨S, rv, R, h.obj.keep hc hnp, hd.keep hcw (by simp), rfl, fun x hx hm => ?_, fun x hx => ?_, fun x hx => List.mem_append_left _ hx, fun x hx => List.mem_append_right _ hx, fun x hx => ?_, hok⟩, fun x hx => ?_⟩
  · have a1 := (h.new x hx).1
    have a2 := hlim x hm
    omega
  · obtain ⟨k1, k2⟩ := h.keys x hx
    refine ⟨k1.chg hc (fun k hk hm => ?_), fun g hg => ⟨Nat.lt_of_lt_of_le (k2 g hg).1 hc.size, fun hm => ?_⟩⟩
    · obtain ⟨_, _, _, k3, k4⟩ := k2 k hk
      rcases List.mem_cons.1 hm with h1 | h1
      · exact k3 h1
      · exact k4 (by simpa using h1)
    · obtain ⟨_, k3, k4, _⟩ := k2 g hg
      rcases List.mem_append.1 hm with hm | hm
      · have := hlim g hm; omega
      · exact k4 hm
  · rcases List.mem_append.1 hx with hx | hx
    · exact Nat.lt_of_lt_of_le (hlim x hx) hcw.size
    · exact Nat.lt_of_lt_of_le (h.obj.lim x hx) hc.size
  · rcases List.mem_append.1 hx with hx | hx
    · exact .inl hx
    · exact .inr (h.new x hx).1
theorem facts_row : (Tryz.prog.info? 192).map (fun i => (i.zero.map (·.cells.size), i.size, i.bytes)) = some (some 3, 3, 40) := by kernel_rfl
end Go.Proofs.YtdkhmfcfihbjeaaGreatDoor.W

/- Package slot: Open. -/
namespace Go.Proofs.YtdkhmfcfihbjeaaGreatDoor.W
open Go.RowKit
set_option linter.unusedVariables false
set_option linter.unusedSimpArgs false

set_option maxHeartbeats 8000000 in
set_option maxRecDepth 100000 in
theorem sopen_bad (p : Nat) (S : List Nat) (d : DS) (first : Int) (w : World) (h : DiskAt w p S d) (hb : first < 0 ∨ (d.n : Int) < first) :
    Calls Tryz.prog 91 #[.pointer (some ⟨p, 0, none⟩), .int .i64 first] w (OpenPost p S w (d.slots first)) := by
  have hg : d.slots first = (1, none) := by unfold DS.slots; rw [if_pos hb]
  rw [hg]
  have CS := Lib.hid (fun w' (hc : Chg [] w w') => dsectors_any p S d w' (h.keep hc (by simp)))
  clear h hg
  by_cases h0 : first < 0
  · clear hb
    go_enter_defers Tryz.func91, Tryz.ntmps91
    go_wp2_with fail
    exact ⟨.tuple #[.pointer none, .int .i64 1], by simp [results, Tryz.results91, go_sem], ((Chg.refl _ _).alloc _).alloc _, rfl⟩
  · have h1 : (d.n : Int) < first := by omega
    clear hb
    go_enter_defers Tryz.func91, Tryz.ntmps91
    go_wp2_with (go_at_call 78; refine (CS.out _ ?_).mono ?_; first | exact ((Chg.refl _ _).alloc _).alloc _ | skip; rintro e w' ⟨rfl, hq⟩; subst hq)
    exact ⟨.tuple #[.pointer none, .int .i64 1], by simp [results, Tryz.results91, go_sem], ((Chg.refl _ _).alloc _).alloc _, rfl⟩

set_option maxHeartbeats 8000000 in
set_option maxRecDepth 100000 in
theorem sopen_dead (p : Nat) (S : List Nat) (d : DS) (first : Int) (w : World) (h : DiskAt w p S d) (hb : ¬ (first < 0 ∨ (d.n : Int) < first)) (hd : d.dead = true ∨ d.n = 0) :
    Calls Tryz.prog 91 #[.pointer (some ⟨p, 0, none⟩), .int .i64 first] w (OpenPost p S w (d.slots first)) := by
  have hg : d.slots first = (14, none) := by unfold DS.slots; rw [if_neg hb, if_pos hd]
  rw [hg]
  obtain ⟨w2, hw2⟩ : ∃ w2, w2 = (w.alloc (.cells #[.pointer none] 95)).alloc (.cells #[.int .i64 0] 26) := ⟨_, rfl⟩
  have hc2 : Chg [] w w2 := by rw [hw2]; exact ((Chg.refl _ _).alloc _).alloc _
  have CS := Lib.hid (dsectors_any p S d w2 (h.keep hc2 (by simp)))
  have CD := Lib.hid (ddead_any p S d w2 (h.keep hc2 (by simp)))
  have hpa : w2.heap[w.heap.size]? = some (.cells #[.pointer none] 95 (0, 0)) := by rw [hw2]; exact blk_alloc (heap_alloc_new w _)
  have hpb : w2.heap[w.heap.size + 1]? = some (.cells #[.int .i64 0] 26 (0, 0)) := by
    rw [hw2]
    have := heap_alloc_new (w.alloc (.cells #[.pointer none] 95)) (.cells #[.int .i64 0] 26)
    simpa using this
  have CP := Lib.hid (catchB_14 w.heap.size (w.heap.size + 1) _ _ [] w2 hpa hpb (by omega))
  have h0 : ¬ first < 0 := by omega
  have h1 : ¬ (d.n : Int) < first := by omega
  have hmf : ∀ (fn : Fn) (first cap : Array Value) (w : World), (Instr.makeFunc fn first cap).run Tryz.prog w = .ok (.func fn first cap) w := fun _ _ _ _ => rfl
  have HW2 := Lib.hid hw2
  have HC2 := Lib.hid hc2
  clear h hg hb hpa hpb hw2 hc2
  by_cases hdd : d.dead = true
  · rw [hdd] at CD
    clear hd hdd
    go_enter_defers Tryz.func91, Tryz.ntmps91
    go_wp2_with (first
      | (go_at_call 78; rw [← HW2.out]; refine CS.out.mono ?_; rintro e w' ⟨rfl, hq⟩; subst hq)
      | (go_at_call 78; refine CS.out.mono ?_; rintro e w' ⟨rfl, hq⟩; subst hq)
      | (go_at_call 38; refine CD.out.mono ?_; rintro e w' ⟨rfl, hq⟩; subst hq))
    refine leaves_cons (f := 134) (args := #[.pointer (some ⟨w.heap.size, 0, none⟩), .pointer (some ⟨w.heap.size + 1, 0, none⟩)]) (by simp) (by simp [go_sem]) ?_
    refine CP.out.mono ?_
    rintro e u' w'' ⟨rfl, rfl, hc, ha, hb⟩
    exact ⟨.tuple #[.pointer none, .int .i64 14], by simp [results, Tryz.results91, go_sem, blk_cell ha 0 _ rfl, blk_cell hb 0 _ rfl], HC2.out.trans hc (fun x hx => .inr (by simp at hx; omega)), rfl⟩
  · have hdn : d.n = 0 := hd.resolve_left hdd
    have hdf : d.dead = false := by simpa using hdd
    rw [hdf] at CD
    have HDN := Lib.hid hdn
    rw [hdn] at CS h1
    clear hd hdd hdn hdf
    go_enter_defers Tryz.func91, Tryz.ntmps91
    go_wp2_with (first
      | (go_at_call 78; rw [← HW2.out]; refine CS.out.mono ?_; rintro e w' ⟨rfl, hq⟩; subst hq)
      | (go_at_call 78; refine CS.out.mono ?_; rintro e w' ⟨rfl, hq⟩; subst hq)
      | (go_at_call 38; refine CD.out.mono ?_; rintro e w' ⟨rfl, hq⟩; subst hq))
    refine leaves_cons (f := 134) (args := #[.pointer (some ⟨w.heap.size, 0, none⟩), .pointer (some ⟨w.heap.size + 1, 0, none⟩)]) (by simp) (by simp [go_sem]) ?_
    refine CP.out.mono ?_
    rintro e u' w'' ⟨rfl, rfl, hc, ha, hb⟩
    exact ⟨.tuple #[.pointer none, .int .i64 14], by simp [results, Tryz.results91, go_sem, blk_cell ha 0 _ rfl, blk_cell hb 0 _ rfl], HC2.out.trans hc (fun x hx => .inr (by simp at hx; omega)), rfl⟩
end Go.Proofs.YtdkhmfcfihbjeaaGreatDoor.W

/- Package slot: Open, of a disk that lives. -/
namespace Go.Proofs.YtdkhmfcfihbjeaaGreatDoor.W
open Go.RowKit
set_option linter.unusedVariables false
set_option linter.unusedSimpArgs false

/-- 's.rows = append(s.rows, r)', the row just laid into a new block. -/
theorem wp_app_row {o : Oper} {a : Act} {K : Act → World → Prop} {Q : Exit → Act → World → Prop} (s y : Operand) (ho : o.op = .call { callee := .builtin .append, args := #[s, y], argTypes := #[188, 188] })
    {w wr : World} {pa pb q p first : Nat} {rv : Value} {R : List (SRow × Value)} (h : OpenAt w wr pa pb q p first rv R) (x : SRow × Value) (hx : BytesAt wr x.2 x.1.key) (hxU : ∀ g, x.2.ownBlock = some g → g < wr.heap.size ∧ w.heap.size ≤ g ∧ g ∉ blks q [rowD rv R] ∧ g ≠ pa ∧ g ≠ pb)
    (hl : R.length ≤ 1000000) (hs : a.eval s = rv) (hy : a.eval y = .slice (some ⟨wr.heap.size, 0, none⟩) 1 1)
    (hk : ∀ g cap w2, w2.cell? ⟨pa, 0, none⟩ = some (.pointer (some ⟨q, 0, none⟩)) → w2.cell? ⟨q, 2, none⟩ = some rv → w2.frozen? ⟨q, 2, none⟩ = false → q < w2.heap.size → Hid (OpenAt w (w2.setCell ⟨q, 2, none⟩ (.slice (some ⟨g, 0, none⟩) (R.length + 1) cap)) pa pb q p first (.slice (some ⟨g, 0, none⟩) (R.length + 1) cap) (R ++ [x])) → K (a.put o.dst (.slice (some ⟨g, 0, none⟩) (R.length + 1) cap)) w2) :
    Oper.wp Tryz.prog o a (wr.alloc (.cells (rcell x).toArray 192)) K Q := by
  obtain ⟨i, z, hi, hz, h1, h2, h3⟩ := info_three facts_row
  have hrow : wr.ownsRow 0 192 3 rv R.length (rcells R) := h.obj.rows _ (List.mem_singleton.2 rfl)
  obtain ⟨ka, kc, hkv⟩ := hx.slice
  have hrow' : (wr.alloc (.cells (rcell x).toArray 192)).ownsRow 0 192 3 rv R.length (rcells R) := hrow.alloc _
  refine wp_append_lies _ s y 188 ho 0 192 i z 3 40 Tryz.underlying188 hi hz h2 h3 h1 (by omega) rv R.length (rcells R) hs hrow' ⟨wr.heap.size, 0, none⟩ 1 1 (rcell x) hy rfl
    (fun j u hj => by rw [add_none, Nat.zero_add]; exact blk_cell (heap_alloc_new wr _) j u (by simpa using hj)) (fun u hu => by
      unfold rcell at hu
      rw [hkv] at hu
      rcases List.mem_cons.1 hu with rfl | hu
      · rfl
      · rcases List.mem_cons.1 hu with rfl | hu
        · rfl
        · obtain rfl := List.mem_singleton.1 hu
          rfl) (by omega) (by unfold maxLen; omega) (by omega) (Nat.zero_le _) _ rfl ?_
  intro g cap w2 hrow hg hat hlt
  have hg' : wr.grownBy w2 rv.ownBlock := grownBy_trans (World.grownBy_alloc wr _ _) hg
  have hkeep : ∀ k, k < wr.heap.size → rv.ownBlock ≠ some k → w2.heap[k]? = wr.heap[k]? := fun k h1 h2 => hg'.block k h1 (fun e => h2 e.symm)
  have hrb : ∀ k, rv.ownBlock = some k → k ∈ blks q [rowD rv R] := fun k hk => blks_row (r := rowD rv R) (List.mem_singleton.2 rfl) hk
  have hq := (hkeep q (blk_lt h.obj.head) (fun e => (h.obj.row_ne (r := rowD rv R) (List.mem_singleton.2 rfl) e) rfl)).trans h.obj.head
  have hpa := (hkeep pa (blk_lt h.ca) (fun e => (h.new _ (hrb _ e)).2.1 rfl)).trans h.ca
  refine hk g cap w2 (blk_cell hpa 0 _ rfl) (blk_cell hq 2 _ rfl) (blk_frozen hq 2) (blk_lt hq) (Lib.hid (h.more x hg' hrow (fun k hk => ?_) hx hxU))
  obtain rfl : g = k := by simpa [Value.ownBlock] using hk
  rcases hat with h4 | h4
  · exact .inl h4
  · exact .inr (by rw [h4]; simp)

theorem leaves_put {P : Program} {fn : Func} {R : Ending → World → Prop} (i : Nat) (v : Value) (hres : ∀ t : Array Value, results fn (t.setIfInBounds i v) = results fn t) :
    ∀ (ds : List Deferred) (u : FrameMode) (w : World) (t : Array Value), Leaves P fn (t.setIfInBounds i v) R ds u w → Leaves P fn t R ds u w := by
  intro ds
  induction ds with
  | nil =>
    intro u w t h
    cases u with
    | run => exact h
    | returning =>
      obtain ⟨x, h1, h2⟩ := h
      exact ⟨x, by rw [hres] at h1; exact h1, h2⟩
    | panicking c => exact h
  | cons d ds ih =>
    intro u w t h
    obtain ⟨h0, fv, cap, f, args, h1, h2, h3⟩ := h
    refine ⟨h0, fv, cap, f, args, h1, h2, h3.mono ?_⟩
    intro e u' w' hr
    cases e with
    | returned x => exact ih _ _ _ hr
    | panicked c => exact ih _ _ _ hr
    | outgrown => exact hr
theorem open_res (i : Nat) (v : Value) (h4 : i ≠ 4) (h5 : i ≠ 5) (t : Array Value) : results Tryz.f91 (t.setIfInBounds i v) = results Tryz.f91 t := by
  unfold results
  rw [Tryz.results91]
  simp [Array.getElem?_setIfInBounds_ne h4, Array.getElem?_setIfInBounds_ne h5]
theorem openQ {R : Ending → World → Prop} (i : Nat) (v : Value) (h4 : i ≠ 4) (h5 : i ≠ 5) (c : List PanicEntry) (a : Act) (w : World) (h : bodyPostD Tryz.prog Tryz.f91 R (.panic c) (a.put (some i) v) w) : bodyPostD Tryz.prog Tryz.f91 R (.panic c) a w :=
  leaves_put i v (open_res i v h4 h5) _ _ _ _ h

set_option maxHeartbeats 8000000 in
set_option maxRecDepth 100000 in
theorem sopen_live (p : Nat) (S : List Nat) (d : DS) (first : Nat) (w : World) (h : DiskAt w p S d) (hb : first ≤ d.n) (hd : d.dead = false) (hn : d.n ≠ 0) :
    Calls Tryz.prog 91 #[.pointer (some ⟨p, 0, none⟩), .int .i64 (first : Int)] w (OpenPost p S w (d.slots first)) := by
  have hg : d.slots first = match rowsFrom d first ((d.n - first) / 8) 0 with
      | none => (4, none)
      | some rows => (0, some ⟨d, first, rows⟩) := by
    unfold DS.slots
    rw [if_neg (by omega), if_neg (by simp [hd, hn])]
    rfl
  obtain ⟨w2, hw2⟩ : ∃ w2, w2 = (w.alloc (.cells #[.pointer none] 95)).alloc (.cells #[.int .i64 0] 26) := ⟨_, rfl⟩
  obtain ⟨w3, hw3⟩ : ∃ w3, w3 = (w2.setCell ⟨w.heap.size, 0, none⟩ (.pointer (some ⟨w.heap.size + 2, 0, none⟩))).alloc (.cells #[.pointer (some ⟨p, 0, none⟩), .int .i64 (first : Int), .slice none 0 0] 190) := ⟨_, rfl⟩
  have hc2 : Chg [] w w2 := by rw [hw2]; exact ((Chg.refl _ _).alloc _).alloc _
  have CS := Lib.hid (fun w' (hc : Chg [] w w') => dsectors_any p S d w' (h.keep hc (by simp)))
  have CD := Lib.hid (ddead_any p S d w2 (h.keep hc2 (by simp)))
  have CR := Lib.hid (fun k w' (hc : Chg [] w w') => dread_any p S d k w' (h.keep hc (by simp)))
  have hs2 : w2.heap.size = w.heap.size + 2 := by rw [hw2]; simp
  have hpa : w2.heap[w.heap.size]? = some (.cells #[.pointer none] 95 (0, 0)) := by rw [hw2]; exact blk_alloc (heap_alloc_new w _)
  have hpb : w2.heap[w.heap.size + 1]? = some (.cells #[.int .i64 0] 26 (0, 0)) := by
    rw [hw2]
    have := heap_alloc_new (w.alloc (.cells #[.pointer none] 95)) (.cells #[.int .i64 0] 26)
    simpa using this
  have hs2' : (w2.setCell ⟨w.heap.size, 0, none⟩ (.pointer (some ⟨w.heap.size + 2, 0, none⟩))).heap.size = w.heap.size + 2 := by rw [← hs2]; simp [World.setCell]
  have hq2 : ((w2.setCell ⟨w.heap.size, 0, none⟩ (.pointer (some ⟨w.heap.size + 2, 0, none⟩))).alloc (.cells #[.pointer (some ⟨p, 0, none⟩), .int .i64 (first : Int), .slice none 0 0] 190)).heap[w.heap.size + 2]? = some (.cells #[.pointer (some ⟨p, 0, none⟩), .int .i64 (first : Int), .slice none 0 0] 190 (0, 0)) := by
    have h1 := heap_alloc_new (w2.setCell ⟨w.heap.size, 0, none⟩ (.pointer (some ⟨w.heap.size + 2, 0, none⟩))) (.cells #[.pointer (some ⟨p, 0, none⟩), .int .i64 (first : Int), .slice none 0 0] 190)
    rw [hs2'] at h1
    exact h1
  have HO3 : Hid (OpenAt w w3 w.heap.size (w.heap.size + 1) (w.heap.size + 2) p first (.slice none 0 0) []) := Lib.hid (by
    rw [hw3]
    refine ⟨((hc2.setCell (p := ⟨w.heap.size, 0, none⟩) (.inr (Nat.le_refl _)) _).alloc _), ⟨Nat.le_refl _, by omega⟩, blk_alloc (set_blk hpa), blk_alloc (blk_sets hpb (by omega)), ⟨hq2, fun r hr => ?_, by simp [blks, rowD, Value.ownBlock]⟩, fun x hx => ?_, fun x hx => by cases hx⟩
    · obtain rfl : r = rowD (.slice none 0 0) [] := by simpa using hr
      exact ⟨rfl, .inl ⟨rfl, rfl⟩⟩
    · have : x = w.heap.size + 2 := by simpa [blks, rowD, Value.ownBlock] using hx
      omega)
  have hfew : d.n ≤ 4160 := by
    obtain ⟨gn, gl, cn, cl, v, hd⟩ := h
    exact hd.few
  have hlen64 : Hid (∀ k, k < d.n → (d.now k).length = 64) := Lib.hid (by
    obtain ⟨gn, gl, cn, cl, v, hd⟩ := h
    exact fun k hk => hd.now.len k hk)
  have h0 : ¬ (first : Int) < 0 := by omega
  have h1 : ¬ (d.n : Int) < (first : Int) := by omega
  have hnz : ¬ (d.n : Int) = 0 := by omega
  have hnz1 : ((d.n : Int) == 0) = false := by simp [hn]
  have hmf : ∀ (fn : Fn) (first cap : Array Value) (w : World), (Instr.makeFunc fn first cap).run Tryz.prog w = .ok (.func fn first cap) w := fun _ _ _ _ => rfl
  have HDK := Lib.hid h
  have HW2 := Lib.hid hw2
  have HW3 := Lib.hid hw3
  have HC2 := Lib.hid hc2
  have f0 := blk_frozen hpa 0
  have a0 := blk_cell hpa 0 _ rfl
  have l0 := blk_lt hpa
  have hw2z := hs2
  have HG := Lib.hid hg
  rw [hd] at CD
  have HD := Lib.hid hd
  have HPA := Lib.hid hpa
  have HPB := Lib.hid hpb
  obtain ⟨Z, hZ⟩ : ∃ Z, Z = d.slots first := ⟨_, rfl⟩
  rw [← hZ] at HG ⊢
  obtain ⟨m, hm⟩ : ∃ m, m = (d.n - first) / 8 := ⟨_, rfl⟩
  rw [← hm] at HG
  obtain ⟨n, hnn⟩ : ∃ n, n = d.n := ⟨_, rfl⟩
  have HN := Lib.hid hnn
  rw [← hnn] at h1 hnz hnz1 hfew hb CS hm
  have hm8 : first + 8 * m ≤ n ∧ n < first + 8 * m + 8 := by omega
  clear h hg hw2 hw3 hc2 hpa hpb hq2 hs2' hd hZ hn hnn hm
  go_enter_defers Tryz.func91, Tryz.ntmps91
  go_wp2_with (first
      | (go_at_call 78; rw [← HW2.out]; refine (CS.out _ HC2.out).mono ?_; rintro e w' ⟨rfl, hq⟩; subst hq)
      | (go_at_call 78; refine (CS.out _ HC2.out).mono ?_; rintro e w' ⟨rfl, hq⟩; subst hq)
      | (go_at_call 38; refine CD.out.mono ?_; rintro e w' ⟨rfl, hq⟩; subst hq))
  rw [← HW3.out]
  go_loopg [6] m (fun g' s6 wr => ∃ (k : Nat) (rv : Value) (R : List (SRow × Value)), s6 = .int .i64 ((first + 8 * k : Nat) : Int) ∧ k ≤ m ∧ m ≤ k + g' ∧ Hid (OpenAt w wr w.heap.size (w.heap.size + 1) (w.heap.size + 2) p first rv R ∧ R.length = k ∧ rowsFrom d first m 0 = (rowsFrom d first (m - k) k).map (R.map (·.1) ++ ·)))
  case atStart => exact ⟨0, .slice none 0 0, [], by simp, by omega, by omega, Lib.hid ⟨HO3.out, rfl, by simp⟩⟩
  case round =>
    obtain ⟨k, rv, R, rfl, hk, hkg, HR⟩ := hrel
    obtain ⟨hO, hRl, hrows⟩ := HR.out
    have HO := Lib.hid hO
    have HROWS := Lib.hid hrows
    have CSr := Lib.hid (CS.out wr hO.chg)
    clear hO hrows f0 a0 l0 HR
    have hk8 : first + 8 * k ≤ 4160 := by omega
    have hwr : Hid (IntKind.i64.wrap (((first + 8 * k : Nat) : Int) + 8) = ((first + 8 * k + 8 : Nat) : Int)) := Lib.hid (by rw [IntWalk.i64_in _ ⟨by omega, by omega⟩]; push_cast; omega)
    by_cases hlt : k < m
    · have hle : (first : Int) + 8 * (k : Int) + 8 ≤ (n : Int) := by omega
      go_wp2_with (go_at_call 78; refine CSr.out.mono ?_; rintro e w' ⟨rfl, hq⟩; subst hq)
      have hlen := hlen64.out (first + 8 * k) (by rw [← HN.out]; omega)
      have HLEN := Lib.hid hlen
      refine (CR.out _ wr HO.out.chg).mono ?_
      rintro e w4 ⟨he, hc4⟩
      rw [if_neg (by rw [HD.out]; simp), if_pos ⟨by omega, by rw [← HN.out]; omega⟩] at he
      obtain ⟨v4, rfl, hr4, hn4⟩ := he
      rw [show ((first : Int) + 8 * (k : Int)).toNat = first + 8 * k by omega] at hr4
      have HO4 := Lib.hid (HO.out.keep hc4)
      have CH := Lib.hid (head_any v4 (d.now (first + 8 * k)) w4.drew (hr4.bytes.chg (by exact (Chg.refl [] w4).drew) (by simp)) (by rw [hlen]; omega))
      obtain ⟨a4, c4, hv4⟩ := hr4.bytes.slice
      rw [hlen] at hv4
      obtain ⟨b4, hb4⟩ : ∃ b4, b4 = d.now (first + 8 * k) := ⟨_, rfl⟩
      have HB4 := Lib.hid hb4
      rw [← hb4] at CH
      subst hv4
      clear hlen hr4 hn4 hc4 hb4
      have a0 := blk_cell HO4.out.ca 0 _ rfl
      have a1 := blk_cell HO4.out.obj.head 2 _ rfl
      go_wp2_with (go_at_call 135; refine (must_ok _).mono ?_; rintro e w' ⟨rfl, hq⟩; subst hq)
      refine wp_region_L [(11, fun w' => w'.cell? ⟨w.heap.size, 0, none⟩ = some (.pointer (some ⟨w.heap.size + 2, 0, none⟩))), (11, fun w' => w'.cell? ⟨w.heap.size + 2, 2, none⟩ = some rv)] (by kernel_rfl) ?_ (fun hHeld => ?_)
      · exact (HoldC.cons (a0) (HoldC.cons (a1) HoldC.nil))
      refine wpAnyL_load 0 (i := 0) (oi := _) (v := ?_) rfl rfl (by kernel_rfl) (by kernel_rfl) (by kernel_rfl) (by kernel_rfl) (by kernel_rfl) (by kernel_rfl) (by intro c a w hq; refine openQ _ _ ?_ ?_ c a w hq <;> decide) (Or.inl ⟨by rfl, ?_⟩) (by assumption) (fun hNew => ?_)
      rotate_left
      · intro w hSw
        (try dsimp only at hSw)
        go_simp
        try with_reducible rfl
      clear hHeld
      have hHeld := hNew
      clear hNew
      try simp only [List.getElem_toArray, List.getElem_cons_succ, List.getElem_cons_zero, Act.put, List.setIfInBounds_toArray, List.set_cons_zero, List.set_cons_succ]
      refine wpAnyL_load 0 (i := 1) (oi := _) (v := ?_) rfl rfl (by kernel_rfl) (by kernel_rfl) (by kernel_rfl) (by kernel_rfl) (by kernel_rfl) (by kernel_rfl) (by intro c a w hq; refine openQ _ _ ?_ ?_ c a w hq <;> decide) (Or.inl ⟨by rfl, ?_⟩) (by assumption) (fun hNew => ?_)
      rotate_left
      · intro w hSw
        (try dsimp only at hSw)
        go_simp
        try with_reducible rfl
      clear hHeld
      have hHeld := hNew
      clear hNew
      try simp only [List.getElem_toArray, List.getElem_cons_succ, List.getElem_cons_zero, Act.put, List.setIfInBounds_toArray, List.set_cons_zero, List.set_cons_succ]
      refine wpAnyL_take (i := 2) (oi := _) (v := ?_) rfl (by kernel_rfl) (by kernel_rfl) (by kernel_rfl) (by kernel_rfl) (by kernel_rfl) (by intro c a w hq; refine openQ _ _ ?_ ?_ c a w hq <;> decide) (Or.inl ⟨by rfl, ?_⟩) (by assumption) (fun hNew => ?_)
      rotate_left
      · intro w _
        go_simp
        try with_reducible rfl
      clear hHeld
      have hHeld := hNew
      clear hNew
      try simp only [List.getElem_toArray, List.getElem_cons_succ, List.getElem_cons_zero, Act.put, List.setIfInBounds_toArray, List.set_cons_zero, List.set_cons_succ]
      refine wpAnyL_take (i := 3) (oi := _) (v := ?_) rfl (by kernel_rfl) (by kernel_rfl) (by kernel_rfl) (by kernel_rfl) (by kernel_rfl) (by intro c a w hq; refine openQ _ _ ?_ ?_ c a w hq <;> decide) (Or.inl ⟨by rfl, ?_⟩) (by assumption) (fun hNew => ?_)
      rotate_left
      · intro w _
        go_simp
        try with_reducible rfl
      clear hHeld
      have hHeld := hNew
      clear hNew
      try simp only [List.getElem_toArray, List.getElem_cons_succ, List.getElem_cons_zero, Act.put, List.setIfInBounds_toArray, List.set_cons_zero, List.set_cons_succ]
      refine wpAnyL_load 1 (i := 4) (oi := _) (v := ?_) rfl rfl (by kernel_rfl) (by kernel_rfl) (by kernel_rfl) (by kernel_rfl) (by kernel_rfl) (by kernel_rfl) (by intro c a w hq; refine openQ _ _ ?_ ?_ c a w hq <;> decide) (Or.inl ⟨by rfl, ?_⟩) (by assumption) (fun hNew => ?_)
      rotate_left
      · intro w hSw
        (try dsimp only at hSw)
        go_simp
        try with_reducible rfl
      clear hHeld
      have hHeld := hNew
      clear hNew
      try simp only [List.getElem_toArray, List.getElem_cons_succ, List.getElem_cons_zero, Act.put, List.setIfInBounds_toArray, List.set_cons_zero, List.set_cons_succ]
      refine wpAnyL_take (i := 5) (oi := _) (v := ?_) rfl (by kernel_rfl) (by kernel_rfl) (by kernel_rfl) (by kernel_rfl) (by kernel_rfl) (by intro c a w hq; refine openQ _ _ ?_ ?_ c a w hq <;> decide) (Or.inl ⟨by rfl, ?_⟩) (by assumption) (fun hNew => ?_)
      rotate_left
      · intro w _
        go_simp
        try with_reducible rfl
      clear hHeld
      have hHeld := hNew
      clear hNew
      try simp only [List.getElem_toArray, List.getElem_cons_succ, List.getElem_cons_zero, Act.put, List.setIfInBounds_toArray, List.set_cons_zero, List.set_cons_succ]
      refine wpAnyL_ready (rs := [6]) (by kernel_rfl) (by simp) ?_
      refine AllReadyL.cons (o := _) rfl (fun K hK => ?_) AllReadyL.nil
      try simp only [List.getElem_toArray, List.getElem_cons_succ, List.getElem_cons_zero]
      go_simp
      refine CH.out.mono ?_
      rintro e w5 ⟨hc5, hh⟩
      have HO5 := Lib.hid (HO4.out.keep ((by exact (Chg.refl [] w4).drew : Chg [] w4 w4.drew).trans hc5 (by simp)))
      have hc5' : Chg [] w4 w5 := (by exact (Chg.refl [] w4).drew : Chg [] w4 w4.drew).trans hc5 (by simp)
      cases hhd : headOf b4 with
      | none =>
        rw [hhd] at hh
        obtain ⟨x, rfl, hx⟩ := hh
        have HZ : Hid (Z = (4, none)) := Lib.hid (by
          rw [HG.out, HROWS.out, show m - k = (m - (k + 1)) + 1 by omega]
          unfold rowsFrom
          rw [← HB4.out, hhd]
          rfl)
        have CP := Lib.hid (catchB_x w.heap.size (w.heap.size + 1) x hx _ _ [] w5 HO5.out.ca HO5.out.cb (by omega))
        unfold broke
        refine leaves_cons (f := 134) (args := #[.pointer (some ⟨w.heap.size, 0, none⟩), .pointer (some ⟨w.heap.size + 1, 0, none⟩)]) (by simp) (by simp [go_sem]) ?_
        refine CP.out.mono ?_
        rintro e u' w'' ⟨rfl, rfl, hc, ha, hb⟩
        refine ⟨.tuple #[.pointer none, .int .i64 4], by simp [results, Tryz.results91, go_sem, blk_cell ha 0 _ rfl, blk_cell hb 0 _ rfl], ?_⟩
        rw [HZ.out]
        exact ⟨HO5.out.chg.trans hc (fun x hx => .inr (by simp at hx; omega)), rfl⟩
      | some r =>
        rw [hhd] at hh
        obtain ⟨kv, rfl, hr5, ho5⟩ := hh
        have hxU : ∀ g, kv.ownBlock = some g → g < w5.heap.size ∧ w.heap.size ≤ g ∧ g ∉ blks (w.heap.size + 2) [rowD rv R] ∧ g ≠ w.heap.size ∧ g ≠ w.heap.size + 1 := fun g hg => by
          have e1 := ho5 g hg
          have e2 : w4.drew.heap.size = w4.heap.size := rfl
          have e3 := blk_lt HO4.out.cb
          have e4 := HO4.out.chg.size
          refine ⟨hr5.lt g hg, by omega, fun hm => ?_, by omega, by omega⟩
          have := HO4.out.obj.lim g hm
          omega
        have HXU := Lib.hid hxU
        have HBX := Lib.hid hr5.bytes
        obtain ⟨iw, zw, hiw, hzw1, hzw2, hzw3, hzw4⟩ := info_three facts_row
        have HIW := Lib.hid hiw
        have HZ1 := Lib.hid hzw1
        have HZ3 : Hid (iw.size = (rcell (r, kv)).toArray.size) := Lib.hid (by rw [hzw3]; rfl)
        have HWS : Hid ((rcell (r, kv)).toArray.size = 3) := Lib.hid rfl
        have HRC : Hid (rowsFrom d first m 0 = (rowsFrom d first (m - (k + 1)) (k + 1)).map ((R ++ [(r, kv)]).map (·.1) ++ ·)) := Lib.hid (by
          rw [HROWS.out, show m - k = (m - (k + 1)) + 1 by omega]
          conv => lhs; unfold rowsFrom
          rw [← HB4.out, hhd]
          dsimp only
          rw [Option.map_map]
          congr 1
          funext t
          simp)
        clear hhd hxU hr5 ho5 hc5 hc5' hiw hzw1 hzw2 hzw3 hzw4 CH HB4 HLEN
        have a5 := blk_cell HO5.out.ca 0 _ rfl
        have b5 := blk_cell HO5.out.obj.head 2 _ rfl
        try go_wp2_with fail
        clear hHeld
        refine hK.out _ _ ?_ (fun hHeld => ?_)
        · exact (HoldC.cons (a5) (HoldC.cons (b5) HoldC.nil))
        clear hK K
        try simp only [List.getElem_toArray, List.getElem_cons_succ, List.getElem_cons_zero, Act.put, List.setIfInBounds_toArray, List.set_cons_zero, List.set_cons_succ]
        refine wpAnyL_ready (rs := [7]) (by kernel_rfl) (by simp) ?_
        refine AllReadyL.cons (o := _) rfl (fun K hK => ?_) AllReadyL.nil
        try simp only [List.getElem_toArray, List.getElem_cons_succ, List.getElem_cons_zero]
        rw [if_pos (by rfl)]
        refine wp_slice1 188 192 (.tmp 57) (by rfl) (rcell (r, kv)).toArray (by rfl) iw zw Tryz.underlying188 HIW.out HZ1.out HZ3.out (by rw [HWS.out]; omega) (by rw [HWS.out]; omega) ?_
        clear hHeld
        refine hK.out _ _ ?_ (fun hHeld => ?_)
        · exact (HoldC.cons ((blk_cell (blk_alloc HO5.out.ca) 0 _ rfl)) (HoldC.cons ((blk_cell (blk_alloc HO5.out.obj.head) 2 _ rfl)) HoldC.nil))
        clear hK K
        try simp only [List.getElem_toArray, List.getElem_cons_succ, List.getElem_cons_zero, Act.put, List.setIfInBounds_toArray, List.set_cons_zero, List.set_cons_succ]
        refine wpAnyL_ready (rs := [8]) (by kernel_rfl) (by simp) ?_
        refine AllReadyL.cons (o := _) rfl (fun K hK => ?_) AllReadyL.nil
        try simp only [List.getElem_toArray, List.getElem_cons_succ, List.getElem_cons_zero]
        rw [if_pos (by rfl)]
        refine wp_app_row (.tmp 55) (.tmp 58) (by rfl) HO5.out (r, kv) HBX.out HXU.out (by omega) (by rfl) (by rfl) ?_
        intro g2 cap2 w6 ea eb ef el HO6
        clear hHeld
        refine hK.out _ _ ?_ (fun hHeld => ?_)
        · exact (HoldC.cons (ea) (HoldC.cons (eb) HoldC.nil))
        clear hK K
        try simp only [List.getElem_toArray, List.getElem_cons_succ, List.getElem_cons_zero, Act.put, List.setIfInBounds_toArray, List.set_cons_zero, List.set_cons_succ]
        refine wpAnyL_take (i := 9) (oi := _) (v := ?_) rfl (by kernel_rfl) (by kernel_rfl) (by kernel_rfl) (by kernel_rfl) (by kernel_rfl) (by intro c a w hq; refine openQ _ _ ?_ ?_ c a w hq <;> decide) (Or.inl ⟨by rfl, ?_⟩) (by assumption) (fun hNew => ?_)
        rotate_left
        · intro w _
          go_simp
          try with_reducible rfl
        clear hHeld
        have hHeld := hNew
        clear hNew
        try simp only [List.getElem_toArray, List.getElem_cons_succ, List.getElem_cons_zero, Act.put, List.setIfInBounds_toArray, List.set_cons_zero, List.set_cons_succ]
        refine wpAnyL_take (i := 10) (oi := _) (v := ?_) rfl (by kernel_rfl) (by kernel_rfl) (by kernel_rfl) (by kernel_rfl) (by kernel_rfl) (by intro c a w hq; refine openQ _ _ ?_ ?_ c a w hq <;> decide) (Or.inl ⟨by rfl, ?_⟩) (by assumption) (fun hNew => ?_)
        rotate_left
        · intro w _
          go_simp
          try with_reducible rfl
        clear hHeld
        have hHeld := hNew
        clear hNew
        try simp only [List.getElem_toArray, List.getElem_cons_succ, List.getElem_cons_zero, Act.put, List.setIfInBounds_toArray, List.set_cons_zero, List.set_cons_succ]
        refine wpAnyL_ready (rs := [11]) (by kernel_rfl) (by simp) ?_
        refine AllReadyL.cons (o := _) rfl (fun K hK => ?_) AllReadyL.nil
        try simp only [List.getElem_toArray, List.getElem_cons_succ, List.getElem_cons_zero]
        go_simp
        clear hHeld
        refine hK.out _ _ ?_ (fun hHeld => ?_)
        · exact (HoldC.past (by kernel_rfl) (HoldC.past (by kernel_rfl) HoldC.nil))
        clear hK K
        try simp only [List.getElem_toArray, List.getElem_cons_succ, List.getElem_cons_zero, Act.put, List.setIfInBounds_toArray, List.set_cons_zero, List.set_cons_succ]
        refine wpAnyL_done (by kernel_rfl) ?_ _
        clear hHeld
        rw [hRl] at HO6
        generalize w6.setCell ⟨w.heap.size + 2, 2, none⟩ (.slice (some ⟨g2, 0, none⟩) (k + 1) cap2) = w7 at *
        clear ea eb ef el a0 a1 a5 b5
        have hw8 : IntKind.i64.wrap ((first : Int) + 8 * (k : Int) + 8) = ((first + 8 * (k + 1) : Nat) : Int) := by rw [IntWalk.i64_in _ ⟨by omega, by omega⟩]; push_cast; omega
        have HW8 := Lib.hid hw8
        clear hw8
        go_wp2
        go_roundg (gk - 1)
        case measure => omega
        case rel => exact ⟨k + 1, _, R ++ [(r, kv)], by first | rfl | rw [HW8.out] | (push_cast; congr 1; omega), by omega, by omega, Lib.hid ⟨HO6.out, by simp [hRl], HRC.out⟩⟩
    · have hkm : k = m := by omega
      have hle : ¬ (first : Int) + 8 * (m : Int) + 8 ≤ (n : Int) := by omega
      obtain rfl := hkm.symm
      have HZ : Hid (Z = (0, some ⟨d, first, R.map (·.1)⟩)) := Lib.hid (by
        rw [HG.out, HROWS.out, Nat.sub_self]
        simp [rowsFrom])
      have HROK : Hid (rowsFrom d first m 0 = some (R.map (·.1))) := Lib.hid (by rw [HROWS.out, Nat.sub_self]; simp [rowsFrom])
      have a0 := blk_cell HO.out.ca 0 _ rfl
      have f0 := blk_frozen HO.out.ca 0
      have b0 := blk_cell HO.out.cb 0 _ rfl
      have g0 := blk_frozen HO.out.cb 0
      have l0 := blk_lt HO.out.ca
      have l1 := blk_lt HO.out.cb
      have l2 : ¬ (w.heap.size = w.heap.size + 1) := by omega
      have HD1 := Lib.hid (HO.out.done HDK.out ⟨by show first + 8 * (R.map (·.1)).length ≤ d.n; rw [List.length_map, hRl, ← HN.out]; omega, (rowsFrom_len _ _ _ HROK.out).2⟩)
      clear hkm hRl
      go_wp2_with (go_at_call 78; refine CSr.out.mono ?_; rintro e w' ⟨rfl, hq⟩; subst hq)
      refine leaves_cons (f := 134) (args := #[.pointer (some ⟨w.heap.size, 0, none⟩), .pointer (some ⟨w.heap.size + 1, 0, none⟩)]) (by simp) (by simp [go_sem]) ?_
      refine (catchB_idle _ _ _).mono ?_
      rintro e u' w'' ⟨rfl, rfl, rfl⟩
      obtain ⟨w9, hw9⟩ : ∃ w9, w9 = (wr.setCell ⟨w.heap.size, 0, none⟩ (.pointer (some ⟨w.heap.size + 2, 0, none⟩))).setCell ⟨w.heap.size + 1, 0, none⟩ (.int .i64 0) := ⟨_, rfl⟩
      have hc9 : Chg [w.heap.size, w.heap.size + 1] wr w9 := by rw [hw9]; exact ((Chg.refl _ wr).setCell (p := ⟨w.heap.size, 0, none⟩) (.inl (by simp)) _).setCell (p := ⟨w.heap.size + 1, 0, none⟩) (.inl (by simp)) _
      have ca9 : w9.heap[w.heap.size]? = some (.cells #[.pointer (some ⟨w.heap.size + 2, 0, none⟩)] 95 (0, 0)) := by rw [hw9]; exact blk_sets (set_blk HO.out.ca) (by omega)
      have cb9 : w9.heap[w.heap.size + 1]? = some (.cells #[.int .i64 0] 26 (0, 0)) := by rw [hw9]; exact set_blk (blk_sets HO.out.cb (by omega))
      rw [← hw9]
      obtain ⟨k1, k2, k3⟩ := HD1.out _ (hc9.alloc (.cells #[.int .i64 0] 186))
      refine ⟨.tuple #[.pointer (some ⟨w.heap.size + 2, 0, none⟩), .int .i64 0], by simp [results, Tryz.results91, go_sem, blk_cell (blk_alloc (o' := .cells #[.int .i64 0] 186) ca9) 0 _ rfl, blk_cell (blk_alloc (o' := .cells #[.int .i64 0] 186) cb9) 0 _ rfl], ?_⟩
      rw [HZ.out]
      exact ⟨k1, _, _, rfl, k2, k3⟩

/-- Open. -/
theorem sopen_any (p : Nat) (S : List Nat) (d : DS) (first : Int) (w : World) (h : DiskAt w p S d) : Calls Tryz.prog 91 #[.pointer (some ⟨p, 0, none⟩), .int .i64 first] w (OpenPost p S w (d.slots first)) := by
  by_cases hb : first < 0 ∨ (d.n : Int) < first
  · exact sopen_bad p S d first w h hb
  · by_cases hd : d.dead = true ∨ d.n = 0
    · exact sopen_dead p S d first w h hb hd
    · obtain ⟨f, rfl⟩ := Int.eq_ofNat_of_zero_le (show 0 ≤ first by omega)
      exact sopen_live p S d f w h (by omega) (by simpa using fun h => hd (.inl h)) (fun h => hd (.inr h))
end Go.Proofs.YtdkhmfcfihbjeaaGreatDoor.W

/- Slots on a disk that lives: what Put and Clear leave, plainly. -/
namespace Go.Proofs.YtdkhmfcfihbjeaaGreatDoor.W
set_option linter.unusedVariables false
set_option linter.unusedSimpArgs false

def DS.Live (d : DS) : Prop := d.dead = false ∧ d.fuse < 0
theorem DS.write_live {d : DS} (hd : d.Live) (k : Nat) (b : List UInt8) (hk : k < d.n) (hb : b.length = 64) : (d.write (k : Int) b).1 = 0 ∧ (d.write (k : Int) b).2.Live ∧ (d.write (k : Int) b).2.n = d.n ∧ (d.write (k : Int) b).2.now = upd d.now k b := by
  obtain ⟨h1, h2⟩ := hd
  have h3 : ¬ d.fuse = 0 := by omega
  have h4 : ¬ (0 : Int) < d.fuse := by omega
  unfold DS.write DS.op
  simp [h1, h3, h4, hb, hk, DS.Live]
  omega
theorem DS.sync_live {d : DS} (hd : d.Live) : (d.sync).1 = 0 ∧ (d.sync).2.Live ∧ (d.sync).2.n = d.n ∧ (d.sync).2.now = d.now ∧ (d.sync).2.since = [] := by
  obtain ⟨h1, h2⟩ := hd
  have h3 : ¬ d.fuse = 0 := by omega
  have h4 : ¬ (0 : Int) < d.fuse := by omega
  unfold DS.sync DS.op
  simp [h1, h3, h4, DS.Live]
  omega
theorem DS.lay_live (pos : Nat) (b : List UInt8) : ∀ (k j : Nat) (d : DS), d.Live → pos + j + k ≤ d.n → (d.lay pos b k j).1 = 0 ∧ (d.lay pos b k j).2.Live ∧ (d.lay pos b k j).2.n = d.n ∧ (∀ i, (d.lay pos b k j).2.now i = if pos + j ≤ i ∧ i < pos + j + k then secAt b (i - pos) else d.now i) ∧ (d.lay pos b k j).2.since = [] := by
  intro k
  induction k with
  | zero =>
    intro j d hd hn
    obtain ⟨h1, h2, h3, h4, h5⟩ := d.sync_live hd
    exact ⟨h1, h2, h3, fun i => by rw [if_neg (by omega)]; show (d.sync).2.now i = _; rw [h4], h5⟩
  | succ k ih =>
    intro j d hd hn
    obtain ⟨h1, h2, h3, h4⟩ := DS.write_live hd (pos + j) (secAt b j) (by omega) (secAt_len b j)
    obtain ⟨i1, i2, i3, i4, i5⟩ := ih (j + 1) _ h2 (by rw [h3]; omega)
    unfold DS.lay
    rw [if_neg (by rw [h1]; simp)]
    refine ⟨i1, i2, by rw [i3, h3], fun i => ?_, i5⟩
    rw [i4, h4]
    unfold upd
    by_cases hi : i = pos + j
    · subst hi
      rw [if_neg (by omega), if_pos rfl, if_pos (by omega)]
      congr 1
      omega
    · rw [if_neg hi]
      by_cases hm : pos + (j + 1) ≤ i ∧ i < pos + (j + 1) + k
      · rw [if_pos hm, if_pos (by omega)]
      · rw [if_neg hm, if_neg (by omega)]
theorem DS.lays_live {d : DS} (pos : Nat) (b : List UInt8) (hd : d.Live) (hn : pos + nsec b.length ≤ d.n) : (d.lays pos b).1 = 0 ∧ (d.lays pos b).2.Live ∧ (d.lays pos b).2.n = d.n ∧ (∀ i, (d.lays pos b).2.now i = if pos ≤ i ∧ i < pos + nsec b.length then secAt b (i - pos) else d.now i) ∧ (d.lays pos b).2.since = [] :=
  DS.lay_live pos b _ 0 d hd hn

theorem beNum_two (n : Nat) (hn : n < 65536) : beNum (beBytes 2 n) = n := by
  simp [beBytes, beNum, UInt8.toNat_ofNat']
  omega
theorem allZ_zeros (n : Nat) : allZ (zeros n) = true := by simp [allZ, zeros]
theorem head_back (n : Nat) (key : List UInt8) (hn : n ≤ 448) (hk : key.length ≤ 40) : headOf (secAt (headBytes n key) 0) = some ⟨true, n, key⟩ := by
  have hl := headBytes_len n key hn hk
  have hs : secAt (headBytes n key) 0 = 1 :: (beBytes 2 n ++ (beBytes 2 key.length ++ (key ++ zeros (64 - (5 + key.length))))) := by
    unfold secAt
    rw [Nat.zero_mul, List.drop_zero, List.take_of_length_le (by omega), hl, head_h3, h3_eq n key hn hk]
    simp
  obtain ⟨z, hz⟩ : ∃ z, z = zeros (64 - (5 + key.length)) := ⟨_, rfl⟩
  have hzz : allZ z = true := by rw [hz]; exact allZ_zeros _
  rw [hs, ← hz]
  have e1 : eyeNum (1 :: (beBytes 2 n ++ (beBytes 2 key.length ++ (key ++ z)))) 0 1 = (1, beBytes 2 n ++ (beBytes 2 key.length ++ (key ++ z)), 0) := by
    unfold eyeNum
    rw [if_neg (by simp), if_neg (by simp)]
    rfl
  have e2 : eyeNum (beBytes 2 n ++ (beBytes 2 key.length ++ (key ++ z))) 0 2 = ((n : Int), beBytes 2 key.length ++ (key ++ z), 0) := by
    unfold eyeNum
    rw [if_neg (by simp), if_neg (by simp [beBytes_len]), List.take_left' (beBytes_len 2 n), List.drop_left' (beBytes_len 2 n), beNum_two n (by omega)]
  have e3 : eyeRaw (beBytes 2 key.length ++ (key ++ z)) 0 40 = (key, z, 0) := by
    unfold eyeRaw
    rw [if_neg (by simp), if_neg (by simp [beBytes_len]), List.take_left' (beBytes_len 2 _), List.drop_left' (beBytes_len 2 _), beNum_two _ (by omega), if_neg (by omega), if_neg (by simp), List.take_left' rfl, List.drop_left' rfl]
  unfold headOf
  rw [if_neg (by simp [allZ]), e1]
  dsimp only
  rw [e2]
  dsimp only
  rw [e3]
  dsimp only
  rw [if_neg (by simp [hzz]; omega)]
  simp
theorem head_none : headOf (secAt (zeros 64) 0) = some noRow := by rfl
theorem flat_full (b : List UInt8) : ∀ m, m * 64 ≤ b.length → flat m (secAt b) = b.take (m * 64) := by
  intro m
  induction m with
  | zero => intro _; simp [flat]
  | succ m ih =>
    intro h
    rw [flat_succ, ih (by omega)]
    unfold secAt
    have hl : ((b.drop (m * 64)).take 64).length = 64 := by rw [List.length_take, List.length_drop]; omega
    rw [hl]
    simp only [zeros, Nat.sub_self, List.replicate_zero, List.append_nil]
    rw [show (m + 1) * 64 = m * 64 + 64 by omega, List.take_add]
theorem flat_back (b : List UInt8) : (flat (nsec b.length) (secAt b)).take b.length = b := by
  by_cases h : b.length % 64 = 0
  · have hm : nsec b.length * 64 = b.length := by unfold nsec; omega
    rw [flat_full b _ (by omega), hm, List.take_length, List.take_length]
  · obtain ⟨m, hm⟩ : ∃ m, nsec b.length = m + 1 := ⟨nsec b.length - 1, by unfold nsec; omega⟩
    have hm1 : m * 64 ≤ b.length ∧ b.length < (m + 1) * 64 := by unfold nsec at hm; omega
    rw [hm, flat_succ, flat_full b m hm1.1]
    unfold secAt
    have hl : (b.drop (m * 64)).take 64 = b.drop (m * 64) := List.take_of_length_le (by rw [List.length_drop]; omega)
    rw [hl, ← List.append_assoc, List.take_append_drop, List.take_left' rfl]
theorem flat_congr (m : Nat) (f g : Nat → List UInt8) (h : ∀ k, k < m → f k = g k) : flat m f = flat m g := by
  induction m with
  | zero => rfl
  | succ m ih => rw [flat_succ, flat_succ, ih (fun k hk => h k (by omega)), h m (by omega)]

/-- Slots on a disk that lives, each told: used or not, and what it holds. -/
structure Told (s : SS) (u : Nat → Bool) (v : Nat → List UInt8) : Prop where
  live : s.d.Live
  room : s.first + 8 * s.rows.length ≤ s.d.n
  head : ∀ k, k < s.rows.length → headOf (s.d.now (s.first + 8 * k)) = some (s.rows.getD k noRow)
  used : ∀ k, k < s.rows.length → (s.rows.getD k noRow).used = u k
  data : ∀ k, k < s.rows.length → u k = true → s.data (k : Int) = v k
theorem Told.small {s : SS} {u : Nat → Bool} {v : Nat → List UInt8} (h : Told s u v) (k : Nat) (hk : k < s.rows.length) : (s.rows.getD k noRow).n ≤ 448 := (headOf_ok (h.head k hk)).1
theorem Told.get {s : SS} {u : Nat → Bool} {v : Nat → List UInt8} (h : Told s u v) (k : Nat) (hk : k < s.rows.length) : s.get (k : Int) = if u k then (v k, 0) else ([], 6) := by
  unfold SS.get
  have hh : s.has (k : Int) := ⟨by omega, by omega⟩
  have hr : s.row (k : Int) = s.rows.getD k noRow := rfl
  rw [if_neg (by simpa using hh), hr, h.used k hk]
  cases hu : u k with
  | false => simp
  | true =>
    rw [if_neg (by simp), h.live.1]
    simp [h.data k hk hu]
theorem set_getD (l : List SRow) (k j : Nat) (x : SRow) (hk : k < l.length) : (l.set k x).getD j noRow = if j = k then x else l.getD j noRow := by
  rw [List.getD_eq_getElem?_getD, List.getElem?_set, List.getD_eq_getElem?_getD]
  by_cases h : k = j
  · subst h; simp [hk]
  · rw [if_neg h, if_neg (fun e => h e.symm)]
/-- Put, where it may be. -/
theorem Told.put {s : SS} {u : Nat → Bool} {v : Nat → List UInt8} (h : Told s u v) (k : Nat) (hk : k < s.rows.length) (key b : List UInt8) (hu : u k = false) (hkey : key.length ≤ 40) (hb : b.length ≤ 448) :
    (s.put (k : Int) key b).1 = 0 ∧ Told (s.put (k : Int) key b).2 (fun j => if j = k then true else u j) (fun j => if j = k then b else v j) ∧ (s.put (k : Int) key b).2.rows.length = s.rows.length ∧ (s.put (k : Int) key b).2.first = s.first ∧ (s.put (k : Int) key b).2.d.n = s.d.n ∧ (s.put (k : Int) key b).2.d.since = [] := by
  have hh : s.has (k : Int) := ⟨by omega, by omega⟩
  have hr : s.row (k : Int) = s.rows.getD k noRow := rfl
  have hp : s.pos (k : Int) = s.first + 8 * k := rfl
  have hns : nsec b.length ≤ 7 := by unfold nsec; omega
  have hroom := h.room
  obtain ⟨a1, a2, a3, a4, a5⟩ := DS.lays_live (s.pos k + 1) b h.live (by rw [hp]; omega)
  have hh1 : nsec (headBytes b.length key).length = 1 := by rw [headBytes_len _ _ hb hkey]; unfold nsec; omega
  obtain ⟨b1, b2, b3, b4, b5⟩ := DS.lays_live (s.pos k) (headBytes b.length key) a2 (by rw [hh1, a3, hp]; omega)
  have hput : s.put (k : Int) key b = (0, { s with d := ((s.d.lays (s.pos k + 1) b).2.lays (s.pos k) (headBytes b.length key)).2, rows := s.rows.set k ⟨true, b.length, key⟩ }) := by
    unfold SS.put
    rw [if_neg (by simpa using hh), if_neg (by omega), hr, h.used k hk, hu, if_neg (by simp), if_neg (by rw [a1]; simp), if_neg (by rw [b1]; simp)]
    rfl
  rw [hput]
  generalize hd2 : ((s.d.lays (s.pos k + 1) b).2.lays (s.pos k) (headBytes b.length key)).2 = d2 at *
  have hnow : ∀ i, d2.now i = if i = s.first + 8 * k then secAt (headBytes b.length key) 0 else if s.first + 8 * k + 1 ≤ i ∧ i < s.first + 8 * k + 1 + nsec b.length then secAt b (i - (s.first + 8 * k + 1)) else s.d.now i := fun i => by
    rw [b4, a4, hh1, hp]
    by_cases hi : i = s.first + 8 * k
    · rw [if_pos (by omega), if_pos hi, hi, Nat.sub_self]
    · rw [if_neg (by omega), if_neg hi]
  refine ⟨rfl, ⟨b2, ?_, fun j hj => ?_, fun j hj => ?_, fun j hj huj => ?_⟩, by simp, rfl, by rw [← a3, ← b3], b5⟩
  · show s.first + 8 * (s.rows.set k _).length ≤ d2.n
    rw [List.length_set, b3, a3]
    exact hroom
  · replace hj : j < s.rows.length := by simpa using hj
    show headOf (d2.now (s.first + 8 * j)) = some ((s.rows.set k _).getD j noRow)
    rw [set_getD _ _ _ _ hk, hnow]
    by_cases hjk : j = k
    · subst hjk
      rw [if_pos rfl, if_pos rfl]
      exact head_back _ _ hb hkey
    · rw [if_neg (by omega), if_neg (by omega), if_neg hjk]
      exact h.head j hj
  · replace hj : j < s.rows.length := by simpa using hj
    show ((s.rows.set k _).getD j noRow).used = _
    rw [set_getD _ _ _ _ hk]
    by_cases hjk : j = k
    · rw [if_pos hjk, if_pos hjk]
    · rw [if_neg hjk, if_neg hjk]
      exact h.used j hj
  · replace hj : j < s.rows.length := by simpa using hj
    show (flat (nsec ((s.rows.set k _).getD j noRow).n) (fun i => d2.now (s.first + 8 * j + 1 + i))).take ((s.rows.set k _).getD j noRow).n = _
    rw [set_getD _ _ _ _ hk]
    by_cases hjk : j = k
    · subst hjk
      rw [if_pos rfl, if_pos rfl]
      dsimp only
      rw [flat_congr _ _ (secAt b) (fun i hi => by rw [hnow, if_neg (by omega), if_pos (by omega)]; congr 1; omega)]
      exact flat_back b
    · rw [if_neg hjk, if_neg hjk]
      try dsimp only at huj
      rw [if_neg hjk] at huj
      have hsm := h.small j hj
      rw [flat_congr _ _ (fun i => s.d.now (s.first + 8 * j + 1 + i)) (fun i hi => by
        have : i < 7 := by unfold nsec at hi; omega
        rw [hnow, if_neg (by omega), if_neg (by omega)])]
      exact h.data j hj huj
/-- Clear, where it may be. -/
theorem Told.clear {s : SS} {u : Nat → Bool} {v : Nat → List UInt8} (h : Told s u v) (k : Nat) (hk : k < s.rows.length) (hu : u k = true) :
    (s.clear (k : Int)).1 = 0 ∧ Told (s.clear (k : Int)).2 (fun j => if j = k then false else u j) v ∧ (s.clear (k : Int)).2.rows.length = s.rows.length ∧ (s.clear (k : Int)).2.first = s.first ∧ (s.clear (k : Int)).2.d.n = s.d.n ∧ (s.clear (k : Int)).2.d.since = [] := by
  have hh : s.has (k : Int) := ⟨by omega, by omega⟩
  have hr : s.row (k : Int) = s.rows.getD k noRow := rfl
  have hp : s.pos (k : Int) = s.first + 8 * k := rfl
  have hroom := h.room
  have hh1 : nsec (zeros 64).length = 1 := rfl
  obtain ⟨a1, a2, a3, a4, a5⟩ := DS.lays_live (s.pos k) (zeros 64) h.live (by rw [hp, hh1]; omega)
  have hcl : s.clear (k : Int) = (0, { s with d := (s.d.lays (s.pos k) (zeros 64)).2, rows := s.rows.set k noRow }) := by
    unfold SS.clear
    rw [if_neg (by simpa using hh), hr, h.used k hk, hu, if_neg (by simp), if_neg (by rw [a1]; simp)]
    rfl
  rw [hcl]
  generalize hd2 : (s.d.lays (s.pos k) (zeros 64)).2 = d2 at *
  have hnow : ∀ i, d2.now i = if i = s.first + 8 * k then secAt (zeros 64) 0 else s.d.now i := fun i => by
    rw [a4, hh1, hp]
    by_cases hi : i = s.first + 8 * k
    · rw [if_pos (by omega), if_pos hi, hi, Nat.sub_self]
    · rw [if_neg (by omega), if_neg hi]
  refine ⟨rfl, ⟨a2, ?_, fun j hj => ?_, fun j hj => ?_, fun j hj huj => ?_⟩, by simp, rfl, a3, a5⟩
  · show s.first + 8 * (s.rows.set k _).length ≤ d2.n
    rw [List.length_set, a3]
    exact hroom
  · replace hj : j < s.rows.length := by simpa using hj
    show headOf (d2.now (s.first + 8 * j)) = some ((s.rows.set k _).getD j noRow)
    rw [set_getD _ _ _ _ hk, hnow]
    by_cases hjk : j = k
    · subst hjk
      rw [if_pos rfl, if_pos rfl]
      exact head_none
    · rw [if_neg (by omega), if_neg hjk]
      exact h.head j hj
  · replace hj : j < s.rows.length := by simpa using hj
    show ((s.rows.set k _).getD j noRow).used = _
    rw [set_getD _ _ _ _ hk]
    by_cases hjk : j = k
    · rw [if_pos hjk, if_pos hjk]; rfl
    · rw [if_neg hjk, if_neg hjk]
      exact h.used j hj
  · replace hj : j < s.rows.length := by simpa using hj
    try dsimp only at huj
    by_cases hjk : j = k
    · rw [if_pos hjk] at huj; cases huj
    · rw [if_neg hjk] at huj
      show (flat (nsec ((s.rows.set k _).getD j noRow).n) (fun i => d2.now (s.first + 8 * j + 1 + i))).take ((s.rows.set k _).getD j noRow).n = _
      rw [set_getD _ _ _ _ hk, if_neg hjk]
      have hsm := h.small j hj
      rw [flat_congr _ _ (fun i => s.d.now (s.first + 8 * j + 1 + i)) (fun i hi => by
        have : i < 7 := by unfold nsec at hi; omega
        rw [hnow, if_neg (by omega)])]
      exact h.data j hj huj
/-- Opened anew they are the same. -/
theorem rowsFrom_told {d : DS} {first : Nat} {rows : List SRow} : ∀ (m k : Nat), k + m = rows.length → (∀ j, k ≤ j → j < rows.length → headOf (d.now (first + 8 * j)) = some (rows.getD j noRow)) → rowsFrom d first m k = some (rows.drop k) := by
  intro m
  induction m with
  | zero => intro k hk _; unfold rowsFrom; rw [List.drop_eq_nil_of_le (by omega)]
  | succ m ih =>
    intro k hk h
    unfold rowsFrom
    rw [h k (Nat.le_refl _) (by omega)]
    dsimp only
    rw [ih (k + 1) (by omega) (fun j h1 h2 => h j (by omega) h2)]
    have hlt : k < rows.length := by omega
    rw [Option.map_some, List.drop_eq_getElem_cons hlt, List.getD_eq_getElem?_getD, List.getElem?_eq_getElem hlt]
    rfl
theorem Told.anew {s : SS} {u : Nat → Bool} {v : Nat → List UInt8} (h : Told s u v) (hn : (s.d.n - s.first) / 8 = s.rows.length) (hz : s.d.n ≠ 0) : s.d.slots (s.first : Int) = (0, some s) := by
  have hroom := h.room
  unfold DS.slots
  rw [if_neg (by omega), if_neg (by rw [h.live.1]; simp [hz]), Int.toNat_natCast, hn, rowsFrom_told s.rows.length 0 (by omega) (fun j _ hj => h.head j hj)]
  rfl
end Go.Proofs.YtdkhmfcfihbjeaaGreatDoor.W

/- A disk behind a crash, plainly; copies of all its sectors. -/
namespace Go.Proofs.YtdkhmfcfihbjeaaGreatDoor.W
open Go.RowKit
set_option linter.unusedVariables false
set_option linter.unusedSimpArgs false

/-- Is number i left? -/
def leftAt (ch : List UInt8) (i : Nat) : Bool := decide (ch.length ≤ i) || decide ((ch.getD i 0) &&& 1 = 1)
/-- Those of what waited that are left. -/
def chosen (ch : List UInt8) : List (Nat × List UInt8) → Nat → List (Nat × List UInt8)
  | [], _ => []
  | x :: l, i => if leftAt ch i then x :: chosen ch l (i + 1) else chosen ch l (i + 1)
theorem chosen_mem {ch : List UInt8} {x : Nat × List UInt8} : ∀ (l : List (Nat × List UInt8)) (i : Nat), x ∈ chosen ch l i → x ∈ l
  | [], i, h => by cases h
  | y :: l, i, h => by
    unfold chosen at h
    split at h
    · rcases List.mem_cons.1 h with rfl | h
      · exact List.mem_cons_self ..
      · exact List.mem_cons_of_mem _ (chosen_mem l _ h)
    · exact List.mem_cons_of_mem _ (chosen_mem l _ h)
def DS.crash (d : DS) (ch : List UInt8) : DS :=
  { n := d.n, now := applied (chosen ch d.since 0) d.lasts, lasts := applied (chosen ch d.since 0) d.lasts, since := [], fuse := -1, ops := 0, dead := false }

theorem flat_at (n : Nat) (f : Nat → List UInt8) (h : ∀ i, i < n → (f i).length = 64) (k i : Nat) (hk : k < n) (hi : i < 64) : (flat n f)[k * 64 + i]? = (f k)[i]? := by
  induction n with
  | zero => omega
  | succ n ih =>
    rw [flat_succ]
    have hl := flat_len n f (fun i hi => h i (by omega))
    by_cases hkn : k = n
    · subst hkn
      rw [List.getElem?_append_right (by omega), hl, show k * 64 + i - k * 64 = i by omega]
    · rw [List.getElem?_append_left (by omega), ih (fun i hi => h i (by omega)) (by omega)]
theorem SecsAt.whole {w : World} {g n : Nat} {f : Nat → List UInt8} (h : SecsAt w g n f) : (flat n f).length = n * 64 ∧ w.rangeAt g 0 (bvs (flat n f)) := by
  have hl := flat_len n f (fun i hi => h.len i hi)
  refine ⟨hl, fun j v hv => ?_⟩
  have hj : j < n * 64 := by
    have := (List.getElem?_eq_some_iff.1 hv).1
    rwa [bvs_len, hl] at this
  have hk : j / 64 < n := by omega
  have he : j = j / 64 * 64 + j % 64 := by omega
  have h1 := h.range (j / 64) hk (j % 64) v (by
    have e1 : (bvs (flat n f))[j]? = ((flat n f)[j]?).map bv := by simp [bvs]
    rw [e1, he, flat_at n f (fun i hi => h.len i hi) _ _ hk (by omega)] at hv
    have e2 : (bvs (f (j / 64)))[j % 64]? = ((f (j / 64))[j % 64]?).map bv := by simp [bvs]
    rw [e2]
    have e3 : (j / 64 * 64 + j % 64) / 64 = j / 64 := by omega
    first | exact hv | (simpa [e3] using hv))
  rw [Nat.zero_add]
  rw [show j = j / 64 * 64 + j % 64 from he]
  exact h1
end Go.Proofs.YtdkhmfcfihbjeaaGreatDoor.W

/- Slots on a disk that may die: what Put and Clear leave, and what is there behind a crash, plainly. -/
namespace Go.Proofs.YtdkhmfcfihbjeaaGreatDoor.W
set_option linter.unusedVariables false
set_option linter.unusedSimpArgs false

/-- A disk at rest: alive, and all that was written lasts. -/
structure DS.Rest (d : DS) : Prop where
  alive : d.dead = false
  none : d.since = []
  same : ∀ i, d.lasts i = d.now i
/-- A disk that died while the sectors j .. j+k-1 of b were laid from pos on. -/
def DS.Fell (d0 d : DS) (pos : Nat) (b : List UInt8) (j k : Nat) : Prop :=
  d.dead = true ∧ d.n = d0.n ∧ d.lasts = d0.lasts ∧ ∃ ws, d.since = d0.since ++ ws ∧ ∀ x ∈ ws, ∃ i, j ≤ i ∧ i < j + k ∧ x = (pos + i, secAt b i)
theorem DS.write_may {d : DS} (hd : d.dead = false) (k : Nat) (b : List UInt8) (hk : k < d.n) (hb : b.length = 64) :
    ((d.write (k : Int) b).1 = 0 ∧ (d.write (k : Int) b).2.dead = false ∧ (d.write (k : Int) b).2.n = d.n ∧ (d.write (k : Int) b).2.now = upd d.now k b ∧ (d.write (k : Int) b).2.lasts = d.lasts ∧ (d.write (k : Int) b).2.since = d.since ++ [(k, b)]) ∨
    ((d.write (k : Int) b).1 = 14 ∧ (d.write (k : Int) b).2.dead = true ∧ (d.write (k : Int) b).2.n = d.n ∧ (d.write (k : Int) b).2.lasts = d.lasts ∧ (d.write (k : Int) b).2.since = d.since ++ [(k, b)]) := by
  have hk' : 0 ≤ (k : Int) ∧ (k : Int) < d.n ∧ b.length = 64 := ⟨by omega, by omega, hb⟩
  by_cases hf : d.fuse = 0
  · right
    unfold DS.write DS.op
    simp only [hd, Bool.false_eq_true, if_false]
    rw [if_pos hk']
    simp [hf]
  · left
    unfold DS.write DS.op
    simp only [hd, Bool.false_eq_true, if_false]
    rw [if_pos hk']
    simp [hf, hd]
theorem DS.sync_may {d : DS} (hd : d.dead = false) :
    ((d.sync).1 = 0 ∧ (d.sync).2.dead = false ∧ (d.sync).2.n = d.n ∧ (d.sync).2.now = d.now ∧ (d.sync).2.lasts = applied d.since d.lasts ∧ (d.sync).2.since = []) ∨
    ((d.sync).1 = 14 ∧ (d.sync).2.dead = true ∧ (d.sync).2.n = d.n ∧ (d.sync).2.lasts = d.lasts ∧ (d.sync).2.since = d.since) := by
  by_cases hf : d.fuse = 0
  · right
    unfold DS.sync DS.op
    simp [hd, hf]
  · left
    unfold DS.sync DS.op
    simp [hd, hf]
theorem DS.lay_may (pos : Nat) (b : List UInt8) : ∀ (k j : Nat) (d : DS), d.dead = false → (∀ i, applied d.since d.lasts i = d.now i) → pos + j + k ≤ d.n →
    ((d.lay pos b k j).1 = 0 ∧ (d.lay pos b k j).2.Rest ∧ (d.lay pos b k j).2.n = d.n ∧ ∀ i, (d.lay pos b k j).2.now i = if pos + j ≤ i ∧ i < pos + j + k then secAt b (i - pos) else d.now i) ∨
    ((d.lay pos b k j).1 = 14 ∧ DS.Fell d (d.lay pos b k j).2 pos b j k) := by
  intro k
  induction k with
  | zero =>
    intro j d hd hs hn
    rcases d.sync_may hd with ⟨h1, h2, h3, h4, h5, h6⟩ | ⟨h1, h2, h3, h4, h5⟩
    · exact .inl ⟨h1, ⟨h2, h6, fun i => by show (d.sync).2.lasts i = (d.sync).2.now i; rw [h5, h4, hs]⟩, h3, fun i => by rw [if_neg (by omega)]; show (d.sync).2.now i = _; rw [h4]⟩
    · exact .inr ⟨h1, h2, h3, h4, [], by show (d.sync).2.since = _; rw [h5]; simp, by simp⟩
  | succ k ih =>
    intro j d hd hs hn
    unfold DS.lay
    rcases DS.write_may hd (pos + j) (secAt b j) (by omega) (secAt_len b j) with ⟨h1, h2, h3, h4, h5, h6⟩ | ⟨h1, h2, h3, h4, h5⟩
    · rw [if_neg (by rw [h1]; simp)]
      generalize (d.write ((pos + j : Nat) : Int) (secAt b j)).2 = d2 at *
      have hs2 : ∀ i, applied d2.since d2.lasts i = d2.now i := fun i => by
        have := hs
        rw [h6, h5, h4]
        unfold applied at *
        rw [List.foldl_append]
        show upd (List.foldl _ d.lasts d.since) (pos + j) (secAt b j) i = upd d.now (pos + j) (secAt b j) i
        unfold upd
        split
        · rfl
        · exact hs i
      rcases ih (j + 1) d2 h2 hs2 (by rw [h3]; omega) with ⟨i1, i2, i3, i4⟩ | ⟨i1, i2, i3, i4, ws, i5, i6⟩
      · refine .inl ⟨i1, i2, by rw [i3, h3], fun i => ?_⟩
        rw [i4, h4]
        unfold upd
        by_cases hi : i = pos + j
        · subst hi
          rw [if_neg (by omega), if_pos rfl, if_pos (by omega)]
          congr 1
          omega
        · rw [if_neg hi]
          by_cases hm : pos + (j + 1) ≤ i ∧ i < pos + (j + 1) + k
          · rw [if_pos hm, if_pos (by omega)]
          · rw [if_neg hm, if_neg (by omega)]
      · refine .inr ⟨i1, i2, by rw [i3, h3], by rw [i4, h5], (pos + j, secAt b j) :: ws, by rw [i5, h6]; simp, fun x hx => ?_⟩
        rcases List.mem_cons.1 hx with rfl | hx
        · exact ⟨j, by omega, by omega, rfl⟩
        · obtain ⟨i, a1, a2, a3⟩ := i6 x hx
          exact ⟨i, by omega, by omega, a3⟩
    · rw [if_pos (by rw [h1]; simp)]
      exact .inr ⟨h1, h2, h3, h4, [(pos + j, secAt b j)], h5, fun x hx => by
        rw [List.mem_singleton.1 hx]
        exact ⟨j, by omega, by omega, rfl⟩⟩
theorem DS.lays_may {d : DS} (pos : Nat) (b : List UInt8) (hd : d.Rest) (hn : pos + nsec b.length ≤ d.n) :
    ((d.lays pos b).1 = 0 ∧ (d.lays pos b).2.Rest ∧ (d.lays pos b).2.n = d.n ∧ ∀ i, (d.lays pos b).2.now i = if pos ≤ i ∧ i < pos + nsec b.length then secAt b (i - pos) else d.now i) ∨
    ((d.lays pos b).1 = 14 ∧ (d.lays pos b).2.dead = true ∧ (d.lays pos b).2.n = d.n ∧ (d.lays pos b).2.lasts = d.lasts ∧ ∀ x ∈ (d.lays pos b).2.since, ∃ i, i < nsec b.length ∧ x = (pos + i, secAt b i)) := by
  rcases DS.lay_may pos b (nsec b.length) 0 d hd.alive (fun i => by rw [hd.none]; exact hd.same i) hn with h | ⟨h1, h2, h3, h4, ws, h5, h6⟩
  · exact .inl h
  · refine .inr ⟨h1, h2, h3, h4, fun x hx => ?_⟩
    have hx : x ∈ (d.lay pos b (nsec b.length) 0).2.since := hx
    rw [h5, hd.none, List.nil_append] at hx
    obtain ⟨i, a1, a2, a3⟩ := h6 x hx
    exact ⟨i, by omega, a3⟩
/-- What is applied elsewhere does not matter. -/
theorem applied_far (i : Nat) : ∀ (l : List (Nat × List UInt8)) (f : Nat → List UInt8), (∀ x ∈ l, x.1 ≠ i) → applied l f i = f i
  | [], f, h => rfl
  | x :: l, f, h => by
    show applied l (upd f x.1 x.2) i = f i
    rw [applied_far i l _ (fun y hy => h y (List.mem_cons_of_mem _ hy))]
    unfold upd
    rw [if_neg (fun e => h x (List.mem_cons_self ..) e.symm)]
theorem applied_same (i : Nat) (s : List UInt8) : ∀ (l : List (Nat × List UInt8)) (f : Nat → List UInt8), (∀ x ∈ l, x = (i, s)) → applied l f i = f i ∨ applied l f i = s
  | [], f, h => .inl rfl
  | x :: l, f, h => by
    show applied l (upd f x.1 x.2) i = f i ∨ applied l (upd f x.1 x.2) i = s
    obtain rfl := h x (List.mem_cons_self ..)
    have hu : upd f i s i = s := by unfold upd; rw [if_pos rfl]
    rcases applied_same i s l (upd f i s) (fun y hy => h y (List.mem_cons_of_mem _ hy)) with h1 | h1
    · exact .inr (by rw [h1, hu])
    · exact .inr h1

/-- Slots on a disk at rest, each told. -/
structure ToldR (s : SS) (u : Nat → Bool) (v : Nat → List UInt8) : Prop where
  rest : s.d.Rest
  room : s.first + 8 * s.rows.length ≤ s.d.n
  head : ∀ k, k < s.rows.length → headOf (s.d.now (s.first + 8 * k)) = some (s.rows.getD k noRow)
  used : ∀ k, k < s.rows.length → (s.rows.getD k noRow).used = u k
  data : ∀ k, k < s.rows.length → u k = true → s.data (k : Int) = v k
theorem ToldR.small {s : SS} {u : Nat → Bool} {v : Nat → List UInt8} (h : ToldR s u v) (k : Nat) (hk : k < s.rows.length) : (s.rows.getD k noRow).n ≤ 448 := (headOf_ok (h.head k hk)).1
theorem ToldR.get {s : SS} {u : Nat → Bool} {v : Nat → List UInt8} (h : ToldR s u v) (k : Nat) (hk : k < s.rows.length) : s.get (k : Int) = if u k then (v k, 0) else ([], 6) := by
  unfold SS.get
  have hh : s.has (k : Int) := ⟨by omega, by omega⟩
  have hr : s.row (k : Int) = s.rows.getD k noRow := rfl
  rw [if_neg (by simpa using hh), hr, h.used k hk]
  cases hu : u k with
  | false => simp
  | true =>
    rw [if_neg (by simp), h.rest.alive]
    simp [h.data k hk hu]
/-- How the disk's sectors look to a slot. -/
theorem ToldR.of_now {s : SS} {u : Nat → Bool} {v : Nat → List UInt8} (h : ToldR s u v) (d2 : DS) (hr : d2.Rest) (hn : d2.n = s.d.n) (k : Nat) (hk : k < s.rows.length) (r : SRow) (hh : headOf (d2.now (s.first + 8 * k)) = some r)
    (hfar : ∀ j i, j < s.rows.length → j ≠ k → i < 8 → d2.now (s.first + 8 * j + i) = s.d.now (s.first + 8 * j + i)) (b : List UInt8)
    (hb : r.used = true → (flat (nsec r.n) (fun i => d2.now (s.first + 8 * k + 1 + i))).take r.n = b) :
    ToldR { s with d := d2, rows := s.rows.set k r } (fun j => if j = k then r.used else u j) (fun j => if j = k then b else v j) := by
  refine ⟨hr, ?_, fun j hj => ?_, fun j hj => ?_, fun j hj huj => ?_⟩
  · show s.first + 8 * (s.rows.set k r).length ≤ d2.n
    rw [List.length_set, hn]
    exact h.room
  · replace hj : j < s.rows.length := by simpa using hj
    show headOf (d2.now (s.first + 8 * j)) = some ((s.rows.set k r).getD j noRow)
    rw [set_getD _ _ _ _ hk]
    by_cases hjk : j = k
    · subst hjk
      rw [if_pos rfl]
      exact hh
    · rw [if_neg hjk, ← h.head j hj]
      have := hfar j 0 hj hjk (by omega)
      rw [Nat.add_zero] at this
      rw [this]
  · replace hj : j < s.rows.length := by simpa using hj
    show ((s.rows.set k r).getD j noRow).used = _
    rw [set_getD _ _ _ _ hk]
    by_cases hjk : j = k
    · rw [if_pos hjk, if_pos hjk]
    · rw [if_neg hjk, if_neg hjk]
      exact h.used j hj
  · replace hj : j < s.rows.length := by simpa using hj
    show (flat (nsec ((s.rows.set k r).getD j noRow).n) (fun i => d2.now (s.first + 8 * j + 1 + i))).take ((s.rows.set k r).getD j noRow).n = _
    rw [set_getD _ _ _ _ hk]
    try dsimp only at huj
    by_cases hjk : j = k
    · subst hjk
      rw [if_pos rfl] at huj
      rw [if_pos rfl, if_pos rfl]
      exact hb huj
    · rw [if_neg hjk] at huj
      rw [if_neg hjk, if_neg hjk]
      have hsm := h.small j hj
      rw [flat_congr _ _ (fun i => s.d.now (s.first + 8 * j + 1 + i)) (fun i hi => by
        have : i < 7 := by unfold nsec at hi; omega
        have := hfar j (1 + i) hj hjk (by omega)
        rw [← Nat.add_assoc] at this
        exact this)]
      exact h.data j hj huj
theorem set_self (l : List SRow) (k : Nat) (hk : k < l.length) : l.set k (l.getD k noRow) = l := by
  rw [List.getD_eq_getElem?_getD, List.getElem?_eq_getElem hk, Option.getD_some]
  exact List.set_getElem_self hk

/-- What a crash leaves of slots that are told so, or so. -/
def Lost (s : SS) (d2 : DS) (u : Nat → Bool) (v : Nat → List UInt8) (k : Nat) (q : Bool) (b : List UInt8) : Prop :=
  d2.dead = true ∧ d2.n = s.d.n ∧ ∀ ch, ∃ rows, rows.length = s.rows.length ∧ (ToldR { s with d := d2.crash ch, rows := rows } u v ∨ ToldR { s with d := d2.crash ch, rows := rows } (fun j => if j = k then q else u j) (fun j => if j = k then b else v j))
theorem crash_rest (d : DS) (ch : List UInt8) : (d.crash ch).Rest := ⟨rfl, rfl, fun i => rfl⟩
theorem crash_now {d : DS} {ch : List UInt8} (i : Nat) : (d.crash ch).now i = applied (chosen ch d.since 0) d.lasts i := rfl
theorem ToldR.again {s : SS} {u : Nat → Bool} {v : Nat → List UInt8} (h : ToldR s u v) (d2 : DS) (hr : d2.Rest) (hn : d2.n = s.d.n) (k : Nat) (hk : k < s.rows.length) (hu : u k = false) (hh : d2.now (s.first + 8 * k) = s.d.now (s.first + 8 * k))
    (hfar : ∀ j i, j < s.rows.length → j ≠ k → i < 8 → d2.now (s.first + 8 * j + i) = s.d.now (s.first + 8 * j + i)) : ToldR { s with d := d2 } u v := by
  have h1 := h.of_now d2 hr hn k hk (s.rows.getD k noRow) (by rw [hh]; exact h.head k hk) hfar (v k) (fun e => by
    rw [h.used k hk, hu] at e; cases e)
  rw [set_self _ _ hk, h.used k hk] at h1
  have e1 : (fun j => if j = k then u k else u j) = u := by funext j; split <;> simp_all
  have e2 : (fun j => if j = k then v k else v j) = v := by funext j; split <;> simp_all
  rw [e1, e2] at h1
  exact h1

theorem ToldR.put {s : SS} {u : Nat → Bool} {v : Nat → List UInt8} (h : ToldR s u v) (k : Nat) (hk : k < s.rows.length) (key b : List UInt8) (hu : u k = false) (hkey : key.length ≤ 40) (hb : b.length ≤ 448) :
    ((s.put (k : Int) key b).1 = 0 ∧ ToldR (s.put (k : Int) key b).2 (fun j => if j = k then true else u j) (fun j => if j = k then b else v j) ∧ (s.put (k : Int) key b).2.rows.length = s.rows.length ∧ (s.put (k : Int) key b).2.first = s.first ∧ (s.put (k : Int) key b).2.d.n = s.d.n) ∨
    ((s.put (k : Int) key b).1 = 14 ∧ (s.put (k : Int) key b).2.rows = s.rows ∧ (s.put (k : Int) key b).2.first = s.first ∧ Lost s (s.put (k : Int) key b).2.d u v k true b) := by
  have hh : s.has (k : Int) := ⟨by omega, by omega⟩
  have hr : s.row (k : Int) = s.rows.getD k noRow := rfl
  have hp : s.pos (k : Int) = s.first + 8 * k := rfl
  have hns : nsec b.length ≤ 7 := by unfold nsec; omega
  have hroom := h.room
  have hput : s.put (k : Int) key b = if (s.d.lays (s.pos k + 1) b).1 ≠ 0 then ((s.d.lays (s.pos k + 1) b).1, { s with d := (s.d.lays (s.pos k + 1) b).2 }) else
    if ((s.d.lays (s.pos k + 1) b).2.lays (s.pos k) (headBytes b.length key)).1 ≠ 0 then (((s.d.lays (s.pos k + 1) b).2.lays (s.pos k) (headBytes b.length key)).1, { s with d := ((s.d.lays (s.pos k + 1) b).2.lays (s.pos k) (headBytes b.length key)).2 }) else
    (0, { s with d := ((s.d.lays (s.pos k + 1) b).2.lays (s.pos k) (headBytes b.length key)).2, rows := s.rows.set k ⟨true, b.length, key⟩ }) := by
    unfold SS.put
    rw [if_neg (by simpa using hh), if_neg (by omega), hr, h.used k hk, hu, if_neg (by simp)]
    rfl
  rw [hput]
  have hh1 : nsec (headBytes b.length key).length = 1 := by rw [headBytes_len _ _ hb hkey]; unfold nsec; omega
  rcases DS.lays_may (s.pos k + 1) b h.rest (by rw [hp]; omega) with ⟨a1, a2, a3, a4⟩ | ⟨a1, a2, a3, a4, a5⟩
  · rw [if_neg (by rw [a1]; simp)]
    generalize (s.d.lays (s.pos k + 1) b).2 = d1 at *
    rw [hp] at a4
    have hfar1 : ∀ j i, j < s.rows.length → j ≠ k → i < 8 → d1.now (s.first + 8 * j + i) = s.d.now (s.first + 8 * j + i) := fun j i _ hj hi => by
      rw [a4, if_neg (by omega)]
    have hhd1 : d1.now (s.first + 8 * k) = s.d.now (s.first + 8 * k) := by rw [a4, if_neg (by omega)]
    rcases DS.lays_may (s.pos k) (headBytes b.length key) a2 (by rw [hh1, a3, hp]; omega) with ⟨b1, b2, b3, b4⟩ | ⟨b1, b2, b3, b4, b5⟩
    · left
      rw [if_neg (by rw [b1]; simp)]
      generalize (d1.lays (s.pos k) (headBytes b.length key)).2 = d2 at *
      rw [hp, hh1] at b4
      refine ⟨rfl, h.of_now d2 b2 (by rw [b3, a3]) k hk ⟨true, b.length, key⟩ ?_ (fun j i hj hjk hi => ?_) b (fun _ => ?_), by simp, rfl, by rw [← a3, ← b3]⟩
      · rw [b4, if_pos (by omega), Nat.sub_self]
        exact head_back _ _ hb hkey
      · rw [b4, if_neg (by omega)]
        exact hfar1 j i hj hjk hi
      · dsimp only
        rw [flat_congr _ _ (secAt b) (fun i hi => by rw [b4, if_neg (by omega), a4, if_pos (by omega)]; congr 1; omega)]
        exact flat_back b
    · right
      rw [if_pos (by rw [b1]; simp)]
      generalize (d1.lays (s.pos k) (headBytes b.length key)).2 = d2 at *
      refine ⟨b1, rfl, rfl, b2, by rw [b3, a3], fun ch => ?_⟩
      rw [hh1] at b5
      have hall : ∀ x ∈ chosen ch d2.since 0, x = (s.first + 8 * k, secAt (headBytes b.length key) 0) := fun x hx => by
        obtain ⟨i, hi, rfl⟩ := b5 x (chosen_mem _ _ hx)
        obtain rfl : i = 0 := by omega
        rw [hp, Nat.add_zero]
      have hn2 : (d2.crash ch).n = s.d.n := by show d2.n = _; rw [b3, a3]
      have hl1 : ∀ i, d2.lasts i = d1.now i := fun i => by rw [b4]; exact a2.same i
      have hoth : ∀ i, i ≠ s.first + 8 * k → (d2.crash ch).now i = d1.now i := fun i hi => by
        rw [crash_now, applied_far i _ _ (fun x hx => by rw [hall x hx]; exact fun e => hi e.symm), hl1]
      have hfar2 : ∀ j i, j < s.rows.length → j ≠ k → i < 8 → (d2.crash ch).now (s.first + 8 * j + i) = s.d.now (s.first + 8 * j + i) := fun j i hj hjk hi => by
        rw [hoth _ (by omega)]
        exact hfar1 j i hj hjk hi
      rcases applied_same (s.first + 8 * k) (secAt (headBytes b.length key) 0) (chosen ch d2.since 0) d2.lasts hall with hA | hA
      · refine ⟨s.rows, rfl, .inl (h.again (d2.crash ch) (crash_rest _ _) hn2 k hk hu ?_ hfar2)⟩
        rw [crash_now, hA, hl1, hhd1]
      · refine ⟨s.rows.set k ⟨true, b.length, key⟩, by simp, .inr (h.of_now (d2.crash ch) (crash_rest _ _) hn2 k hk ⟨true, b.length, key⟩ ?_ hfar2 b (fun _ => ?_))⟩
        · rw [crash_now, hA]
          exact head_back _ _ hb hkey
        · dsimp only
          rw [flat_congr _ _ (secAt b) (fun i hi => by rw [hoth _ (by omega), a4, if_pos (by omega)]; congr 1; omega)]
          exact flat_back b
  · right
    rw [if_pos (by rw [a1]; simp)]
    generalize (s.d.lays (s.pos k + 1) b).2 = d1 at *
    refine ⟨a1, rfl, rfl, a2, a3, fun ch => ⟨s.rows, rfl, .inl ?_⟩⟩
    have hn2 : (d1.crash ch).n = s.d.n := a3
    have hoth : ∀ i, i < s.first + 8 * k + 1 ∨ s.first + 8 * k + 8 ≤ i → (d1.crash ch).now i = s.d.now i := fun i hi => by
      rw [crash_now, applied_far i _ _ (fun x hx => by
        obtain ⟨t, ht, rfl⟩ := a5 x (chosen_mem _ _ hx)
        rw [hp]
        show s.first + 8 * k + 1 + t ≠ i
        omega), a4]
      exact h.rest.same i
    refine h.again (d1.crash ch) (crash_rest _ _) hn2 k hk hu (hoth _ (by omega)) (fun j i hj hjk hi => hoth _ (by omega))
theorem ToldR.clear {s : SS} {u : Nat → Bool} {v : Nat → List UInt8} (h : ToldR s u v) (k : Nat) (hk : k < s.rows.length) (hu : u k = true) :
    ((s.clear (k : Int)).1 = 0 ∧ ToldR (s.clear (k : Int)).2 (fun j => if j = k then false else u j) v ∧ (s.clear (k : Int)).2.rows.length = s.rows.length ∧ (s.clear (k : Int)).2.first = s.first ∧ (s.clear (k : Int)).2.d.n = s.d.n) ∨
    ((s.clear (k : Int)).1 = 14 ∧ (s.clear (k : Int)).2.rows = s.rows ∧ (s.clear (k : Int)).2.first = s.first ∧ Lost s (s.clear (k : Int)).2.d u v k false (v k)) := by
  have hh : s.has (k : Int) := ⟨by omega, by omega⟩
  have hr : s.row (k : Int) = s.rows.getD k noRow := rfl
  have hp : s.pos (k : Int) = s.first + 8 * k := rfl
  have hroom := h.room
  have e2 : (fun j => if j = k then v k else v j) = v := by funext j; split <;> simp_all
  have hcl : s.clear (k : Int) = if (s.d.lays (s.pos k) (zeros 64)).1 ≠ 0 then ((s.d.lays (s.pos k) (zeros 64)).1, { s with d := (s.d.lays (s.pos k) (zeros 64)).2 }) else (0, { s with d := (s.d.lays (s.pos k) (zeros 64)).2, rows := s.rows.set k noRow }) := by
    unfold SS.clear
    rw [if_neg (by simpa using hh), hr, h.used k hk, hu, if_neg (by simp)]
    rfl
  rw [hcl]
  have hh1 : nsec (zeros 64).length = 1 := rfl
  rcases DS.lays_may (s.pos k) (zeros 64) h.rest (by rw [hh1, hp]; omega) with ⟨b1, b2, b3, b4⟩ | ⟨b1, b2, b3, b4, b5⟩
  · left
    rw [if_neg (by rw [b1]; simp)]
    generalize (s.d.lays (s.pos k) (zeros 64)).2 = d2 at *
    rw [hp, hh1] at b4
    have h1 := h.of_now d2 b2 b3 k hk noRow (by rw [b4, if_pos (by omega), Nat.sub_self]; exact head_none) (fun j i hj hjk hi => by rw [b4, if_neg (by omega)]) (v k) (fun e => by cases e)
    rw [e2] at h1
    exact ⟨rfl, h1, by simp, rfl, b3⟩
  · right
    rw [if_pos (by rw [b1]; simp)]
    generalize (s.d.lays (s.pos k) (zeros 64)).2 = d2 at *
    refine ⟨b1, rfl, rfl, b2, b3, fun ch => ?_⟩
    rw [hh1] at b5
    have hall : ∀ x ∈ chosen ch d2.since 0, x = (s.first + 8 * k, secAt (zeros 64) 0) := fun x hx => by
      obtain ⟨i, hi, rfl⟩ := b5 x (chosen_mem _ _ hx)
      obtain rfl : i = 0 := by omega
      rw [hp, Nat.add_zero]
    have hn2 : (d2.crash ch).n = s.d.n := b3
    have hl1 : ∀ i, d2.lasts i = s.d.now i := fun i => by rw [b4]; exact h.rest.same i
    have hoth : ∀ i, i ≠ s.first + 8 * k → (d2.crash ch).now i = s.d.now i := fun i hi => by
      rw [crash_now, applied_far i _ _ (fun x hx => by rw [hall x hx]; exact fun e => hi e.symm), hl1]
    have hfar2 : ∀ j i, j < s.rows.length → j ≠ k → i < 8 → (d2.crash ch).now (s.first + 8 * j + i) = s.d.now (s.first + 8 * j + i) := fun j i hj hjk hi => hoth _ (by omega)
    rcases applied_same (s.first + 8 * k) (secAt (zeros 64) 0) (chosen ch d2.since 0) d2.lasts hall with hA | hA
    · refine ⟨s.rows, rfl, .inl ?_⟩
      have h1 := h.of_now (d2.crash ch) (crash_rest _ _) hn2 k hk (s.rows.getD k noRow) (by rw [crash_now, hA, hl1]; exact h.head k hk) hfar2 (v k) (fun _ => by
        have hsm := h.small k hk
        rw [flat_congr _ _ (fun i => s.d.now (s.first + 8 * k + 1 + i)) (fun i hi => hoth _ (by omega))]
        exact h.data k hk hu)
      rw [set_self _ _ hk, h.used k hk] at h1
      have e1 : (fun j => if j = k then u k else u j) = u := by funext j; split <;> simp_all
      rw [e1, e2] at h1
      exact h1
    · refine ⟨s.rows.set k noRow, by simp, .inr (h.of_now (d2.crash ch) (crash_rest _ _) hn2 k hk noRow ?_ hfar2 (v k) (fun e => by cases e))⟩
      rw [crash_now, hA]
      exact head_none
/-- Opened anew they are as they are told. -/
theorem ToldR.anew {s : SS} {u : Nat → Bool} {v : Nat → List UInt8} (h : ToldR s u v) (hn : (s.d.n - s.first) / 8 = s.rows.length) (hz : s.d.n ≠ 0) : s.d.slots (s.first : Int) = (0, some s) := by
  have hroom := h.room
  unfold DS.slots
  rw [if_neg (by omega), if_neg (by rw [h.rest.alive]; simp [hz]), Int.toNat_natCast, hn, rowsFrom_told s.rows.length 0 (by omega) (fun j _ hj => h.head j hj)]
  rfl
/-- At rest, a crash loses nothing. -/
theorem ToldR.crash {s : SS} {u : Nat → Bool} {v : Nat → List UInt8} (h : ToldR s u v) (ch : List UInt8) : ToldR { s with d := s.d.crash ch } u v := by
  have hnow : ∀ i, (s.d.crash ch).now i = s.d.now i := fun i => by
    rw [crash_now, h.rest.none]
    exact h.rest.same i
  refine ⟨crash_rest _ _, h.room, fun k hk => by show headOf ((s.d.crash ch).now _) = _; rw [hnow]; exact h.head k hk, h.used, fun k hk hu => ?_⟩
  rw [← h.data k hk hu]
  unfold SS.data
  congr 2
  funext i
  exact hnow _
theorem ToldR.fuse {s : SS} {u : Nat → Bool} {v : Nat → List UInt8} (h : ToldR s u v) (n : Int) : ToldR { s with d := s.d.setFuse n } u v := ⟨⟨h.rest.alive, h.rest.none, h.rest.same⟩, h.room, h.head, h.used, h.data⟩
end Go.Proofs.YtdkhmfcfihbjeaaGreatDoor.W

/- Package store: ids; May. -/
namespace Go.Proofs.YtdkhmfcfihbjeaaGreatDoor.W
open Go.RowKit
set_option linter.unusedVariables false
set_option linter.unusedSimpArgs false

structure Id where
  c : Int
  l : Int
  n : Int
  i : Int
deriving DecidableEq
instance : Inhabited Id := ⟨⟨0, 0, 0, 0⟩⟩
abbrev idC (x : Id) : Array Value := #[.int .i64 x.c, .int .i64 x.l, .int .i64 x.n, .int .i64 x.i]
abbrev idV (x : Id) : Value := .agg (idC x)
def withinB6 (x m : Int) : Bool := decide (0 ≤ x) && decide (x ≤ m)
def mayId (x : Id) : Bool := withinB6 x.c 4 && withinB6 x.l 1048576 && withinB6 x.n 1073741824 && withinB6 x.i 15
set_option maxHeartbeats 2000000 in
theorem mayid_any (x : Id) (w : World) : Calls Tryz.prog 138 #[idV x] w fun e w' => e = .returned (.bool (mayId x)) ∧ Chg [] w w' := by
  obtain ⟨c, l, n, i⟩ := x
  unfold mayId withinB6
  dsimp only
  go_enter Tryz.func138, Tryz.ntmps138
  go_wp2
  all_goals
    go_ret
    refine ⟨?_, (Chg.refl [] w).alloc _⟩
    first
      | (simp_all; done)
      | (simp; omega)
end Go.Proofs.YtdkhmfcfihbjeaaGreatDoor.W

/- Package store, plainly: ids as bytes, a store. -/
namespace Go.Proofs.YtdkhmfcfihbjeaaGreatDoor.W
set_option linter.unusedVariables false
set_option linter.unusedSimpArgs false

theorem fold_be (l : List UInt8) : ∀ a : Nat, l.foldl (fun x c => x * 256 + c.toNat) a = a * 256 ^ l.length + beNum l := by
  induction l with
  | nil => intro a; simp [beNum]
  | cons c r ih =>
    intro a
    rw [List.foldl_cons, ih, List.length_cons, show beNum (c :: r) = r.foldl (fun x c => x * 256 + c.toNat) (0 * 256 + c.toNat) from rfl, ih, Nat.pow_succ']
    rw [Nat.zero_mul, Nat.zero_add, Nat.add_mul, ← Nat.mul_assoc]
    omega
theorem beNum_cons (c : UInt8) (r : List UInt8) : beNum (c :: r) = c.toNat * 256 ^ r.length + beNum r := by
  have := fold_be r (0 * 256 + c.toNat)
  rw [Nat.zero_mul, Nat.zero_add] at this
  rw [← this]
  show List.foldl _ (0 * 256 + c.toNat) r = _
  rw [Nat.zero_mul, Nat.zero_add]
theorem be_high (n : Nat) : ∀ a x : Nat, beBytes n (a * 256 ^ n + x) = beBytes n x := by
  induction n with
  | zero => intro a x; rfl
  | succ n ih =>
    intro a x
    unfold beBytes
    have e : a * 256 ^ (n + 1) + x = (a * 256) * 256 ^ n + x := by rw [Nat.pow_succ', ← Nat.mul_assoc]
    rw [e, ih]
    congr 1
    rw [Nat.mul_comm (a * 256), Nat.mul_add_div (Nat.pow_pos (by omega))]
    apply UInt8.toNat.inj
    rw [UInt8.toNat_ofNat', UInt8.toNat_ofNat']
    omega
theorem be_beNum : ∀ l : List UInt8, beBytes l.length (beNum l) = l
  | [] => rfl
  | c :: r => by
    rw [beNum_cons, List.length_cons]
    unfold beBytes
    rw [be_high, be_beNum r, Nat.mul_comm, Nat.mul_add_div (Nat.pow_pos (by omega)), Nat.div_eq_of_lt (beNum_lt r), Nat.add_zero]
    congr 1
    exact UInt8.ofNat_toNat
theorem beNum_be : ∀ (n x : Nat), x < 256 ^ n → beNum (beBytes n x) = x
  | 0, x, h => by simp at h; subst h; rfl
  | n + 1, x, h => by
    have hp : 0 < 256 ^ n := Nat.pow_pos (by omega)
    have hd : x / 256 ^ n < 256 := by
      rw [Nat.div_lt_iff_lt_mul hp]
      rw [Nat.pow_succ'] at h
      exact h
    have hm := beNum_be n (x % 256 ^ n) (Nat.mod_lt _ hp)
    have hh := be_high n (x / 256 ^ n) (x % 256 ^ n)
    have hdm := Nat.div_add_mod x (256 ^ n)
    rw [Nat.mul_comm] at hdm
    rw [hdm] at hh
    unfold beBytes
    rw [beNum_cons, beBytes_len, hh, hm, UInt8.toNat_ofNat', Nat.mod_eq_of_lt hd, hdm]
theorem eyeNum_be (n x : Nat) (r : List UInt8) (h : x < 256 ^ n) : eyeNum (beBytes n x ++ r) 0 n = ((x : Int), r, 0) := by
  unfold eyeNum
  have hl := beBytes_len n x
  rw [if_neg (by simp), if_neg (by rw [List.length_append, hl]; omega), List.take_left' hl, List.drop_left' hl, beNum_be n x h]

/-- The bytes of an id. -/
def idKey (x : Id) : List UInt8 := beBytes 1 x.c.toNat ++ (beBytes 3 x.l.toNat ++ (beBytes 4 x.n.toNat ++ beBytes 1 x.i.toNat))
theorem idKey_len (x : Id) : (idKey x).length = 9 := by simp [idKey, beBytes_len]
def un1 (l : List UInt8) : Int × List UInt8 × Int := eyeNum l 0 1
def un2 (l : List UInt8) : Int × List UInt8 × Int := eyeNum (un1 l).2.1 (un1 l).2.2 3
def un3 (l : List UInt8) : Int × List UInt8 × Int := eyeNum (un2 l).2.1 (un2 l).2.2 4
def un4 (l : List UInt8) : Int × List UInt8 × Int := eyeNum (un3 l).2.1 (un3 l).2.2 1
def unId (l : List UInt8) : Id := ⟨(un1 l).1, (un2 l).1, (un3 l).1, (un4 l).1⟩
def unOk (l : List UInt8) : Bool := decide ((un4 l).2.2 = 0 ∧ (un4 l).2.1 = []) && mayId (unId l)
theorem may_bounds {x : Id} (h : mayId x = true) : (0 ≤ x.c ∧ x.c ≤ 4) ∧ (0 ≤ x.l ∧ x.l ≤ 1048576) ∧ (0 ≤ x.n ∧ x.n ≤ 1073741824) ∧ 0 ≤ x.i ∧ x.i ≤ 15 := by
  unfold mayId withinB6 at h
  simp only [Bool.and_eq_true, decide_eq_true_eq] at h
  omega
theorem may_iff {x : Id} : mayId x = true ↔ (0 ≤ x.c ∧ x.c ≤ 4) ∧ (0 ≤ x.l ∧ x.l ≤ 1048576) ∧ (0 ≤ x.n ∧ x.n ≤ 1073741824) ∧ 0 ≤ x.i ∧ x.i ≤ 15 := by
  unfold mayId withinB6
  simp only [Bool.and_eq_true, decide_eq_true_eq]
  omega
theorem un_key {x : Id} (h : mayId x = true) : unId (idKey x) = x ∧ unOk (idKey x) = true := by
  obtain ⟨⟨a0, a1⟩, ⟨b0, b1⟩, ⟨c0, c1⟩, d0, d1⟩ := may_bounds h
  have e1 : un1 (idKey x) = (x.c, beBytes 3 x.l.toNat ++ (beBytes 4 x.n.toNat ++ beBytes 1 x.i.toNat), 0) := by
    unfold un1 idKey
    rw [eyeNum_be 1 _ _ (by omega), Int.toNat_of_nonneg a0]
  have e2 : un2 (idKey x) = (x.l, beBytes 4 x.n.toNat ++ beBytes 1 x.i.toNat, 0) := by
    unfold un2
    rw [e1]
    show eyeNum _ 0 3 = _
    rw [eyeNum_be 3 _ _ (by omega), Int.toNat_of_nonneg b0]
  have e3 : un3 (idKey x) = (x.n, beBytes 1 x.i.toNat, 0) := by
    unfold un3
    rw [e2]
    show eyeNum _ 0 4 = _
    rw [eyeNum_be 4 _ _ (by omega), Int.toNat_of_nonneg c0]
  have e4 : un4 (idKey x) = (x.i, [], 0) := by
    unfold un4
    rw [e3]
    show eyeNum _ 0 1 = _
    have := eyeNum_be 1 x.i.toNat [] (by omega)
    rw [List.append_nil] at this
    rw [this, Int.toNat_of_nonneg d0]
  have eu : unId (idKey x) = x := by unfold unId; rw [e1, e2, e3, e4]
  refine ⟨eu, ?_⟩
  unfold unOk
  rw [eu, e4, h]
  simp
theorem idKey_inj {x y : Id} (hx : mayId x = true) (hy : mayId y = true) (h : idKey x = idKey y) : x = y := by
  rw [← (un_key hx).1, h, (un_key hy).1]
theorem eyeNum_zero {l : List UInt8} {bad : Int} {n : Nat} (h : (eyeNum l bad n).2.2 = 0) : bad = 0 ∧ n ≤ l.length ∧ eyeNum l bad n = ((beNum (l.take n) : Int), l.drop n, 0) := by
  unfold eyeNum at h ⊢
  by_cases h1 : bad ≠ 0
  · rw [if_pos h1] at h; exact absurd h h1
  · rw [if_neg h1] at h ⊢
    by_cases h2 : l.length < n
    · rw [if_pos h2] at h; simp at h
    · rw [if_neg h2]
      exact ⟨by simpa using h1, by omega, rfl⟩
theorem un_back {l : List UInt8} (h : unOk l = true) : mayId (unId l) = true ∧ l = idKey (unId l) := by
  unfold unOk at h
  simp only [Bool.and_eq_true, decide_eq_true_eq] at h
  obtain ⟨⟨h4, hn⟩, hm⟩ := h
  refine ⟨hm, ?_⟩
  obtain ⟨b4, l4, e4⟩ := eyeNum_zero (show (eyeNum (un3 l).2.1 (un3 l).2.2 1).2.2 = 0 from h4)
  obtain ⟨b3, l3, e3⟩ := eyeNum_zero (show (eyeNum (un2 l).2.1 (un2 l).2.2 4).2.2 = 0 from b4)
  obtain ⟨b2, l2, e2⟩ := eyeNum_zero (show (eyeNum (un1 l).2.1 (un1 l).2.2 3).2.2 = 0 from b3)
  obtain ⟨b1, l1, e1⟩ := eyeNum_zero (show (eyeNum l 0 1).2.2 = 0 from b2)
  have f1 : un1 l = _ := e1
  have f2 : un2 l = _ := e2
  have f3 : un3 l = _ := e3
  have f4 : un4 l = _ := e4
  rw [f1] at f2 l2
  dsimp only at f2 l2
  rw [f2] at f3 l3
  dsimp only at f3 l3
  rw [f3] at f4 l4
  dsimp only at f4 l4
  rw [f4] at hn
  dsimp only at hn
  unfold unId idKey
  rw [f1, f2, f3, f4]
  dsimp only
  simp only [Int.toNat_natCast]
  have g1 := be_beNum (l.take 1)
  have g2 := be_beNum ((l.drop 1).take 3)
  have g3 := be_beNum (((l.drop 1).drop 3).take 4)
  have g4 := be_beNum ((((l.drop 1).drop 3).drop 4).take 1)
  rw [List.length_take, Nat.min_eq_left l1] at g1
  rw [List.length_take, Nat.min_eq_left l2] at g2
  rw [List.length_take, Nat.min_eq_left l3] at g3
  rw [List.length_take, Nat.min_eq_left l4] at g4
  rw [g1, g2, g3, g4]
  have t4 := List.take_append_drop 1 (((l.drop 1).drop 3).drop 4)
  rw [hn, List.append_nil] at t4
  rw [t4, List.take_append_drop, List.take_append_drop, List.take_append_drop]
end Go.Proofs.YtdkhmfcfihbjeaaGreatDoor.W
