/- Package slot: Clear. -/
import Derived.Test.YtipfgghdoicdhaaDoorS5
namespace Go.Proofs.YtipfgghdoicdhaaDoor.W
open Go.RowKit
set_option linter.unusedVariables false
set_option linter.unusedSimpArgs false

set_option maxHeartbeats 8000000 in
set_option maxRecDepth 100000 in
theorem sclear_any (q p : Nat) (U : List Nat) (s : SS) (i : Int) (w : World) (h : SlotsAt w q p U s) (ho : s.d.ops ≤ 900000000) (hw : s.d.since.length ≤ 900000) :
    Calls Tryd.prog 19 #[.pointer (some ⟨q, 0, none⟩), .int .i64 i] w (SidPost w q p U (s.clear i)) := by
  have CH := Lib.hid (shas_any q p U s i w h)
  have HS := Lib.hid h
  obtain ⟨S, rv, R, H⟩ := h
  have c0 : w.cell? ⟨q, 0, none⟩ = some (.pointer (some ⟨p, 0, none⟩)) := blk_cell H.obj.head 0 _ rfl
  have c2 : w.cell? ⟨q, 2, none⟩ = some rv := blk_cell H.obj.head 2 _ rfl
  by_cases hi : s.has i
  · rw [decide_eq_true hi] at CH
    have hi' := hi
    obtain ⟨h0, h1⟩ := hi'
    obtain ⟨j, rfl⟩ := Int.eq_ofNat_of_zero_le h0
    have hjl : j < s.rows.length := by omega
    obtain ⟨g, cap, kv0, hrv, hcap, hcm, hR, k0, k1, k2, k3, k4⟩ := H.at j hjl
    have hfew := H.few
    have hrow : s.row (j : Int) = s.rows.getD j noRow := rfl
    by_cases hu : (s.row (j : Int)).used = false
    · have hg : s.clear (j : Int) = (6, s) := by unfold SS.clear; rw [if_neg (by simpa using hi), if_pos hu]
      have HP := Lib.hid (SidPost.same (c := 6) HS.out)
      have HG := Lib.hid hg
      rw [HG.out]
      rw [hrow] at hu
      rw [hu] at k0
      subst hrv
      generalize s.rows.getD j noRow = r at *
      generalize s.rows.length = n at *
      have hjz : (j : Int) < (n : Int) := by omega
      have hjz1 : (j : Int).toNat = j := by omega
      clear H hR k1 k2 k3 k4 hu hg hi hrow
      go_enter Tryd.func19, Tryd.ntmps19
      go_wp2_with (go_at_call 49; refine CH.out.mono ?_; rintro e w' ⟨rfl, hq⟩; subst hq)
      go_ret
      exact HP.out
    · have hu' : (s.rows.getD j noRow).used = true := by rw [← hrow]; simpa using hu
      have hg : s.clear (j : Int) = if (s.d.lays (s.pos j) (zeros 64)).1 ≠ 0 then ((s.d.lays (s.pos j) (zeros 64)).1, { s with d := (s.d.lays (s.pos j) (zeros 64)).2 }) else
            (0, { s with d := (s.d.lays (s.pos j) (zeros 64)).2, rows := s.rows.set j noRow }) := by
        unfold SS.clear
        rw [if_neg (by simpa using hi), if_neg hu]
        rfl
      rw [hu'] at k0
      have hpos : s.pos (j : Int) = s.first + 8 * j := rfl
      have hroom := H.ok.room
      have hns : nsec (zeros 64).length = 1 := rfl
      have hzl : (zeros 64).length = 64 := rfl
      have CA : Hid (∀ w', SlotsAt w' q p U s → Calls Tryd.prog 51 #[.pointer (some ⟨q, 0, none⟩), .int .i64 (j : Int)] w' fun e w'' => e = .returned (.int .i64 ((s.pos (j : Int) : Nat) : Int)) ∧ w' = w'') := Lib.hid (fun w' h' => sat_any q p U s j w' h' (by omega))
      have CL : Hid (∀ w', SlotsAt w' q p U s → ∀ N, w'.heap[N]? = some (.cells Z64 5 (0, 0)) → N ∉ U → Calls Tryd.prog 50 #[.pointer (some ⟨q, 0, none⟩), .int .i64 ((s.pos (j : Int) : Nat) : Int), .slice (some ⟨N, 0, none⟩) 64 64] w' fun e w'' => e = .returned (.int .i64 (s.d.lays (s.pos j) (zeros 64)).1) ∧ Sid w' w'' q p U { s with d := (s.d.lays (s.pos j) (zeros 64)).2 }) := Lib.hid (fun w' h' N hN hNU => by
        have hr : BRow w' (.slice (some ⟨N, 0, none⟩) (zeros 64).length (zeros 64).length) (zeros 64) := row_of_block hN (by rw [hzl]; unfold maxLen; omega)
        rw [hzl] at hr
        exact slay_any q p U s (s.pos j) _ (zeros 64) w' h' hr.bytes (fun _ k hk => by
          obtain rfl : N = k := by simpa [Value.ownBlock] using hk
          exact hNU) (by rw [hns]; omega) (by rw [hzl]; omega) (by rw [hns]; omega) (by rw [hns]; omega))
      have hok1 := s.d.lays_ok (s.pos j) (zeros 64)
      obtain ⟨Z, hZ⟩ : ∃ Z, Z = s.clear (j : Int) := ⟨_, rfl⟩
      rw [← hZ] at hg ⊢
      have hjz : (j : Int) < (s.rows.length : Int) := by omega
      have hjz1 : (j : Int).toNat = j := by omega
      have hpl : s.pos (j : Int) ≤ 4160 := by omega
      subst hrv
      have HUL := Lib.hid H.uL
      clear H hR k1 k2 k3 k4 hu hu' hi hrow hpos hroom hns hzl hZ
      generalize s.d.lays (s.pos j) (zeros 64) = z1 at *
      obtain ⟨r1, d1⟩ := z1
      dsimp only at CL hok1 hg
      obtain ⟨pos, hps⟩ : ∃ pos, pos = s.pos (j : Int) := ⟨_, rfl⟩
      rw [← hps] at CL CA hpl
      have HG := Lib.hid hg
      obtain ⟨n, hn⟩ : ∃ n, n = s.rows.length := ⟨_, rfl⟩
      rw [← hn] at c2 hjz hcap hjl
      have HN := Lib.hid hn
      have hmk := make_64
      have HC0 := Lib.hid c0
      have HC2 := Lib.hid c2
      clear hps hn h1 hfew hg
      go_enter Tryd.func19, Tryd.ntmps19
      go_wp2_with (go_at_call 49; refine CH.out.mono ?_; rintro e w' ⟨rfl, hq⟩; subst hq)
      have HSD := Lib.hid (HS.out.keep0 (by exact (Chg.refl [] w).drew))
      have HC6 : Hid (Chg [] w (w.drew.alloc (.cells Z64 5))) := Lib.hid (by exact ((Chg.refl [] w).drew).alloc _)
      have HSA := Lib.hid (HS.out.keep0 HC6.out)
      have CL1 := Lib.hid (CL.out _ HSA.out w.drew.heap.size (heap_alloc_new w.drew _) (fun hm => by
        have a1 := HUL.out _ hm
        have a2 : w.drew.heap.size = w.heap.size := rfl
        omega))
      go_wp2_with fail
      refine wp_region_L [] (by kernel_rfl) ?_ (fun hHeld => ?_)
      · exact HoldC.nil
      refine wpAnyL_take (i := 0) (oi := _) (v := ?_) rfl (by kernel_rfl) (by kernel_rfl) (by kernel_rfl) (by kernel_rfl) (by kernel_rfl) (fun _ _ _ h => h) (Or.inl ⟨by rfl, ?_⟩) (by assumption) (fun hNew => ?_)
      rotate_left
      · intro w _
        go_simp
        try with_reducible rfl
      clear hHeld
      have hHeld := hNew
      clear hNew
      try simp only [List.getElem_toArray, List.getElem_cons_succ, List.getElem_cons_zero, Act.put, List.setIfInBounds_toArray, List.set_cons_zero, List.set_cons_succ]
      refine wpAnyL_take (i := 1) (oi := _) (v := ?_) rfl (by kernel_rfl) (by kernel_rfl) (by kernel_rfl) (by kernel_rfl) (by kernel_rfl) (fun _ _ _ h => h) (Or.inl ⟨by rfl, ?_⟩) (by assumption) (fun hNew => ?_)
      rotate_left
      · intro w _
        go_simp
        try with_reducible rfl
      clear hHeld
      have hHeld := hNew
      clear hNew
      try simp only [List.getElem_toArray, List.getElem_cons_succ, List.getElem_cons_zero, Act.put, List.setIfInBounds_toArray, List.set_cons_zero, List.set_cons_succ]
      refine wpAnyL_take (i := 2) (oi := _) (v := ?_) rfl (by kernel_rfl) (by kernel_rfl) (by kernel_rfl) (by kernel_rfl) (by kernel_rfl) (fun _ _ _ h => h) (Or.inl ⟨by rfl, ?_⟩) (by assumption) (fun hNew => ?_)
      rotate_left
      · intro w _
        go_simp
        try with_reducible rfl
      clear hHeld
      have hHeld := hNew
      clear hNew
      try simp only [List.getElem_toArray, List.getElem_cons_succ, List.getElem_cons_zero, Act.put, List.setIfInBounds_toArray, List.set_cons_zero, List.set_cons_succ]
      refine wpAnyL_ready (rs := [3, 4]) (by kernel_rfl) (by simp) ?_
      refine AllReadyL.cons (o := _) rfl (fun K hK => ?_) (AllReadyL.cons (o := _) rfl (fun K hK => ?_) AllReadyL.nil)
      · try simp only [List.getElem_toArray, List.getElem_cons_succ, List.getElem_cons_zero]
        go_simp
        refine (CA.out w.drew HSD.out).mono ?_
        rintro e w' ⟨rfl, hq⟩
        subst hq
        try go_wp2_with fail
        clear hHeld
        refine hK.out _ _ ?_ (fun hHeld => ?_)
        · exact HoldC.nil
        clear hK K
        try simp only [List.getElem_toArray, List.getElem_cons_succ, List.getElem_cons_zero, Act.put, List.setIfInBounds_toArray, List.set_cons_zero, List.set_cons_succ]
        refine wpAnyL_ready (rs := [4]) (by kernel_rfl) (by simp) ?_
        refine AllReadyL.cons (o := _) rfl (fun K hK => ?_) AllReadyL.nil
        try simp only [List.getElem_toArray, List.getElem_cons_succ, List.getElem_cons_zero]
        go_simp
        clear hHeld
        refine hK.out _ _ ?_ (fun hHeld => ?_)
        · exact HoldC.nil
        clear hK K
        try simp only [List.getElem_toArray, List.getElem_cons_succ, List.getElem_cons_zero, Act.put, List.setIfInBounds_toArray, List.set_cons_zero, List.set_cons_succ]
        refine wpAnyL_ready (rs := [5]) (by kernel_rfl) (by simp) ?_
        refine AllReadyL.cons (o := _) rfl (fun K hK => ?_) AllReadyL.nil
        try simp only [List.getElem_toArray, List.getElem_cons_succ, List.getElem_cons_zero]
        go_simp
        refine CL1.out.mono ?_
        rintro e w7 ⟨rfl, hs7⟩
        have hs7' := Sid.pre HC6.out hs7
        try go_wp2_with fail
        clear hHeld
        refine hK.out _ _ ?_ (fun hHeld => ?_)
        · exact HoldC.nil
        clear hK K
        try simp only [List.getElem_toArray, List.getElem_cons_succ, List.getElem_cons_zero, Act.put, List.setIfInBounds_toArray, List.set_cons_zero, List.set_cons_succ]
        refine wpAnyL_take (i := 6) (oi := _) (v := ?_) rfl (by kernel_rfl) (by kernel_rfl) (by kernel_rfl) (by kernel_rfl) (by kernel_rfl) (fun _ _ _ h => h) (Or.inl ⟨by rfl, ?_⟩) (by assumption) (fun hNew => ?_)
        rotate_left
        · intro w _
          go_simp
          try with_reducible rfl
        clear hHeld
        have hHeld := hNew
        clear hNew
        try simp only [List.getElem_toArray, List.getElem_cons_succ, List.getElem_cons_zero, Act.put, List.setIfInBounds_toArray, List.set_cons_zero, List.set_cons_succ]
        refine wpAnyL_done (by kernel_rfl) ?_ _
        clear hHeld
        by_cases hr1 : r1 = 0
        · subst hr1
          have HG1 := Lib.hid HG.out
          rw [if_neg (show ¬ (0 : Int) ≠ 0 by simp)] at HG1
          obtain ⟨U7, ⟨S7, rv7, R7, H7⟩, hU7, hC7⟩ := hs7'
          have c27 : w7.cell? ⟨q, 2, none⟩ = some rv7 := blk_cell H7.obj.head 2 _ rfl
          obtain ⟨g7, cap7, kv7, hrv7, hcap7, hcm7, hR7, _, _, _, _, _⟩ := H7.at j (by rw [HN.out] at hjl; exact hjl)
          rw [show ({ s with d := d1 } : SS).rows.length = s.rows.length from rfl, ← HN.out] at hrv7 hcap7
          have HSR := Lib.hid (H7.setRow j (by rw [HN.out] at hjl; exact hjl) g7 cap7 (by rw [hrv7, HN.out]) noRow (.slice none 0 0) (BytesAt.nil _) (by simp [Value.ownBlock]) ⟨by decide, by decide⟩)
          have TH := Lib.hid (H7.there j (by rw [HN.out] at hjl; exact hjl) g7 cap7 (by rw [hrv7, HN.out]))
          have HU7 := Lib.hid hU7
          have HC7 := Lib.hid hC7
          subst hrv7
          clear H7 hU7 hC7 hs7 hR7 CL CL1
          go_wp2_with (refine wpList_store_mid (by rfl) 89 (.tmp 46) (.tmp 45) (by rfl) g7 (j * 3) #[.bool false, .int .i64 0, .slice none 0 0] (by rfl) (by rfl) TH.out (by kernel_rfl) (by simp [Value.oneCell']) ?_)
          go_ret
          rw [HG1.out]
          exact ⟨rfl, Sid.glue HU7.out HC7.out HSR.out⟩
        · have q1 : (r1 != 0) = true := by simp [hr1]
          have HG1 : Hid (Z = (r1, { s with d := d1 })) := Lib.hid (by rw [HG.out, if_pos hr1])
          have HS7 := Lib.hid hs7'
          clear hs7' hs7 hr1 CL CL1
          go_wp2
          go_ret
          rw [HG1.out]
          exact ⟨rfl, HS7.out⟩
      · try simp only [List.getElem_toArray, List.getElem_cons_succ, List.getElem_cons_zero]
        go_simp
        clear hHeld
        refine hK.out _ _ ?_ (fun hHeld => ?_)
        · exact HoldC.nil
        clear hK K
        try simp only [List.getElem_toArray, List.getElem_cons_succ, List.getElem_cons_zero, Act.put, List.setIfInBounds_toArray, List.set_cons_zero, List.set_cons_succ]
        refine wpAnyL_ready (rs := [3]) (by kernel_rfl) (by simp) ?_
        refine AllReadyL.cons (o := _) rfl (fun K hK => ?_) AllReadyL.nil
        try simp only [List.getElem_toArray, List.getElem_cons_succ, List.getElem_cons_zero]
        go_simp
        refine (CA.out _ HSA.out).mono ?_
        rintro e w' ⟨rfl, hq⟩
        subst hq
        try go_wp2_with fail
        clear hHeld
        refine hK.out _ _ ?_ (fun hHeld => ?_)
        · exact HoldC.nil
        clear hK K
        try simp only [List.getElem_toArray, List.getElem_cons_succ, List.getElem_cons_zero, Act.put, List.setIfInBounds_toArray, List.set_cons_zero, List.set_cons_succ]
        refine wpAnyL_ready (rs := [5]) (by kernel_rfl) (by simp) ?_
        refine AllReadyL.cons (o := _) rfl (fun K hK => ?_) AllReadyL.nil
        try simp only [List.getElem_toArray, List.getElem_cons_succ, List.getElem_cons_zero]
        go_simp
        refine CL1.out.mono ?_
        rintro e w7 ⟨rfl, hs7⟩
        have hs7' := Sid.pre HC6.out hs7
        try go_wp2_with fail
        clear hHeld
        refine hK.out _ _ ?_ (fun hHeld => ?_)
        · exact HoldC.nil
        clear hK K
        try simp only [List.getElem_toArray, List.getElem_cons_succ, List.getElem_cons_zero, Act.put, List.setIfInBounds_toArray, List.set_cons_zero, List.set_cons_succ]
        refine wpAnyL_take (i := 6) (oi := _) (v := ?_) rfl (by kernel_rfl) (by kernel_rfl) (by kernel_rfl) (by kernel_rfl) (by kernel_rfl) (fun _ _ _ h => h) (Or.inl ⟨by rfl, ?_⟩) (by assumption) (fun hNew => ?_)
        rotate_left
        · intro w _
          go_simp
          try with_reducible rfl
        clear hHeld
        have hHeld := hNew
        clear hNew
        try simp only [List.getElem_toArray, List.getElem_cons_succ, List.getElem_cons_zero, Act.put, List.setIfInBounds_toArray, List.set_cons_zero, List.set_cons_succ]
        refine wpAnyL_done (by kernel_rfl) ?_ _
        clear hHeld
        by_cases hr1 : r1 = 0
        · subst hr1
          have HG1 := Lib.hid HG.out
          rw [if_neg (show ¬ (0 : Int) ≠ 0 by simp)] at HG1
          obtain ⟨U7, ⟨S7, rv7, R7, H7⟩, hU7, hC7⟩ := hs7'
          have c27 : w7.cell? ⟨q, 2, none⟩ = some rv7 := blk_cell H7.obj.head 2 _ rfl
          obtain ⟨g7, cap7, kv7, hrv7, hcap7, hcm7, hR7, _, _, _, _, _⟩ := H7.at j (by rw [HN.out] at hjl; exact hjl)
          rw [show ({ s with d := d1 } : SS).rows.length = s.rows.length from rfl, ← HN.out] at hrv7 hcap7
          have HSR := Lib.hid (H7.setRow j (by rw [HN.out] at hjl; exact hjl) g7 cap7 (by rw [hrv7, HN.out]) noRow (.slice none 0 0) (BytesAt.nil _) (by simp [Value.ownBlock]) ⟨by decide, by decide⟩)
          have TH := Lib.hid (H7.there j (by rw [HN.out] at hjl; exact hjl) g7 cap7 (by rw [hrv7, HN.out]))
          have HU7 := Lib.hid hU7
          have HC7 := Lib.hid hC7
          subst hrv7
          clear H7 hU7 hC7 hs7 hR7 CL CL1
          go_wp2_with (refine wpList_store_mid (by rfl) 89 (.tmp 46) (.tmp 45) (by rfl) g7 (j * 3) #[.bool false, .int .i64 0, .slice none 0 0] (by rfl) (by rfl) TH.out (by kernel_rfl) (by simp [Value.oneCell']) ?_)
          go_ret
          rw [HG1.out]
          exact ⟨rfl, Sid.glue HU7.out HC7.out HSR.out⟩
        · have q1 : (r1 != 0) = true := by simp [hr1]
          have HG1 : Hid (Z = (r1, { s with d := d1 })) := Lib.hid (by rw [HG.out, if_pos hr1])
          have HS7 := Lib.hid hs7'
          clear hs7' hs7 hr1 CL CL1
          go_wp2
          go_ret
          rw [HG1.out]
          exact ⟨rfl, HS7.out⟩
  · have hg : s.clear i = (1, s) := by unfold SS.clear; rw [if_pos (by simpa using hi)]
    have HP := Lib.hid (SidPost.same (c := 1) HS.out)
    rw [decide_eq_false hi] at CH
    have HG := Lib.hid hg
    rw [HG.out]
    clear H hi hg c2
    go_enter Tryd.func19, Tryd.ntmps19
    go_wp2_with (go_at_call 49; refine CH.out.mono ?_; rintro e w' ⟨rfl, hq⟩; subst hq)
    go_ret
    exact HP.out
end Go.Proofs.YtipfgghdoicdhaaDoor.W
