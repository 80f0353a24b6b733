/- Package slot: Put. -/
import Derived.Test.YtipfgghdoicdhaaDoorS4
import Derived.Test.YtipfgghdoicdhaaDoorRCopy
import Derived.Test.YtipfgghdoicdhaaDoorPNum0
namespace Go.Proofs.YtipfgghdoicdhaaDoor.W
open Go.RowKit
set_option linter.unusedVariables false
set_option linter.unusedSimpArgs false

/-- What a change of the slots answers. -/
def SidPost (w : World) (q p : Nat) (U : List Nat) (r : Int × SS) (e : Ending) (w' : World) : Prop := e = .returned (.int .i64 r.1) ∧ Sid w w' q p U r.2
theorem SidPost.same {w : World} {q p : Nat} {U : List Nat} {s : SS} {c : Int} (h : SlotsAt w q p U s) : SidPost w q p U (c, s) (.returned (.int .i64 c)) w := ⟨rfl, Sid.same h⟩

theorem SlotsOk.keep0 {w w' : World} {q p : Nat} {S U : List Nat} {s : SS} {rv : Value} {R : List (SRow × Value)} (h : SlotsOk w q p S U s rv R) (hc : Chg [] w w') : SlotsOk w' q p S U s rv R :=
  ⟨h.obj.keep hc (by simp), h.disk.keep hc (by simp), h.rows, h.sep, fun x hx => ⟨(h.keys x hx).1.chg hc (by simp), fun g hg => ⟨Nat.lt_of_lt_of_le ((h.keys x hx).2 g hg).1 hc.size, ((h.keys x hx).2 g hg).2⟩⟩, h.uS, h.uB, fun x hx => Nat.lt_of_lt_of_le (h.uL x hx) hc.size, h.ok⟩

set_option maxHeartbeats 8000000 in
set_option maxRecDepth 100000 in
theorem sput_any (q p : Nat) (U : List Nat) (s : SS) (i : Int) (kv bv : Value) (key b : List UInt8) (w : World) (h : SlotsAt w q p U s) (hk : BytesAt w kv key) (hkU : key ≠ [] → ∀ k, kv.ownBlock = some k → k ∉ U) (hb : BytesAt w bv b) (hbU : b ≠ [] → ∀ k, bv.ownBlock = some k → k ∉ U)
    (hkl : key.length ≤ 1000000) (hbl : b.length ≤ 1000000) (ho : s.d.ops ≤ 900000000) (hw : s.d.since.length ≤ 900000) :
    Calls Tryd.prog 17 #[.pointer (some ⟨q, 0, none⟩), .int .i64 i, kv, bv] w (SidPost w q p U (s.put i key b)) := by
  have CH := Lib.hid (shas_any q p U s i w h)
  have HS := Lib.hid h
  have HK := Lib.hid hk
  have HB := Lib.hid hb
  obtain ⟨S, rv, R, H⟩ := h
  have c0 : w.cell? ⟨q, 0, none⟩ = some (.pointer (some ⟨p, 0, none⟩)) := blk_cell H.obj.head 0 _ rfl
  have c2 : w.cell? ⟨q, 2, none⟩ = some rv := blk_cell H.obj.head 2 _ rfl
  obtain ⟨ka, kc, rfl⟩ := hk.slice
  obtain ⟨ba, bc, rfl⟩ := hb.slice
  by_cases hi : s.has i
  · rw [decide_eq_true hi] at CH
    have hi' := hi
    obtain ⟨h0, h1⟩ := hi'
    obtain ⟨j, rfl⟩ := Int.eq_ofNat_of_zero_le h0
    have hjl : j < s.rows.length := by omega
    by_cases hlong : 40 < key.length ∨ 448 < b.length
    · have hg : s.put (j : Int) key b = (3, s) := by unfold SS.put; rw [if_neg (by simpa using hi), if_pos hlong]
      have HP := Lib.hid (SidPost.same (c := 3) HS.out)
      have HG := Lib.hid hg
      rw [HG.out]
      clear H hi hg hk hb hkU hbU c2
      by_cases hk40 : 40 < key.length
      · have hz : (40 : Int) < (key.length : Int) := by omega
        clear hlong hk40
        go_enter Tryd.func17, Tryd.ntmps17
        go_wp2_with (go_at_call 49; refine CH.out.mono ?_; rintro e w' ⟨rfl, hq⟩; subst hq)
        go_ret
        exact HP.out
      · have hz : ¬ (40 : Int) < (key.length : Int) := by omega
        have hz2 : (448 : Int) < (b.length : Int) := by omega
        clear hlong hk40
        go_enter Tryd.func17, Tryd.ntmps17
        go_wp2_with (go_at_call 49; refine CH.out.mono ?_; rintro e w' ⟨rfl, hq⟩; subst hq)
        go_ret
        exact HP.out
    · obtain ⟨hk40, hb448⟩ : key.length ≤ 40 ∧ b.length ≤ 448 := by omega
      obtain ⟨g, cap, kv0, hrv, hcap, hcm, hR, k0, k1, k2, k3, k4⟩ := H.at j hjl
      have hfew := H.few
      have hrow : s.row (j : Int) = s.rows.getD j noRow := rfl
      have hz1 : ¬ (40 : Int) < (key.length : Int) := by omega
      have hz2 : ¬ (448 : Int) < (b.length : Int) := by omega
      by_cases hu : (s.row (j : Int)).used = true
      · have hg : s.put (j : Int) key b = (7, s) := by unfold SS.put; rw [if_neg (by simpa using hi), if_neg hlong, if_pos hu]
        have HP := Lib.hid (SidPost.same (c := 7) HS.out)
        have HG := Lib.hid hg
        rw [HG.out]
        rw [hrow] at hu
        rw [hu] at k0
        subst hrv
        generalize s.rows.getD j noRow = r at *
        generalize s.rows.length = n at *
        have hjz : (j : Int) < (n : Int) := by omega
        have hjz1 : (j : Int).toNat = j := by omega
        clear H hR k1 k2 k3 k4 hu hg hi hrow hlong hk hb hkU hbU
        go_enter Tryd.func17, Tryd.ntmps17
        go_wp2_with (go_at_call 49; refine CH.out.mono ?_; rintro e w' ⟨rfl, hq⟩; subst hq)
        go_ret
        exact HP.out
      · have hu' : (s.rows.getD j noRow).used = false := by rw [← hrow]; simpa using hu
        have hg : s.put (j : Int) key b = if (s.d.lays (s.pos j + 1) b).1 ≠ 0 then ((s.d.lays (s.pos j + 1) b).1, { s with d := (s.d.lays (s.pos j + 1) b).2 }) else
            if ((s.d.lays (s.pos j + 1) b).2.lays (s.pos j) (headBytes b.length key)).1 ≠ 0 then (((s.d.lays (s.pos j + 1) b).2.lays (s.pos j) (headBytes b.length key)).1, { s with d := ((s.d.lays (s.pos j + 1) b).2.lays (s.pos j) (headBytes b.length key)).2 }) else
            (0, { s with d := ((s.d.lays (s.pos j + 1) b).2.lays (s.pos j) (headBytes b.length key)).2, rows := s.rows.set j ⟨true, b.length, key⟩ }) := by
          unfold SS.put
          rw [if_neg (by simpa using hi), if_neg hlong, if_neg hu]
          rfl
        rw [hu'] at k0
        have hpos : s.pos (j : Int) = s.first + 8 * j := rfl
        have hroom := H.ok.room
        have hns : nsec b.length ≤ 7 := by unfold nsec; omega
        have hns2 : nsec (headBytes b.length key).length = 1 := by rw [headBytes_len _ _ hb448 hk40]; unfold nsec; omega
        have CA := Lib.hid (sat_any q p U s j w HS.out (by omega))
        have CL1 := Lib.hid (slay_any q p U s (s.pos j + 1) _ b w HS.out HB.out hbU (by omega) (by omega) (by omega) (by omega))
        have CA2 : Hid (∀ U' d' w', SlotsAt w' q p U' { s with d := d' } → Calls Tryd.prog 51 #[.pointer (some ⟨q, 0, none⟩), .int .i64 (j : Int)] w' fun e w'' => e = .returned (.int .i64 ((s.pos (j : Int) : Nat) : Int)) ∧ w' = w'') := Lib.hid (fun U' d' w' h' => sat_any q p U' { s with d := d' } j w' h' (by omega))
        have CL2 := Lib.hid (fun U' d' v w' (h' : SlotsAt w' q p U' { s with d := d' }) (hn : d'.n = s.d.n) (hv : BytesAt w' v (headBytes b.length key)) hvU ho' hw' => slay_any q p U' { s with d := d' } (s.pos j) v (headBytes b.length key) w' h' hv hvU (by rw [hns2]; show _ ≤ d'.n; omega) (by rw [headBytes_len _ _ hb448 hk40]; omega) ho' hw')
        have hok1 := s.d.lays_ok (s.pos j + 1) b
        have hok2 := (s.d.lays (s.pos j + 1) b).2.lays_ok (s.pos j) (headBytes b.length key)
        rw [hns2] at hok2
        obtain ⟨Z, hZ⟩ : ∃ Z, Z = s.put (j : Int) key b := ⟨_, rfl⟩
        rw [← hZ] at hg ⊢
        have HKU := Lib.hid hkU
        have HBU := Lib.hid hbU
        have HN2 := Lib.hid hns2
        have hjz : (j : Int) < (s.rows.length : Int) := by omega
        have hjz1 : (j : Int).toNat = j := by omega
        have hpl : s.pos (j : Int) ≤ 4160 := by omega
        subst hrv
        have H3 : Hid ((h2 b.length).2 = 0 ∧ (h3 b.length key).2 = 0) := Lib.hid ⟨by rw [h2_eq _ hb448], by rw [h3_eq _ _ hb448 hk40]⟩
        clear H hR k1 k2 k3 k4 hu hu' hi hrow hlong hk hb hkU hbU hpos hroom hns2 hZ
        generalize s.d.lays (s.pos j + 1) b = z1 at *
        obtain ⟨r1, d1⟩ := z1
        dsimp only at CL1 CL2 hok1 hok2 hg
        obtain ⟨pos, hps⟩ : ∃ pos, pos = s.pos (j : Int) := ⟨_, rfl⟩
        rw [← hps] at CL1 CL2 CA CA2 hpl hok2 hg
        have HG := Lib.hid hg
        clear hg
        have HPS := Lib.hid hps
        obtain ⟨n, hn⟩ : ∃ n, n = s.rows.length := ⟨_, rfl⟩
        rw [← hn] at c2 hjz hcap hjl
        have HN := Lib.hid hn
        clear hps hn h1 hfew
        go_enter Tryd.func17, Tryd.ntmps17
        go_wp2_with (first
          | (go_at_call 49; refine CH.out.mono ?_; rintro e w' ⟨rfl, hq⟩; subst hq)
          | (go_at_call 51; refine CA.out.mono ?_; rintro e w' ⟨rfl, hq⟩; subst hq))
        refine CL1.out.mono ?_
        rintro e w1 ⟨rfl, hs1⟩
        by_cases hr1 : r1 = 0
        · subst hr1
          have HG1 := Lib.hid HG.out
          rw [if_neg (show ¬ (0 : Int) ≠ 0 by simp)] at HG1
          obtain ⟨U1, hS1, hU1, hC1⟩ := hs1
          obtain ⟨w2, hw2⟩ : ∃ w2, w2 = w1.alloc (.cells #[.slice none 0 0, .int .i64 0] 101) := ⟨_, rfl⟩
          have hc2 : Chg [] w1 w2 := by rw [hw2]; exact (Chg.refl _ _).alloc _
          have hp2 : PenAt 101 w2 w1.heap.size none [] 0 := ⟨.slice none 0 0, by rw [hw2]; exact heap_alloc_new w1 _, BRow.nil _, rfl, by simp, by simp⟩
          have HS1 := Lib.hid hS1
          have HU1 := Lib.hid hU1
          have HC1 := Lib.hid hC1
          have HW2 := Lib.hid hw2
          have CN1 := Lib.hid (pnum_any w1.heap.size none [] 0 1 1 w2 hp2 (by omega) (by omega))
          rw [show penNum [] 0 1 (1 : Int).toNat = h1 from rfl] at CN1
          have HC2 := Lib.hid hc2
          clear hS1 hU1 hC1 hw2 hp2 hc2 CL1
          go_wp2_with fail
          rw [← HW2.out]
          refine CN1.out.mono ?_
          rintro e w3 ⟨rfl, hw3⟩
          obtain ⟨g3, hp3, hg3, hc3⟩ := hw3
          have HC3 : Hid (Chg [] w1 w3) := Lib.hid (HC2.out.trans hc3 (fun x hx => .inr (by
            have : x = w1.heap.size := by simpa using hx
            omega)))
          have hge3 : ∀ k, g3 = some k → w1.heap.size ≤ k := by
            intro k hk
            rcases hg3 with rfl | ⟨k', rfl, h'⟩
            · cases hk
            · obtain rfl : k' = k := by simpa using hk
              exact Nat.le_trans HC2.out.size h'
          have CN2 := Lib.hid (pnum_any w1.heap.size g3 h1.1 h1.2 (b.length : Int) 2 w3 hp3 (by omega) (by omega))
          rw [show penNum h1.1 h1.2 (b.length : Int) (2 : Int).toNat = h2 b.length from rfl] at CN2
          have HGE3 := Lib.hid hge3
          clear hp3 hg3 hc3 hge3 CN1
          go_wp2_with fail
          refine CN2.out.mono ?_
          rintro e w4 ⟨rfl, hw4⟩
          obtain ⟨g4, hp4, hg4, hc4⟩ := hw4
          have HC4 : Hid (Chg [] w1 w4) := Lib.hid (HC3.out.trans hc4 (fun x hx => .inr (by
            rcases List.mem_cons.1 hx with rfl | hx
            · exact Nat.le_refl _
            · exact HGE3.out x (by simpa using hx))))
          have hge4 : ∀ k, g4 = some k → w1.heap.size ≤ k := by
            intro k hk
            rcases hg4 with rfl | ⟨k', rfl, h'⟩
            · exact HGE3.out k hk
            · obtain rfl : k' = k := by simpa using hk
              exact Nat.le_trans HC3.out.size h'
          have hkey4 : BytesAt w4 (.slice ka key.length kc) key := (HK.out.chgW HC1.out HKU.out).chg HC4.out (by simp)
          have CR := Lib.hid (praw_any w1.heap.size g4 (h2 b.length).1 (h2 b.length).2 _ key w4 hp4 hkey4 (by omega))
          rw [show penRaw (h2 b.length).1 (h2 b.length).2 key = h3 b.length key from rfl] at CR
          have HGE4 := Lib.hid hge4
          clear hp4 hg4 hc4 hge4 CN2 hkey4
          go_wp2_with fail
          refine CR.out.mono ?_
          rintro e w5 ⟨rfl, hw5⟩
          obtain ⟨g5, hp5, hg5, hc5⟩ := hw5
          have HC5 : Hid (Chg [] w1 w5) := Lib.hid (HC4.out.trans hc5 (fun x hx => .inr (by
            rcases List.mem_cons.1 hx with rfl | hx
            · exact Nat.le_refl _
            · exact HGE4.out x (by simpa using hx))))
          rw [H3.out.2] at hp5
          have CB := Lib.hid (pbytes_any w1.heap.size g5 (h3 b.length key).1 w5 hp5)
          rw [← head_h3] at CB
          clear hp5 hg5 hc5 CR
          go_wp2_with fail
          refine CB.out.mono ?_
          rintro e w6 ⟨v6, rfl, hr6, ho6, hc6⟩
          have HC6 : Hid (Chg [] w1 w6) := Lib.hid (HC5.out.trans hc6 (by simp))
          have hS6 : SlotsAt w6 q p U1 { s with d := d1 } := HS1.out.keep0 HC6.out
          have hv6 : headBytes b.length key ≠ [] → ∀ k, v6.ownBlock = some k → k ∉ U1 := fun _ k hk hm => by
            have a1 := ho6 k hk
            obtain ⟨_, _, _, H1⟩ := HS1.out
            have a2 := H1.uL k hm
            have a3 := HC5.out.size
            omega
          have CAT := Lib.hid (CA2.out U1 d1 w6 hS6)
          have CL := Lib.hid (CL2.out U1 d1 v6 w6 hS6 hok1.1 hr6.bytes hv6 (by rw [HN2.out]; show d1.ops + 1 + 1 ≤ _; omega) (by rw [HN2.out]; show d1.since.length + 1 ≤ _; omega))
          clear CL2 CA2 hS6 hv6 hr6 ho6 hc6 CB
          generalize d1.lays pos (headBytes b.length key) = z2 at *
          obtain ⟨r2, d2⟩ := z2
          dsimp only at CL hok2 HG1
          go_wp2_with (go_at_call 51; refine CAT.out.mono ?_; rintro e w' ⟨rfl, hq⟩; subst hq)
          refine CL.out.mono ?_
          rintro e w7 ⟨rfl, hs7⟩
          have hs7' := Sid.glue HU1.out HC1.out (Sid.pre HC6.out hs7)
          by_cases hr2 : r2 = 0
          · subst hr2
            rw [if_neg (show ¬ (0 : Int) ≠ 0 by simp)] at HG1
            obtain ⟨U7, ⟨S7, rv7, R7, H7⟩, hU7, hC7⟩ := hs7'
            have c07 : w7.cell? ⟨q, 0, none⟩ = some (.pointer (some ⟨p, 0, none⟩)) := blk_cell H7.obj.head 0 _ rfl
            obtain ⟨g7, cap7, kv7, hrv7, hcap7, hcm7, hR7, _, _, _, _, _⟩ := H7.at j (by rw [HN.out] at hjl; exact hjl)
            have c27 : w7.cell? ⟨q, 2, none⟩ = some rv7 := blk_cell H7.obj.head 2 _ rfl
            rw [show ({ s with d := d2 } : SS).rows.length = s.rows.length from rfl, ← HN.out] at hrv7 hcap7
            have CC := Lib.hid (clone_any _ key w7.drew ((HK.out.chgW hC7 HKU.out).chg (by exact (Chg.refl [] w7).drew) (by simp)) (by omega))
            have HH7 := Lib.hid H7
            have HU7 := Lib.hid hU7
            have HC7 := Lib.hid hC7
            have HRV : Hid (∃ x, x = rv7 ∧ x = .slice (some ⟨g7, 0, none⟩) n cap7) := Lib.hid ⟨rv7, rfl, hrv7⟩
            subst hrv7
            clear H7 hU7 hC7 hs7 hR7 CL CAT
            go_wp2_with fail
            refine wp_region_L [(11, fun w' => w'.cell? ⟨q, 2, none⟩ = some (.slice (some ⟨g7, 0, none⟩) n cap7))] (by kernel_rfl) ?_ (fun hHeld => ?_)
            · exact (HoldC.cons (c27) HoldC.nil)
            refine wpAnyL_take (i := 0) (oi := _) (v := ?_) rfl (by kernel_rfl) (by kernel_rfl) (by kernel_rfl) (by kernel_rfl) (by kernel_rfl) (fun _ _ _ h => h) (Or.inl ⟨by rfl, ?_⟩) (by assumption) (fun hNew => ?_)
            rotate_left
            · intro w _
              go_simp
              try with_reducible rfl
            clear hHeld
            have hHeld := hNew
            clear hNew
            try simp only [List.getElem_toArray, List.getElem_cons_succ, List.getElem_cons_zero, Act.put, List.setIfInBounds_toArray, List.set_cons_zero, List.set_cons_succ]
            refine wpAnyL_take (i := 1) (oi := _) (v := ?_) rfl (by kernel_rfl) (by kernel_rfl) (by kernel_rfl) (by kernel_rfl) (by kernel_rfl) (fun _ _ _ h => h) (Or.inl ⟨by rfl, ?_⟩) (by assumption) (fun hNew => ?_)
            rotate_left
            · intro w _
              go_simp
              try with_reducible rfl
            clear hHeld
            have hHeld := hNew
            clear hNew
            try simp only [List.getElem_toArray, List.getElem_cons_succ, List.getElem_cons_zero, Act.put, List.setIfInBounds_toArray, List.set_cons_zero, List.set_cons_succ]
            refine wpAnyL_take (i := 2) (oi := _) (v := ?_) rfl (by kernel_rfl) (by kernel_rfl) (by kernel_rfl) (by kernel_rfl) (by kernel_rfl) (fun _ _ _ h => h) (Or.inl ⟨by rfl, ?_⟩) (by assumption) (fun hNew => ?_)
            rotate_left
            · intro w _
              go_simp
              try with_reducible rfl
            clear hHeld
            have hHeld := hNew
            clear hNew
            try simp only [List.getElem_toArray, List.getElem_cons_succ, List.getElem_cons_zero, Act.put, List.setIfInBounds_toArray, List.set_cons_zero, List.set_cons_succ]
            refine wpAnyL_load 0 (i := 3) (oi := _) (v := ?_) rfl rfl (by kernel_rfl) (by kernel_rfl) (by kernel_rfl) (by kernel_rfl) (by kernel_rfl) (by kernel_rfl) (fun _ _ _ h => h) (Or.inl ⟨by rfl, ?_⟩) (by assumption) (fun hNew => ?_)
            rotate_left
            · intro w hSw
              (try dsimp only at hSw)
              go_simp
              try with_reducible rfl
            clear hHeld
            have hHeld := hNew
            clear hNew
            try simp only [List.getElem_toArray, List.getElem_cons_succ, List.getElem_cons_zero, Act.put, List.setIfInBounds_toArray, List.set_cons_zero, List.set_cons_succ]
            refine wpAnyL_take (i := 4) (oi := _) (v := ?_) rfl (by kernel_rfl) (by kernel_rfl) (by kernel_rfl) (by kernel_rfl) (by kernel_rfl) (fun _ _ _ h => h) (Or.inl ⟨by rfl, ?_⟩) (by assumption) (fun hNew => ?_)
            rotate_left
            · intro w _
              go_simp
              try with_reducible rfl
            clear hHeld
            have hHeld := hNew
            clear hNew
            try simp only [List.getElem_toArray, List.getElem_cons_succ, List.getElem_cons_zero, Act.put, List.setIfInBounds_toArray, List.set_cons_zero, List.set_cons_succ]
            refine wpAnyL_take (i := 5) (oi := _) (v := ?_) rfl (by kernel_rfl) (by kernel_rfl) (by kernel_rfl) (by kernel_rfl) (by kernel_rfl) (fun _ _ _ h => h) (Or.inl ⟨by rfl, ?_⟩) (by assumption) (fun hNew => ?_)
            rotate_left
            · intro w _
              go_simp
              try with_reducible rfl
            clear hHeld
            have hHeld := hNew
            clear hNew
            try simp only [List.getElem_toArray, List.getElem_cons_succ, List.getElem_cons_zero, Act.put, List.setIfInBounds_toArray, List.set_cons_zero, List.set_cons_succ]
            refine wpAnyL_take (i := 6) (oi := _) (v := ?_) rfl (by kernel_rfl) (by kernel_rfl) (by kernel_rfl) (by kernel_rfl) (by kernel_rfl) (fun _ _ _ h => h) (Or.inl ⟨by rfl, ?_⟩) (by assumption) (fun hNew => ?_)
            rotate_left
            · intro w _
              go_simp
              try with_reducible rfl
            clear hHeld
            have hHeld := hNew
            clear hNew
            try simp only [List.getElem_toArray, List.getElem_cons_succ, List.getElem_cons_zero, Act.put, List.setIfInBounds_toArray, List.set_cons_zero, List.set_cons_succ]
            refine wpAnyL_take (i := 7) (oi := _) (v := ?_) rfl (by kernel_rfl) (by kernel_rfl) (by kernel_rfl) (by kernel_rfl) (by kernel_rfl) (fun _ _ _ h => h) (Or.inl ⟨by rfl, ?_⟩) (by assumption) (fun hNew => ?_)
            rotate_left
            · intro w _
              go_simp
              try with_reducible rfl
            clear hHeld
            have hHeld := hNew
            clear hNew
            try simp only [List.getElem_toArray, List.getElem_cons_succ, List.getElem_cons_zero, Act.put, List.setIfInBounds_toArray, List.set_cons_zero, List.set_cons_succ]
            refine wpAnyL_ready (rs := [8]) (by kernel_rfl) (by simp) ?_
            refine AllReadyL.cons (o := _) rfl (fun K hK => ?_) AllReadyL.nil
            try simp only [List.getElem_toArray, List.getElem_cons_succ, List.getElem_cons_zero]
            go_simp
            refine CC.out.mono ?_
            rintro e w8 ⟨v8, rfl, hr8, ho8, hc8⟩
            have HC8 : Hid (Chg [] w7 w8) := Lib.hid ((by exact (Chg.refl [] w7).drew : Chg [] w7 w7.drew).trans hc8 (by simp))
            obtain ⟨a8, c8, rfl⟩ := hr8.bytes.slice
            have H8 := HH7.out.keep0 HC8.out
            have HSR := Lib.hid (H8.setRow j (by rw [HN.out] at hjl; exact hjl) g7 cap7 (by rw [HN.out]) ⟨true, b.length, key⟩ _ hr8.bytes (fun k hk => ⟨hr8.lt k hk, fun hm => by
              have a1 := ho8 k hk
              have a2 := HH7.out.uL k hm
              have a3 : w7.drew.heap.size = w7.heap.size := rfl
              omega⟩) ⟨hb448, hk40⟩)
            have TH := Lib.hid (H8.there j (by rw [HN.out] at hjl; exact hjl) g7 cap7 (by rw [HN.out]))
            clear H8 hr8 ho8 hc8 CC
            have c28 := HC8.out.cell c27 (by simp)
            try go_wp2_with fail
            clear hHeld
            refine hK.out _ _ ?_ (fun hHeld => ?_)
            · exact (HoldC.cons (c28) HoldC.nil)
            clear hK K
            try simp only [List.getElem_toArray, List.getElem_cons_succ, List.getElem_cons_zero, Act.put, List.setIfInBounds_toArray, List.set_cons_zero, List.set_cons_succ]
            refine wpAnyL_take (i := 9) (oi := _) (v := ?_) rfl (by kernel_rfl) (by kernel_rfl) (by kernel_rfl) (by kernel_rfl) (by kernel_rfl) (fun _ _ _ h => h) (Or.inl ⟨by rfl, ?_⟩) (by assumption) (fun hNew => ?_)
            rotate_left
            · intro w _
              go_simp
              try with_reducible rfl
            clear hHeld
            have hHeld := hNew
            clear hNew
            try simp only [List.getElem_toArray, List.getElem_cons_succ, List.getElem_cons_zero, Act.put, List.setIfInBounds_toArray, List.set_cons_zero, List.set_cons_succ]
            refine wpAnyL_take (i := 10) (oi := _) (v := ?_) rfl (by kernel_rfl) (by kernel_rfl) (by kernel_rfl) (by kernel_rfl) (by kernel_rfl) (fun _ _ _ h => h) (Or.inl ⟨by rfl, ?_⟩) (by assumption) (fun hNew => ?_)
            rotate_left
            · intro w _
              go_simp
              try with_reducible rfl
            clear hHeld
            have hHeld := hNew
            clear hNew
            try simp only [List.getElem_toArray, List.getElem_cons_succ, List.getElem_cons_zero, Act.put, List.setIfInBounds_toArray, List.set_cons_zero, List.set_cons_succ]
            refine wpAnyL_ready (rs := [11]) (by kernel_rfl) (by simp) ?_
            refine AllReadyL.cons (o := _) rfl (fun K hK => ?_) AllReadyL.nil
            try simp only [List.getElem_toArray, List.getElem_cons_succ, List.getElem_cons_zero]
            rw [if_pos (by rfl)]
            refine wp_store_mid 89 (.tmp 92) (.tmp 91) (by rfl) g7 (j * 3) #[.bool true, .int .i64 (b.length : Int), .slice a8 key.length c8] (by rfl) (by rfl) TH.out (by kernel_rfl) (by simp [Value.oneCell']) ?_
            clear hHeld
            refine hK.out _ _ ?_ (fun hHeld => ?_)
            · exact (HoldC.past (by kernel_rfl) HoldC.nil)
            clear hK K
            try simp only [List.getElem_toArray, List.getElem_cons_succ, List.getElem_cons_zero, Act.put, List.setIfInBounds_toArray, List.set_cons_zero, List.set_cons_succ]
            refine wpAnyL_done (by kernel_rfl) ?_ _
            clear hHeld
            go_wp2
            go_ret
            rw [HG1.out]
            exact ⟨rfl, Sid.glue HU7.out HC7.out (Sid.pre HC8.out HSR.out)⟩
          · have q2 : (r2 != 0) = true := by simp [hr2]
            have HG2 : Hid (Z = (r2, { s with d := d2 })) := Lib.hid (by rw [HG1.out, if_pos hr2])
            have HS7 := Lib.hid hs7'
            clear hs7' hs7 hr2
            go_wp2
            go_ret
            rw [HG2.out]
            exact ⟨rfl, HS7.out⟩
        · have q1 : (r1 != 0) = true := by simp [hr1]
          have HG1 : Hid (Z = (r1, { s with d := d1 })) := Lib.hid (by rw [HG.out, if_pos hr1])
          have HS1 := Lib.hid hs1
          clear hs1 CL1 CL2 hr1
          go_wp2
          go_ret
          rw [HG1.out]
          exact ⟨rfl, HS1.out⟩
  · have hg : s.put i key b = (1, s) := by unfold SS.put; rw [if_pos (by simpa using hi)]
    have HP := Lib.hid (SidPost.same (c := 1) HS.out)
    rw [decide_eq_false hi] at CH
    have HG := Lib.hid hg
    rw [HG.out]
    clear H hi hg hk hb hkU hbU c2
    go_enter Tryd.func17, Tryd.ntmps17
    go_wp2_with (go_at_call 49; refine CH.out.mono ?_; rintro e w' ⟨rfl, hq⟩; subst hq)
    go_ret
    exact HP.out
end Go.Proofs.YtipfgghdoicdhaaDoor.W
