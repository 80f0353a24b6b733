/- Package tree: Move, its walk. -/
import Derived.Test.YtaiihklfeoeoeaaT6
namespace Go.Proofs.Ytaiihklfeoeoeaa.W
open Go.RowKit
open Go.Proofs.Ytaiihklfeoeoeaa.NM
set_option linter.unusedVariables false
set_option linter.unusedSimpArgs false

theorem not_none {l : List (List UInt8)} {s : List UInt8} (h : splitB s = some l) : splitB s ≠ none := by rw [h]; simp

set_option maxHeartbeats 8000000 in
set_option maxRecDepth 100000 in
theorem tmove_any (t : Nat) (S : List Nat) (T : PT) (s s2 : ByteArray) (w : World) (h : TreeAt w t S T) (hs : s.size ≤ maxLen) (hs2 : s2.size ≤ maxLen) (hT : T.length ≤ 1000) :
    Calls Try.prog 13 #[.pointer (some ⟨t, 0, none⟩), .string s, .string s2] w (MovePost w t S (tMove T s.data.toList s2.data.toList)) := by
  have H := Lib.hid h
  have HS := Lib.hid hs
  have HS2 := Lib.hid hs2
  have hok := Lib.hid h.ok
  have HTL := Lib.hid hT
  clear h hs hs2 hT
  obtain ⟨Z, hZ⟩ : ∃ Z, tMove T s.data.toList s2.data.toList = Z := ⟨_, rfl⟩
  have HX : Hid (Z = if (tLook T s.data.toList).2.2 ≠ 0 then ((tLook T s.data.toList).2.2, T) else if (tLook T s.data.toList).1 = 1 then (8, T) else
      if splitB s2.data.toList = none then (12, T) else if (withinB s2.data.toList s.data.toList || withinB s.data.toList s2.data.toList) = true then (1, T) else
      if (tPlace T s2.data.toList).2.2 ≠ 0 then ((tPlace T s2.data.toList).2.2, T) else
      if tKid T (tPlace T s2.data.toList).1 (tPlace T s2.data.toList).2.1 ≠ 0 then (7, T) else
      (0, tRename T (tLook T s.data.toList).1 (tPlace T s2.data.toList).1 (tPlace T s2.data.toList).2.1)) := Lib.hid (by rw [← hZ]; rfl)
  rw [hZ]
  clear hZ
  have HP := Lib.hid (tlook_any t S T s w H.out HS.out)
  have HO : Hid ((tLook T s.data.toList).2.2 = 0 → tHas T (tLook T s.data.toList).1 = true ∧ (tLook T s.data.toList).2.1 = tIsDir T (tLook T s.data.toList).1) := Lib.hid look_ok
  generalize tLook T s.data.toList = r at *
  obtain ⟨a, isd, er⟩ := r
  simp only at HX HO
  by_cases h0 : er = 0
  · subst h0
    obtain ⟨o1, _⟩ := HO.out rfl
    have HA := Lib.hid o1
    have has := has_small hok.out o1
    have HX1 : Hid (Z = if a = 1 then (8, T) else
      if splitB s2.data.toList = none then (12, T) else if (withinB s2.data.toList s.data.toList || withinB s.data.toList s2.data.toList) = true then (1, T) else
      if (tPlace T s2.data.toList).2.2 ≠ 0 then ((tPlace T s2.data.toList).2.2, T) else
      if tKid T (tPlace T s2.data.toList).1 (tPlace T s2.data.toList).2.1 ≠ 0 then (7, T) else
      (0, tRename T a (tPlace T s2.data.toList).1 (tPlace T s2.data.toList).2.1)) := Lib.hid (by rw [HX.out, if_neg (by simp)])
    clear o1 HX HO
    by_cases h1 : a = 1
    · have HE : Hid (Z = (8, T)) := Lib.hid (by rw [HX1.out, if_pos h1])
      have hb1 : ((a : Int) == 1) = true := by rw [h1]; rfl
      clear h1 HX1
      go_enter Try.func13, Try.ntmps13
      go_wp2_with fail
      refine HP.out.mono ?_
      rintro e w1 ⟨rfl, hb⟩
      have HB := Lib.hid hb
      clear hb
      go_wp2
      go_ret
      rw [HE.out]
      exact ⟨rfl, TDid.same H.out HB.out⟩
    · have hb1 : ((a : Int) == 1) = false := by simp; omega
      have HX2 : Hid (Z = if splitB s2.data.toList = none then (12, T) else if (withinB s2.data.toList s.data.toList || withinB s.data.toList s2.data.toList) = true then (1, T) else
        if (tPlace T s2.data.toList).2.2 ≠ 0 then ((tPlace T s2.data.toList).2.2, T) else
        if tKid T (tPlace T s2.data.toList).1 (tPlace T s2.data.toList).2.1 ≠ 0 then (7, T) else
        (0, tRename T a (tPlace T s2.data.toList).1 (tPlace T s2.data.toList).2.1)) := Lib.hid (by rw [HX1.out, if_neg h1])
      obtain ⟨x, hx, rfl⟩ := has_mem HA.out h1
      have HXM := Lib.hid hx
      clear h1 HX1 hx
      cases hsp : splitB s2.data.toList with
      | none =>
        have HE : Hid (Z = (12, T)) := Lib.hid (by rw [HX2.out, if_pos hsp])
        have HSP := Lib.hid hsp
        clear hsp HX2
        go_enter Try.func13, Try.ntmps13
        go_wp2_with fail
        refine HP.out.mono ?_
        rintro e w1 ⟨rfl, hb⟩
        have HB := Lib.hid hb
        clear hb
        go_wp2_with fail
        refine (split_any s2 w1 HS2.out).mono ?_
        rintro e w2 ⟨hb, h2⟩
        rw [HSP.out] at h2
        subst h2
        have HB2 := Lib.hid (chg_tr HB.out (chg_below hb))
        clear hb
        go_wp2
        go_ret
        rw [HE.out]
        exact ⟨rfl, TDid.same H.out HB2.out⟩
      | some l2 =>
        have HX3 : Hid (Z = if (withinB s2.data.toList s.data.toList || withinB s.data.toList s2.data.toList) = true then (1, T) else
          if (tPlace T s2.data.toList).2.2 ≠ 0 then ((tPlace T s2.data.toList).2.2, T) else
          if tKid T (tPlace T s2.data.toList).1 (tPlace T s2.data.toList).2.1 ≠ 0 then (7, T) else
          (0, tRename T x.ino (tPlace T s2.data.toList).1 (tPlace T s2.data.toList).2.1)) := Lib.hid (by rw [HX2.out, if_neg (by rw [hsp]; simp)])
        have HSPL : Hid (∀ w, Calls Try.prog 29 #[.string s2] w (fun e w' => (∃ v, e = .returned (.tuple #[v, .int .i64 0])) ∧ Chg [] w w')) := Lib.hid (fun w => (split_any s2 w HS2.out).mono fun e w' ⟨hb, h2⟩ => by
          rw [hsp] at h2
          obtain ⟨v, h2, _⟩ := h2
          exact ⟨⟨v, h2⟩, chg_below hb⟩)
        have HW1 : Hid (∀ w, Calls Try.prog 30 #[.string s2, .string s] w (fun e w' => e = .returned (.bool (withinB s2.data.toList s.data.toList)) ∧ Chg [] w w')) := Lib.hid (fun w => (within_any s2 s w HS2.out HS.out).mono fun e w' ⟨h, hb⟩ => ⟨h, chg_below hb⟩)
        have HW2 : Hid (∀ w, Calls Try.prog 30 #[.string s, .string s2] w (fun e w' => e = .returned (.bool (withinB s.data.toList s2.data.toList)) ∧ Chg [] w w')) := Lib.hid (fun w => (within_any s s2 w HS.out HS2.out).mono fun e w' ⟨h, hb⟩ => ⟨h, chg_below hb⟩)
        clear hsp HX2
        generalize withinB s2.data.toList s.data.toList = b1 at *
        generalize withinB s.data.toList s2.data.toList = b2 at *
        cases b1 with
        | true =>
          have HE : Hid (Z = (1, T)) := Lib.hid (by rw [HX3.out, if_pos (by simp)])
          clear HX3
          go_enter Try.func13, Try.ntmps13
          go_wp2_with fail
          refine HP.out.mono ?_
          rintro e w1 ⟨rfl, hb⟩
          have HB := Lib.hid hb
          clear hb
          go_wp2_with fail
          refine (HSPL.out w1).mono ?_
          rintro e w2 ⟨⟨v, rfl⟩, hb⟩
          have HB2 := Lib.hid (chg_tr HB.out hb)
          clear hb
          go_wp2_with fail
          refine (HW1.out w2).mono ?_
          rintro e w3 ⟨rfl, hb⟩
          have HB3 := Lib.hid (chg_tr HB2.out hb)
          clear hb
          go_wp2
          go_ret
          rw [HE.out]
          exact ⟨rfl, TDid.same H.out HB3.out⟩
        | false =>
          cases b2 with
          | true =>
            have HE : Hid (Z = (1, T)) := Lib.hid (by rw [HX3.out, if_pos (by simp)])
            clear HX3
            go_enter Try.func13, Try.ntmps13
            go_wp2_with fail
            refine HP.out.mono ?_
            rintro e w1 ⟨rfl, hb⟩
            have HB := Lib.hid hb
            clear hb
            go_wp2_with fail
            refine (HSPL.out w1).mono ?_
            rintro e w2 ⟨⟨v, rfl⟩, hb⟩
            have HB2 := Lib.hid (chg_tr HB.out hb)
            clear hb
            go_wp2_with fail
            refine (HW1.out w2).mono ?_
            rintro e w3 ⟨rfl, hb⟩
            have HB3 := Lib.hid (chg_tr HB2.out hb)
            clear hb
            go_wp2_with fail
            refine (HW2.out w3).mono ?_
            rintro e w4 ⟨rfl, hb⟩
            have HB4 := Lib.hid (chg_tr HB3.out hb)
            clear hb
            go_wp2
            go_ret
            rw [HE.out]
            exact ⟨rfl, TDid.same H.out HB4.out⟩
          | false =>
            have HX4 : Hid (Z = if (tPlace T s2.data.toList).2.2 ≠ 0 then ((tPlace T s2.data.toList).2.2, T) else
              if tKid T (tPlace T s2.data.toList).1 (tPlace T s2.data.toList).2.1 ≠ 0 then (7, T) else
              (0, tRename T x.ino (tPlace T s2.data.toList).1 (tPlace T s2.data.toList).2.1)) := Lib.hid (by rw [HX3.out, if_neg (by simp)])
            have HPL : Hid (∀ w1, Chg [] w w1 → Calls Try.prog 26 #[.pointer (some ⟨t, 0, none⟩), .string s2] w1 (PlacePost w1 (tPlace T s2.data.toList))) := Lib.hid (fun w1 hc => tplace_any t S T s2 w1 (H.out.keep0 hc) HS2.out)
            have HPO : Hid ((tPlace T s2.data.toList).2.2 = 0 → tIsDir T (tPlace T s2.data.toList).1 = true ∧ mayB (tPlace T s2.data.toList).2.1 = true ∧ tHas T (tPlace T s2.data.toList).1 = true) := Lib.hid place_ok
            clear HX3
            generalize tPlace T s2.data.toList = pl at *
            obtain ⟨q, la, e2⟩ := pl
            simp only at HX4 HPO
            go_enter Try.func13, Try.ntmps13
            go_wp2_with fail
            refine HP.out.mono ?_
            rintro e w1 ⟨rfl, hb⟩
            have HB := Lib.hid hb
            clear hb
            go_wp2_with fail
            refine (HSPL.out w1).mono ?_
            rintro e w2 ⟨⟨v, rfl⟩, hb⟩
            have HB2 := Lib.hid (chg_tr HB.out hb)
            clear hb
            go_wp2_with fail
            refine (HW1.out w2).mono ?_
            rintro e w3 ⟨rfl, hb⟩
            have HB3 := Lib.hid (chg_tr HB2.out hb)
            clear hb
            go_wp2_with fail
            refine (HW2.out w3).mono ?_
            rintro e w4 ⟨rfl, hb⟩
            have HB4 := Lib.hid (chg_tr HB3.out hb)
            clear hb
            go_wp2_with fail
            refine (HPL.out w4 HB4.out).mono ?_
            rintro e w5 ⟨rfl, hb⟩
            have HB5 := Lib.hid (chg_tr HB4.out hb)
            clear hb
            by_cases he : e2 = 0
            · subst he
              obtain ⟨o1, o2, o3⟩ := HPO.out rfl
              have HD := Lib.hid o1
              have hla := may_len o2
              have HM := Lib.hid o2
              have hqs := has_small hok.out o3
              have HX5 : Hid (Z = if tKid T q la ≠ 0 then (7, T) else (0, tRename T x.ino q la)) := Lib.hid (by rw [HX4.out, if_neg (by simp)])
              clear HX4 HPO o2
              obtain ⟨bm, f, g, HT⟩ := H.out.keep0 HB5.out
              have c0 := blk_cell HT.head 0 _ rfl
              have hlk := HT.at o3
              have d3 := (HT.cells o3).2.2.2
              rw [if_pos o1] at d3
              have hkd := HT.kid o1 la (by unfold maxLen; omega)
              have HTT := Lib.hid HT
              have HQ := Lib.hid o3
              clear HT o1 o3
              cases hk : tKidOf T q la with
              | some y =>
                have HE : Hid (Z = (7, T)) := Lib.hid (by
                  rw [HX5.out, if_pos]
                  intro h0
                  rw [(kid_zero hok.out).1 h0] at hk; cases hk)
                rw [hk] at hkd
                clear hk
                generalize tKid T q la = c at *
                go_wp2
                go_ret
                rw [HE.out]
                exact ⟨rfl, TDid.same H.out HB5.out⟩
              | none =>
                have hk0 : tKid T q la = 0 := (kid_zero hok.out).2 hk
                have HE : Hid (Z = (0, tRename T x.ino q la)) := Lib.hid (by rw [HX5.out, if_neg (by simp [hk0])])
                have HK := Lib.hid hk
                rw [hk, hk0] at hkd
                clear hk hk0 HX5
                have hxd := hok.out.dirs x HXM.out
                have hlx := HTT.out.at HA.out
                obtain ⟨x0, x1, x2, x3⟩ := HTT.out.cells HA.out
                rw [thOf_mem hok.out HXM.out] at x0 x1
                have hlp := HTT.out.at (dir_has hxd)
                have p3 := (HTT.out.cells (dir_has hxd)).2.2.2
                rw [if_pos hxd] at p3
                have HXD := Lib.hid hxd
                have hlp2 : (Instr.lookup 61 (.map (some bm)) (.int .i64 (x.dir : Int)) false).run Try.prog w5.drew = .ok (.pointer (some ⟨f x.dir, 0, none⟩)) w5.drew := (HTT.out.keep ((Chg.refl [] w5).drew) (by simp)).at (dir_has hxd)
                have HOS : Hid (okS x.name) := Lib.hid (by have := may_len (hok.out.may x HXM.out); unfold okS maxLen; omega)
                clear x2 x3 hxd
                go_wp2
                go_still_tail 16, (by kernel_rfl)
                change wpList _ _ _ _ _ w5.drew
                have HC2 : Hid (Chg [] w w5.drew) := Lib.hid HB5.out.drew
                have HT2 : Hid (TreeOk w5.drew t S T bm f g) := Lib.hid (HTT.out.keep ((Chg.refl [] w5).drew) (by simp))
                clear hlk hlp hlx hlp2 hkd c0 d3 x0 x1 p3
                generalize w5.drew = w6 at *
                have HG2 : Hid (MapF 9 klS okS w6 (g x.dir) (φK T x.dir) (nKids T x.dir)) := Lib.hid (HT2.out.ins _ HXD.out)
                go_wp2_with (refine wpList_del keStr _ rfl _ _ _ rfl 3 Try.underlying67 (g x.dir) (nKids T x.dir) (φK T x.dir) rfl HG2.out x.name rfl (HOS.out) ?_
                             intro w7 hm3 hc3 hs3
                             have e1 : φK T x.dir x.name = some (.int .i64 (x.ino : Int)) := by unfold φK; rw [kidOf_mem hok.out HXM.out]; rfl
                             rw [e1] at hm3
                             have hbx := hc3.keep (HT2.out.each _ HA.out) (by simpa using ne_map (HT2.out.ins _ HXD.out) (HT2.out.cells HA.out).1)
                             have x0 := blk_cell hbx 0 _ rfl
                             have x1 := blk_cell hbx 1 _ rfl
                             have f0 := blk_frozen hbx 0
                             have f1 := blk_frozen hbx 1
                             have hfl := blk_lt hbx
                             have HB7 := Lib.hid (And.intro hm3 hc3)
                             clear hm3 hc3 hs3 e1 hbx)
                refine (move_ready HT2.out HXM.out HD.out hla.2 HTL.out HB7.out.1 HB7.out.2).mono ?_
                rintro e w8 ⟨rfl, hp⟩
                have HFIN := Lib.hid (move_done HT2.out HC2.out HXM.out HD.out HK.out HM.out HB7.out.1 HB7.out.2 hp)
                clear hp
                go_wp2
                go_ret
                rw [HE.out]
                exact ⟨rfl, HFIN.out⟩
            · have HE : Hid (Z = (e2, T)) := Lib.hid (by rw [HX4.out, if_pos he])
              have hb0 : (e2 != 0) = true := by simpa using he
              clear he HX4 HPO
              go_wp2
              go_ret
              rw [HE.out]
              exact ⟨rfl, TDid.same H.out HB5.out⟩
  · have HE : Hid (Z = (er, T)) := Lib.hid (by rw [HX.out, if_pos h0])
    have hb0 : (er != 0) = true := by simpa using h0
    clear h0 HX HO
    go_enter Try.func13, Try.ntmps13
    go_wp2_with fail
    refine HP.out.mono ?_
    rintro e w1 ⟨rfl, hb⟩
    have HB := Lib.hid hb
    clear hb
    go_wp2
    go_ret
    rw [HE.out]
    exact ⟨rfl, TDid.same H.out HB.out⟩
end Go.Proofs.Ytaiihklfeoeoeaa.W
