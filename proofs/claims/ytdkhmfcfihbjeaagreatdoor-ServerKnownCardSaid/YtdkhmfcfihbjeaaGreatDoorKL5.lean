/- Texts laid together. -/
import Derived.Test.YtdkhmfcfihbjeaaGreatDoorKL4
import Derived.Deep.QuietTactic
import Derived.BigQuiet
import Derived.Test.YtdkhmfcfihbjeaaGreatDoorKL1
import Derived.Shelf.SlSortCmp.NoneTotal
import Derived.Lib.Bytealg
import Derived.Ground.SlsfProg
import Derived.Shelf.Small.Utf8
import Derived.Shelf.Small.Bits
import Derived.Shelf.Strconv.Itoa0
import Derived.Test.YtdkhmfcfihbjeaaGreatDoorProg
import Derived.Sort.OwnSorted
/- Package store: Open of any disk; Format. -/
namespace Go.Proofs.YtdkhmfcfihbjeaaGreatDoor.W
open Go.RowKit
set_option linter.unusedVariables false
set_option linter.unusedSimpArgs false

theorem stopen_any (p : Nat) (S : List Nat) (d : DS) (w : World) (h : DiskAt w p S d) : Calls Tryz.prog 40 #[.pointer (some ⟨p, 0, none⟩)] w (StOpenPost p S w d.stOpen) := by
  by_cases hn : d.n < 9
  · have e : d.stOpen = (1, none) := by unfold DS.stOpen; rw [if_pos hn]
    rw [e]
    exact (stopen_small p S d w h hn).mono fun e w' h1 => ⟨h1.2, h1.1⟩
  · by_cases hd : d.dead = true
    · have e : d.stOpen = (14, none) := by unfold DS.stOpen; rw [if_neg hn, if_pos hd]
      rw [e]
      exact (stopen_dead p S d w h (by omega) hd).mono fun e w' h1 => ⟨h1.2, h1.1⟩
    · cases hb : hdBad (d.now 0) with
      | true =>
        have e : d.stOpen = (4, none) := by
          unfold DS.stOpen
          refine (if_neg hn).trans ((if_neg hd).trans (if_pos ?_))
          unfold hdBad at hb
          simp only [Bool.or_eq_true, Bool.not_eq_true', Bool.or_eq_false_iff, decide_eq_false_iff_not] at hb
          exact hb
        rw [e]
        exact (stopen_head p S d w h (by omega) (by simpa using hd) hb).mono fun e w' h1 => ⟨h1.2, h1.1⟩
      | false => exact stopen_live p S d w h (by omega) (by simpa using hd) hb

def FormatPost (p : Nat) (S : List Nat) (w : World) (r : (Int × Option Sto) × DS) (e : Ending) (w' : World) : Prop := match r with
  | ((c, none), d') => e = .returned (.tuple #[.pointer none, .int .i64 c]) ∧ Did w w' p S d'
  | ((c, some t), d') => ∃ q U, e = .returned (.tuple #[.pointer (some ⟨q, 0, none⟩), .int .i64 c]) ∧ StAt [] w' q p U t ∧ (∀ x ∈ U, x ∈ S ∨ w.heap.size ≤ x) ∧ Chg S w w'
theorem zero_row (w : World) : BRow (w.alloc (.cells Z64 5)) (.slice (some ⟨w.heap.size, 0, none⟩) 64 64) (zeros 64) := by
  have h := row_of_block (l := zeros 64) (heap_alloc_new w (.cells Z64 5)) (by simp [zeros, maxLen])
  simpa [zeros] using h

set_option maxHeartbeats 4000000 in
set_option maxRecDepth 100000 in
theorem format_any (p : Nat) (S : List Nat) (d : DS) (w : World) (h : DiskAt w p S d) (ho : d.ops ≤ 100000000) (hw : d.since.length ≤ 100000) :
    Calls Tryz.prog 37 #[.pointer (some ⟨p, 0, none⟩)] w (FormatPost p S w d.format) := by
  have CS := Lib.hid (fun w' S' (d' : DS) (h' : DiskAt w' p S' d') => dsectors_any p S' d' w' h')
  have hmk := make_64
  by_cases hn : d.n < 9
  · have e : d.format = ((1, none), d) := by unfold DS.format; rw [if_pos hn]
    have CS1 := Lib.hid (dsectors_any p S d w h)
    have HH := Lib.hid h
    rw [e]
    generalize hdn : d.n = n at *
    clear h e CS hdn
    go_enter Tryz.func37, Tryz.ntmps37
    go_wp2_with (go_at_call 78; refine CS1.out.mono ?_; rintro e w' ⟨rfl, hq⟩; subst hq)
    go_ret2
    exact ⟨rfl, Did.same HH.out⟩
  · obtain ⟨m, hm⟩ : ∃ m, m = (d.n - 1) / 8 := ⟨_, rfl⟩
    have HG : Hid (d.format = if (d.wipe m 1).1 ≠ 0 then (((d.wipe m 1).1, none), (d.wipe m 1).2) else if ((d.wipe m 1).2.sign 1).1 ≠ 0 then ((((d.wipe m 1).2.sign 1).1, none), ((d.wipe m 1).2.sign 1).2) else (((d.wipe m 1).2.sign 1).2.stOpen, ((d.wipe m 1).2.sign 1).2)) := Lib.hid (by
      unfold DS.format
      rw [if_neg hn]
      unfold DS.fmt2 DS.fmt1
      rw [← hm])
    have hfew : d.n ≤ 4160 := by
      obtain ⟨gn, gl, cn, cl, v, H⟩ := h
      exact H.few
    obtain ⟨n, hdn⟩ : ∃ n, n = d.n := ⟨_, rfl⟩
    have HDN := Lib.hid hdn
    have hm1 : 8 * m + 1 ≤ n ∧ n < 8 * (m + 1) + 1 ∧ m ≤ 520 := by omega
    have hn9 : 9 ≤ n := by omega
    have HH := Lib.hid h
    have CS1 := Lib.hid (dsectors_any p S d w h)
    rw [← hdn] at CS1
    clear h hn hm hfew hdn
    generalize d.format = r at *
    go_enter Tryz.func37, Tryz.ntmps37
    go_wp2_with (go_at_call 78; refine CS1.out.mono ?_; rintro e w' ⟨rfl, hq⟩; subst hq)
    go_loopg [4] m (fun g' s4 wr => ∃ (i : Nat) (di : DS), s4 = .int .i64 ((1 + 8 * i : Nat) : Int) ∧ i ≤ m ∧ m ≤ i + g' ∧ Hid (Did w wr p S di ∧ di.n = n ∧ di.ops ≤ d.ops + i ∧ di.since.length ≤ d.since.length + i ∧ d.wipe m 1 = di.wipe (m - i) (1 + 8 * i)))
    case atStart => exact ⟨0, d, rfl, by omega, by omega, Lib.hid ⟨Did.same HH.out, HDN.out.symm, by omega, by omega, rfl⟩⟩
    case round =>
      obtain ⟨i, di, rfl, hi, hig, HI⟩ := hrel
      obtain ⟨⟨Si, hd1, hd2, hd3⟩, hin, hio, his, hiw⟩ := HI.out
      have CSi := Lib.hid (CS.out wr Si di hd1)
      rw [hin] at CSi
      have HD1 := Lib.hid hd1
      have HD2 := Lib.hid (And.intro hd2 hd3)
      have HIW := Lib.hid hiw
      have hwr := hd3.size
      clear HI hd1 hd2 hd3 hiw
      by_cases hlt : i < m
      · have hle : ((1 + 8 * i : Nat) : Int) + 8 ≤ (n : Int) := by omega
        have HC := Lib.hid ((Chg.refl [] wr).alloc (.cells Z64 5))
        have CW := Lib.hid (dwrite_any p Si di ((1 + 8 * i : Nat) : Int) _ (zeros 64) (wr.alloc (.cells Z64 5)) (HD1.out.keep HC.out (by simp)) (by omega) (by omega) ⟨by omega, by omega⟩ (by simp [zeros]) (zero_row wr).bytes)
        have hwok := di.write_ok ((1 + 8 * i : Nat) : Int) (zeros 64)
        have hmi : m - i = (m - (i + 1)) + 1 := by omega
        have HW2 : Hid (d.wipe m 1 = if (di.write ((1 + 8 * i : Nat) : Int) (zeros 64)).1 ≠ 0 then di.write ((1 + 8 * i : Nat) : Int) (zeros 64) else (di.write ((1 + 8 * i : Nat) : Int) (zeros 64)).2.wipe (m - (i + 1)) (1 + 8 * i + 8)) := Lib.hid (by
          rw [HIW.out, hmi]; rfl)
        generalize di.write ((1 + 8 * i : Nat) : Int) (zeros 64) = z at *
        obtain ⟨e1, d1⟩ := z
        dsimp only at CW hwok HW2
        clear HIW hmi
        go_wp2_with (go_at_call 78; refine CSi.out.mono ?_; rintro e w' ⟨rfl, hq⟩; subst hq)
        refine CW.out.mono ?_
        rintro e w2 ⟨rfl, hd2⟩
        have HD3 := Lib.hid (Did.glue HD2.out.1 HD2.out.2 (Did.pre HC.out hd2))
        clear hd2 CW
        by_cases he : e1 = 0
        · subst he
          have HW3 : Hid (d.wipe m 1 = d1.wipe (m - (i + 1)) (1 + 8 * (i + 1))) := Lib.hid (by
            rw [HW2.out, if_neg (by simp), show 1 + 8 * i + 8 = 1 + 8 * (i + 1) by omega])
          clear HW2
          go_wp2
          go_roundg (gk - 1)
          case measure => omega
          case rel => exact ⟨i + 1, d1, by go_num, by omega, by omega, Lib.hid ⟨HD3.out, by rw [hwok.1, hin], by omega, by omega, HW3.out⟩⟩
        · have HR : Hid (r = ((e1, none), d1)) := Lib.hid (by
            have h1 := HW2.out
            rw [if_pos he] at h1
            rw [HG.out, h1, if_pos he])
          have q : (e1 != 0) = true := by simp [he]
          clear he HW2 HG
          go_wp2
          go_ret2
          rw [HR.out]
          exact ⟨rfl, HD3.out⟩
      · have him : i = m := by omega
        have hle : ¬ ((1 + 8 * i : Nat) : Int) + 8 ≤ (n : Int) := by omega
        have CY := Lib.hid (dsync_any p Si di wr HD1.out (by omega) (by omega))
        have HW2 : Hid (d.wipe m 1 = di.sync) := Lib.hid (by rw [HIW.out, him, Nat.sub_self]; rfl)
        obtain ⟨y1, y2, y3⟩ := di.sync_ok
        generalize di.sync = z at *
        obtain ⟨e1, d1⟩ := z
        dsimp only at CY HW2 y1 y2 y3
        rw [HW2.out] at HG
        dsimp only at HG
        clear HIW HW2
        go_wp2_with (go_at_call 78; refine CSi.out.mono ?_; rintro e w' ⟨rfl, hq⟩; subst hq)
        refine CY.out.mono ?_
        rintro e w2 ⟨rfl, hd2⟩
        have HD3 := Lib.hid (Did.glue HD2.out.1 HD2.out.2 hd2)
        clear hd2 CY
        by_cases he : e1 = 0
        · subst he
          obtain ⟨S2, g1, g2, g3⟩ := HD3.out
          have CG := Lib.hid (sign_any p S2 d1 1 w2 g1 (by omega) (by omega) (by omega))
          have HS2 := Lib.hid (And.intro g2 g3)
          obtain ⟨s1, s2, s3⟩ := d1.sign_ok 1
          rw [if_neg (by simp)] at HG
          generalize d1.sign 1 = z at *
          obtain ⟨e2, d2⟩ := z
          dsimp only at CG HG s1 s2 s3
          rw [show bv 1 = .int .u8 1 from rfl] at CG
          clear g1 g2 g3
          go_wp2_with fail
          refine CG.out.mono ?_
          rintro e w3 ⟨rfl, hd4⟩
          have HD4 := Lib.hid (Did.glue HS2.out.1 HS2.out.2 hd4)
          clear hd4 CG
          by_cases he2 : e2 = 0
          · subst he2
            rw [if_neg (by simp)] at HG
            obtain ⟨S3, g1, g2, g3⟩ := HD4.out
            have CO := Lib.hid (stopen_any p S3 d2 w3 g1)
            have HS3 := Lib.hid (And.intro g2 g3)
            have HD5 := Lib.hid g1
            clear g1 g2 g3
            go_wp2_with fail
            refine CO.out.mono ?_
            rintro e w4 ⟨hc4, h4⟩
            generalize d2.stOpen = z at *
            obtain ⟨e3, ot⟩ := z
            cases ot with
            | none =>
              dsimp only at h4 HG
              subst h4
              have HF : Hid (Did w w4 p S d2) := Lib.hid ⟨S3, HD5.out.keep hc4 (by simp), HS3.out.1, HS3.out.2.trans hc4 (by simp)⟩
              clear hc4 CO
              go_wp2
              go_ret2
              rw [HG.out]
              exact ⟨rfl, HF.out⟩
            | some t =>
              dsimp only at h4 HG
              obtain ⟨q, U, rfl, h5, h6⟩ := h4
              have HF : Hid (∃ U, StAt [] w4 q p U t ∧ (∀ x ∈ U, x ∈ S ∨ w.heap.size ≤ x) ∧ Chg S w w4) := Lib.hid ⟨U, h5, fun x hx => by
                rcases h6 x hx with h | h
                · exact HS3.out.1 x h
                · exact .inr (Nat.le_trans HS3.out.2.size h), HS3.out.2.trans hc4 (by simp)⟩
              clear hc4 CO h5 h6
              go_wp2
              go_ret2
              rw [HG.out]
              obtain ⟨U, k1, k2, k3⟩ := HF.out
              exact ⟨q, U, rfl, k1, k2, k3⟩
          · have HR : Hid (r = ((e2, none), d2)) := Lib.hid (by rw [HG.out, if_pos he2])
            have q : (e2 != 0) = true := by simp [he2]
            clear he2 HG
            go_wp2
            go_ret2
            rw [HR.out]
            exact ⟨rfl, HD4.out⟩
        · have HR : Hid (r = ((e1, none), d1)) := Lib.hid (by rw [HG.out, if_pos he])
          have q : (e1 != 0) = true := by simp [he]
          clear he HG
          go_wp2
          go_ret2
          rw [HR.out]
          exact ⟨rfl, HD3.out⟩
end Go.Proofs.YtdkhmfcfihbjeaaGreatDoor.W

/- Package store: made, Get. -/
namespace Go.Proofs.YtdkhmfcfihbjeaaGreatDoor.W
open Go.RowKit
set_option linter.unusedVariables false
set_option linter.unusedSimpArgs false
variable {G : List Nat}

set_option maxHeartbeats 2000000 in
theorem stmade_any (q p : Nat) (w : World) (c0 : w.cell? ⟨q, 0, none⟩ = some (.pointer (some ⟨p, 0, none⟩))) : Calls Tryz.prog 42 #[.pointer (some ⟨q, 0, none⟩)] w fun e w' => e = .returned (.bool true) ∧ w = w' := by
  go_enter Tryz.func42, Tryz.ntmps42
  go_wp2
  go_ret
  exact ⟨rfl, rfl⟩
structure LookAt (w : World) (v : Value) (l : List Nat) : Prop where
  form : ∃ a cap, v = .slice a l.length cap ∧ l.length ≤ cap ∧ cap ≤ maxLen
  first : ∀ i r, l = i :: r → ∃ g o cap, v = .slice (some ⟨g, o, none⟩) l.length cap ∧ w.cell? ⟨g, o, none⟩ = some (.int .i64 (i : Int))
theorem StOk.look {w : World} {q p sp mb : Nat} {Us : List Nat} {φ : Id → Option Value} {N : Nat} {t : Sto} (h : StOk G w q p sp mb Us φ N t) {x : Id} (hx : okD x) :
    ∃ v, (∀ n, (Instr.lookup 96 (.map (some mb)) (idV x) false).run Tryz.prog (w.drewN n) = .ok v (w.drewN n)) ∧ LookAt w v (t.at x) := by
  refine ⟨(φ x).getD (.slice none 0 0), fun n => ?_, ?_⟩
  · exact (h.map.chg ((Chg.refl [] w).drewN n) (by simp)).look keId Tryz.underlying96 zeroInts hx
  · rcases h.vals x hx with ⟨h1, h2⟩ | ⟨h1, v, h2, h3, _⟩
    · rw [h1, h2]
      exact ⟨⟨none, 0, rfl, Nat.le_refl _, by unfold maxLen; omega⟩, fun i r h => by cases h⟩
    · rw [h2]
      obtain ⟨a, cap, rfl, k1, k2, k3⟩ := h3
      refine ⟨⟨a, cap, rfl, k1, k2⟩, fun i r hl => ?_⟩
      obtain ⟨g, o, rfl, hc⟩ := k3 h1
      refine ⟨g, o, cap, rfl, ?_⟩
      have := hc 0 (by rw [hl]; simp)
      rw [hl] at this
      exact this
/-- The first cells of a store. -/
theorem StOk.cells {w : World} {q p sp mb : Nat} {Us : List Nat} {φ : Id → Option Value} {N : Nat} {t : Sto} (h : StOk G w q p sp mb Us φ N t) :
    w.cell? ⟨q, 0, none⟩ = some (.pointer (some ⟨p, 0, none⟩)) ∧ w.cell? ⟨q, 1, none⟩ = some (.pointer (some ⟨sp, 0, none⟩)) ∧ w.cell? ⟨q, 2, none⟩ = some (.map (some mb)) ∧ w.cell? ⟨q, 3, none⟩ = some (.bool t.whole) :=
  ⟨blk_cell h.head 0 _ rfl, blk_cell h.head 1 _ rfl, blk_cell h.head 2 _ rfl, blk_cell h.head 3 _ rfl⟩

set_option maxHeartbeats 4000000 in
set_option maxRecDepth 100000 in
theorem stget_any (q p : Nat) (U : List Nat) (t : Sto) (x : Id) (w : World) (h : StAt G w q p U t) (hxo : okD x) : Calls Tryz.prog 122 #[.pointer (some ⟨q, 0, none⟩), idV x] w (GetPost (t.get x) w) := by
  obtain ⟨sp, mb, Us, φ, N, h, rfl⟩ := h
  obtain ⟨w1, hw1⟩ : ∃ w1, w1 = w.alloc (.cells (idC x) 38) := ⟨_, rfl⟩
  have hc1 : Chg [] w w1 := by rw [hw1]; exact (Chg.refl [] w).alloc _
  have hb1 : w1.heap[w.heap.size]? = some (.cells (idC x) 38 (0, 0)) := by rw [hw1]; exact heap_alloc_new w _
  have H1 := h.keep0 hc1
  obtain ⟨k0, k1, k2, _⟩ := H1.cells
  have CM := Lib.hid (stmade_any q p w1 k0)
  have CY := Lib.hid (mayid_any x w1)
  have HB := Lib.hid hb1
  have HC1 := Lib.hid hc1
  have HW1 := Lib.hid hw1
  have HH1 := Lib.hid H1
  have HX := Lib.hid hxo
  clear hw1 hb1 hc1 h hxo
  by_cases hm : mayId x = true
  · have HG : Hid (t.get x = match t.at x with | [] => ([], 6) | i :: _ => t.s.get i) := Lib.hid (by unfold Sto.get; rw [if_neg (by simp [hm])]; try rfl)
    rw [hm] at CY
    clear H1 k1 k2 hm
    obtain ⟨xc, xl, xn, xi⟩ := x
    go_enter Tryz.func122, Tryz.ntmps122
    go_wp2_with fail
    rw [← HW1.out]
    refine CM.out.mono ?_
    rintro e w' ⟨rfl, hq⟩
    subst hq
    obtain ⟨m0, m1, m2, m3⟩ := id_cells HB.out
    go_wp2_with fail
    refine CY.out.mono ?_
    rintro e w2 ⟨rfl, hc2⟩
    have HB2 := Lib.hid (hc2.keep HB.out (by simp))
    have HH2 := Lib.hid (HH1.out.keep0 hc2)
    have HC2 := Lib.hid (HC1.out.trans hc2 (by simp))
    clear hc2 m0 m1 m2 m3 k0 CM CY HB
    obtain ⟨v, hlk, hlook⟩ := HH2.out.look HX.out
    obtain ⟨k0, k1, k2, _⟩ := HH2.out.cells
    obtain ⟨m0, m1, m2, m3⟩ := id_cells HB2.out
    obtain ⟨⟨a, cap, hv, hl1, hl2⟩, hfst⟩ := hlook
    cases hat : t.at ⟨xc, xl, xn, xi⟩ with
    | nil =>
      rw [hat] at HG hv
      subst hv
      dsimp only at HG
      have HR : Hid (∀ w', Chg [] w w' → GetPost ([], 6) w (.returned (.tuple #[.slice none 0 0, .int .i64 6])) w') := Lib.hid (fun w' hc => GetPost.nil hc)
      rw [← HG.out] at HR
      clear hfst hat
      go_wp2_with fail
      go_quiet (fail)
      go_wp2
      go_ret2
      exact HR.out _ (HC2.out.drewN _)
    | cons i rest =>
      obtain ⟨g, o, cap', hv', hc0⟩ := hfst i rest hat
      rw [hv'] at hv
      obtain ⟨rfl, _, rfl⟩ := Value.slice.inj hv
      rw [hat] at HG hv'
      dsimp only at HG
      subst hv'
      have hpos : 0 < (i :: rest).length := by simp
      have hcl : (i :: rest).length ≤ cap' := by rw [← hat]; exact hl1
      have hbig : (i :: rest).length ≤ 9223372036854775807 := by unfold maxLen at hl2; omega
      generalize (i :: rest).length = n at *
      have hn0 : ((n : Int) == 0) = false := by simp; omega
      clear hv hfst hat hl1 hl2
      go_wp2_with fail
      go_quiet (fail)
      have hlk3 : (Instr.lookup 96 (.map (some mb)) (.agg #[.int .i64 xc, .int .i64 xl, .int .i64 xn, .int .i64 xi]) false).run Tryz.prog (w2.drewN nq).drew = .ok (.slice (some ⟨g, o, none⟩) n cap') (w2.drewN nq).drew := hlk (nq + 1)
      have hc03 : (w2.drewN nq).drew.cell? ⟨g, o, none⟩ = some (.int .i64 (i : Int)) := hc0
      have hbn : (w2.drewN nq).drew.heap[w.heap.size]? = some (.cells (idC ⟨xc, xl, xn, xi⟩) 38 (0, 0)) := HB2.out
      have HCn : Hid (Chg [] w (w2.drewN nq).drew) := Lib.hid (HC2.out.drewN nq).drew
      have HHn := Lib.hid (HH2.out.keep0 ((Chg.refl [] w2).drewN nq).drew)
      have CG := Lib.hid (sget_any sp p Us t.s i _ HHn.out.slots)
      obtain ⟨h0, h1, h2, _⟩ := HHn.out.cells
      have mm := id_cells hbn
      clear hlk hc0 k0 k1 k2 m0 m1 m2 m3 hbn
      generalize w2.drewN nq = w3 at *
      go_wp2_with fail
      refine wp_region_L [(12, fun w' => w'.cell? ⟨q, 1, none⟩ = some (.pointer (some ⟨sp, 0, none⟩))), (12, fun w' => w'.cell? ⟨q, 2, none⟩ = some (.map (some mb))), (12, fun w' => (w'.cell? ⟨w.heap.size, 0, none⟩ = some (.int .i64 xc) ∧ w'.cell? ⟨w.heap.size, 1, none⟩ = some (.int .i64 xl) ∧ w'.cell? ⟨w.heap.size, 2, none⟩ = some (.int .i64 xn) ∧ w'.cell? ⟨w.heap.size, 3, none⟩ = some (.int .i64 xi))), (12, fun w' => (Instr.lookup 96 (.map (some mb)) (.agg #[.int .i64 xc, .int .i64 xl, .int .i64 xn, .int .i64 xi]) false).run Tryz.prog w' = .ok (.slice (some ⟨g, o, none⟩) n cap') w'), (12, fun w' => w'.cell? ⟨g, o, none⟩ = some (.int .i64 (i : Int)))] (by kernel_rfl) ?_ (fun hHeld => ?_)
      · exact (HoldC.cons (h1) (HoldC.cons (h2) (HoldC.cons (mm) (HoldC.cons (hlk3) (HoldC.cons (hc03) HoldC.nil)))))
      refine wpAnyL_take (i := 0) (oi := _) (v := ?_) rfl (by kernel_rfl) (by kernel_rfl) (by kernel_rfl) (by kernel_rfl) (by kernel_rfl) (fun _ _ _ h => h) (Or.inl ⟨by rfl, ?_⟩) (by assumption) (fun hNew => ?_)
      rotate_left
      · intro w _
        go_simp
        try with_reducible rfl
      clear hHeld
      have hHeld := hNew
      clear hNew
      try simp only [List.getElem_toArray, List.getElem_cons_succ, List.getElem_cons_zero, Act.put, List.setIfInBounds_toArray, List.set_cons_zero, List.set_cons_succ]
      refine wpAnyL_take (i := 1) (oi := _) (v := ?_) rfl (by kernel_rfl) (by kernel_rfl) (by kernel_rfl) (by kernel_rfl) (by kernel_rfl) (fun _ _ _ h => h) (Or.inl ⟨by rfl, ?_⟩) (by assumption) (fun hNew => ?_)
      rotate_left
      · intro w _
        go_simp
        try with_reducible rfl
      clear hHeld
      have hHeld := hNew
      clear hNew
      try simp only [List.getElem_toArray, List.getElem_cons_succ, List.getElem_cons_zero, Act.put, List.setIfInBounds_toArray, List.set_cons_zero, List.set_cons_succ]
      refine wpAnyL_take (i := 2) (oi := _) (v := ?_) rfl (by kernel_rfl) (by kernel_rfl) (by kernel_rfl) (by kernel_rfl) (by kernel_rfl) (fun _ _ _ h => h) (Or.inl ⟨by rfl, ?_⟩) (by assumption) (fun hNew => ?_)
      rotate_left
      · intro w _
        go_simp
        try with_reducible rfl
      clear hHeld
      have hHeld := hNew
      clear hNew
      try simp only [List.getElem_toArray, List.getElem_cons_succ, List.getElem_cons_zero, Act.put, List.setIfInBounds_toArray, List.set_cons_zero, List.set_cons_succ]
      refine wpAnyL_load 0 (i := 3) (oi := _) (v := ?_) rfl rfl (by kernel_rfl) (by kernel_rfl) (by kernel_rfl) (by kernel_rfl) (by kernel_rfl) (by kernel_rfl) (fun _ _ _ h => h) (Or.inl ⟨by rfl, ?_⟩) (by assumption) (fun hNew => ?_)
      rotate_left
      · intro w hSw
        (try dsimp only at hSw)
        go_simp
        try with_reducible rfl
      clear hHeld
      have hHeld := hNew
      clear hNew
      try simp only [List.getElem_toArray, List.getElem_cons_succ, List.getElem_cons_zero, Act.put, List.setIfInBounds_toArray, List.set_cons_zero, List.set_cons_succ]
      refine wpAnyL_take (i := 4) (oi := _) (v := ?_) rfl (by kernel_rfl) (by kernel_rfl) (by kernel_rfl) (by kernel_rfl) (by kernel_rfl) (fun _ _ _ h => h) (Or.inl ⟨by rfl, ?_⟩) (by assumption) (fun hNew => ?_)
      rotate_left
      · intro w _
        go_simp
        try with_reducible rfl
      clear hHeld
      have hHeld := hNew
      clear hNew
      try simp only [List.getElem_toArray, List.getElem_cons_succ, List.getElem_cons_zero, Act.put, List.setIfInBounds_toArray, List.set_cons_zero, List.set_cons_succ]
      refine wpAnyL_take (i := 5) (oi := _) (v := ?_) rfl (by kernel_rfl) (by kernel_rfl) (by kernel_rfl) (by kernel_rfl) (by kernel_rfl) (fun _ _ _ h => h) (Or.inl ⟨by rfl, ?_⟩) (by assumption) (fun hNew => ?_)
      rotate_left
      · intro w _
        go_simp
        try with_reducible rfl
      clear hHeld
      have hHeld := hNew
      clear hNew
      try simp only [List.getElem_toArray, List.getElem_cons_succ, List.getElem_cons_zero, Act.put, List.setIfInBounds_toArray, List.set_cons_zero, List.set_cons_succ]
      refine wpAnyL_take (i := 6) (oi := _) (v := ?_) rfl (by kernel_rfl) (by kernel_rfl) (by kernel_rfl) (by kernel_rfl) (by kernel_rfl) (fun _ _ _ h => h) (Or.inl ⟨by rfl, ?_⟩) (by assumption) (fun hNew => ?_)
      rotate_left
      · intro w _
        go_simp
        try with_reducible rfl
      clear hHeld
      have hHeld := hNew
      clear hNew
      try simp only [List.getElem_toArray, List.getElem_cons_succ, List.getElem_cons_zero, Act.put, List.setIfInBounds_toArray, List.set_cons_zero, List.set_cons_succ]
      refine wpAnyL_load 1 (i := 7) (oi := _) (v := ?_) rfl rfl (by kernel_rfl) (by kernel_rfl) (by kernel_rfl) (by kernel_rfl) (by kernel_rfl) (by kernel_rfl) (fun _ _ _ h => h) (Or.inl ⟨by rfl, ?_⟩) (by assumption) (fun hNew => ?_)
      rotate_left
      · intro w hSw
        (try dsimp only at hSw)
        go_simp
        try with_reducible rfl
      clear hHeld
      have hHeld := hNew
      clear hNew
      try simp only [List.getElem_toArray, List.getElem_cons_succ, List.getElem_cons_zero, Act.put, List.setIfInBounds_toArray, List.set_cons_zero, List.set_cons_succ]
      refine wpAnyL_load 2 (i := 8) (oi := _) (v := ?_) rfl rfl (by kernel_rfl) (by kernel_rfl) (by kernel_rfl) (by kernel_rfl) (by kernel_rfl) (by kernel_rfl) (fun _ _ _ h => h) (Or.inl ⟨by rfl, ?_⟩) (by assumption) (fun hNew => ?_)
      rotate_left
      · intro w hSw
        (try dsimp only at hSw)
        go_simp
        try with_reducible rfl
      clear hHeld
      have hHeld := hNew
      clear hNew
      try simp only [List.getElem_toArray, List.getElem_cons_succ, List.getElem_cons_zero, Act.put, List.setIfInBounds_toArray, List.set_cons_zero, List.set_cons_succ]
      refine wpAnyL_load 3 (i := 9) (oi := _) (v := ?_) rfl rfl (by kernel_rfl) (by kernel_rfl) (by kernel_rfl) (by kernel_rfl) (by kernel_rfl) (by kernel_rfl) (fun _ _ _ h => h) (Or.inl ⟨by rfl, ?_⟩) (by assumption) (fun hNew => ?_)
      rotate_left
      · intro w hSw
        (try dsimp only at hSw)
        go_simp
        try with_reducible rfl
      clear hHeld
      have hHeld := hNew
      clear hNew
      try simp only [List.getElem_toArray, List.getElem_cons_succ, List.getElem_cons_zero, Act.put, List.setIfInBounds_toArray, List.set_cons_zero, List.set_cons_succ]
      refine wpAnyL_take (i := 10) (oi := _) (v := ?_) rfl (by kernel_rfl) (by kernel_rfl) (by kernel_rfl) (by kernel_rfl) (by kernel_rfl) (fun _ _ _ h => h) (Or.inl ⟨by rfl, ?_⟩) (by assumption) (fun hNew => ?_)
      rotate_left
      · intro w _
        go_simp
        try with_reducible rfl
      clear hHeld
      have hHeld := hNew
      clear hNew
      try simp only [List.getElem_toArray, List.getElem_cons_succ, List.getElem_cons_zero, Act.put, List.setIfInBounds_toArray, List.set_cons_zero, List.set_cons_succ]
      refine wpAnyL_load 4 (i := 11) (oi := _) (v := ?_) rfl rfl (by kernel_rfl) (by kernel_rfl) (by kernel_rfl) (by kernel_rfl) (by kernel_rfl) (by kernel_rfl) (fun _ _ _ h => h) (Or.inl ⟨by rfl, ?_⟩) (by assumption) (fun hNew => ?_)
      rotate_left
      · intro w hSw
        (try dsimp only at hSw)
        go_simp
        try with_reducible rfl
      clear hHeld
      have hHeld := hNew
      clear hNew
      try simp only [List.getElem_toArray, List.getElem_cons_succ, List.getElem_cons_zero, Act.put, List.setIfInBounds_toArray, List.set_cons_zero, List.set_cons_succ]
      refine wpAnyL_ready (rs := [12]) (by kernel_rfl) (by simp) ?_
      refine AllReadyL.cons (o := _) rfl (fun K hK => ?_) AllReadyL.nil
      try simp only [List.getElem_toArray, List.getElem_cons_succ, List.getElem_cons_zero]
      go_simp
      refine CG.out.mono ?_
      rintro e w4 ⟨⟨v4, rfl, hb4, ho4⟩, hc4⟩
      have HF : Hid (GetPost (t.s.get i) w (.returned (.tuple #[v4, .int .i64 (t.s.get i).2])) w4) := Lib.hid ⟨⟨v4, rfl, hb4, fun k hk => by have := ho4 k hk; have := HCn.out.size; omega⟩, HCn.out.trans hc4 (by simp)⟩
      obtain ⟨a4, c4, rfl⟩ := hb4.slice
      clear hb4 ho4 hc4 CG
      clear hHeld
      refine hK.out _ _ ?_ (fun hHeld => ?_)
      · exact (HoldC.past (by kernel_rfl) (HoldC.past (by kernel_rfl) (HoldC.past (by kernel_rfl) (HoldC.past (by kernel_rfl) (HoldC.past (by kernel_rfl) HoldC.nil)))))
      clear hK K
      try simp only [List.getElem_toArray, List.getElem_cons_succ, List.getElem_cons_zero, Act.put, List.setIfInBounds_toArray, List.set_cons_zero, List.set_cons_succ]
      refine wpAnyL_take (i := 13) (oi := _) (v := ?_) rfl (by kernel_rfl) (by kernel_rfl) (by kernel_rfl) (by kernel_rfl) (by kernel_rfl) (fun _ _ _ h => h) (Or.inl ⟨by rfl, ?_⟩) (by assumption) (fun hNew => ?_)
      rotate_left
      · intro w _
        go_simp
        try with_reducible rfl
      clear hHeld
      have hHeld := hNew
      clear hNew
      try simp only [List.getElem_toArray, List.getElem_cons_succ, List.getElem_cons_zero, Act.put, List.setIfInBounds_toArray, List.set_cons_zero, List.set_cons_succ]
      refine wpAnyL_take (i := 14) (oi := _) (v := ?_) rfl (by kernel_rfl) (by kernel_rfl) (by kernel_rfl) (by kernel_rfl) (by kernel_rfl) (fun _ _ _ h => h) (Or.inl ⟨by rfl, ?_⟩) (by assumption) (fun hNew => ?_)
      rotate_left
      · intro w _
        go_simp
        try with_reducible rfl
      clear hHeld
      have hHeld := hNew
      clear hNew
      try simp only [List.getElem_toArray, List.getElem_cons_succ, List.getElem_cons_zero, Act.put, List.setIfInBounds_toArray, List.set_cons_zero, List.set_cons_succ]
      refine wpAnyL_ready (rs := [15]) (by kernel_rfl) (by simp) ?_
      refine AllReadyL.cons (o := _) rfl (fun K hK => ?_) AllReadyL.nil
      try simp only [List.getElem_toArray, List.getElem_cons_succ, List.getElem_cons_zero]
      go_simp
      clear hHeld
      refine hK.out _ _ ?_ (fun hHeld => ?_)
      · exact (HoldC.past (by kernel_rfl) (HoldC.past (by kernel_rfl) (HoldC.past (by kernel_rfl) (HoldC.past (by kernel_rfl) (HoldC.past (by kernel_rfl) HoldC.nil)))))
      clear hK K
      try simp only [List.getElem_toArray, List.getElem_cons_succ, List.getElem_cons_zero, Act.put, List.setIfInBounds_toArray, List.set_cons_zero, List.set_cons_succ]
      refine wpAnyL_ready (rs := [16]) (by kernel_rfl) (by simp) ?_
      refine AllReadyL.cons (o := _) rfl (fun K hK => ?_) AllReadyL.nil
      try simp only [List.getElem_toArray, List.getElem_cons_succ, List.getElem_cons_zero]
      go_simp
      clear hHeld
      refine hK.out _ _ ?_ (fun hHeld => ?_)
      · exact (HoldC.past (by kernel_rfl) (HoldC.past (by kernel_rfl) (HoldC.past (by kernel_rfl) (HoldC.past (by kernel_rfl) (HoldC.past (by kernel_rfl) HoldC.nil)))))
      clear hK K
      try simp only [List.getElem_toArray, List.getElem_cons_succ, List.getElem_cons_zero, Act.put, List.setIfInBounds_toArray, List.set_cons_zero, List.set_cons_succ]
      refine wpAnyL_done (by kernel_rfl) ?_ _
      clear hHeld
      go_wp2_with fail
      go_ret2
      rw [HG.out]
      exact HF.out
  · have hm' : mayId x = false := by simpa using hm
    have HG : Hid (t.get x = ([], 1)) := Lib.hid (by unfold Sto.get; rw [if_pos hm'])
    rw [HG.out]
    have HR : Hid (∀ w', Chg [] w w' → GetPost ([], 1) w (.returned (.tuple #[.slice none 0 0, .int .i64 1])) w') := Lib.hid (fun w' hc => GetPost.nil hc)
    rw [hm'] at CY
    clear H1 k1 k2 hm hm'
    obtain ⟨xc, xl, xn, xi⟩ := x
    go_enter Tryz.func122, Tryz.ntmps122
    go_wp2_with fail
    rw [← HW1.out]
    refine CM.out.mono ?_
    rintro e w' ⟨rfl, hq⟩
    subst hq
    obtain ⟨m0, m1, m2, m3⟩ := id_cells HB.out
    go_wp2_with fail
    refine CY.out.mono ?_
    rintro e w2 ⟨rfl, hc2⟩
    have HC2 := Lib.hid (HC1.out.trans hc2 (by simp))
    clear hc2
    go_wp2
    go_ret2
    exact HR.out _ HC2.out
end Go.Proofs.YtdkhmfcfihbjeaaGreatDoor.W

/- Package store: what putting and deleting leave, plainly and in memory. -/
namespace Go.Proofs.YtdkhmfcfihbjeaaGreatDoor.W
open Go.RowKit
set_option linter.unusedVariables false
set_option linter.unusedSimpArgs false
variable {G : List Nat}

theorem rowFree_spec : ∀ (l : List SRow) (k : Nat), (rowFree l k = -1 ∧ ∀ r ∈ l, r.used = true) ∨ ∃ n, n < l.length ∧ rowFree l k = ((k + n : Nat) : Int) ∧ (l.getD n noRow).used = false ∧ ∀ j, j < n → (l.getD j noRow).used = true
  | [], k => .inl ⟨rfl, by simp⟩
  | r :: rs, k => by
    rw [rowFree_cons]
    by_cases h : r.used = false
    · rw [if_pos h]
      exact .inr ⟨0, by simp, by simp, by simpa using h, fun j hj => by omega⟩
    · rw [if_neg h]
      rcases rowFree_spec rs (k + 1) with ⟨h1, h2⟩ | ⟨n, h1, h2, h3, h4⟩
      · refine .inl ⟨h1, fun x hx => ?_⟩
        rcases List.mem_cons.1 hx with rfl | hx
        · simpa using h
        · exact h2 x hx
      · refine .inr ⟨n + 1, by simp; omega, by rw [h2]; congr 1; omega, by simpa using h3, fun j hj => ?_⟩
        cases j with
        | zero => simpa using h
        | succ j => simpa using h4 j (by omega)
theorem SS.put_not {s : SS} {i : Int} {key b : List UInt8} (h : (s.put i key b).1 ≠ 0) : (s.put i key b).2.rows = s.rows := by
  unfold SS.put at h ⊢
  split
  · rfl
  · split
    · rfl
    · split
      · rfl
      · split
        · rfl
        · split
          · rfl
          · rename_i h1 h2 h3 h4 h5
            rw [if_neg h1, if_neg h2, if_neg h3, if_neg h4, if_neg h5] at h
            simp at h
theorem SS.put_done {s : SS} {i : Int} {key b : List UInt8} (h : (s.put i key b).1 = 0) : s.has i ∧ (s.row i).used = false ∧ (s.put i key b).2.rows = s.rows.set i.toNat ⟨true, b.length, key⟩ := by
  unfold SS.put at h ⊢
  by_cases h1 : ¬ s.has i
  · rw [if_pos h1] at h; simp at h
  · rw [if_neg h1] at h ⊢
    by_cases h2 : 40 < key.length ∨ 448 < b.length
    · rw [if_pos h2] at h; simp at h
    · rw [if_neg h2] at h ⊢
      by_cases h3 : (s.row i).used = true
      · rw [if_pos h3] at h; simp at h
      · rw [if_neg h3] at h ⊢
        by_cases h4 : (s.d.lays (s.pos i + 1) b).1 ≠ 0
        · rw [if_pos h4] at h; exact absurd h h4
        · rw [if_neg h4] at h ⊢
          by_cases h5 : ((s.d.lays (s.pos i + 1) b).2.lays (s.pos i) (headBytes b.length key)).1 ≠ 0
          · rw [if_pos h5] at h; exact absurd h h5
          · rw [if_neg h5]
            exact ⟨by simpa using h1, by simpa using h3, rfl⟩
theorem SS.clear_not {s : SS} {i : Int} (h : (s.clear i).1 ≠ 0) : (s.clear i).2.rows = s.rows := by
  unfold SS.clear at h ⊢
  split
  · rfl
  · split
    · rfl
    · split
      · rfl
      · rename_i h1 h2 h3
        rw [if_neg h1, if_neg h2, if_neg h3] at h
        simp at h
theorem SS.clear_done {s : SS} {i : Int} (h : (s.clear i).1 = 0) : s.has i ∧ (s.row i).used = true ∧ (s.clear i).2.rows = s.rows.set i.toNat noRow := by
  unfold SS.clear at h ⊢
  by_cases h1 : ¬ s.has i
  · rw [if_pos h1] at h; simp at h
  · rw [if_neg h1] at h ⊢
    by_cases h2 : (s.row i).used = false
    · rw [if_pos h2] at h; simp at h
    · rw [if_neg h2] at h ⊢
      by_cases h3 : (s.d.lays (s.pos i) (zeros 64)).1 ≠ 0
      · rw [if_pos h3] at h; exact absurd h h3
      · rw [if_neg h3]
        exact ⟨by simpa using h1, by simpa using h2, rfl⟩

theorem getD_set (l : List SRow) (i j : Nat) (r : SRow) : (l.set i r).getD j noRow = if i = j ∧ j < l.length then r else l.getD j noRow := by
  simp only [List.getD_eq_getElem?_getD, List.getElem?_set]
  by_cases h : i = j
  · subst h
    by_cases hl : i < l.length
    · simp [hl]
    · simp [hl]
  · simp [h]
theorem filter_eq (n i : Nat) (h : i < n) : (List.range n).filter (fun j => decide (j = i)) = [i] := by
  induction n with
  | zero => omega
  | succ n ih =>
    rw [List.range_succ, List.filter_append]
    by_cases e : i = n
    · subst e
      have : (List.range i).filter (fun j => decide (j = i)) = [] := by
        rw [List.filter_eq_nil_iff]
        intro j hj
        have := List.mem_range.1 hj
        simp; omega
      rw [this]; simp
    · rw [ih (by omega)]
      simp [show ¬ n = i by omega]
/-- A slot more. -/
theorem upto_put {rows : List SRow} {i : Nat} {k key : List UInt8} {n : Nat} (hi : i < rows.length) (hu : (rows.getD i noRow).used = false) (h0 : upto rows rows.length key = []) : upto (rows.set i ⟨true, n, key⟩) (rows.set i ⟨true, n, key⟩).length k = if k = key then [i] else upto rows rows.length k := by
  rw [List.length_set]
  unfold upto
  by_cases e : k = key
  · subst e
    rw [if_pos rfl, ← filter_eq rows.length i hi]
    refine List.filter_congr (fun j hj => ?_)
    have hjl := List.mem_range.1 hj
    unfold rowIs
    rw [getD_set]
    by_cases e2 : i = j
    · subst e2
      simp [hi]
    · rw [if_neg (fun h => e2 h.1)]
      have : j ∉ upto rows rows.length k := by rw [h0]; simp
      rw [upto_mem] at this
      have e3 : ¬ j = i := fun h => e2 h.symm
      rw [decide_eq_false e3]
      cases hu2 : (rows.getD j noRow).used with
      | false => rfl
      | true =>
        simp only [Bool.true_and, decide_eq_false_iff_not]
        exact fun h => this ⟨hjl, hu2, h⟩
  · rw [if_neg e]
    refine List.filter_congr (fun j hj => ?_)
    unfold rowIs
    rw [getD_set]
    by_cases e2 : i = j
    · subst e2
      rw [if_pos ⟨rfl, hi⟩, hu]
      simp only [Bool.true_and, Bool.false_and, decide_eq_false_iff_not]
      exact fun h => e h.symm
    · rw [if_neg (fun h => e2 h.1)]
theorem filter_not_mem {l : List Nat} {P : Nat → Bool} {i : Nat} {r : List Nat} (hn : l.Nodup) (h : l.filter P = i :: r) : l.filter (fun j => P j && !decide (j = i)) = r := by
  have e : l.filter (fun j => P j && !decide (j = i)) = (l.filter P).filter (fun j => !decide (j = i)) := by rw [List.filter_filter]; congr 1; funext j; exact Bool.and_comm _ _
  rw [e, h]
  have hnd : (i :: r).Nodup := by rw [← h]; exact hn.filter _
  have hi := (List.nodup_cons.1 hnd).1
  rw [List.filter_cons]
  simp only [decide_true, Bool.not_true, Bool.false_eq_true, if_false]
  rw [List.filter_eq_self]
  intro j hj
  simp only [Bool.not_eq_true', decide_eq_false_iff_not]
  exact fun e => hi (e ▸ hj)
/-- A slot less. -/
theorem upto_clear {rows : List SRow} {i : Nat} {key k : List UInt8} {r : List Nat} (h0 : upto rows rows.length key = i :: r) : upto (rows.set i noRow) (rows.set i noRow).length k = if k = key then r else upto rows rows.length k := by
  rw [List.length_set]
  have hm : i ∈ upto rows rows.length key := by rw [h0]; simp
  obtain ⟨hi, hu, hk⟩ := upto_mem.1 hm
  unfold upto
  by_cases e : k = key
  · subst e
    rw [if_pos rfl, ← filter_not_mem List.nodup_range h0]
    refine List.filter_congr (fun j hj => ?_)
    unfold rowIs
    rw [getD_set]
    by_cases e2 : i = j
    · subst e2
      rw [if_pos ⟨rfl, hi⟩]
      simp [noRow]
    · have e3 : decide (j = i) = false := decide_eq_false (fun h => e2 h.symm)
      rw [if_neg (fun h => e2 h.1), e3]
      simp
  · rw [if_neg e]
    refine List.filter_congr (fun j hj => ?_)
    unfold rowIs
    rw [getD_set]
    by_cases e2 : i = j
    · subst e2
      rw [if_pos ⟨rfl, hi⟩, hk]
      have : decide (key = k) = false := decide_eq_false (fun h => e h.symm)
      rw [this]
      simp [noRow]
    · rw [if_neg (fun h => e2 h.1)]
theorem keysOk.set {rows : List SRow} (h : keysOk rows) (i : Nat) {r : SRow} (hr : r.used = true → unOk r.key = true) : keysOk (rows.set i r) := by
  intro x hx hu
  rcases List.mem_or_eq_of_mem_set hx with h1 | rfl
  · exact h x h1 hu
  · exact hr hu
theorem wp_upd {κ : Type} {k : TypeId} {kv : κ → Value} {kl : κ → Lit} {ok : κ → Prop} (E : KE k kv kl ok) (w : World) {o : Oper} {a : Act} {K : Act → World → Prop} {Q : Exit → Act → World → Prop} (m x v : Operand) (t : TypeId) (hop : o.op = Op.mapUpdate t m x v) (e : TypeId)
    (ht : Tryz.prog.underlying t = some (.map k e)) (b N : Nat) (φ : κ → Option Value) (hm : a.eval m = .map (some b)) (h : MapF k kl ok w b φ N) (hN : N < maxLen) (y : κ) (hx : a.eval x = kv y) (hy : ok y) (u : Value) (hv : a.eval v = u)
    (hK : ∀ w', MapF k kl ok w' b (updF φ y u) (if (φ y).isSome then N else N + 1) → Chg [b] w w' → w'.heap.size = w.heap.size → K (a.put o.dst undef) w') : Oper.wp Tryz.prog o a w K Q := by
  obtain ⟨w', hrun, r1, r2, r3⟩ := h.store E ht hy u hN
  unfold Oper.wp
  simp [execOp, hop, hm, hx, hv, hrun, Result.andThen]
  exact hK w' r1 r2 r3
theorem wp_del {κ : Type} {k : TypeId} {kv : κ → Value} {kl : κ → Lit} {ok : κ → Prop} (E : KE k kv kl ok) (w : World) {o : Oper} {a : Act} {K : Act → World → Prop} {Q : Exit → Act → World → Prop} (m x : Operand) (t : TypeId) (hop : o.op = Op.call { callee := Callee.builtin Builtin.delete, args := #[m, x], argTypes := #[t, k] }) (e : TypeId)
    (ht : Tryz.prog.underlying t = some (.map k e)) (b N : Nat) (φ : κ → Option Value) (hm : a.eval m = .map (some b)) (h : MapF k kl ok w b φ N) (y : κ) (hx : a.eval x = kv y) (hy : ok y)
    (hK : ∀ w', MapF k kl ok w' b (delF φ y) (if (φ y).isSome then N - 1 else N) → Chg [b] w w' → w'.heap.size = w.heap.size → K (a.put o.dst (.tuple #[])) w') : Oper.wp Tryz.prog o a w K Q := by
  obtain ⟨w', hrun, r1, r2, r3⟩ := h.drop E ht hy o.type
  unfold Oper.wp execOp
  simp only [hop, resolve, invoke, builtin, Sem.run_bind, Sem.run_pure, Result.andThen_ok, List.map_toArray, List.map_cons, List.map_nil, hm, hx, hrun]
  exact hK _ r1 r2 r3
/-- Slots hear nothing of a map. -/
theorem SlotsAt.keepMap {w w' : World} {q p mb : Nat} {U : List Nat} {s : SS} (h : SlotsAt w q p U s) (hc : Chg [mb] w w') (hm : ∃ es clock, w.heap[mb]? = some (.map es clock)) (hU : mb ∉ U) : SlotsAt w' q p U s := by
  obtain ⟨S, rv, R, h⟩ := h
  have hne : ∀ x ∈ U, x ∉ [mb] := fun x hx hmm => hU (by rw [← List.mem_singleton.1 hmm]; exact hx)
  refine ⟨S, rv, R, h.obj.keep hc (fun x hx => hne x (h.uB x hx)), h.disk.keep hc (fun x hx => hne x (h.uS x hx)), h.rows, h.sep, fun x hx => ?_, h.uS, h.uB, fun x hx => Nat.lt_of_lt_of_le (h.uL x hx) hc.size, h.ok⟩
  obtain ⟨h1, h2⟩ := h.keys x hx
  refine ⟨h1.chgW hc (fun hn k hk hmm => ?_), fun g hg => ⟨Nat.lt_of_lt_of_le (h2 g hg).1 hc.size, (h2 g hg).2⟩⟩
  obtain rfl := List.mem_singleton.1 hmm
  obtain ⟨es, clock, hmo⟩ := hm
  obtain ⟨a, cap, hv, _, _, h3⟩ := h1
  rw [hv] at hk
  rcases h3 with ⟨h3, _⟩ | ⟨g, o, rfl, hcell⟩
  · exact hn h3
  · obtain rfl : g = k := by simpa [Value.ownBlock] using hk
    have := hcell 0 (List.length_pos_iff.2 hn)
    simp only [World.cell?, hmo] at this
    cases this
/-- A fragment more, in memory. -/
theorem StOk.added {w w2 w3 : World} {q p sp mb : Nat} {Us : List Nat} {φ : Id → Option Value} {N N' : Nat} {t : Sto} {s' : SS} {i n : Nat} {x : Id} {v : Value} (h : StOk G w q p sp mb Us φ N t) (hs : Sid w w2 sp p Us s') (hrows : s'.rows = t.s.rows.set i ⟨true, n, idKey x⟩) (hi : i < t.s.rows.length)
    (hu : (t.s.rows.getD i noRow).used = false) (hx : mayId x = true) (hat : t.at x = []) (hc : Chg [mb] w2 w3) (hmap : MapF 38 klD okD w3 mb (updF φ x v) N') (hv : IntsAt w3 v [i]) (hf : ∀ g, v.ownBlock = some g → w2.heap.size ≤ g ∧ g < w3.heap.size) :
    Std G w w3 q p (q :: mb :: Us) { t with s := s' } := by
  obtain ⟨U', h1, h2, h3⟩ := hs
  have hq := blk_lt h.head
  have hm := h.map.lt
  have hqm := ne_blk h.head h.map
  rw [Sto.at_may hx] at hat
  have hat' : ∀ y, Sto.at { t with s := s' } y = if y = x then [i] else t.at y := fun y => by
    by_cases hy : mayId y = true
    · rw [Sto.at_may hy, Sto.at_may hy]
      show upto s'.rows s'.rows.length (idKey y) = _
      rw [hrows, upto_put hi hu hat]
      by_cases e : y = x
      · subst e; rw [if_pos rfl, if_pos rfl]
      · rw [if_neg e, if_neg (fun h => e (idKey_inj hy hx h))]
    · have hy' : mayId y = false := by simpa using hy
      rw [Sto.at_not hy', Sto.at_not hy', if_neg (fun e => by subst e; exact hy hx)]
  have hqU : q ∉ U' := fun hx => by
    rcases h2 q hx with h4 | h4
    · exact h.apart.1 h4
    · omega
  have hmU : mb ∉ U' := fun hx => by
    rcases h2 mb hx with h4 | h4
    · exact h.apart.2 h4
    · omega
  have hcc : Chg (mb :: Us) w w3 := (h3.mono (fun y hy => .inl (List.mem_cons_of_mem _ hy))).trans hc (fun y hy => .inl (by rw [List.mem_singleton.1 hy]; simp))
  have hU2 : ∀ y ∈ q :: mb :: U', y ∈ q :: mb :: Us ∨ w.heap.size ≤ y := fun y hy => by
    rcases List.mem_cons.1 hy with rfl | hy
    · exact .inl (by simp)
    · rcases List.mem_cons.1 hy with rfl | hy
      · exact .inl (by simp)
      · rcases h2 y hy with h4 | h4
        · exact .inl (by simp [h4])
        · exact .inr h4
  refine StOk.std (Us' := U') ⟨hcc.keep h.head (fun hy => ?_), h1.keepMap hc (h.map.chg h3 h.apart.2).obj hmU, hmap, ⟨hqU, hmU⟩, fun y hy => ?_, ?_, (h.far.mono hcc.size).upd x (fun k hk e => by have := (hf k e).1; have := (h.far k hk).1; have := h3.size; omega)⟩ h2 (hcc.mono (fun y hy => .inl (List.mem_cons_of_mem _ hy)))
  · rcases List.mem_cons.1 hy with h4 | h4
    · exact hqm h4
    · exact h.apart.1 h4
  · rw [hat' y]
    by_cases e : y = x
    · subst e
      rw [if_pos rfl, updF_self]
      refine .inr ⟨by simp, v, rfl, hv, fun g hg => ⟨(hf g hg).2, fun hmm => ?_⟩⟩
      have := (hf g hg).1
      rcases List.mem_cons.1 hmm with rfl | hmm
      · have := h3.size; omega
      · rcases List.mem_cons.1 hmm with rfl | hmm
        · have := h3.size; omega
        · have := h1.uL g hmm; omega
    · rw [if_neg e, updF_other _ _ e]
      exact (h.vals y hy).keep hcc (fun z hz => .inl (List.mem_cons_of_mem _ hz)) hU2
  · show keysOk s'.rows
    rw [hrows]
    exact h.ok.set i (fun _ => (un_key hx).2)
end Go.Proofs.YtdkhmfcfihbjeaaGreatDoor.W

/- Package store: Put. -/
namespace Go.Proofs.YtdkhmfcfihbjeaaGreatDoor.W
open Go.RowKit
set_option linter.unusedVariables false
set_option linter.unusedSimpArgs false
variable {G : List Nat}

theorem SS.free_ok {s : SS} (h : ¬ s.free < 0) : ∃ i : Nat, s.free = (i : Int) ∧ i < s.rows.length ∧ (s.rows.getD i noRow).used = false := by
  unfold SS.free at h ⊢
  rcases rowFree_spec s.rows 0 with ⟨h1, _⟩ | ⟨n, h1, h2, h3, _⟩
  · rw [h1] at h; omega
  · exact ⟨n, by rw [h2, Nat.zero_add], h1, h3⟩
set_option maxHeartbeats 8000000 in
set_option maxRecDepth 100000 in
theorem stput_any (q p : Nat) (U : List Nat) (t : Sto) (x : Id) (bv : Value) (b : List UInt8) (w : World) (h : StAt G w q p U t) (hxo : okD x) (hb : BytesAt w bv b) (hbU : b ≠ [] → ∀ k, bv.ownBlock = some k → k ∉ U) (hbl : b.length ≤ 1000000) (ho : t.s.d.ops ≤ 900000000) (hw : t.s.d.since.length ≤ 900000) :
    Calls Tryz.prog 121 #[.pointer (some ⟨q, 0, none⟩), idV x, bv] w fun e w' => e = .returned (.int .i64 (t.put x b).1) ∧ Std G w w' q p U (t.put x b).2 := by
  obtain ⟨sp, mb, Us, φ, N, h, rfl⟩ := h
  obtain ⟨w1, hw1⟩ : ∃ w1, w1 = w.alloc (.cells (idC x) 38) := ⟨_, rfl⟩
  have hc1 : Chg [] w w1 := by rw [hw1]; exact (Chg.refl [] w).alloc _
  have hb1 : w1.heap[w.heap.size]? = some (.cells (idC x) 38 (0, 0)) := by rw [hw1]; exact heap_alloc_new w _
  have H1 := h.keep0 hc1
  obtain ⟨k0, _, _, _⟩ := H1.cells
  have CM := Lib.hid (stmade_any q p w1 k0)
  have CK := Lib.hid (stkey_any x w1)
  have HB := Lib.hid hb1
  have HC1 := Lib.hid hc1
  have HW1 := Lib.hid hw1
  have HH1 := Lib.hid H1
  have HX := Lib.hid hxo
  have HBY := Lib.hid (hb.chg hc1 (by simp))
  have HBU := Lib.hid hbU
  have HUL := Lib.hid h.slots.uL
  obtain ⟨ab, cb, rfl⟩ := hb.slice
  have HST : Hid (∀ w', Chg [] w1 w' → Std G w w' q p (q :: mb :: Us) t) := Lib.hid (fun w' hc => ⟨q :: mb :: Us, ⟨sp, mb, Us, φ, N, H1.keep0 hc, rfl⟩, fun y hy => .inl hy, (hc1.trans hc (by simp)).mono (by simp)⟩)
  clear hw1 hb1 hc1 h hxo hb hbU H1
  unfold KeyPost at CK
  by_cases hm : mayId x = true
  · simp only [hm, if_true] at CK
    have HM := Lib.hid hm
    have HG0 : Hid (t.put x b = if 448 < b.length then (3, t) else match t.at x with
        | i :: _ => if (t.s.get i).2 ≠ 0 then ((t.s.get i).2, t) else if (t.s.get i).1 = b then (0, t) else (7, t)
        | [] => if t.s.free < 0 then (5, t) else ((t.s.put t.s.free (idKey x) b).1, { t with s := (t.s.put t.s.free (idKey x) b).2 })) := Lib.hid (by unfold Sto.put; rw [if_neg (by simp [hm])]; try rfl)
    generalize t.put x b = r at *
    obtain ⟨xc, xl, xn, xi⟩ := x
    clear hm
    have hkl := idKey_len ⟨xc, xl, xn, xi⟩
    go_enter Tryz.func121, Tryz.ntmps121
    go_wp2_with fail
    rw [← HW1.out]
    refine CM.out.mono ?_
    rintro e w' ⟨rfl, hq⟩
    subst hq
    obtain ⟨m0, m1, m2, m3⟩ := id_cells HB.out
    go_wp2_with fail
    refine CK.out.mono ?_
    rintro e w2 ⟨hc2, kv, rfl, hkr, hkf⟩
    have HB2 := Lib.hid (hc2.keep HB.out (by simp))
    have HH2 := Lib.hid (HH1.out.keep0 hc2)
    have HC2 := Lib.hid hc2
    have HBY2 := Lib.hid (HBY.out.chg hc2 (by simp))
    have HKR := Lib.hid (And.intro hkr hkf)
    obtain ⟨ak, ck, rfl⟩ := hkr.slice
    clear hc2 m0 m1 m2 m3 k0 CM CK HB HBY hkr hkf
    by_cases hlen : 448 < b.length
    · have HR : Hid (r = (3, t)) := Lib.hid (by rw [HG0.out, if_pos hlen])
      have hlz : (448 : Int) < (b.length : Int) := by omega
      clear HG0
      go_wp2
      go_ret
      rw [HR.out]
      exact ⟨rfl, HST.out _ HC2.out⟩
    · have hlz : ¬ (448 : Int) < (b.length : Int) := by omega
      rw [if_neg hlen] at HG0
      obtain ⟨v, hlk, hlook⟩ := HH2.out.look HX.out
      obtain ⟨k0, k1, k2, _⟩ := HH2.out.cells
      obtain ⟨m0, m1, m2, m3⟩ := id_cells HB2.out
      obtain ⟨⟨a, cap, hv, hl1, hl2⟩, hfst⟩ := hlook
      cases hat : t.at ⟨xc, xl, xn, xi⟩ with
      | nil =>
        rw [hat] at HG0 hv
        subst hv
        dsimp only at HG0
        have HAT := Lib.hid hat
        clear hfst hat
        go_wp2_with fail
        go_quiet (fail)
        have HCn : Hid (Chg [] w2 (w2.drewN nq)) := Lib.hid ((Chg.refl [] w2).drewN nq)
        have HHn := Lib.hid (HH2.out.keep0 HCn.out)
        have HBn := Lib.hid (HBY2.out.chg HCn.out (by simp))
        have HKn := Lib.hid (HKR.out.1.bytes.chg HCn.out (by simp))
        have HIn := Lib.hid (show (w2.drewN nq).heap[w.heap.size]? = some (.cells (idC ⟨xc, xl, xn, xi⟩) 38 (0, 0)) from HB2.out)
        have CF := Lib.hid (sfree_any sp p Us t.s _ HHn.out.slots)
        obtain ⟨k0, k1, k2, _⟩ := HHn.out.cells
        clear hlk m0 m1 m2 m3
        generalize w2.drewN nq = w3 at *
        by_cases hfr : t.s.free < 0
        · have HR : Hid (r = (5, t)) := Lib.hid (by rw [HG0.out, if_pos hfr])
          clear HG0
          go_wp2_with (go_at_call 146; refine CF.out.mono ?_; rintro e w' ⟨rfl, hq⟩; subst hq)
          go_ret
          rw [HR.out]
          exact ⟨rfl, HST.out _ (HC2.out.trans HCn.out (by simp))⟩
        · rw [if_neg hfr] at HG0
          obtain ⟨i, hfi, hil, hiu⟩ := SS.free_ok hfr
          rw [hfi] at CF HG0 hfr
          have CP := Lib.hid (sput_any sp p Us t.s (i : Int) _ _ _ b w3 HHn.out.slots HKn.out (fun _ k hk hm => by
            have a1 := HKR.out.2 k hk
            have a2 := HH1.out.slots.uL k hm
            omega) HBn.out (fun hne k hk hm => HBU.out hne k hk (by simp [hm])) (by rw [hkl]; omega) hbl ho hw)
          have hpn := @SS.put_not t.s (i : Int) (idKey ⟨xc, xl, xn, xi⟩) b
          have hpd := @SS.put_done t.s (i : Int) (idKey ⟨xc, xl, xn, xi⟩) b
          generalize t.s.put (i : Int) (idKey ⟨xc, xl, xn, xi⟩) b = z at *
          obtain ⟨ze, zs⟩ := z
          dsimp only at HG0 hpn hpd
          unfold SidPost at CP
          have HPN := Lib.hid (And.intro hpn hpd)
          have HIU := Lib.hid (And.intro hil hiu)
          clear hpn hpd hfi hil hiu
          go_wp2_with (go_at_call 146; refine CF.out.mono ?_; rintro e w' ⟨rfl, hq⟩; subst hq)
          refine CP.out.mono ?_
          rintro e w4 ⟨rfl, hs4⟩
          have HS4 := Lib.hid (Sid.pre (HC1.out.trans (HC2.out.trans HCn.out (by simp)) (by simp)) hs4)
          have HS4' := Lib.hid hs4
          clear hs4 CP CF
          by_cases he : ze = 0
          · subst he
            have HR : Hid (r = (0, { t with s := zs })) := Lib.hid (by rw [HG0.out])
            obtain ⟨hhas, hun, hrows⟩ := HPN.out.2 rfl
            obtain ⟨Us', hs1, hs2, hs3⟩ := HS4'.out
            have hid4 : w4.heap[w.heap.size]? = some (.cells (idC ⟨xc, xl, xn, xi⟩) 38 (0, 0)) := hs3.keep HIn.out (fun hm => by have := HUL.out _ hm; omega)
            have c4 := hs3.cell HHn.out.cells.2.2.1 HHn.out.apart.1
            have c4' := hs3.cell HHn.out.cells.1 HHn.out.apart.1
            have HM4 := Lib.hid (HHn.out.map.chg hs3 HHn.out.apart.2)
            have mm4 := id_cells hid4
            have HI4 := Lib.hid hid4
            have hml := HM4.out.lt
            have hNN : N < maxLen := by
              have h1 := HHn.out.map.card keId (t.s.rows.map (fun r => unId r.key)) (fun y hy hs => by
                rcases HHn.out.vals y hy with ⟨_, h2⟩ | ⟨h1, _⟩
                · rw [h2] at hs; cases hs
                · obtain ⟨j, l, hjl⟩ := List.exists_cons_of_ne_nil h1
                  by_cases hmy : mayId y = true
                  · rw [Sto.at_may hmy] at hjl
                    have hj : j ∈ upto t.s.rows t.s.rows.length (idKey y) := by rw [hjl]; simp
                    obtain ⟨j1, j2, j3⟩ := upto_mem.1 hj
                    refine List.mem_map.2 ⟨t.s.rows.getD j noRow, ?_, by rw [j3, (un_key hmy).1]⟩
                    rw [List.getD_eq_getElem?_getD, List.getElem?_eq_getElem j1]
                    exact List.getElem_mem _
                  · rw [Sto.at_not (by simpa using hmy)] at hjl; cases hjl)
              obtain ⟨S0, rv0, R0, H0⟩ := HHn.out.slots
              have := H0.few
              rw [List.length_map] at h1
              unfold maxLen
              omega
            have HRW := Lib.hid hrows
            clear hs1 hs2 hs3 hid4 hhas hun hrows HG0
            go_wp2_with fail
            refine wp_region_L [(7, fun w' => w'.cell? ⟨q, 2, none⟩ = some (.map (some mb))), (7, fun w' => (w'.cell? ⟨w.heap.size, 0, none⟩ = some (.int .i64 xc) ∧ w'.cell? ⟨w.heap.size, 1, none⟩ = some (.int .i64 xl) ∧ w'.cell? ⟨w.heap.size, 2, none⟩ = some (.int .i64 xn) ∧ w'.cell? ⟨w.heap.size, 3, none⟩ = some (.int .i64 xi)))] (by kernel_rfl) ?_ (fun hHeld => ?_)
            · exact (HoldC.cons (c4) (HoldC.cons (mm4) HoldC.nil))
            refine wpAnyL_take (i := 0) (oi := _) (v := ?_) rfl (by kernel_rfl) (by kernel_rfl) (by kernel_rfl) (by kernel_rfl) (by kernel_rfl) (fun _ _ _ h => h) (Or.inl ⟨by rfl, ?_⟩) (by assumption) (fun hNew => ?_)
            rotate_left
            · intro w _
              go_simp
              try with_reducible rfl
            clear hHeld
            have hHeld := hNew
            clear hNew
            try simp only [List.getElem_toArray, List.getElem_cons_succ, List.getElem_cons_zero, Act.put, List.setIfInBounds_toArray, List.set_cons_zero, List.set_cons_succ]
            refine wpAnyL_take (i := 1) (oi := _) (v := ?_) rfl (by kernel_rfl) (by kernel_rfl) (by kernel_rfl) (by kernel_rfl) (by kernel_rfl) (fun _ _ _ h => h) (Or.inl ⟨by rfl, ?_⟩) (by assumption) (fun hNew => ?_)
            rotate_left
            · intro w _
              go_simp
              try with_reducible rfl
            clear hHeld
            have hHeld := hNew
            clear hNew
            try simp only [List.getElem_toArray, List.getElem_cons_succ, List.getElem_cons_zero, Act.put, List.setIfInBounds_toArray, List.set_cons_zero, List.set_cons_succ]
            refine wpAnyL_take (i := 2) (oi := _) (v := ?_) rfl (by kernel_rfl) (by kernel_rfl) (by kernel_rfl) (by kernel_rfl) (by kernel_rfl) (fun _ _ _ h => h) (Or.inl ⟨by rfl, ?_⟩) (by assumption) (fun hNew => ?_)
            rotate_left
            · intro w _
              go_simp
              try with_reducible rfl
            clear hHeld
            have hHeld := hNew
            clear hNew
            try simp only [List.getElem_toArray, List.getElem_cons_succ, List.getElem_cons_zero, Act.put, List.setIfInBounds_toArray, List.set_cons_zero, List.set_cons_succ]
            refine wpAnyL_load 0 (i := 3) (oi := _) (v := ?_) rfl rfl (by kernel_rfl) (by kernel_rfl) (by kernel_rfl) (by kernel_rfl) (by kernel_rfl) (by kernel_rfl) (fun _ _ _ h => h) (Or.inl ⟨by rfl, ?_⟩) (by assumption) (fun hNew => ?_)
            rotate_left
            · intro w hSw
              (try dsimp only at hSw)
              go_simp
              try with_reducible rfl
            clear hHeld
            have hHeld := hNew
            clear hNew
            try simp only [List.getElem_toArray, List.getElem_cons_succ, List.getElem_cons_zero, Act.put, List.setIfInBounds_toArray, List.set_cons_zero, List.set_cons_succ]
            refine wpAnyL_load 1 (i := 4) (oi := _) (v := ?_) rfl rfl (by kernel_rfl) (by kernel_rfl) (by kernel_rfl) (by kernel_rfl) (by kernel_rfl) (by kernel_rfl) (fun _ _ _ h => h) (Or.inl ⟨by rfl, ?_⟩) (by assumption) (fun hNew => ?_)
            rotate_left
            · intro w hSw
              (try dsimp only at hSw)
              go_simp
              try with_reducible rfl
            clear hHeld
            have hHeld := hNew
            clear hNew
            try simp only [List.getElem_toArray, List.getElem_cons_succ, List.getElem_cons_zero, Act.put, List.setIfInBounds_toArray, List.set_cons_zero, List.set_cons_succ]
            refine wpAnyL_take (i := 5) (oi := _) (v := ?_) rfl (by kernel_rfl) (by kernel_rfl) (by kernel_rfl) (by kernel_rfl) (by kernel_rfl) (fun _ _ _ h => h) (Or.inl ⟨by rfl, ?_⟩) (by assumption) (fun hNew => ?_)
            rotate_left
            · intro w _
              go_simp
              try with_reducible rfl
            clear hHeld
            have hHeld := hNew
            clear hNew
            try simp only [List.getElem_toArray, List.getElem_cons_succ, List.getElem_cons_zero, Act.put, List.setIfInBounds_toArray, List.set_cons_zero, List.set_cons_succ]
            refine wpAnyL_ready (rs := [6]) (by kernel_rfl) (by simp) ?_
            refine AllReadyL.cons (o := _) rfl (fun K hK => ?_) AllReadyL.nil
            try simp only [List.getElem_toArray, List.getElem_cons_succ, List.getElem_cons_zero]
            go_simp
            have hcW : Chg [] w4 (w4.alloc (.cells #[.int .i64 (i : Int)] 3)).drew := ((Chg.refl _ _).alloc _).drew
            have hbW : (w4.alloc (.cells #[.int .i64 (i : Int)] 3)).drew.heap[w4.heap.size]? = some (.cells #[.int .i64 (i : Int)] 3 (0, 0)) := heap_alloc_new w4 _
            have hbl2 : w4.heap.size < (w4.alloc (.cells #[.int .i64 (i : Int)] 3)).drew.heap.size := blk_lt hbW
            generalize (w4.alloc (.cells #[.int .i64 (i : Int)] 3)).drew = W at *
            have c8 := hcW.cell c4 (by simp)
            have mm8 := id_cells (hcW.keep HI4.out (by simp))
            have HMW := Lib.hid (HM4.out.chg hcW (by simp))
            clear hHeld
            refine hK.out _ _ ?_ (fun hHeld => ?_)
            · exact (HoldC.cons (c8) (HoldC.cons (mm8) HoldC.nil))
            clear hK K
            try simp only [List.getElem_toArray, List.getElem_cons_succ, List.getElem_cons_zero, Act.put, List.setIfInBounds_toArray, List.set_cons_zero, List.set_cons_succ]
            refine wpAnyL_ready (rs := [7]) (by kernel_rfl) (by simp) ?_
            refine AllReadyL.cons (o := _) rfl (fun K hK => ?_) AllReadyL.nil
            try simp only [List.getElem_toArray, List.getElem_cons_succ, List.getElem_cons_zero]
            refine wp_upd keId W (.tmp 77) (.tmp 78) (.tmp 80) 96 (by rfl) 132 Tryz.underlying96 mb N φ (by rfl) HMW.out hNN ⟨xc, xl, xn, xi⟩ (by rfl) HX.out (.slice (some ⟨w4.heap.size, 0, none⟩) 1 1) (by rfl) ?_
            intro w6 hm6 hc6 hs6
            have hv6 : IntsAt w6 (.slice (some ⟨w4.heap.size, 0, none⟩) 1 1) [i] := ⟨_, 1, rfl, by simp, by unfold maxLen; omega, fun _ => ⟨_, 0, rfl, fun j hj => by
              obtain rfl : j = 0 := by simpa using hj
              exact hc6.cell (blk_cell hbW 0 _ rfl) (by simp; omega)⟩⟩
            have hF := HHn.out.added HS4'.out HRW.out HIU.out.1 HIU.out.2 HM.out HAT.out ((hcW.mono (by simp)).trans hc6 (fun y hy => .inl hy)) hm6 hv6 (fun k hk => by
              obtain rfl : w4.heap.size = k := by simpa [Value.ownBlock] using hk
              exact ⟨Nat.le_refl _, by omega⟩)
            have HF := Lib.hid (Std.pre (HC1.out.trans (HC2.out.trans HCn.out (by simp)) (by simp)) hF)
            clear hF hm6 hc6 hs6 hv6 hcW hbW
            clear hHeld
            refine hK.out _ _ ?_ (fun hHeld => ?_)
            · exact (HoldC.past (by kernel_rfl) (HoldC.past (by kernel_rfl) HoldC.nil))
            clear hK K
            try simp only [List.getElem_toArray, List.getElem_cons_succ, List.getElem_cons_zero, Act.put, List.setIfInBounds_toArray, List.set_cons_zero, List.set_cons_succ]
            refine wpAnyL_done (by kernel_rfl) ?_ _
            clear hHeld
            go_wp2_with fail
            go_ret
            rw [HR.out]
            exact ⟨rfl, HF.out⟩
          · have HR : Hid (r = (ze, { t with s := zs })) := Lib.hid (by rw [HG0.out])
            have q0 : (ze != 0) = true := by simp [he]
            have HF : Hid (Std G w w4 q p (q :: mb :: Us) { t with s := zs }) := Lib.hid (by
              obtain ⟨Us', h1, h2, h3⟩ := HHn.out.slotsDid HS4'.out (HPN.out.1 he)
              have hc0 : Chg [] w w3 := HC1.out.trans (HC2.out.trans HCn.out (by simp)) (by simp)
              refine Std.pre hc0 (h1.std h2 (h3.mono (fun y hy => .inl (by simp [hy])))))
            clear HG0 he
            go_wp2
            go_ret
            rw [HR.out]
            exact ⟨rfl, HF.out⟩
      | cons i rest =>
        obtain ⟨g, o, cap', hv', hc0⟩ := hfst i rest hat
        rw [hv'] at hv
        obtain ⟨rfl, _, rfl⟩ := Value.slice.inj hv
        rw [hat] at HG0 hv'
        dsimp only at HG0
        subst hv'
        have hpos : 0 < (i :: rest).length := by simp
        have hcl : (i :: rest).length ≤ cap' := by rw [← hat]; exact hl1
        have hbig : (i :: rest).length ≤ 9223372036854775807 := by rw [hat] at hl1; unfold maxLen at hl2; omega
        generalize (i :: rest).length = n at *
        have hn0 : ((n : Int) == 0) = false := by simp; omega
        clear hv hfst hat hl1 hl2
        go_wp2_with fail
        go_quiet (fail)
        have hc03 : (w2.drewN nq).drew.cell? ⟨g, o, none⟩ = some (.int .i64 (i : Int)) := hc0
        have HCn : Hid (Chg [] w2 (w2.drewN nq).drew) := Lib.hid (((Chg.refl [] w2).drewN nq).drew)
        have HHn := Lib.hid (HH2.out.keep0 HCn.out)
        have CG := Lib.hid (sget_any sp p Us t.s i _ HHn.out.slots)
        have HBn := Lib.hid (HBY2.out.chg HCn.out (by simp))
        obtain ⟨h0, h1, h2, _⟩ := HHn.out.cells
        clear hlk hc0 k0 k1 k2 m0 m1 m2 m3
        generalize w2.drewN nq = w3 at *
        go_wp2_with fail
        refine wp_region_L [(7, fun w' => w'.cell? ⟨q, 1, none⟩ = some (.pointer (some ⟨sp, 0, none⟩))), (7, fun w' => w'.cell? ⟨g, o, none⟩ = some (.int .i64 (i : Int)))] (by kernel_rfl) ?_ (fun hHeld => ?_)
        · exact (HoldC.cons (h1) (HoldC.cons (hc03) HoldC.nil))
        refine wpAnyL_take (i := 0) (oi := _) (v := ?_) rfl (by kernel_rfl) (by kernel_rfl) (by kernel_rfl) (by kernel_rfl) (by kernel_rfl) (fun _ _ _ h => h) (Or.inl ⟨by rfl, ?_⟩) (by assumption) (fun hNew => ?_)
        rotate_left
        · intro w _
          go_simp
          try with_reducible rfl
        clear hHeld
        have hHeld := hNew
        clear hNew
        try simp only [List.getElem_toArray, List.getElem_cons_succ, List.getElem_cons_zero, Act.put, List.setIfInBounds_toArray, List.set_cons_zero, List.set_cons_succ]
        refine wpAnyL_take (i := 1) (oi := _) (v := ?_) rfl (by kernel_rfl) (by kernel_rfl) (by kernel_rfl) (by kernel_rfl) (by kernel_rfl) (fun _ _ _ h => h) (Or.inl ⟨by rfl, ?_⟩) (by assumption) (fun hNew => ?_)
        rotate_left
        · intro w _
          go_simp
          try with_reducible rfl
        clear hHeld
        have hHeld := hNew
        clear hNew
        try simp only [List.getElem_toArray, List.getElem_cons_succ, List.getElem_cons_zero, Act.put, List.setIfInBounds_toArray, List.set_cons_zero, List.set_cons_succ]
        refine wpAnyL_take (i := 2) (oi := _) (v := ?_) rfl (by kernel_rfl) (by kernel_rfl) (by kernel_rfl) (by kernel_rfl) (by kernel_rfl) (fun _ _ _ h => h) (Or.inl ⟨by rfl, ?_⟩) (by assumption) (fun hNew => ?_)
        rotate_left
        · intro w _
          go_simp
          try with_reducible rfl
        clear hHeld
        have hHeld := hNew
        clear hNew
        try simp only [List.getElem_toArray, List.getElem_cons_succ, List.getElem_cons_zero, Act.put, List.setIfInBounds_toArray, List.set_cons_zero, List.set_cons_succ]
        refine wpAnyL_load 0 (i := 3) (oi := _) (v := ?_) rfl rfl (by kernel_rfl) (by kernel_rfl) (by kernel_rfl) (by kernel_rfl) (by kernel_rfl) (by kernel_rfl) (fun _ _ _ h => h) (Or.inl ⟨by rfl, ?_⟩) (by assumption) (fun hNew => ?_)
        rotate_left
        · intro w hSw
          (try dsimp only at hSw)
          go_simp
          try with_reducible rfl
        clear hHeld
        have hHeld := hNew
        clear hNew
        try simp only [List.getElem_toArray, List.getElem_cons_succ, List.getElem_cons_zero, Act.put, List.setIfInBounds_toArray, List.set_cons_zero, List.set_cons_succ]
        refine wpAnyL_take (i := 4) (oi := _) (v := ?_) rfl (by kernel_rfl) (by kernel_rfl) (by kernel_rfl) (by kernel_rfl) (by kernel_rfl) (fun _ _ _ h => h) (Or.inl ⟨by rfl, ?_⟩) (by assumption) (fun hNew => ?_)
        rotate_left
        · intro w _
          go_simp
          try with_reducible rfl
        clear hHeld
        have hHeld := hNew
        clear hNew
        try simp only [List.getElem_toArray, List.getElem_cons_succ, List.getElem_cons_zero, Act.put, List.setIfInBounds_toArray, List.set_cons_zero, List.set_cons_succ]
        refine wpAnyL_take (i := 5) (oi := _) (v := ?_) rfl (by kernel_rfl) (by kernel_rfl) (by kernel_rfl) (by kernel_rfl) (by kernel_rfl) (fun _ _ _ h => h) (Or.inl ⟨by rfl, ?_⟩) (by assumption) (fun hNew => ?_)
        rotate_left
        · intro w _
          go_simp
          try with_reducible rfl
        clear hHeld
        have hHeld := hNew
        clear hNew
        try simp only [List.getElem_toArray, List.getElem_cons_succ, List.getElem_cons_zero, Act.put, List.setIfInBounds_toArray, List.set_cons_zero, List.set_cons_succ]
        refine wpAnyL_load 1 (i := 6) (oi := _) (v := ?_) rfl rfl (by kernel_rfl) (by kernel_rfl) (by kernel_rfl) (by kernel_rfl) (by kernel_rfl) (by kernel_rfl) (fun _ _ _ h => h) (Or.inl ⟨by rfl, ?_⟩) (by assumption) (fun hNew => ?_)
        rotate_left
        · intro w hSw
          (try dsimp only at hSw)
          go_simp
          try with_reducible rfl
        clear hHeld
        have hHeld := hNew
        clear hNew
        try simp only [List.getElem_toArray, List.getElem_cons_succ, List.getElem_cons_zero, Act.put, List.setIfInBounds_toArray, List.set_cons_zero, List.set_cons_succ]
        refine wpAnyL_ready (rs := [7]) (by kernel_rfl) (by simp) ?_
        refine AllReadyL.cons (o := _) rfl (fun K hK => ?_) AllReadyL.nil
        try simp only [List.getElem_toArray, List.getElem_cons_succ, List.getElem_cons_zero]
        go_simp
        refine CG.out.mono ?_
        rintro e w4 ⟨⟨v4, rfl, hb4, ho4⟩, hc4⟩
        have HC4 := Lib.hid ((HC2.out.trans HCn.out (by simp)).trans hc4 (by simp))
        obtain ⟨a4, c4, rfl⟩ := hb4.slice
        have CE := Lib.hid (equal_any _ _ _ _ w4 hb4 (HBn.out.chg hc4 (by simp)))
        clear hb4 ho4 hc4 CG
        clear hHeld
        refine hK.out _ _ ?_ (fun hHeld => ?_)
        · exact (HoldC.past (by kernel_rfl) (HoldC.past (by kernel_rfl) HoldC.nil))
        clear hK K
        try simp only [List.getElem_toArray, List.getElem_cons_succ, List.getElem_cons_zero, Act.put, List.setIfInBounds_toArray, List.set_cons_zero, List.set_cons_succ]
        refine wpAnyL_take (i := 8) (oi := _) (v := ?_) rfl (by kernel_rfl) (by kernel_rfl) (by kernel_rfl) (by kernel_rfl) (by kernel_rfl) (fun _ _ _ h => h) (Or.inl ⟨by rfl, ?_⟩) (by assumption) (fun hNew => ?_)
        rotate_left
        · intro w _
          go_simp
          try with_reducible rfl
        clear hHeld
        have hHeld := hNew
        clear hNew
        try simp only [List.getElem_toArray, List.getElem_cons_succ, List.getElem_cons_zero, Act.put, List.setIfInBounds_toArray, List.set_cons_zero, List.set_cons_succ]
        refine wpAnyL_take (i := 9) (oi := _) (v := ?_) rfl (by kernel_rfl) (by kernel_rfl) (by kernel_rfl) (by kernel_rfl) (by kernel_rfl) (fun _ _ _ h => h) (Or.inl ⟨by rfl, ?_⟩) (by assumption) (fun hNew => ?_)
        rotate_left
        · intro w _
          go_simp
          try with_reducible rfl
        clear hHeld
        have hHeld := hNew
        clear hNew
        try simp only [List.getElem_toArray, List.getElem_cons_succ, List.getElem_cons_zero, Act.put, List.setIfInBounds_toArray, List.set_cons_zero, List.set_cons_succ]
        refine wpAnyL_take (i := 10) (oi := _) (v := ?_) rfl (by kernel_rfl) (by kernel_rfl) (by kernel_rfl) (by kernel_rfl) (by kernel_rfl) (fun _ _ _ h => h) (Or.inl ⟨by rfl, ?_⟩) (by assumption) (fun hNew => ?_)
        rotate_left
        · intro w _
          go_simp
          try with_reducible rfl
        clear hHeld
        have hHeld := hNew
        clear hNew
        try simp only [List.getElem_toArray, List.getElem_cons_succ, List.getElem_cons_zero, Act.put, List.setIfInBounds_toArray, List.set_cons_zero, List.set_cons_succ]
        refine wpAnyL_ready (rs := [11]) (by kernel_rfl) (by simp) ?_
        refine AllReadyL.cons (o := _) rfl (fun K hK => ?_) AllReadyL.nil
        try simp only [List.getElem_toArray, List.getElem_cons_succ, List.getElem_cons_zero]
        go_simp
        clear hHeld
        refine hK.out _ _ ?_ (fun hHeld => ?_)
        · exact (HoldC.past (by kernel_rfl) (HoldC.past (by kernel_rfl) HoldC.nil))
        clear hK K
        try simp only [List.getElem_toArray, List.getElem_cons_succ, List.getElem_cons_zero, Act.put, List.setIfInBounds_toArray, List.set_cons_zero, List.set_cons_succ]
        refine wpAnyL_ready (rs := [12]) (by kernel_rfl) (by simp) ?_
        refine AllReadyL.cons (o := _) rfl (fun K hK => ?_) AllReadyL.nil
        try simp only [List.getElem_toArray, List.getElem_cons_succ, List.getElem_cons_zero]
        go_simp
        clear hHeld
        refine hK.out _ _ ?_ (fun hHeld => ?_)
        · exact (HoldC.past (by kernel_rfl) (HoldC.past (by kernel_rfl) HoldC.nil))
        clear hK K
        try simp only [List.getElem_toArray, List.getElem_cons_succ, List.getElem_cons_zero, Act.put, List.setIfInBounds_toArray, List.set_cons_zero, List.set_cons_succ]
        refine wpAnyL_done (by kernel_rfl) ?_ _
        clear hHeld
        generalize t.s.get i = z at *
        obtain ⟨zb, ze⟩ := z
        dsimp only at CE HG0
        by_cases he : ze = 0
        · subst he
          rw [if_neg (by simp)] at HG0
          by_cases hbb : zb = b
          · have HR : Hid (r = (0, t)) := Lib.hid (by rw [HG0.out, if_pos hbb])
            rw [decide_eq_true hbb] at CE
            clear HG0 hbb
            go_wp2_with (go_at_call 145; refine CE.out.mono ?_; rintro e w' ⟨rfl, hq⟩; subst hq)
            go_ret
            rw [HR.out]
            exact ⟨rfl, HST.out _ HC4.out⟩
          · have HR : Hid (r = (7, t)) := Lib.hid (by rw [HG0.out, if_neg hbb])
            rw [decide_eq_false hbb] at CE
            clear HG0 hbb
            go_wp2_with (go_at_call 145; refine CE.out.mono ?_; rintro e w' ⟨rfl, hq⟩; subst hq)
            go_ret
            rw [HR.out]
            exact ⟨rfl, HST.out _ HC4.out⟩
        · have HR : Hid (r = (ze, t)) := Lib.hid (by rw [HG0.out, if_pos he])
          have q0 : (ze != 0) = true := by simp [he]
          clear HG0 he
          go_wp2
          go_ret
          rw [HR.out]
          exact ⟨rfl, HST.out _ HC4.out⟩
  · have hm' : mayId x = false := by simpa using hm
    have HG : Hid (t.put x b = (1, t)) := Lib.hid (by unfold Sto.put; rw [if_pos hm'])
    rw [HG.out]
    simp only [hm] at CK
    clear hm hm'
    obtain ⟨xc, xl, xn, xi⟩ := x
    go_enter Tryz.func121, Tryz.ntmps121
    go_wp2_with fail
    rw [← HW1.out]
    refine CM.out.mono ?_
    rintro e w' ⟨rfl, hq⟩
    subst hq
    obtain ⟨m0, m1, m2, m3⟩ := id_cells HB.out
    go_wp2_with fail
    refine CK.out.mono ?_
    rintro e w2 ⟨hc2, rfl⟩
    have HC2 := Lib.hid hc2
    clear hc2
    go_wp2
    go_ret
    exact ⟨rfl, HST.out _ HC2.out⟩
end Go.Proofs.YtdkhmfcfihbjeaaGreatDoor.W

/- Package store: what deleting does, in memory. -/
namespace Go.Proofs.YtdkhmfcfihbjeaaGreatDoor.W
open Go.RowKit
set_option linter.unusedVariables false
set_option linter.unusedSimpArgs false
variable {G : List Nat}

/-- As IdsAt; a slice that is empty may stand there. -/
def IdsAt0 (w : World) (U : List Nat) (o : Option Value) (l : List Nat) : Prop := (l = [] ∧ o = none) ∨ ∃ v, o = some v ∧ IntsAt w v l ∧ ∀ g, v.ownBlock = some g → g < w.heap.size ∧ g ∉ U
theorem IdsAt0.keep {w w' : World} {U U' T : List Nat} {o : Option Value} {l : List Nat} (h : IdsAt0 w U o l) (hc : Chg T w w') (hT : ∀ x ∈ T, x ∈ U ∨ w.heap.size ≤ x) (hU : ∀ x ∈ U', x ∈ U ∨ w.heap.size ≤ x) : IdsAt0 w' U' o l := by
  rcases h with h | ⟨v, h2, h3, h4⟩
  · exact .inl h
  · refine .inr ⟨v, h2, h3.keep fun g hg => ?_, fun g hg => ⟨Nat.lt_of_lt_of_le (h4 g hg).1 hc.size, fun hm => ?_⟩⟩
    · obtain ⟨k1, k2⟩ := h4 g hg
      refine hc.block g k1 (fun hm => ?_)
      rcases hT g hm with h | h
      · exact k2 h
      · omega
    · obtain ⟨k1, k2⟩ := h4 g hg
      rcases hU g hm with h | h
      · exact k2 h
      · omega
/-- A store while an id is being deleted. -/
structure StMid (G : List Nat) (w : World) (q p sp mb : Nat) (Us : List Nat) (φ : Id → Option Value) (N : Nat) (t : Sto) (x : Id) : Prop where
  head : w.heap[q]? = some (.cells #[.pointer (some ⟨p, 0, none⟩), .pointer (some ⟨sp, 0, none⟩), .map (some mb), .bool t.whole] 98 (0, 0))
  slots : SlotsAt w sp p Us t.s
  map : MapF 38 klD okD w mb φ N
  apart : q ∉ Us ∧ mb ∉ Us
  vals : ∀ y, okD y → y ≠ x → IdsAt w (q :: mb :: Us) (φ y) (t.at y)
  val : IdsAt0 w (q :: mb :: Us) (φ x) (t.at x)
  ok : keysOk t.s.rows
  far : Far G w φ
theorem StOk.mid {w : World} {q p sp mb : Nat} {Us : List Nat} {φ : Id → Option Value} {N : Nat} {t : Sto} (h : StOk G w q p sp mb Us φ N t) {x : Id} (hx : okD x) : StMid G w q p sp mb Us φ N t x :=
  ⟨h.head, h.slots, h.map, h.apart, fun y hy _ => h.vals y hy, (h.vals x hx).imp id (fun ⟨_, h⟩ => h), h.ok, h.far⟩
variable {w w2 w3 : World} {q p sp mb : Nat} {Us : List Nat} {φ : Id → Option Value} {N N' : Nat} {t : Sto} {x : Id}
theorem StMid.full (h : StMid G w q p sp mb Us φ N t x) (hne : t.at x ≠ []) : StOk G w q p sp mb Us φ N t := by
  refine ⟨h.head, h.slots, h.map, h.apart, fun y hy => ?_, h.ok, h.far⟩
  by_cases e : y = x
  · subst e
    rcases h.val with ⟨h1, _⟩ | ⟨v, h2, h3⟩
    · exact absurd h1 hne
    · exact .inr ⟨hne, v, h2, h3⟩
  · exact h.vals y hy e
theorem StMid.keep0 (h : StMid G w q p sp mb Us φ N t x) (hc : Chg [] w w2) : StMid G w2 q p sp mb Us φ N t x :=
  ⟨hc.keep h.head (by simp), h.slots.keep0 hc, h.map.chg hc (by simp), h.apart, fun y hy hn => (h.vals y hy hn).keep hc (by simp) (fun y hy => .inl hy), h.val.keep hc (by simp) (fun y hy => .inl hy), h.ok, h.far.mono hc.size⟩
theorem StMid.cells (h : StMid G w q p sp mb Us φ N t x) :
    w.cell? ⟨q, 0, none⟩ = some (.pointer (some ⟨p, 0, none⟩)) ∧ w.cell? ⟨q, 1, none⟩ = some (.pointer (some ⟨sp, 0, none⟩)) ∧ w.cell? ⟨q, 2, none⟩ = some (.map (some mb)) ∧ w.cell? ⟨q, 3, none⟩ = some (.bool t.whole) :=
  ⟨blk_cell h.head 0 _ rfl, blk_cell h.head 1 _ rfl, blk_cell h.head 2 _ rfl, blk_cell h.head 3 _ rfl⟩
/-- What is found at the id. -/
structure MidLook (G : List Nat) (w : World) (U : List Nat) (v : Value) (l : List Nat) : Prop where
  ints : IntsAt w v l
  own : ∀ g, v.ownBlock = some g → g < w.heap.size ∧ g ∉ U
  far : ∀ k ∈ G, v.ownBlock ≠ some k
theorem StMid.look (h : StMid G w q p sp mb Us φ N t x) (hx : okD x) :
    ∃ v, (∀ n, (Instr.lookup 96 (.map (some mb)) (idV x) false).run Tryz.prog (w.drewN n) = .ok v (w.drewN n)) ∧ MidLook G w (q :: mb :: Us) v (t.at x) := by
  refine ⟨(φ x).getD (.slice none 0 0), fun n => ?_, ?_⟩
  · exact (h.map.chg ((Chg.refl [] w).drewN n) (by simp)).look keId Tryz.underlying96 zeroInts hx
  · rcases h.val with ⟨h1, h2⟩ | ⟨v, h2, h3, h4⟩
    · rw [h1, h2]
      exact ⟨⟨none, 0, rfl, Nat.le_refl _, by unfold maxLen; omega, fun h => absurd rfl h⟩, (fun g hg => by cases hg), fun k hk e => by cases e⟩
    · rw [h2]
      exact ⟨h3, h4, fun k hk => (h.far k hk).2 x v hx h2⟩
theorem MidLook.keep {U U' T : List Nat} {v : Value} {l : List Nat} (h : MidLook G w U v l) (hc : Chg T w w2) (hT : ∀ x ∈ T, x ∈ U ∨ w.heap.size ≤ x) (hU : ∀ x ∈ U', x ∈ U ∨ w.heap.size ≤ x) : MidLook G w2 U' v l := by
  refine ⟨h.ints.keep fun g hg => ?_, fun g hg => ⟨Nat.lt_of_lt_of_le (h.own g hg).1 hc.size, fun hm => ?_⟩, h.far⟩
  · obtain ⟨k1, k2⟩ := h.own g hg
    refine hc.block g k1 (fun hm => ?_)
    rcases hT g hm with h | h
    · exact k2 h
    · omega
  · obtain ⟨k1, k2⟩ := h.own g hg
    rcases hU g hm with h | h
    · exact k2 h
    · omega
theorem MidLook.first {U : List Nat} {v : Value} {i : Nat} {r : List Nat} (h : MidLook G w U v (i :: r)) : ∃ g o cap, v = .slice (some ⟨g, o, none⟩) (r.length + 1) cap ∧ r.length + 1 ≤ cap ∧ cap ≤ maxLen ∧ w.cell? ⟨g, o, none⟩ = some (.int .i64 (i : Int)) ∧ MidLook G w U (.slice (some ⟨g, if cap = 1 then o else o + 1, none⟩) r.length (cap - 1)) r := by
  obtain ⟨a, cap, rfl, h1, h2, h3⟩ := h.ints
  obtain ⟨g, o, rfl, h4⟩ := h3 (by simp)
  simp only [List.length_cons] at h1 h4
  refine ⟨g, o, cap, rfl, h1, h2, h4 0 (by omega), ⟨⟨_, cap - 1, rfl, by omega, by omega, fun hn => ?_⟩, fun k hk => h.own k hk, fun k hk => h.far k hk⟩⟩
  have hr := List.length_pos_iff.2 hn
  rw [if_neg (by omega)]
  exact ⟨g, o + 1, rfl, fun j hj => by
    have := h4 (j + 1) (by omega)
    rw [show o + 1 + j = o + (j + 1) by omega, this]; rfl⟩
/-- The slots go on: the rows as they were. -/
theorem StMid.slotsDid {s' : SS} (h : StMid G w q p sp mb Us φ N t x) (hs : Sid w w2 sp p Us s') (hr : s'.rows = t.s.rows) :
    ∃ Us', StMid G w2 q p sp mb Us' φ N { t with s := s' } x ∧ (∀ x ∈ Us', x ∈ Us ∨ w.heap.size ≤ x) ∧ Chg Us w w2 := by
  obtain ⟨U', h1, h2, h3⟩ := hs
  have hq := blk_lt h.head
  have hm := h.map.lt
  have hat : ∀ x, Sto.at { t with s := s' } x = t.at x := fun x => by unfold Sto.at; simp only [hr]
  have hU : ∀ y ∈ q :: mb :: U', y ∈ q :: mb :: Us ∨ w.heap.size ≤ y := fun y hy => by
    rcases List.mem_cons.1 hy with rfl | hy
    · exact .inl (by simp)
    · rcases List.mem_cons.1 hy with rfl | hy
      · exact .inl (by simp)
      · rcases h2 y hy with h4 | h4
        · exact .inl (by simp [h4])
        · exact .inr h4
  refine ⟨U', ⟨h3.keep h.head h.apart.1, h1, h.map.chg h3 h.apart.2, ⟨fun hx => ?_, fun hx => ?_⟩, fun y hy hn => ?_, ?_, by rw [show ({ t with s := s' } : Sto).s.rows = t.s.rows from hr]; exact h.ok, h.far.mono h3.size⟩, h2, h3⟩
  · rcases h2 q hx with h4 | h4
    · exact h.apart.1 h4
    · omega
  · rcases h2 mb hx with h4 | h4
    · exact h.apart.2 h4
    · omega
  · rw [hat]
    exact (h.vals y hy hn).keep h3 (fun y hy => .inl (by simp [hy])) hU
  · rw [hat]
    exact h.val.keep h3 (fun y hy => .inl (by simp [hy])) hU
/-- A slot was cleared, and the id's slots are one less. -/
theorem StMid.cleared {s' : SS} {i : Nat} {r : List Nat} {v' : Value} (h : StMid G w q p sp mb Us φ N t x) (hx : mayId x = true) (hat : t.at x = i :: r) (hs : Sid w w2 sp p Us s') (hrows : s'.rows = t.s.rows.set i noRow)
    (hc : Chg [mb] w2 w3) (hmap : MapF 38 klD okD w3 mb (updF φ x v') N') (hv : MidLook G w (q :: mb :: Us) v' r) :
    ∃ Us', StMid G w3 q p sp mb Us' (updF φ x v') N' { t with s := s' } x ∧ Sto.at { t with s := s' } x = r ∧ (∀ x ∈ Us', x ∈ Us ∨ w.heap.size ≤ x) ∧ Chg (mb :: Us) w w3 := by
  obtain ⟨U', h1, h2, h3⟩ := hs
  have hq := blk_lt h.head
  have hm := h.map.lt
  have hqm := ne_blk h.head h.map
  rw [Sto.at_may hx] at hat
  have hat' : ∀ y, Sto.at { t with s := s' } y = if y = x then r else t.at y := fun y => by
    by_cases hy : mayId y = true
    · rw [Sto.at_may hy, Sto.at_may hy]
      show upto s'.rows s'.rows.length (idKey y) = _
      rw [hrows, upto_clear hat]
      by_cases e : y = x
      · subst e; rw [if_pos rfl, if_pos rfl]
      · rw [if_neg e, if_neg (fun h => e (idKey_inj hy hx h))]
    · have hy' : mayId y = false := by simpa using hy
      rw [Sto.at_not hy', Sto.at_not hy', if_neg (fun e => by subst e; exact hy hx)]
  have hqU : q ∉ U' := fun hx => by
    rcases h2 q hx with h4 | h4
    · exact h.apart.1 h4
    · omega
  have hmU : mb ∉ U' := fun hx => by
    rcases h2 mb hx with h4 | h4
    · exact h.apart.2 h4
    · omega
  have hcc : Chg (mb :: Us) w w3 := (h3.mono (fun y hy => .inl (List.mem_cons_of_mem _ hy))).trans hc (fun y hy => .inl (by rw [List.mem_singleton.1 hy]; simp))
  have hU2 : ∀ y ∈ q :: mb :: U', y ∈ q :: mb :: Us ∨ w.heap.size ≤ y := fun y hy => by
    rcases List.mem_cons.1 hy with rfl | hy
    · exact .inl (by simp)
    · rcases List.mem_cons.1 hy with rfl | hy
      · exact .inl (by simp)
      · rcases h2 y hy with h4 | h4
        · exact .inl (by simp [h4])
        · exact .inr h4
  refine ⟨U', ⟨hcc.keep h.head (fun hy => ?_), h1.keepMap hc (h.map.chg h3 h.apart.2).obj hmU, hmap, ⟨hqU, hmU⟩, fun y hy hn => ?_, ?_, ?_, (h.far.mono hcc.size).upd x hv.far⟩, by rw [hat', if_pos rfl], h2, hcc⟩
  · rcases List.mem_cons.1 hy with h4 | h4
    · exact hqm h4
    · exact h.apart.1 h4
  · rw [hat' y, if_neg hn, updF_other _ _ hn]
    exact (h.vals y hy hn).keep hcc (fun z hz => .inl (List.mem_cons_of_mem _ hz)) hU2
  · rw [hat' x, if_pos rfl, updF_self]
    have hk := hv.keep hcc (fun z hz => .inl (List.mem_cons_of_mem _ hz)) hU2
    exact .inr ⟨v', rfl, hk.ints, hk.own⟩
  · show keysOk s'.rows
    rw [hrows]
    exact h.ok.set i (fun h => by simp [noRow] at h)
/-- The entry is gone. -/
theorem StMid.gone (h : StMid G w q p sp mb Us φ N t x) (hat : t.at x = []) (hc : Chg [mb] w w2) (hmap : MapF 38 klD okD w2 mb (delF φ x) N') : StOk G w2 q p sp mb Us (delF φ x) N' t := by
  have hqm := ne_blk h.head h.map
  refine ⟨hc.keep h.head (by simpa using hqm), h.slots.keepMap hc h.map.obj h.apart.2, hmap, h.apart, fun y hy => ?_, h.ok, (h.far.mono hc.size).del x⟩
  by_cases e : y = x
  · subst e
    rw [hat, delF_self]
    exact .inl ⟨rfl, rfl⟩
  · rw [delF_other _ e]
    exact (h.vals y hy e).keep hc (fun z hz => .inl (by rw [List.mem_singleton.1 hz]; simp)) (fun y hy => .inl hy)
theorem StMid.few (h : StMid G w q p sp mb Us φ N t x) : N < maxLen := by
  have h1 := h.map.card keId (x :: t.s.rows.map (fun r => unId r.key)) (fun y hy hs => by
    by_cases e : y = x
    · rw [e]; simp
    · rcases h.vals y hy e with ⟨_, h2⟩ | ⟨h1, _⟩
      · rw [h2] at hs; cases hs
      · obtain ⟨j, l, hjl⟩ := List.exists_cons_of_ne_nil h1
        by_cases hmy : mayId y = true
        · rw [Sto.at_may hmy] at hjl
          have hj : j ∈ upto t.s.rows t.s.rows.length (idKey y) := by rw [hjl]; simp
          obtain ⟨j1, j2, j3⟩ := upto_mem.1 hj
          refine List.mem_cons_of_mem _ (List.mem_map.2 ⟨t.s.rows.getD j noRow, ?_, by rw [j3, (un_key hmy).1]⟩)
          rw [List.getD_eq_getElem?_getD, List.getElem?_eq_getElem j1]
          exact List.getElem_mem _
        · rw [Sto.at_not (by simpa using hmy)] at hjl; cases hjl)
  obtain ⟨S0, rv0, R0, H0⟩ := h.slots
  have := H0.few
  rw [List.length_cons, List.length_map] at h1
  unfold maxLen
  omega
theorem SS.clear_ok (s : SS) (i : Int) : (s.clear i).2.d.ops ≤ s.d.ops + 2 ∧ (s.clear i).2.d.since.length ≤ s.d.since.length + 1 ∧ (s.clear i).2.d.n = s.d.n := by
  obtain ⟨h1, h2, h3⟩ := s.d.lays_ok (s.pos i) (zeros 64)
  have hn : nsec (zeros 64).length = 1 := by simp [nsec, zeros]
  rw [hn] at h2 h3
  unfold SS.clear
  split
  · exact ⟨Nat.le_add_right _ _, Nat.le_add_right _ _, rfl⟩
  · split
    · exact ⟨Nat.le_add_right _ _, Nat.le_add_right _ _, rfl⟩
    · split
      · exact ⟨by dsimp only; omega, h3, h1⟩
      · exact ⟨by dsimp only; omega, h3, h1⟩
end Go.Proofs.YtdkhmfcfihbjeaaGreatDoor.W

/- Package store: Delete. -/
namespace Go.Proofs.YtdkhmfcfihbjeaaGreatDoor.W
open Go.RowKit
set_option linter.unusedVariables false
set_option linter.unusedSimpArgs false
variable {G : List Nat}

theorem clears_cons (s : SS) (i : Nat) (r : List Nat) : s.clears (i :: r) = if (s.clear i).1 ≠ 0 then s.clear i else (s.clear i).2.clears r := rfl
set_option maxHeartbeats 8000000 in
set_option maxRecDepth 100000 in
theorem stdel_any (q p : Nat) (U : List Nat) (t : Sto) (x : Id) (w : World) (h : StAt G w q p U t) (hxo : okD x) (ho : t.s.d.ops ≤ 800000000) (hw : t.s.d.since.length ≤ 800000) :
    Calls Tryz.prog 123 #[.pointer (some ⟨q, 0, none⟩), idV x] w fun e w' => e = .returned (.int .i64 (t.del x).1) ∧ Std G w w' q p U (t.del x).2 := by
  obtain ⟨sp, mb, Us, φ, N, h, rfl⟩ := h
  obtain ⟨w1, hw1⟩ : ∃ w1, w1 = w.alloc (.cells (idC x) 38) := ⟨_, rfl⟩
  have hc1 : Chg [] w w1 := by rw [hw1]; exact (Chg.refl [] w).alloc _
  have hb1 : w1.heap[w.heap.size]? = some (.cells (idC x) 38 (0, 0)) := by rw [hw1]; exact heap_alloc_new w _
  have H1 := h.keep0 hc1
  obtain ⟨k0, _, _, _⟩ := H1.cells
  have CM := Lib.hid (stmade_any q p w1 k0)
  have CY := Lib.hid (mayid_any x w1)
  have HB := Lib.hid hb1
  have HC1 := Lib.hid hc1
  have HW1 := Lib.hid hw1
  have HH1 := Lib.hid H1
  have HX := Lib.hid hxo
  have HUL := Lib.hid h.slots.uL
  have hql := blk_lt h.head
  have hml := h.map.lt
  have HST : Hid (∀ w', Chg [] w1 w' → Std G w w' q p (q :: mb :: Us) t) := Lib.hid (fun w' hc => ⟨q :: mb :: Us, ⟨sp, mb, Us, φ, N, H1.keep0 hc, rfl⟩, fun y hy => .inl hy, (hc1.trans hc (by simp)).mono (by simp)⟩)
  clear hw1 hb1 hc1 h hxo H1
  by_cases hm : mayId x = true
  · have HG : Hid (t.del x = ((t.s.clears (t.at x)).1, { t with s := (t.s.clears (t.at x)).2 })) := Lib.hid (by unfold Sto.del; rw [if_neg (by simp [hm])])
    have HM := Lib.hid hm
    rw [hm] at CY
    generalize t.del x = r at *
    clear hm
    obtain ⟨xc, xl, xn, xi⟩ := x
    go_enter Tryz.func123, Tryz.ntmps123
    go_wp2_with fail
    rw [← HW1.out]
    refine CM.out.mono ?_
    rintro e w' ⟨rfl, hq⟩
    subst hq
    obtain ⟨m0, m1, m2, m3⟩ := id_cells HB.out
    go_wp2_with fail
    refine CY.out.mono ?_
    rintro e w2 ⟨rfl, hc2⟩
    have HB2 := Lib.hid (hc2.keep HB.out (by simp))
    have HM2 := Lib.hid ((HH1.out.keep0 hc2).mid HX.out)
    have HC2 := Lib.hid (HC1.out.trans hc2 (by simp))
    clear hc2 m0 m1 m2 m3 k0 CM CY HB
    obtain ⟨v, hlk, hlook⟩ := HM2.out.look HX.out
    obtain ⟨k0, k1, k2, _⟩ := HM2.out.cells
    obtain ⟨m0, m1, m2, m3⟩ := id_cells HB2.out
    obtain ⟨a, cap, hv, hl1, hl2, _⟩ := hlook.ints
    have HLK := Lib.hid hlook
    clear hlook
    have hvn : v = .slice a (t.at ⟨xc, xl, xn, xi⟩).length cap := hv
    rw [hvn] at HLK
    subst hv
    go_wp2_with fail
    go_quiet (fail)
    have hcn : Chg [] w2 (w2.drewN nq) := (Chg.refl [] w2).drewN nq
    have HMn := Lib.hid (HM2.out.keep0 hcn)
    have HLn := Lib.hid (HLK.out.keep hcn (by simp) (fun y hy => .inl hy))
    have HCn := Lib.hid (HC2.out.trans hcn (by simp))
    have HBn := Lib.hid (hcn.keep HB2.out (by simp))
    have hatl : (t.at ⟨xc, xl, xn, xi⟩).length ≤ 1000 := by
      rw [Sto.at_may HM.out]
      have h1 := upto_len t.s.rows t.s.rows.length (idKey ⟨xc, xl, xn, xi⟩)
      obtain ⟨S0, rv0, R0, H0⟩ := HM2.out.slots
      have := H0.few
      omega
    clear hlk k0 k1 k2 m0 m1 m2 m3 hcn hl1 hl2 HM2 HLK HB2
    generalize w2.drewN nq = w3 at *
    generalize hal : t.at ⟨xc, xl, xn, xi⟩ = l0 at *
    have HAL := Lib.hid hal
    clear hal
    go_wp2_with fail
    go_loopg [5] l0.length (fun g' s5 wr => ∃ (sk : SS) (l : List Nat) (Uk : List Nat) (φk : Id → Option Value) (Nk : Nat) (a : Option Addr) (cap : Nat), s5 = .slice a l.length cap ∧ l.length ≤ g' ∧ l.length ≤ l0.length ∧ Hid (StMid G wr q p sp mb Uk φk Nk ⟨sk, t.whole⟩ ⟨xc, xl, xn, xi⟩ ∧
      Sto.at ⟨sk, t.whole⟩ ⟨xc, xl, xn, xi⟩ = l ∧ MidLook G wr (q :: mb :: Uk) (.slice a l.length cap) l ∧ t.s.clears l0 = sk.clears l ∧ (∀ y ∈ Uk, y ∈ Us ∨ w.heap.size ≤ y) ∧ Chg (q :: mb :: Us) w wr ∧ wr.heap[w.heap.size]? = some (.cells (idC ⟨xc, xl, xn, xi⟩) 38 (0, 0)) ∧ (∀ y ∈ q :: mb :: Uk, y ≠ w.heap.size) ∧
      sk.d.ops + 2 * l.length ≤ t.s.d.ops + 2 * l0.length ∧ sk.d.since.length + l.length ≤ t.s.d.since.length + l0.length))
    case atStart =>
      refine ⟨t.s, l0, Us, φ, N, a, cap, rfl, Nat.le_refl _, Nat.le_refl _, Lib.hid ⟨HMn.out, HAL.out, HLn.out, rfl, fun y hy => .inl hy, HCn.out.mono (by simp), HBn.out, fun y hy => ?_, by omega, by omega⟩⟩
      rcases List.mem_cons.1 hy with rfl | hy
      · omega
      · rcases List.mem_cons.1 hy with rfl | hy
        · omega
        · have := HUL.out y hy; omega
    case round =>
      obtain ⟨sk, l, Uk, φk, Nk, a, cap, rfl, hlg, hll, HR⟩ := hrel
      obtain ⟨hmid, hat, hlook, hcl, hUk, hck, hbk, hne, hop, hsi⟩ := HR.out
      have HMK := Lib.hid hmid
      have HAT := Lib.hid hat
      have HLK := Lib.hid hlook
      have HCL := Lib.hid hcl
      have HUK := Lib.hid (And.intro hUk (And.intro hck hne))
      have HBK := Lib.hid hbk
      clear HR hmid hat hlook hcl hUk hck hbk hne
      cases l with
      | nil =>
        obtain ⟨k0, k1, k2, _⟩ := HMK.out.cells
        have mm := id_cells HBK.out
        have HR : Hid (r = (0, ⟨sk, t.whole⟩)) := Lib.hid (by rw [HG.out, HCL.out]; rfl)
        clear HG hlg hll
        go_wp2_with fail
        have HMD := Lib.hid (HMK.out.keep0 (Chg.drew (Chg.refl [] wr)))
        refine wp_region_L [(5, fun w' => w'.cell? ⟨q, 2, none⟩ = some (.map (some mb))), (5, fun w' => (w'.cell? ⟨w.heap.size, 0, none⟩ = some (.int .i64 xc) ∧ w'.cell? ⟨w.heap.size, 1, none⟩ = some (.int .i64 xl) ∧ w'.cell? ⟨w.heap.size, 2, none⟩ = some (.int .i64 xn) ∧ w'.cell? ⟨w.heap.size, 3, none⟩ = some (.int .i64 xi)))] (by kernel_rfl) ?_ (fun hHeld => ?_)
        · exact (HoldC.cons (k2) (HoldC.cons (mm) HoldC.nil))
        refine wpAnyL_take (i := 0) (oi := _) (v := ?_) rfl (by kernel_rfl) (by kernel_rfl) (by kernel_rfl) (by kernel_rfl) (by kernel_rfl) (fun _ _ _ h => h) (Or.inl ⟨by rfl, ?_⟩) (by assumption) (fun hNew => ?_)
        rotate_left
        · intro w _
          go_simp
          try with_reducible rfl
        clear hHeld
        have hHeld := hNew
        clear hNew
        try simp only [List.getElem_toArray, List.getElem_cons_succ, List.getElem_cons_zero, Act.put, List.setIfInBounds_toArray, List.set_cons_zero, List.set_cons_succ]
        refine wpAnyL_take (i := 1) (oi := _) (v := ?_) rfl (by kernel_rfl) (by kernel_rfl) (by kernel_rfl) (by kernel_rfl) (by kernel_rfl) (fun _ _ _ h => h) (Or.inl ⟨by rfl, ?_⟩) (by assumption) (fun hNew => ?_)
        rotate_left
        · intro w _
          go_simp
          try with_reducible rfl
        clear hHeld
        have hHeld := hNew
        clear hNew
        try simp only [List.getElem_toArray, List.getElem_cons_succ, List.getElem_cons_zero, Act.put, List.setIfInBounds_toArray, List.set_cons_zero, List.set_cons_succ]
        refine wpAnyL_take (i := 2) (oi := _) (v := ?_) rfl (by kernel_rfl) (by kernel_rfl) (by kernel_rfl) (by kernel_rfl) (by kernel_rfl) (fun _ _ _ h => h) (Or.inl ⟨by rfl, ?_⟩) (by assumption) (fun hNew => ?_)
        rotate_left
        · intro w _
          go_simp
          try with_reducible rfl
        clear hHeld
        have hHeld := hNew
        clear hNew
        try simp only [List.getElem_toArray, List.getElem_cons_succ, List.getElem_cons_zero, Act.put, List.setIfInBounds_toArray, List.set_cons_zero, List.set_cons_succ]
        refine wpAnyL_load 0 (i := 3) (oi := _) (v := ?_) rfl rfl (by kernel_rfl) (by kernel_rfl) (by kernel_rfl) (by kernel_rfl) (by kernel_rfl) (by kernel_rfl) (fun _ _ _ h => h) (Or.inl ⟨by rfl, ?_⟩) (by assumption) (fun hNew => ?_)
        rotate_left
        · intro w hSw
          (try dsimp only at hSw)
          go_simp
          try with_reducible rfl
        clear hHeld
        have hHeld := hNew
        clear hNew
        try simp only [List.getElem_toArray, List.getElem_cons_succ, List.getElem_cons_zero, Act.put, List.setIfInBounds_toArray, List.set_cons_zero, List.set_cons_succ]
        refine wpAnyL_load 1 (i := 4) (oi := _) (v := ?_) rfl rfl (by kernel_rfl) (by kernel_rfl) (by kernel_rfl) (by kernel_rfl) (by kernel_rfl) (by kernel_rfl) (fun _ _ _ h => h) (Or.inl ⟨by rfl, ?_⟩) (by assumption) (fun hNew => ?_)
        rotate_left
        · intro w hSw
          (try dsimp only at hSw)
          go_simp
          try with_reducible rfl
        clear hHeld
        have hHeld := hNew
        clear hNew
        try simp only [List.getElem_toArray, List.getElem_cons_succ, List.getElem_cons_zero, Act.put, List.setIfInBounds_toArray, List.set_cons_zero, List.set_cons_succ]
        refine wpAnyL_ready (rs := [5]) (by kernel_rfl) (by simp) ?_
        refine AllReadyL.cons (o := _) rfl (fun K hK => ?_) AllReadyL.nil
        try simp only [List.getElem_toArray, List.getElem_cons_succ, List.getElem_cons_zero]
        refine wp_del keId wr.drew (.tmp 51) (.tmp 52) 96 (by rfl) 132 Tryz.underlying96 mb Nk φk (by rfl) HMD.out.map ⟨xc, xl, xn, xi⟩ (by rfl) HX.out ?_
        intro w6 hm6 hc6 hs6
        have HF : Hid (Std G w w6 q p (q :: mb :: Us) ⟨sk, t.whole⟩) := Lib.hid (by
          have h1 := HMD.out.gone HAT.out hc6 hm6
          exact h1.std HUK.out.1 ((HUK.out.2.1.drew).trans hc6 (fun y hy => .inl (by rw [List.mem_singleton.1 hy]; simp))))
        clear hm6 hc6 hs6
        clear hHeld
        refine hK.out _ _ ?_ (fun hHeld => ?_)
        · exact (HoldC.past (by kernel_rfl) (HoldC.past (by kernel_rfl) HoldC.nil))
        clear hK K
        try simp only [List.getElem_toArray, List.getElem_cons_succ, List.getElem_cons_zero, Act.put, List.setIfInBounds_toArray, List.set_cons_zero, List.set_cons_succ]
        refine wpAnyL_done (by kernel_rfl) ?_ _
        clear hHeld
        go_wp2_with fail
        go_ret
        rw [HR.out]
        exact ⟨rfl, HF.out⟩
      | cons i rest =>
        obtain ⟨g, o, cap', hv, hl1, hl2, hc0, hmk⟩ := HLK.out.first
        obtain ⟨rfl, _, rfl⟩ := Value.slice.inj hv
        have HMK2 := Lib.hid hmk
        obtain ⟨k0, k1, k2, _⟩ := HMK.out.cells
        have hlen : ((i :: rest).length : Int) = (rest.length : Int) + 1 := by simp
        have hrl : rest.length + 1 ≤ l0.length := hll
        have hgk : rest.length + 1 ≤ gk := hlg
        have hbig : rest.length + 1 ≤ 9223372036854775807 := by omega
        have HMD := Lib.hid (HMK.out.keep0 (Chg.drew (Chg.refl [] wr)))
        have CC := Lib.hid (sclear_any sp p Uk sk (i : Int) wr.drew HMD.out.slots (by simp at hop; omega) (by simp at hsi; omega))
        have HCL2 : Hid (t.s.clears l0 = if (sk.clear (i : Int)).1 ≠ 0 then sk.clear (i : Int) else (sk.clear (i : Int)).2.clears rest) := Lib.hid (by rw [HCL.out, clears_cons])
        obtain ⟨z1, z2, z3⟩ := sk.clear_ok (i : Int)
        have hcn := @SS.clear_not sk (i : Int)
        have hcd := @SS.clear_done sk (i : Int)
        generalize sk.clear (i : Int) = z at *
        obtain ⟨ze, zs⟩ := z
        dsimp only at HCL2 z1 z2 z3 hcn hcd
        have HCN := Lib.hid (And.intro hcn hcd)
        unfold SidPost at CC
        clear hv hmk hlg hll hcn hcd HCL
        rw [show (i :: rest).length = rest.length + 1 from rfl]
        simp only [List.length_cons] at hop hsi
        go_wp2_with fail
        refine wp_region_L [(7, fun w' => w'.cell? ⟨q, 1, none⟩ = some (.pointer (some ⟨sp, 0, none⟩))), (7, fun w' => w'.cell? ⟨g, o, none⟩ = some (.int .i64 (i : Int)))] (by kernel_rfl) ?_ (fun hHeld => ?_)
        · exact (HoldC.cons (k1) (HoldC.cons (hc0) HoldC.nil))
        refine wpAnyL_take (i := 0) (oi := _) (v := ?_) rfl (by kernel_rfl) (by kernel_rfl) (by kernel_rfl) (by kernel_rfl) (by kernel_rfl) (fun _ _ _ h => h) (Or.inl ⟨by rfl, ?_⟩) (by assumption) (fun hNew => ?_)
        rotate_left
        · intro w _
          go_simp
          try with_reducible rfl
        clear hHeld
        have hHeld := hNew
        clear hNew
        try simp only [List.getElem_toArray, List.getElem_cons_succ, List.getElem_cons_zero, Act.put, List.setIfInBounds_toArray, List.set_cons_zero, List.set_cons_succ]
        refine wpAnyL_take (i := 1) (oi := _) (v := ?_) rfl (by kernel_rfl) (by kernel_rfl) (by kernel_rfl) (by kernel_rfl) (by kernel_rfl) (fun _ _ _ h => h) (Or.inl ⟨by rfl, ?_⟩) (by assumption) (fun hNew => ?_)
        rotate_left
        · intro w _
          go_simp
          try with_reducible rfl
        clear hHeld
        have hHeld := hNew
        clear hNew
        try simp only [List.getElem_toArray, List.getElem_cons_succ, List.getElem_cons_zero, Act.put, List.setIfInBounds_toArray, List.set_cons_zero, List.set_cons_succ]
        refine wpAnyL_take (i := 2) (oi := _) (v := ?_) rfl (by kernel_rfl) (by kernel_rfl) (by kernel_rfl) (by kernel_rfl) (by kernel_rfl) (fun _ _ _ h => h) (Or.inl ⟨by rfl, ?_⟩) (by assumption) (fun hNew => ?_)
        rotate_left
        · intro w _
          go_simp
          try with_reducible rfl
        clear hHeld
        have hHeld := hNew
        clear hNew
        try simp only [List.getElem_toArray, List.getElem_cons_succ, List.getElem_cons_zero, Act.put, List.setIfInBounds_toArray, List.set_cons_zero, List.set_cons_succ]
        refine wpAnyL_load 0 (i := 3) (oi := _) (v := ?_) rfl rfl (by kernel_rfl) (by kernel_rfl) (by kernel_rfl) (by kernel_rfl) (by kernel_rfl) (by kernel_rfl) (fun _ _ _ h => h) (Or.inl ⟨by rfl, ?_⟩) (by assumption) (fun hNew => ?_)
        rotate_left
        · intro w hSw
          (try dsimp only at hSw)
          go_simp
          try with_reducible rfl
        clear hHeld
        have hHeld := hNew
        clear hNew
        try simp only [List.getElem_toArray, List.getElem_cons_succ, List.getElem_cons_zero, Act.put, List.setIfInBounds_toArray, List.set_cons_zero, List.set_cons_succ]
        refine wpAnyL_take (i := 4) (oi := _) (v := ?_) rfl (by kernel_rfl) (by kernel_rfl) (by kernel_rfl) (by kernel_rfl) (by kernel_rfl) (fun _ _ _ h => h) (Or.inl ⟨by rfl, ?_⟩) (by assumption) (fun hNew => ?_)
        rotate_left
        · intro w _
          go_simp
          try with_reducible rfl
        clear hHeld
        have hHeld := hNew
        clear hNew
        try simp only [List.getElem_toArray, List.getElem_cons_succ, List.getElem_cons_zero, Act.put, List.setIfInBounds_toArray, List.set_cons_zero, List.set_cons_succ]
        refine wpAnyL_take (i := 5) (oi := _) (v := ?_) rfl (by kernel_rfl) (by kernel_rfl) (by kernel_rfl) (by kernel_rfl) (by kernel_rfl) (fun _ _ _ h => h) (Or.inl ⟨by rfl, ?_⟩) (by assumption) (fun hNew => ?_)
        rotate_left
        · intro w _
          go_simp
          try with_reducible rfl
        clear hHeld
        have hHeld := hNew
        clear hNew
        try simp only [List.getElem_toArray, List.getElem_cons_succ, List.getElem_cons_zero, Act.put, List.setIfInBounds_toArray, List.set_cons_zero, List.set_cons_succ]
        refine wpAnyL_load 1 (i := 6) (oi := _) (v := ?_) rfl rfl (by kernel_rfl) (by kernel_rfl) (by kernel_rfl) (by kernel_rfl) (by kernel_rfl) (by kernel_rfl) (fun _ _ _ h => h) (Or.inl ⟨by rfl, ?_⟩) (by assumption) (fun hNew => ?_)
        rotate_left
        · intro w hSw
          (try dsimp only at hSw)
          go_simp
          try with_reducible rfl
        clear hHeld
        have hHeld := hNew
        clear hNew
        try simp only [List.getElem_toArray, List.getElem_cons_succ, List.getElem_cons_zero, Act.put, List.setIfInBounds_toArray, List.set_cons_zero, List.set_cons_succ]
        refine wpAnyL_ready (rs := [7]) (by kernel_rfl) (by simp) ?_
        refine AllReadyL.cons (o := _) rfl (fun K hK => ?_) AllReadyL.nil
        try simp only [List.getElem_toArray, List.getElem_cons_succ, List.getElem_cons_zero]
        go_simp
        refine CC.out.mono ?_
        rintro e w5 ⟨rfl, hs5⟩
        have HS5 := Lib.hid hs5
        clear hs5 CC
        clear hHeld
        refine hK.out _ _ ?_ (fun hHeld => ?_)
        · exact (HoldC.past (by kernel_rfl) (HoldC.past (by kernel_rfl) HoldC.nil))
        clear hK K
        try simp only [List.getElem_toArray, List.getElem_cons_succ, List.getElem_cons_zero, Act.put, List.setIfInBounds_toArray, List.set_cons_zero, List.set_cons_succ]
        refine wpAnyL_ready (rs := [8]) (by kernel_rfl) (by simp) ?_
        refine AllReadyL.cons (o := _) rfl (fun K hK => ?_) AllReadyL.nil
        try simp only [List.getElem_toArray, List.getElem_cons_succ, List.getElem_cons_zero]
        go_simp
        clear hHeld
        refine hK.out _ _ ?_ (fun hHeld => ?_)
        · exact (HoldC.past (by kernel_rfl) (HoldC.past (by kernel_rfl) HoldC.nil))
        clear hK K
        try simp only [List.getElem_toArray, List.getElem_cons_succ, List.getElem_cons_zero, Act.put, List.setIfInBounds_toArray, List.set_cons_zero, List.set_cons_succ]
        refine wpAnyL_done (by kernel_rfl) ?_ _
        clear hHeld
        have hdw : Chg [] wr wr.drew := Chg.drew (Chg.refl [] wr)
        by_cases he : ze = 0
        · subst he
          rw [if_neg (by simp)] at HCL2
          obtain ⟨hhas, hus, hrows⟩ := HCN.out.2 rfl
          obtain ⟨U5, g1, g2, g3⟩ := HS5.out
          have hid5 : w5.heap[w.heap.size]? = some (.cells (idC ⟨xc, xl, xn, xi⟩) 38 (0, 0)) := g3.keep (hdw.keep HBK.out (by simp)) (fun hm => HUK.out.2.2 _ (by simp [hm]) rfl)
          have c5 := g3.cell (hdw.cell k2 (by simp)) HMD.out.apart.1
          have HM5 := Lib.hid (HMD.out.map.chg g3 HMD.out.apart.2)
          have mm5 := id_cells hid5
          have HI5 := Lib.hid hid5
          have hNN := HMD.out.few
          have HRW := Lib.hid hrows
          have HLK5 := Lib.hid (HMK2.out.keep hdw (by simp) (fun y hy => .inl hy))
          have hc1 : 1 ≤ cap := by omega
          clear hid5 g1 g2 g3 hhas hus hrows k0 k1 k2 hc0
          have h1r : (1 : Int) ≤ (rest.length : Int) + 1 := by omega
          have hcapC : cap = 1 ∨ ¬ cap = 1 := by omega
          rcases hcapC with hcap | hcap
          all_goals
            go_wp2_with fail
            refine wp_region_L [(7, fun w' => w'.cell? ⟨q, 2, none⟩ = some (.map (some mb))), (7, fun w' => (w'.cell? ⟨w.heap.size, 0, none⟩ = some (.int .i64 xc) ∧ w'.cell? ⟨w.heap.size, 1, none⟩ = some (.int .i64 xl) ∧ w'.cell? ⟨w.heap.size, 2, none⟩ = some (.int .i64 xn) ∧ w'.cell? ⟨w.heap.size, 3, none⟩ = some (.int .i64 xi)))] (by kernel_rfl) ?_ (fun hHeld => ?_)
            · exact (HoldC.cons (c5) (HoldC.cons (mm5) HoldC.nil))
            refine wpAnyL_take (i := 0) (oi := _) (v := ?_) rfl (by kernel_rfl) (by kernel_rfl) (by kernel_rfl) (by kernel_rfl) (by kernel_rfl) (fun _ _ _ h => h) (Or.inl ⟨by rfl, ?_⟩) (by assumption) (fun hNew => ?_)
            rotate_left
            · intro w _
              go_simp
              try with_reducible rfl
            clear hHeld
            have hHeld := hNew
            clear hNew
            try simp only [List.getElem_toArray, List.getElem_cons_succ, List.getElem_cons_zero, Act.put, List.setIfInBounds_toArray, List.set_cons_zero, List.set_cons_succ]
            refine wpAnyL_take (i := 1) (oi := _) (v := ?_) rfl (by kernel_rfl) (by kernel_rfl) (by kernel_rfl) (by kernel_rfl) (by kernel_rfl) (fun _ _ _ h => h) (Or.inl ⟨by rfl, ?_⟩) (by assumption) (fun hNew => ?_)
            rotate_left
            · intro w _
              go_simp
              try with_reducible rfl
            clear hHeld
            have hHeld := hNew
            clear hNew
            try simp only [List.getElem_toArray, List.getElem_cons_succ, List.getElem_cons_zero, Act.put, List.setIfInBounds_toArray, List.set_cons_zero, List.set_cons_succ]
            refine wpAnyL_take (i := 2) (oi := _) (v := ?_) rfl (by kernel_rfl) (by kernel_rfl) (by kernel_rfl) (by kernel_rfl) (by kernel_rfl) (fun _ _ _ h => h) (Or.inl ⟨by rfl, ?_⟩) (by assumption) (fun hNew => ?_)
            rotate_left
            · intro w _
              go_simp
              try with_reducible rfl
            clear hHeld
            have hHeld := hNew
            clear hNew
            try simp only [List.getElem_toArray, List.getElem_cons_succ, List.getElem_cons_zero, Act.put, List.setIfInBounds_toArray, List.set_cons_zero, List.set_cons_succ]
            refine wpAnyL_load 0 (i := 3) (oi := _) (v := ?_) rfl rfl (by kernel_rfl) (by kernel_rfl) (by kernel_rfl) (by kernel_rfl) (by kernel_rfl) (by kernel_rfl) (fun _ _ _ h => h) (Or.inl ⟨by rfl, ?_⟩) (by assumption) (fun hNew => ?_)
            rotate_left
            · intro w hSw
              (try dsimp only at hSw)
              go_simp
              try with_reducible rfl
            clear hHeld
            have hHeld := hNew
            clear hNew
            try simp only [List.getElem_toArray, List.getElem_cons_succ, List.getElem_cons_zero, Act.put, List.setIfInBounds_toArray, List.set_cons_zero, List.set_cons_succ]
            refine wpAnyL_load 1 (i := 4) (oi := _) (v := ?_) rfl rfl (by kernel_rfl) (by kernel_rfl) (by kernel_rfl) (by kernel_rfl) (by kernel_rfl) (by kernel_rfl) (fun _ _ _ h => h) (Or.inl ⟨by rfl, ?_⟩) (by assumption) (fun hNew => ?_)
            rotate_left
            · intro w hSw
              (try dsimp only at hSw)
              go_simp
              try with_reducible rfl
            clear hHeld
            have hHeld := hNew
            clear hNew
            try simp only [List.getElem_toArray, List.getElem_cons_succ, List.getElem_cons_zero, Act.put, List.setIfInBounds_toArray, List.set_cons_zero, List.set_cons_succ]
            refine wpAnyL_take (i := 5) (oi := _) (v := ?_) rfl (by kernel_rfl) (by kernel_rfl) (by kernel_rfl) (by kernel_rfl) (by kernel_rfl) (fun _ _ _ h => h) (Or.inl ⟨by rfl, ?_⟩) (by assumption) (fun hNew => ?_)
            rotate_left
            · intro w _
              go_simp
              try with_reducible rfl
            clear hHeld
            have hHeld := hNew
            clear hNew
            try simp only [List.getElem_toArray, List.getElem_cons_succ, List.getElem_cons_zero, Act.put, List.setIfInBounds_toArray, List.set_cons_zero, List.set_cons_succ]
            refine wpAnyL_take (i := 6) (oi := _) (v := ?_) rfl (by kernel_rfl) (by kernel_rfl) (by kernel_rfl) (by kernel_rfl) (by kernel_rfl) (fun _ _ _ h => h) (Or.inl ⟨by rfl, ?_⟩) (by assumption) (fun hNew => ?_)
            rotate_left
            · intro w _
              go_simp
              try with_reducible rfl
            clear hHeld
            have hHeld := hNew
            clear hNew
            try simp only [List.getElem_toArray, List.getElem_cons_succ, List.getElem_cons_zero, Act.put, List.setIfInBounds_toArray, List.set_cons_zero, List.set_cons_succ]
            refine wpAnyL_ready (rs := [7]) (by kernel_rfl) (by simp) ?_
            refine AllReadyL.cons (o := _) rfl (fun K hK => ?_) AllReadyL.nil
            try simp only [List.getElem_toArray, List.getElem_cons_succ, List.getElem_cons_zero]
            have HMW := Lib.hid (HM5.out.chg (Chg.drew (Chg.refl [] w5)) (by simp))
            refine wp_upd keId w5.drew (.tmp 44) (.tmp 45) (.tmp 47) 96 (by rfl) 132 Tryz.underlying96 mb Nk φk (by rfl) HMW.out hNN ⟨xc, xl, xn, xi⟩ (by rfl) HX.out (.slice (some ⟨g, if cap = 1 then o else o + 1, none⟩) rest.length (cap - 1)) (by first | (rw [if_neg hcap]; rfl) | (rw [if_pos hcap, hcap]; rfl)) ?_
            intro w6 hm6 hc6 hs6
            have hF := HMD.out.cleared HM.out HAT.out HS5.out HRW.out ((Chg.drew (Chg.refl [mb] w5)).trans hc6 (fun y hy => .inl hy)) hm6 HLK5.out
            have hid6 : w6.heap[w.heap.size]? = some (.cells (idC ⟨xc, xl, xn, xi⟩) 38 (0, 0)) := hc6.keep (show w5.drew.heap[w.heap.size]? = _ from HI5.out) (by simp; omega)
            have HI6 := Lib.hid hid6
            have HF := Lib.hid hF
            clear hF hm6 hc6 hs6 hid6
            clear hHeld
            refine hK.out _ _ ?_ (fun hHeld => ?_)
            · exact (HoldC.past (by kernel_rfl) (HoldC.past (by kernel_rfl) HoldC.nil))
            clear hK K
            try simp only [List.getElem_toArray, List.getElem_cons_succ, List.getElem_cons_zero, Act.put, List.setIfInBounds_toArray, List.set_cons_zero, List.set_cons_succ]
            refine wpAnyL_done (by kernel_rfl) ?_ _
            clear hHeld
            obtain ⟨U6, f1, f2, f3, f4⟩ := HF.out
            obtain ⟨v6, hlk6, hlook6⟩ := f1.look HX.out
            obtain ⟨k0, k1, k2, _⟩ := f1.cells
            obtain ⟨m0, m1, m2, m3⟩ := id_cells HI6.out
            rw [f2] at hlook6
            obtain ⟨a6, cap6, hv6, _, _, _⟩ := hlook6.ints
            subst hv6
            have HL6 := Lib.hid hlook6
            have HF1 := Lib.hid f1
            have HF2 := Lib.hid f2
            have HF3 := Lib.hid (And.intro f3 f4)
            clear f1 f2 f3 f4 hlook6
            go_wp2_with fail
            go_quiet (fail)
            have hcn : Chg [] w6 (w6.drewN nq) := (Chg.refl [] w6).drewN nq
            have hwr := HUK.out.2.1.size
            have HREL : Hid (StMid G (w6.drewN nq) q p sp mb U6 (updF φk ⟨xc, xl, xn, xi⟩ (.slice (some ⟨g, if cap = 1 then o else o + 1, none⟩) rest.length (cap - 1))) (if (φk ⟨xc, xl, xn, xi⟩).isSome = true then Nk else Nk + 1) ⟨zs, t.whole⟩ ⟨xc, xl, xn, xi⟩ ∧
                Sto.at ⟨zs, t.whole⟩ ⟨xc, xl, xn, xi⟩ = rest ∧ MidLook G (w6.drewN nq) (q :: mb :: U6) (.slice a6 rest.length cap6) rest ∧ t.s.clears l0 = zs.clears rest ∧ (∀ y ∈ U6, y ∈ Us ∨ w.heap.size ≤ y) ∧ Chg (q :: mb :: Us) w (w6.drewN nq) ∧ (w6.drewN nq).heap[w.heap.size]? = some (.cells (idC ⟨xc, xl, xn, xi⟩) 38 (0, 0)) ∧ (∀ y ∈ q :: mb :: U6, y ≠ w.heap.size) ∧
                zs.d.ops + 2 * rest.length ≤ t.s.d.ops + 2 * l0.length ∧ zs.d.since.length + rest.length ≤ t.s.d.since.length + l0.length) := Lib.hid (by
              have hid := blk_lt HBK.out
              refine ⟨HF1.out.keep0 hcn, HF2.out, HL6.out.keep hcn (by simp) (fun y hy => .inl hy), HCL2.out, fun y hy => ?_, ((HUK.out.2.1.drew).trans HF3.out.2 (fun y hy => ?_)).trans hcn (by simp), HI6.out, fun y hy => ?_, by omega, by omega⟩
              · rcases HF3.out.1 y hy with h | h
                · exact HUK.out.1 y h
                · have h' : wr.heap.size ≤ y := h
                  exact .inr (by omega)
              · rcases List.mem_cons.1 hy with rfl | hy
                · exact .inl (by simp)
                · rcases HUK.out.1 y hy with h | h
                  · exact .inl (by simp [h])
                  · exact .inr h
              · rcases List.mem_cons.1 hy with rfl | hy
                · omega
                · rcases List.mem_cons.1 hy with rfl | hy
                  · omega
                  · rcases HF3.out.1 y hy with h | h
                    · exact HUK.out.2.2 y (by simp [h])
                    · have h' : wr.heap.size ≤ y := h
                      omega)
            go_wp2_with fail
            go_roundg rest.length
            case measure => omega
            case rel => exact ⟨zs, rest, U6, _, _, a6, cap6, rfl, Nat.le_refl _, by omega, HREL⟩
        · have HR : Hid (r = (ze, ⟨zs, t.whole⟩)) := Lib.hid (by
            have h1 := HCL2.out
            rw [if_pos he] at h1
            rw [HG.out, h1])
          have HF : Hid (Std G w w5 q p (q :: mb :: Us) ⟨zs, t.whole⟩) := Lib.hid (by
            obtain ⟨U5, h1, h2, h3⟩ := HMD.out.slotsDid HS5.out (HCN.out.1 he)
            have hne : Sto.at ⟨zs, t.whole⟩ ⟨xc, xl, xn, xi⟩ ≠ [] := by
              have h4 := HAT.out
              unfold Sto.at at h4 ⊢
              rw [HCN.out.1 he]
              rw [h4]; simp
            have hd := hdw.size
            refine (h1.full hne).std (fun y hy => ?_) ((HUK.out.2.1.drew).trans h3 (fun y hy => ?_))
            · rcases h2 y hy with h | h
              · exact HUK.out.1 y h
              · have := HUK.out.2.1.size; exact .inr (by omega)
            · rcases HUK.out.1 y hy with h | h
              · exact .inl (by simp [h])
              · exact .inr h)
          have q0 : (ze != 0) = true := by simp [he]
          clear he HG HCL2
          go_wp2
          go_ret
          rw [HR.out]
          exact ⟨rfl, HF.out⟩
  · have hm' : mayId x = false := by simpa using hm
    have HG : Hid (t.del x = (1, t)) := Lib.hid (by unfold Sto.del; rw [if_pos hm'])
    rw [HG.out]
    rw [hm'] at CY
    clear hm hm'
    obtain ⟨xc, xl, xn, xi⟩ := x
    go_enter Tryz.func123, Tryz.ntmps123
    go_wp2_with fail
    rw [← HW1.out]
    refine CM.out.mono ?_
    rintro e w' ⟨rfl, hq⟩
    subst hq
    obtain ⟨m0, m1, m2, m3⟩ := id_cells HB.out
    go_wp2_with fail
    refine CY.out.mono ?_
    rintro e w2 ⟨rfl, hc2⟩
    have HC2 := Lib.hid hc2
    clear hc2
    go_wp2
    go_ret
    exact ⟨rfl, HST.out _ HC2.out⟩
end Go.Proofs.YtdkhmfcfihbjeaaGreatDoor.W

/- A row of elements of several cells, sorted by slices.SortFunc: what it owns behind it. -/
namespace Go.Proofs.YtdkhmfcfihbjeaaGreatDoor.W
open Go.RowKit Go.Sort Go.Lib
set_option linter.unusedVariables false
set_option linter.unusedSimpArgs false

theorem flatMap_len {α : Type} (enc : α → List Value) {k : Nat} (hk : ∀ x, (enc x).length = k) : ∀ l : List α, (l.flatMap enc).length = l.length * k
  | [] => by simp
  | x :: r => by rw [List.flatMap_cons, List.length_append, hk, flatMap_len enc hk r, List.length_cons, Nat.add_mul]; omega
theorem flatMap_at {α : Type} [Inhabited α] (enc : α → List Value) {k : Nat} (hk : ∀ x, (enc x).length = k) : ∀ (l : List α) (i j : Nat), i < l.length → j < k → (l.flatMap enc)[i * k + j]? = (enc l[i]!)[j]?
  | [], i, j, h, _ => by simp at h
  | x :: r, 0, j, h, hj => by
    rw [List.flatMap_cons, Nat.zero_mul, Nat.zero_add, List.getElem?_append_left (by rw [hk]; exact hj)]; rfl
  | x :: r, i + 1, j, h, hj => by
    rw [List.flatMap_cons, List.getElem?_append_right (by rw [hk, Nat.add_mul]; omega), hk, show (i + 1) * k + j - k = i * k + j by rw [Nat.add_mul]; omega]
    exact flatMap_at enc hk r i j (by simpa using h) hj
theorem flat_eq {α : Type} [Inhabited α] (enc : α → List Value) {k : Nat} (hk : ∀ x, (enc x).length = k) (l : List α) : (flatK enc k l.toArray).toList = l.flatMap enc := by
  apply List.ext_getElem?
  intro t
  by_cases ht : t < l.length * k
  · have k0 : 0 < k := by
      rcases Nat.eq_zero_or_pos k with h | h
      · subst h; simp at ht
      · exact h
    have hi : t / k < l.length := (Nat.div_lt_iff_lt_mul k0).2 ht
    have hj : t % k < k := Nat.mod_lt _ k0
    have e : t = t / k * k + t % k := by rw [Nat.mul_comm]; exact (Nat.div_add_mod t k).symm
    rw [Array.getElem?_toList, Array.getElem?_eq_getElem (by simpa using ht)]
    have h1 := get_flatK enc k l.toArray t (by simpa using ht)
    rw [getElem!_pos _ t (by simpa using ht)] at h1
    rw [h1]
    conv => rhs; rw [e]
    rw [flatMap_at enc hk l _ _ hi hj]
    have h2 : l.toArray[t / k]! = l[t / k]! := by simp
    rw [h2, getElem!_pos _ (t % k) (by rw [hk]; exact hj), List.getElem?_eq_getElem]
  · rw [List.getElem?_eq_none (by simp; omega), List.getElem?_eq_none (by rw [flatMap_len enc hk]; omega)]

theorem holds_row {α : Type} [Inhabited α] (enc : α → List Value) {k : Nat} (hk : ∀ x, (enc x).length = k) {w : World} {g : Nat} {cur : Array Value} {e : TypeId} {ss : List α} (hb : w.heap[g]? = some (.cells cur e (0, 0))) (ht : cur.toList.take (ss.length * k) = ss.flatMap enc) : HoldsK enc k w g 0 ss.toArray := by
  intro j hj
  have hj' : j < ss.length * k := by simpa using hj
  rw [Nat.zero_add]
  have h1 : (flatK enc k ss.toArray)[j]! = (ss.flatMap enc)[j]'(by rw [flatMap_len enc hk]; exact hj') := by
    rw [getElem!_pos _ j hj]
    have := flat_eq enc hk ss
    rw [← Array.getElem_toList]
    simp only [this]
  have h2 : cur[j]? = some ((ss.flatMap enc)[j]'(by rw [flatMap_len enc hk]; exact hj')) := by
    rw [← Array.getElem?_toList, ← List.getElem?_take_of_lt hj', ht, List.getElem?_eq_getElem]
  refine ⟨?_, blk_frozen hb j⟩
  rw [blk_cell hb j _ h2, h1]; rfl
theorem heap_sortedK {w : World} {g n : Nat} {os : Array Obj} {cur : Array Value} {e : TypeId} {fr : Nat × Nat} (d : Array Value) (hb : w.heap[g]? = some (.cells cur e fr)) :
    (grow (putRow id (Sort.ahead w n) g 0 d) os).heap[g]? = some (.cells (putCells id 0 d cur) e fr) := by
  have hg : g < w.heap.size := (Array.getElem?_eq_some_iff.1 hb).1
  rw [heap_grow_old _ _ (by simpa using hg)]
  simp [putRow, mapBlock, Sort.ahead, Array.getElem?_modify, hb, onCells]
theorem chg_sortedK {α : Type} [Inhabited α] (enc : α → List Value) (k : Nat) {w : World} {g n : Nat} {os : Array Obj} (d : Array α) : Chg [g] w (sortWorldK enc k w g 0 n d os) := by
  refine ⟨rfl, rfl, rfl, by simp [sortWorldK, putRowK], fun j hj hne => ?_⟩
  unfold sortWorldK putRowK
  rw [heap_grow_old _ _ (by simpa using hj)]
  have : g ≠ j := fun e => hne (by simp [e])
  simp [putRow, mapBlock, Sort.ahead, Array.getElem?_modify, this]
theorem take_putK (cur : Array Value) (F : Array Value) (h : F.size ≤ cur.size) : (putCells id 0 F cur).toList.take F.size = F.toList := by
  apply List.ext_getElem?
  intro j
  by_cases hj : j < F.size
  · rw [List.getElem?_take_of_lt hj, Array.getElem?_toList, Array.getElem?_toList]
    simp [putCells, hj, show j < cur.size by omega]
  · rw [List.getElem?_take_eq_none (by omega), List.getElem?_eq_none (by simp; omega)]
theorem ownsRow_sortedK {α : Type} [Inhabited α] (enc : α → List Value) {k : Nat} (hk : ∀ x, (enc x).length = k) {w : World} {base g cap n : Nat} {e : TypeId} {os : Array Obj} {cur : Array Value} {m : Nat} {ts : List α} (hl : ts.length = m) (hbase : base ≤ g) (hb : w.heap[g]? = some (.cells cur e (0, 0)))
    (h1 : m ≤ cap) (h2 : cap ≤ maxLen) (h3 : cur.size = cap * k) :
    (sortWorldK enc k w g 0 n ts.toArray os).ownsRow base e k (.slice (some ⟨g, 0, none⟩) m cap) m (ts.flatMap enc) := by
  refine ⟨by rw [flatMap_len enc hk, hl], .inr ⟨g, cap, _, rfl, hbase, heap_sortedK _ hb, h1, h2, by simp [putCells, h3], ?_⟩⟩
  have hs : (flatK enc k ts.toArray).size = m * k := by simp [hl]
  rw [← hs, take_putK _ _ (by rw [hs, h3]; exact Nat.mul_le_mul_right k h1), flat_eq enc hk]

/-! ### Bytes in their order -/
end Go.Proofs.YtdkhmfcfihbjeaaGreatDoor.W

/- Ids in their order: plainly. -/
namespace Go.Proofs.YtdkhmfcfihbjeaaGreatDoor.W
open Go.RowKit Go.Sort
set_option linter.unusedVariables false
set_option linter.unusedSimpArgs false

def cmpI (x y : Int) : Int := if x < y then -1 else if y < x then 1 else 0
def firstNZ : List Int → Int
  | [] => 0
  | x :: r => if x ≠ 0 then x else firstNZ r
def cmpId (x y : Id) : Int := firstNZ [cmpI x.c y.c, cmpI x.l y.l, cmpI x.n y.n, cmpI x.i y.i]
def idLt (a b : Id) : Prop := a.c < b.c ∨ (a.c = b.c ∧ (a.l < b.l ∨ (a.l = b.l ∧ (a.n < b.n ∨ (a.n = b.n ∧ a.i < b.i)))))
instance (a b : Id) : Decidable (idLt a b) := inferInstanceAs (Decidable (_ ∨ _))
theorem cmpI_spec (x y : Int) : (x < y ∧ cmpI x y = -1) ∨ (y < x ∧ cmpI x y = 1) ∨ (x = y ∧ cmpI x y = 0) := by
  unfold cmpI
  by_cases h : x < y
  · exact .inl ⟨h, if_pos h⟩
  · rw [if_neg h]
    by_cases h2 : y < x
    · exact .inr (.inl ⟨h2, if_pos h2⟩)
    · exact .inr (.inr ⟨by omega, if_neg h2⟩)
theorem cmpId_lt (a b : Id) : cmpId a b < 0 ↔ idLt a b := by
  unfold cmpId idLt firstNZ firstNZ firstNZ firstNZ firstNZ
  rcases cmpI_spec a.c b.c with ⟨h1, e1⟩ | ⟨h1, e1⟩ | ⟨h1, e1⟩ <;> rcases cmpI_spec a.l b.l with ⟨h2, e2⟩ | ⟨h2, e2⟩ | ⟨h2, e2⟩ <;> rcases cmpI_spec a.n b.n with ⟨h3, e3⟩ | ⟨h3, e3⟩ | ⟨h3, e3⟩ <;>
    rcases cmpI_spec a.i b.i with ⟨h4, e4⟩ | ⟨h4, e4⟩ | ⟨h4, e4⟩ <;> rw [e1, e2, e3, e4] <;> simp <;> omega
theorem ltI (x y : Id) : ltOf cmpId x y = decide (idLt x y) := by
  unfold ltOf
  rw [Bool.eq_iff_iff]; simp [cmpId_lt]
theorem idLt_irrefl (a : Id) : ¬ idLt a a := by unfold idLt; omega
theorem idLt_trans {a b c : Id} (h1 : idLt a b) (h2 : idLt b c) : idLt a c := by unfold idLt at *; omega
theorem idLt_or (a b : Id) : idLt a b ∨ a = b ∨ idLt b a := by
  obtain ⟨a1, a2, a3, a4⟩ := a
  obtain ⟨b1, b2, b3, b4⟩ := b
  unfold idLt
  simp only [Id.mk.injEq]
  omega
theorem swoI : SWO (ltOf cmpId) where
  irrefl x := by rw [ltI]; simp [idLt_irrefl]
  trans x y z h1 h2 := by
    rw [ltI, decide_eq_true_eq] at *
    exact idLt_trans h1 h2
  ntrans x y z h1 h2 := by
    rw [ltI, decide_eq_false_iff_not] at *
    unfold idLt at *
    omega
theorem totI (x y : Id) (h1 : ltOf cmpId x y = false) (h2 : ltOf cmpId y x = false) : x = y := by
  rw [ltI, decide_eq_false_iff_not] at *
  rcases idLt_or x y with h | h | h
  · exact absurd h h1
  · exact h
  · exact absurd h h2
abbrev leI (x y : Id) : Bool := !ltOf cmpId y x
theorem leI_iff (x y : Id) : leI x y = true ↔ idLt x y ∨ x = y := by
  unfold leI
  rw [ltI]
  simp only [Bool.not_eq_true', decide_eq_false_iff_not]
  rcases idLt_or x y with h | h | h
  · exact ⟨fun _ => .inl h, fun _ h2 => idLt_irrefl _ (idLt_trans h h2)⟩
  · subst h; exact ⟨fun _ => .inr rfl, fun _ => idLt_irrefl _⟩
  · exact ⟨fun h2 => absurd h h2, fun h2 => by
      rcases h2 with h2 | h2
      · exact absurd (idLt_trans h h2) (idLt_irrefl _)
      · subst h2; exact absurd h (idLt_irrefl _)⟩
theorem leI_trans (a b c : Id) (h1 : leI a b = true) (h2 : leI b c = true) : leI a c = true := by
  rw [leI_iff] at *
  rcases h1 with h1 | rfl
  · rcases h2 with h2 | rfl
    · exact .inl (idLt_trans h1 h2)
    · exact .inl h1
  · exact h2
theorem leI_total (a b : Id) : (leI a b || leI b a) = true := by
  rw [Bool.or_eq_true, leI_iff, leI_iff]
  rcases idLt_or a b with h | h | h
  · exact .inl (.inl h)
  · exact .inl (.inr h)
  · exact .inr (.inl h)
/-- Sorted rows of the same ids are one. -/
theorem sortedI_eq {l m : List Id} (hl : l.Nodup) (hm : m.Nodup) (h : ∀ x, x ∈ l ↔ x ∈ m) : l.mergeSort leI = m.mergeSort leI := by
  have hp : l.Perm m := (List.perm_ext_iff_of_nodup hl hm).2 h
  have hs : ∀ l : List Id, (l.mergeSort leI).Pairwise (fun x y => leI x y = true) := fun l => List.pairwise_mergeSort leI_trans leI_total l
  refine List.Perm.eq_of_pairwise (le := fun x y => leI x y = true) (fun a b _ _ h1 h2 => ?_) (hs _) (hs _) ((List.mergeSort_perm _ _).trans (hp.trans (List.mergeSort_perm _ _).symm))
  rw [leI_iff] at h1 h2
  rcases h1 with h1 | h1
  · rcases h2 with h2 | h2
    · exact absurd (idLt_trans h1 h2) (idLt_irrefl _)
    · exact h2.symm
  · exact h1

/-! ### The ids of a store -/
def isFirst (rows : List SRow) (j : Nat) : Bool := (rows.getD j noRow).used && (upto rows j (rows.getD j noRow).key).isEmpty
def firsts (rows : List SRow) : List Id := ((List.range rows.length).filter (isFirst rows)).map (fun j => unId (rows.getD j noRow).key)
def Sto.ids (t : Sto) : List Id := (firsts t.s.rows).mergeSort leI
theorem row_mem {rows : List SRow} {j : Nat} (h : j < rows.length) : rows.getD j noRow ∈ rows := by
  rw [List.getD_eq_getElem?_getD, List.getElem?_eq_getElem h]
  exact List.getElem_mem _
theorem mem_isFirst {rows : List SRow} {j : Nat} : isFirst rows j = true ↔ (rows.getD j noRow).used = true ∧ ∀ k, k < j → ¬ ((rows.getD k noRow).used = true ∧ (rows.getD k noRow).key = (rows.getD j noRow).key) := by
  unfold isFirst
  rw [Bool.and_eq_true, List.isEmpty_iff]
  constructor
  · rintro ⟨h1, h2⟩
    refine ⟨h1, fun k hk hh => ?_⟩
    have : k ∈ upto rows j (rows.getD j noRow).key := upto_mem.2 ⟨hk, hh.1, hh.2⟩
    rw [h2] at this
    cases this
  · rintro ⟨h1, h2⟩
    refine ⟨h1, ?_⟩
    cases hu : upto rows j (rows.getD j noRow).key with
    | nil => rfl
    | cons k r =>
      have : k ∈ upto rows j (rows.getD j noRow).key := by rw [hu]; simp
      obtain ⟨a, b, c⟩ := upto_mem.1 this
      exact absurd ⟨b, c⟩ (h2 k a)
theorem mem_firsts {t : Sto} (hk : keysOk t.s.rows) (x : Id) : x ∈ firsts t.s.rows ↔ t.at x ≠ [] := by
  unfold firsts
  rw [List.mem_map]
  constructor
  · rintro ⟨j, hj, rfl⟩
    obtain ⟨h1, h2⟩ := List.mem_filter.1 hj
    have hjl := List.mem_range.1 h1
    obtain ⟨hu, _⟩ := mem_isFirst.1 h2
    obtain ⟨hm, he⟩ := un_back (hk _ (row_mem hjl) hu)
    rw [Sto.at_may hm]
    intro h0
    have : j ∈ upto t.s.rows t.s.rows.length (idKey (unId (t.s.rows.getD j noRow).key)) := upto_mem.2 ⟨hjl, hu, he⟩
    rw [h0] at this
    cases this
  · intro h
    by_cases hm : mayId x = true
    · rw [Sto.at_may hm] at h
      cases hu : upto t.s.rows t.s.rows.length (idKey x) with
      | nil => exact absurd hu h
      | cons j r =>
        have hj : j ∈ upto t.s.rows t.s.rows.length (idKey x) := by rw [hu]; simp
        obtain ⟨a, b, c⟩ := upto_mem.1 hj
        refine ⟨j, List.mem_filter.2 ⟨List.mem_range.2 a, mem_isFirst.2 ⟨b, fun k hkj hh => ?_⟩⟩, by rw [c, (un_key hm).1]⟩
        rw [c] at hh
        have hk2 : k ∈ upto t.s.rows t.s.rows.length (idKey x) := upto_mem.2 ⟨by omega, hh.1, hh.2⟩
        have hpw : (upto t.s.rows t.s.rows.length (idKey x)).Pairwise (· < ·) := List.pairwise_lt_range.filter _
        rw [hu] at hpw hk2
        rcases List.mem_cons.1 hk2 with h3 | h3
        · omega
        · have := (List.pairwise_cons.1 hpw).1 k h3
          omega
    · rw [Sto.at_not (by simpa using hm)] at h
      exact absurd rfl h
theorem firsts_nodup {t : Sto} (hk : keysOk t.s.rows) : (firsts t.s.rows).Nodup := by
  unfold firsts List.Nodup
  rw [List.pairwise_map]
  refine List.Pairwise.imp_of_mem ?_ (List.pairwise_lt_range.filter (isFirst t.s.rows))
  intro a b ha hb hab e
  obtain ⟨ha1, ha2⟩ := List.mem_filter.1 ha
  obtain ⟨hb1, hb2⟩ := List.mem_filter.1 hb
  obtain ⟨hau, _⟩ := mem_isFirst.1 ha2
  obtain ⟨hbu, hb3⟩ := mem_isFirst.1 hb2
  have h1 := (un_back (hk _ (row_mem (List.mem_range.1 ha1)) hau)).2
  have h2 := (un_back (hk _ (row_mem (List.mem_range.1 hb1)) hbu)).2
  exact hb3 a hab ⟨hau, by rw [h1, h2, e]⟩
theorem Sto.mem_ids {t : Sto} (hk : keysOk t.s.rows) (x : Id) : x ∈ t.ids ↔ t.at x ≠ [] := by
  unfold Sto.ids
  rw [List.mem_mergeSort, mem_firsts hk]
theorem Sto.ids_len (t : Sto) : t.ids.length ≤ t.s.rows.length := by
  unfold Sto.ids firsts
  rw [List.length_mergeSort, List.length_map]
  have := List.length_filter_le (isFirst t.s.rows) (List.range t.s.rows.length)
  rwa [List.length_range] at this
end Go.Proofs.YtdkhmfcfihbjeaaGreatDoor.W

/-
  DERIVED: THE SHELF's CONTRACTS AT THIS DUMP, IN PLAIN WORDS (tools/lay-plain.mjs out of 'TryzShelf.lean', which tools/lay-shelf.mjs wrote): THE SAME DECLARATIONS UNDER THE SAME NAMES: 'import', 'namespace', 'open', 'def', 'theorem' AND NOTHING ELSE: no command of the shelf's: FOR A HAND-IN. Each laying: the table of numbers ('.._ren') and one theorem, a field a fact of the dump's own or the kernel's comparison; each contract: ONE APPLICATION.
-/
namespace Go.Proofs
open Go.Shelf
def Tryz.laysSortE_ren : Go.Shelf.Ren := ⟨fun | 6 => 149 | 15 => 165 | 14 => 164 | 28 => 177 | 29 => 178 | 20 => 169 | 21 => 170 | 22 => 171 | 23 => 172 | 24 => 173 | 25 => 174 | 26 => 175 | 27 => 176 | 46 => 179 | 47 => 180 | 48 => 181 | 49 => 182 | 50 => 183 | 57 => 184 | n => n, fun | 22 => 29 | 24 => 38 | 25 => 203 | 3 => 3 | 39 => 157 | 0 => 0 | 53 => 221 | 55 => 223 | 4 => 4 | 46 => 214 | 45 => 213 | 50 => 218 | 5 => 5 | 9 => 9 | 66 => 228 | 70 => 232 | 76 => 234 | 77 => 235 | n => n, fun | n => n⟩
theorem Tryz.laysSortE : Go.Proofs.SlLaysF0.n6 Tryz.prog Tryz.laysSortE_ren := {
  mixed := by kernel_rfl
  f6 := ⟨Tryz.f149.name, by decide, Tryz.func149.trans (congrArg some (by kernel_rfl))⟩
  f14 := ⟨Tryz.f164.name, by decide, Tryz.func164.trans (congrArg some (by kernel_rfl))⟩
  f15 := Tryz.func165.trans (congrArg some (by kernel_rfl))
  f20 := ⟨Tryz.f169.name, by decide, Tryz.func169.trans (congrArg some (by kernel_rfl))⟩
  f21 := ⟨Tryz.f170.name, by decide, Tryz.func170.trans (congrArg some (by kernel_rfl))⟩
  f22 := ⟨Tryz.f171.name, by decide, Tryz.func171.trans (congrArg some (by kernel_rfl))⟩
  f23 := ⟨Tryz.f172.name, by decide, Tryz.func172.trans (congrArg some (by kernel_rfl))⟩
  f24 := ⟨Tryz.f173.name, by decide, Tryz.func173.trans (congrArg some (by kernel_rfl))⟩
  f25 := ⟨Tryz.f174.name, by decide, Tryz.func174.trans (congrArg some (by kernel_rfl))⟩
  f26 := ⟨Tryz.f175.name, by decide, Tryz.func175.trans (congrArg some (by kernel_rfl))⟩
  f27 := ⟨Tryz.f176.name, by decide, Tryz.func176.trans (congrArg some (by kernel_rfl))⟩
  f28 := Tryz.func177.trans (congrArg some (by kernel_rfl))
  f29 := Tryz.func178.trans (congrArg some (by kernel_rfl))
  f46 := ⟨Tryz.f179.name, by decide, Tryz.func179.trans (congrArg some (by kernel_rfl))⟩
  f47 := Tryz.func180.trans (congrArg some (by kernel_rfl))
  f48 := Tryz.func181.trans (congrArg some (by kernel_rfl))
  f49 := ⟨Tryz.f182.name, by decide, Tryz.func182.trans (congrArg some (by kernel_rfl))⟩
  f50 := ⟨Tryz.f183.name, by decide, Tryz.func183.trans (congrArg some (by kernel_rfl))⟩
  f57 := ⟨Tryz.f184.name, by decide, Tryz.func184.trans (congrArg some (by kernel_rfl))⟩
  t0 := Tryz.underlying0
  a0 := Tryz.isAgg0
  z0 := Tryz.sizeOf0
  v0 := Tryz.zeroValue0
  t3 := Tryz.underlying3
  a3 := Tryz.isAgg3
  z3 := Tryz.sizeOf3
  v3 := Tryz.zeroValue3
  t4 := Tryz.underlying4
  a4 := Tryz.isAgg4
  z4 := Tryz.sizeOf4
  v4 := Tryz.zeroValue4
  t5 := Tryz.underlying5
  a5 := Tryz.isAgg5
  z5 := Tryz.sizeOf5
  v5 := Tryz.zeroValue5
  t9 := Tryz.underlying9
  a9 := Tryz.isAgg9
  z9 := Tryz.sizeOf9
  v9 := Tryz.zeroValue9
  t22 := Tryz.underlying29
  a22 := Tryz.isAgg29
  z22 := Tryz.sizeOf29
  v22 := Tryz.zeroValue29
  t25 := Tryz.underlying203
  a25 := Tryz.isAgg203
  z25 := Tryz.sizeOf203
  v25 := Tryz.zeroValue203
  t39 := Tryz.underlying157
  a39 := Tryz.isAgg157
  z39 := Tryz.sizeOf157
  v39 := Tryz.zeroValue157
  t45 := Tryz.underlying213
  a45 := Tryz.isAgg213
  z45 := Tryz.sizeOf213
  v45 := Tryz.zeroValue213
  t46 := Tryz.underlying214
  a46 := Tryz.isAgg214
  z46 := Tryz.sizeOf214
  v46 := Tryz.zeroValue214
  t50 := Tryz.underlying218
  a50 := Tryz.isAgg218
  z50 := Tryz.sizeOf218
  v50 := Tryz.zeroValue218
  t53 := Tryz.underlying221
  a53 := Tryz.isAgg221
  z53 := Tryz.sizeOf221
  v53 := Tryz.zeroValue221
  t55 := Tryz.underlying223
  a55 := Tryz.isAgg223
  z55 := Tryz.sizeOf223
  v55 := Tryz.zeroValue223
  t66 := Tryz.underlying228
  a66 := Tryz.isAgg228
  z66 := Tryz.sizeOf228
  v66 := Tryz.zeroValue228
  t70 := Tryz.underlying232
  a70 := Tryz.isAgg232
  z70 := Tryz.sizeOf232
  v70 := Tryz.zeroValue232
  t76 := Tryz.underlying234
  a76 := Tryz.isAgg234
  z76 := Tryz.sizeOf234
  v76 := Tryz.zeroValue234
  t77 := Tryz.underlying235
  a77 := Tryz.isAgg235
  z77 := Tryz.sizeOf235
  v77 := Tryz.zeroValue235 }
end Go.Proofs

/- Package store: the order that List sorts by. -/
namespace Go.Proofs.YtdkhmfcfihbjeaaGreatDoor.W
open Go.RowKit Go.Sort
set_option linter.unusedVariables false
set_option linter.unusedSimpArgs false

theorem isnan_any (x : Int) (w : World) : Calls Tryz.prog 166 #[.int .i64 x] w fun e w' => e = .returned (.bool false) ∧ w = w' := by
  go_enter Tryz.func166, Tryz.ntmps166
  go_wp2
  go_ret
  exact ⟨by simp, rfl⟩
set_option maxHeartbeats 2000000 in
theorem ccmp_any (x y : Int) (w : World) : Calls Tryz.prog 152 #[.int .i64 x, .int .i64 y] w fun e w' => e = .returned (.int .i64 (cmpI x y)) ∧ w = w' := by
  unfold cmpI
  by_cases h : x < y
  · rw [if_pos h]
    go_enter Tryz.func152, Tryz.ntmps152
    go_wp2_with (go_at_call 166; refine (isnan_any _ _).mono ?_; rintro e w' ⟨rfl, hq⟩; subst hq)
    go_ret
    exact ⟨rfl, rfl⟩
  · rw [if_neg h]
    by_cases h2 : y < x
    · rw [if_pos h2]
      go_enter Tryz.func152, Tryz.ntmps152
      go_wp2_with (go_at_call 166; refine (isnan_any _ _).mono ?_; rintro e w' ⟨rfl, hq⟩; subst hq)
      go_ret
      exact ⟨rfl, rfl⟩
    · rw [if_neg h2]
      go_enter Tryz.func152, Tryz.ntmps152
      go_wp2_with (go_at_call 166; refine (isnan_any _ _).mono ?_; rintro e w' ⟨rfl, hq⟩; subst hq)
      go_ret
      exact ⟨rfl, rfl⟩
theorem firstNZ_zero : ∀ (l : List Int), (∀ x ∈ l, x = 0) → firstNZ l = 0
  | [], _ => rfl
  | x :: r, h => by
    unfold firstNZ
    rw [if_neg (by simpa using h x (by simp))]
    exact firstNZ_zero r (fun y hy => h y (List.mem_cons_of_mem _ hy))
theorem firstNZ_at : ∀ (l : List Int) (j : Nat), (∀ k, k < j → l.getD k 0 = 0) → l.getD j 0 ≠ 0 → firstNZ l = l.getD j 0
  | [], j, _, h => by simp at h
  | x :: r, 0, _, h => by
    unfold firstNZ
    simp at h ⊢
    intro h0
    exact absurd h0 h
  | x :: r, j + 1, h0, h => by
    have hx := h0 0 (by omega)
    simp at hx
    unfold firstNZ
    rw [if_neg (by simp [hx])]
    simp only [List.getD_cons_succ] at h ⊢
    exact firstNZ_at r j (fun k hk => by have := h0 (k + 1) (by omega); simpa using this) h
set_option maxHeartbeats 2000000 in
set_option maxRecDepth 100000 in
theorem cor_any (l : List Int) (hl : l.length = 4) (g : Nat) (w : World) (hc : ∀ j, j < 4 → w.cell? ⟨g, j, none⟩ = some (.int .i64 (l.getD j 0))) : Calls Tryz.prog 151 #[.slice (some ⟨g, 0, none⟩) 4 4] w fun e w' => e = .returned (.int .i64 (firstNZ l)) ∧ w = w' := by
  have HC := Lib.hid hc
  clear hc
  go_enter Tryz.func151, Tryz.ntmps151
  go_wp2_with fail
  go_loopg [8] 4 (fun g' s8 wr => ∃ j : Nat, s8 = .int .i64 (j : Int) ∧ j ≤ 4 ∧ 4 ≤ j + g' ∧ Hid (wr = w ∧ ∀ k, k < j → l.getD k 0 = 0))
  case atStart => exact ⟨0, rfl, by omega, by omega, Lib.hid ⟨rfl, fun k hk => by omega⟩⟩
  case round =>
    obtain ⟨j, rfl, hj, hjg, HJ⟩ := hrel
    obtain ⟨rfl, hz⟩ := HJ.out
    have HZ := Lib.hid hz
    clear hz HJ
    by_cases hlt : j < 4
    · have c0 := HC.out j hlt
      have hjz : (j : Int) < 4 := by omega
      have HV : Hid (l.getD j 0 ≠ 0 → firstNZ l = l.getD j 0) := Lib.hid (fun h => firstNZ_at l j HZ.out h)
      have HN : Hid (l.getD j 0 = 0 → ∀ k, k < j + 1 → l.getD k 0 = 0) := Lib.hid (fun h k hk => by
        rcases Nat.lt_or_ge k j with h1 | h1
        · exact HZ.out k h1
        · obtain rfl : k = j := by omega
          exact h)
      generalize l.getD j 0 = v at *
      by_cases hv : v = 0
      · subst hv
        go_wp2_with fail
        go_roundg (gk - 1)
        case measure => omega
        case rel => exact ⟨j + 1, by go_num, by omega, by omega, Lib.hid ⟨rfl, HN.out (by simp)⟩⟩
      · have q0 : (v != 0) = true := by simp [hv]
        have HW := Lib.hid (HV.out hv)
        clear hv
        go_wp2_with fail
        go_ret
        rw [HW.out]
        exact ⟨rfl, rfl⟩
    · have hj4 : j = 4 := by omega
      subst hj4
      have HW : Hid (firstNZ l = 0) := Lib.hid (firstNZ_zero l (fun x hx => by
        obtain ⟨k, hk, rfl⟩ := List.getElem_of_mem hx
        have := HZ.out k (by omega)
        rwa [List.getD_eq_getElem?_getD, List.getElem?_eq_getElem hk] at this))
      go_wp2
      go_ret
      rw [HW.out]
      exact ⟨rfl, rfl⟩
end Go.Proofs.YtdkhmfcfihbjeaaGreatDoor.W

/- Package store: the order that List sorts by; the sort. -/
namespace Go.Proofs.YtdkhmfcfihbjeaaGreatDoor.W
open Go.RowKit Go.Sort
set_option linter.unusedVariables false
set_option linter.unusedSimpArgs false

set_option maxHeartbeats 4000000 in
set_option maxRecDepth 100000 in
theorem closureI (x y : Id) (W : World) : Calls Tryz.prog 150 #[idV x, idV y] W fun e w' => e = .returned (.int .i64 (cmpId x y)) ∧ ∃ q os', w' = Go.Sort.grow (W.drewN q) os' := by
  obtain ⟨xc, xl, xn, xi⟩ := x
  obtain ⟨yc, yl, yn, yi⟩ := y
  obtain ⟨w1, hw1⟩ : ∃ w1, w1 = (W.alloc (.cells (idC ⟨xc, xl, xn, xi⟩) 38)).alloc (.cells (idC ⟨yc, yl, yn, yi⟩) 38) := ⟨_, rfl⟩
  have hx1 : w1.heap[W.heap.size]? = some (.cells (idC ⟨xc, xl, xn, xi⟩) 38 (0, 0)) := by rw [hw1]; exact blk_alloc (heap_alloc_new W _)
  have hy1 : w1.heap[W.heap.size + 1]? = some (.cells (idC ⟨yc, yl, yn, yi⟩) 38 (0, 0)) := by
    rw [hw1]
    have := heap_alloc_new (W.alloc (.cells (idC ⟨xc, xl, xn, xi⟩) 38)) (.cells (idC ⟨yc, yl, yn, yi⟩) 38)
    simpa using this
  obtain ⟨a0, a1, a2, a3⟩ := id_cells hx1
  obtain ⟨b0, b1, b2, b3⟩ := id_cells hy1
  have HW1 := Lib.hid hw1
  have C1 := Lib.hid (fun w => ccmp_any xc yc w)
  have C2 := Lib.hid (fun w => ccmp_any xl yl w)
  have C3 := Lib.hid (fun w => ccmp_any xn yn w)
  have C4 := Lib.hid (fun w => ccmp_any xi yi w)
  have HF : Hid (cmpId ⟨xc, xl, xn, xi⟩ ⟨yc, yl, yn, yi⟩ = firstNZ [cmpI xc yc, cmpI xl yl, cmpI xn yn, cmpI xi yi]) := Lib.hid rfl
  generalize cmpId ⟨xc, xl, xn, xi⟩ ⟨yc, yl, yn, yi⟩ = r at *
  generalize cmpI xc yc = v1 at *
  generalize cmpI xl yl = v2 at *
  generalize cmpI xn yn = v3 at *
  generalize cmpI xi yi = v4 at *
  clear hw1 hx1 hy1
  go_enter Tryz.func150, Tryz.ntmps150
  go_wp2_with fail
  rw [← HW1.out]
  refine wp_region_L [(6, fun w' => (w'.cell? ⟨W.heap.size, 0, none⟩ = some (.int .i64 xc) ∧ w'.cell? ⟨W.heap.size + 1, 0, none⟩ = some (.int .i64 yc))), (13, fun w' => (w'.cell? ⟨W.heap.size, 1, none⟩ = some (.int .i64 xl) ∧ w'.cell? ⟨W.heap.size + 1, 1, none⟩ = some (.int .i64 yl))), (20, fun w' => (w'.cell? ⟨W.heap.size, 2, none⟩ = some (.int .i64 xn) ∧ w'.cell? ⟨W.heap.size + 1, 2, none⟩ = some (.int .i64 yn))), (25, fun w' => (w'.cell? ⟨W.heap.size, 3, none⟩ = some (.int .i64 xi) ∧ w'.cell? ⟨W.heap.size + 1, 3, none⟩ = some (.int .i64 yi)))] (by kernel_rfl) ?_ (fun hHeld => ?_)
  · exact (HoldC.cons (⟨a0, b0⟩) (HoldC.cons (⟨a1, b1⟩) (HoldC.cons (⟨a2, b2⟩) (HoldC.cons (⟨a3, b3⟩) HoldC.nil))))
  refine wpAnyL_take (i := 0) (oi := _) (v := ?_) rfl (by kernel_rfl) (by kernel_rfl) (by kernel_rfl) (by kernel_rfl) (by kernel_rfl) (fun _ _ _ h => h) (Or.inl ⟨by rfl, ?_⟩) (by assumption) (fun hNew => ?_)
  rotate_left
  · intro w _
    go_simp
    try with_reducible rfl
  clear hHeld
  have hHeld := hNew
  clear hNew
  try simp only [List.getElem_toArray, List.getElem_cons_succ, List.getElem_cons_zero, Act.put, List.setIfInBounds_toArray, List.set_cons_zero, List.set_cons_succ]
  refine wpAnyL_take (i := 1) (oi := _) (v := ?_) rfl (by kernel_rfl) (by kernel_rfl) (by kernel_rfl) (by kernel_rfl) (by kernel_rfl) (fun _ _ _ h => h) (Or.inl ⟨by rfl, ?_⟩) (by assumption) (fun hNew => ?_)
  rotate_left
  · intro w _
    go_simp
    try with_reducible rfl
  clear hHeld
  have hHeld := hNew
  clear hNew
  try simp only [List.getElem_toArray, List.getElem_cons_succ, List.getElem_cons_zero, Act.put, List.setIfInBounds_toArray, List.set_cons_zero, List.set_cons_succ]
  refine wpAnyL_load 0 (i := 2) (oi := _) (v := ?_) rfl rfl (by kernel_rfl) (by kernel_rfl) (by kernel_rfl) (by kernel_rfl) (by kernel_rfl) (by kernel_rfl) (fun _ _ _ h => h) (Or.inl ⟨by rfl, ?_⟩) (by assumption) (fun hNew => ?_)
  rotate_left
  · intro w hSw
    (try dsimp only at hSw)
    go_simp
    try with_reducible rfl
  clear hHeld
  have hHeld := hNew
  clear hNew
  try simp only [List.getElem_toArray, List.getElem_cons_succ, List.getElem_cons_zero, Act.put, List.setIfInBounds_toArray, List.set_cons_zero, List.set_cons_succ]
  refine wpAnyL_take (i := 3) (oi := _) (v := ?_) rfl (by kernel_rfl) (by kernel_rfl) (by kernel_rfl) (by kernel_rfl) (by kernel_rfl) (fun _ _ _ h => h) (Or.inl ⟨by rfl, ?_⟩) (by assumption) (fun hNew => ?_)
  rotate_left
  · intro w _
    go_simp
    try with_reducible rfl
  clear hHeld
  have hHeld := hNew
  clear hNew
  try simp only [List.getElem_toArray, List.getElem_cons_succ, List.getElem_cons_zero, Act.put, List.setIfInBounds_toArray, List.set_cons_zero, List.set_cons_succ]
  refine wpAnyL_take (i := 4) (oi := _) (v := ?_) rfl (by kernel_rfl) (by kernel_rfl) (by kernel_rfl) (by kernel_rfl) (by kernel_rfl) (fun _ _ _ h => h) (Or.inl ⟨by rfl, ?_⟩) (by assumption) (fun hNew => ?_)
  rotate_left
  · intro w _
    go_simp
    try with_reducible rfl
  clear hHeld
  have hHeld := hNew
  clear hNew
  try simp only [List.getElem_toArray, List.getElem_cons_succ, List.getElem_cons_zero, Act.put, List.setIfInBounds_toArray, List.set_cons_zero, List.set_cons_succ]
  refine wpAnyL_load 0 (i := 5) (oi := _) (v := ?_) rfl rfl (by kernel_rfl) (by kernel_rfl) (by kernel_rfl) (by kernel_rfl) (by kernel_rfl) (by kernel_rfl) (fun _ _ _ h => h) (Or.inl ⟨by rfl, ?_⟩) (by assumption) (fun hNew => ?_)
  rotate_left
  · intro w hSw
    (try dsimp only at hSw)
    go_simp
    try with_reducible rfl
  clear hHeld
  have hHeld := hNew
  clear hNew
  try simp only [List.getElem_toArray, List.getElem_cons_succ, List.getElem_cons_zero, Act.put, List.setIfInBounds_toArray, List.set_cons_zero, List.set_cons_succ]
  refine wpAnyL_take (i := 7) (oi := _) (v := ?_) rfl (by kernel_rfl) (by kernel_rfl) (by kernel_rfl) (by kernel_rfl) (by kernel_rfl) (fun _ _ _ h => h) (Or.inl ⟨by rfl, ?_⟩) (by assumption) (fun hNew => ?_)
  rotate_left
  · intro w _
    go_simp
    try with_reducible rfl
  clear hHeld
  have hHeld := hNew
  clear hNew
  try simp only [List.getElem_toArray, List.getElem_cons_succ, List.getElem_cons_zero, Act.put, List.setIfInBounds_toArray, List.set_cons_zero, List.set_cons_succ]
  refine wpAnyL_take (i := 8) (oi := _) (v := ?_) rfl (by kernel_rfl) (by kernel_rfl) (by kernel_rfl) (by kernel_rfl) (by kernel_rfl) (fun _ _ _ h => h) (Or.inl ⟨by rfl, ?_⟩) (by assumption) (fun hNew => ?_)
  rotate_left
  · intro w _
    go_simp
    try with_reducible rfl
  clear hHeld
  have hHeld := hNew
  clear hNew
  try simp only [List.getElem_toArray, List.getElem_cons_succ, List.getElem_cons_zero, Act.put, List.setIfInBounds_toArray, List.set_cons_zero, List.set_cons_succ]
  refine wpAnyL_load 1 (i := 9) (oi := _) (v := ?_) rfl rfl (by kernel_rfl) (by kernel_rfl) (by kernel_rfl) (by kernel_rfl) (by kernel_rfl) (by kernel_rfl) (fun _ _ _ h => h) (Or.inl ⟨by rfl, ?_⟩) (by assumption) (fun hNew => ?_)
  rotate_left
  · intro w hSw
    (try dsimp only at hSw)
    go_simp
    try with_reducible rfl
  clear hHeld
  have hHeld := hNew
  clear hNew
  try simp only [List.getElem_toArray, List.getElem_cons_succ, List.getElem_cons_zero, Act.put, List.setIfInBounds_toArray, List.set_cons_zero, List.set_cons_succ]
  refine wpAnyL_take (i := 10) (oi := _) (v := ?_) rfl (by kernel_rfl) (by kernel_rfl) (by kernel_rfl) (by kernel_rfl) (by kernel_rfl) (fun _ _ _ h => h) (Or.inl ⟨by rfl, ?_⟩) (by assumption) (fun hNew => ?_)
  rotate_left
  · intro w _
    go_simp
    try with_reducible rfl
  clear hHeld
  have hHeld := hNew
  clear hNew
  try simp only [List.getElem_toArray, List.getElem_cons_succ, List.getElem_cons_zero, Act.put, List.setIfInBounds_toArray, List.set_cons_zero, List.set_cons_succ]
  refine wpAnyL_take (i := 11) (oi := _) (v := ?_) rfl (by kernel_rfl) (by kernel_rfl) (by kernel_rfl) (by kernel_rfl) (by kernel_rfl) (fun _ _ _ h => h) (Or.inl ⟨by rfl, ?_⟩) (by assumption) (fun hNew => ?_)
  rotate_left
  · intro w _
    go_simp
    try with_reducible rfl
  clear hHeld
  have hHeld := hNew
  clear hNew
  try simp only [List.getElem_toArray, List.getElem_cons_succ, List.getElem_cons_zero, Act.put, List.setIfInBounds_toArray, List.set_cons_zero, List.set_cons_succ]
  refine wpAnyL_load 1 (i := 12) (oi := _) (v := ?_) rfl rfl (by kernel_rfl) (by kernel_rfl) (by kernel_rfl) (by kernel_rfl) (by kernel_rfl) (by kernel_rfl) (fun _ _ _ h => h) (Or.inl ⟨by rfl, ?_⟩) (by assumption) (fun hNew => ?_)
  rotate_left
  · intro w hSw
    (try dsimp only at hSw)
    go_simp
    try with_reducible rfl
  clear hHeld
  have hHeld := hNew
  clear hNew
  try simp only [List.getElem_toArray, List.getElem_cons_succ, List.getElem_cons_zero, Act.put, List.setIfInBounds_toArray, List.set_cons_zero, List.set_cons_succ]
  refine wpAnyL_take (i := 14) (oi := _) (v := ?_) rfl (by kernel_rfl) (by kernel_rfl) (by kernel_rfl) (by kernel_rfl) (by kernel_rfl) (fun _ _ _ h => h) (Or.inl ⟨by rfl, ?_⟩) (by assumption) (fun hNew => ?_)
  rotate_left
  · intro w _
    go_simp
    try with_reducible rfl
  clear hHeld
  have hHeld := hNew
  clear hNew
  try simp only [List.getElem_toArray, List.getElem_cons_succ, List.getElem_cons_zero, Act.put, List.setIfInBounds_toArray, List.set_cons_zero, List.set_cons_succ]
  refine wpAnyL_take (i := 15) (oi := _) (v := ?_) rfl (by kernel_rfl) (by kernel_rfl) (by kernel_rfl) (by kernel_rfl) (by kernel_rfl) (fun _ _ _ h => h) (Or.inl ⟨by rfl, ?_⟩) (by assumption) (fun hNew => ?_)
  rotate_left
  · intro w _
    go_simp
    try with_reducible rfl
  clear hHeld
  have hHeld := hNew
  clear hNew
  try simp only [List.getElem_toArray, List.getElem_cons_succ, List.getElem_cons_zero, Act.put, List.setIfInBounds_toArray, List.set_cons_zero, List.set_cons_succ]
  refine wpAnyL_load 2 (i := 16) (oi := _) (v := ?_) rfl rfl (by kernel_rfl) (by kernel_rfl) (by kernel_rfl) (by kernel_rfl) (by kernel_rfl) (by kernel_rfl) (fun _ _ _ h => h) (Or.inl ⟨by rfl, ?_⟩) (by assumption) (fun hNew => ?_)
  rotate_left
  · intro w hSw
    (try dsimp only at hSw)
    go_simp
    try with_reducible rfl
  clear hHeld
  have hHeld := hNew
  clear hNew
  try simp only [List.getElem_toArray, List.getElem_cons_succ, List.getElem_cons_zero, Act.put, List.setIfInBounds_toArray, List.set_cons_zero, List.set_cons_succ]
  refine wpAnyL_take (i := 17) (oi := _) (v := ?_) rfl (by kernel_rfl) (by kernel_rfl) (by kernel_rfl) (by kernel_rfl) (by kernel_rfl) (fun _ _ _ h => h) (Or.inl ⟨by rfl, ?_⟩) (by assumption) (fun hNew => ?_)
  rotate_left
  · intro w _
    go_simp
    try with_reducible rfl
  clear hHeld
  have hHeld := hNew
  clear hNew
  try simp only [List.getElem_toArray, List.getElem_cons_succ, List.getElem_cons_zero, Act.put, List.setIfInBounds_toArray, List.set_cons_zero, List.set_cons_succ]
  refine wpAnyL_take (i := 18) (oi := _) (v := ?_) rfl (by kernel_rfl) (by kernel_rfl) (by kernel_rfl) (by kernel_rfl) (by kernel_rfl) (fun _ _ _ h => h) (Or.inl ⟨by rfl, ?_⟩) (by assumption) (fun hNew => ?_)
  rotate_left
  · intro w _
    go_simp
    try with_reducible rfl
  clear hHeld
  have hHeld := hNew
  clear hNew
  try simp only [List.getElem_toArray, List.getElem_cons_succ, List.getElem_cons_zero, Act.put, List.setIfInBounds_toArray, List.set_cons_zero, List.set_cons_succ]
  refine wpAnyL_load 2 (i := 19) (oi := _) (v := ?_) rfl rfl (by kernel_rfl) (by kernel_rfl) (by kernel_rfl) (by kernel_rfl) (by kernel_rfl) (by kernel_rfl) (fun _ _ _ h => h) (Or.inl ⟨by rfl, ?_⟩) (by assumption) (fun hNew => ?_)
  rotate_left
  · intro w hSw
    (try dsimp only at hSw)
    go_simp
    try with_reducible rfl
  clear hHeld
  have hHeld := hNew
  clear hNew
  try simp only [List.getElem_toArray, List.getElem_cons_succ, List.getElem_cons_zero, Act.put, List.setIfInBounds_toArray, List.set_cons_zero, List.set_cons_succ]
  refine wpAnyL_take (i := 21) (oi := _) (v := ?_) rfl (by kernel_rfl) (by kernel_rfl) (by kernel_rfl) (by kernel_rfl) (by kernel_rfl) (fun _ _ _ h => h) (Or.inl ⟨by rfl, ?_⟩) (by assumption) (fun hNew => ?_)
  rotate_left
  · intro w _
    go_simp
    try with_reducible rfl
  clear hHeld
  have hHeld := hNew
  clear hNew
  try simp only [List.getElem_toArray, List.getElem_cons_succ, List.getElem_cons_zero, Act.put, List.setIfInBounds_toArray, List.set_cons_zero, List.set_cons_succ]
  refine wpAnyL_load 3 (i := 22) (oi := _) (v := ?_) rfl rfl (by kernel_rfl) (by kernel_rfl) (by kernel_rfl) (by kernel_rfl) (by kernel_rfl) (by kernel_rfl) (fun _ _ _ h => h) (Or.inl ⟨by rfl, ?_⟩) (by assumption) (fun hNew => ?_)
  rotate_left
  · intro w hSw
    (try dsimp only at hSw)
    go_simp
    try with_reducible rfl
  clear hHeld
  have hHeld := hNew
  clear hNew
  try simp only [List.getElem_toArray, List.getElem_cons_succ, List.getElem_cons_zero, Act.put, List.setIfInBounds_toArray, List.set_cons_zero, List.set_cons_succ]
  refine wpAnyL_take (i := 23) (oi := _) (v := ?_) rfl (by kernel_rfl) (by kernel_rfl) (by kernel_rfl) (by kernel_rfl) (by kernel_rfl) (fun _ _ _ h => h) (Or.inl ⟨by rfl, ?_⟩) (by assumption) (fun hNew => ?_)
  rotate_left
  · intro w _
    go_simp
    try with_reducible rfl
  clear hHeld
  have hHeld := hNew
  clear hNew
  try simp only [List.getElem_toArray, List.getElem_cons_succ, List.getElem_cons_zero, Act.put, List.setIfInBounds_toArray, List.set_cons_zero, List.set_cons_succ]
  refine wpAnyL_load 3 (i := 24) (oi := _) (v := ?_) rfl rfl (by kernel_rfl) (by kernel_rfl) (by kernel_rfl) (by kernel_rfl) (by kernel_rfl) (by kernel_rfl) (fun _ _ _ h => h) (Or.inl ⟨by rfl, ?_⟩) (by assumption) (fun hNew => ?_)
  rotate_left
  · intro w hSw
    (try dsimp only at hSw)
    go_simp
    try with_reducible rfl
  clear hHeld
  have hHeld := hNew
  clear hNew
  try simp only [List.getElem_toArray, List.getElem_cons_succ, List.getElem_cons_zero, Act.put, List.setIfInBounds_toArray, List.set_cons_zero, List.set_cons_succ]
  refine wpAnyL_ready (rs := [6]) (by kernel_rfl) (by simp) ?_
  refine AllReadyL.cons (o := _) rfl (fun K hK => ?_) AllReadyL.nil
  try simp only [List.getElem_toArray, List.getElem_cons_succ, List.getElem_cons_zero]
  go_simp
  refine (C1.out _).mono ?_
  rintro e w' ⟨rfl, hq⟩
  subst hq
  clear hHeld
  refine hK.out _ _ ?_ (fun hHeld => ?_)
  · exact (HoldC.past (by kernel_rfl) (HoldC.cons (⟨a1, b1⟩) (HoldC.cons (⟨a2, b2⟩) (HoldC.cons (⟨a3, b3⟩) HoldC.nil))))
  clear hK K
  try simp only [List.getElem_toArray, List.getElem_cons_succ, List.getElem_cons_zero, Act.put, List.setIfInBounds_toArray, List.set_cons_zero, List.set_cons_succ]
  refine wpAnyL_ready (rs := [13]) (by kernel_rfl) (by simp) ?_
  refine AllReadyL.cons (o := _) rfl (fun K hK => ?_) AllReadyL.nil
  try simp only [List.getElem_toArray, List.getElem_cons_succ, List.getElem_cons_zero]
  go_simp
  refine (C2.out _).mono ?_
  rintro e w' ⟨rfl, hq⟩
  subst hq
  clear hHeld
  refine hK.out _ _ ?_ (fun hHeld => ?_)
  · exact (HoldC.past (by kernel_rfl) (HoldC.past (by kernel_rfl) (HoldC.cons (⟨a2, b2⟩) (HoldC.cons (⟨a3, b3⟩) HoldC.nil))))
  clear hK K
  try simp only [List.getElem_toArray, List.getElem_cons_succ, List.getElem_cons_zero, Act.put, List.setIfInBounds_toArray, List.set_cons_zero, List.set_cons_succ]
  refine wpAnyL_ready (rs := [20]) (by kernel_rfl) (by simp) ?_
  refine AllReadyL.cons (o := _) rfl (fun K hK => ?_) AllReadyL.nil
  try simp only [List.getElem_toArray, List.getElem_cons_succ, List.getElem_cons_zero]
  go_simp
  refine (C3.out _).mono ?_
  rintro e w' ⟨rfl, hq⟩
  subst hq
  clear hHeld
  refine hK.out _ _ ?_ (fun hHeld => ?_)
  · exact (HoldC.past (by kernel_rfl) (HoldC.past (by kernel_rfl) (HoldC.past (by kernel_rfl) (HoldC.cons (⟨a3, b3⟩) HoldC.nil))))
  clear hK K
  try simp only [List.getElem_toArray, List.getElem_cons_succ, List.getElem_cons_zero, Act.put, List.setIfInBounds_toArray, List.set_cons_zero, List.set_cons_succ]
  refine wpAnyL_ready (rs := [25]) (by kernel_rfl) (by simp) ?_
  refine AllReadyL.cons (o := _) rfl (fun K hK => ?_) AllReadyL.nil
  try simp only [List.getElem_toArray, List.getElem_cons_succ, List.getElem_cons_zero]
  go_simp
  refine (C4.out _).mono ?_
  rintro e w' ⟨rfl, hq⟩
  subst hq
  clear hHeld
  refine hK.out _ _ ?_ (fun hHeld => ?_)
  · exact (HoldC.past (by kernel_rfl) (HoldC.past (by kernel_rfl) (HoldC.past (by kernel_rfl) (HoldC.past (by kernel_rfl) HoldC.nil))))
  clear hK K
  try simp only [List.getElem_toArray, List.getElem_cons_succ, List.getElem_cons_zero, Act.put, List.setIfInBounds_toArray, List.set_cons_zero, List.set_cons_succ]
  refine wpAnyL_ready (rs := [26]) (by kernel_rfl) (by simp) ?_
  refine AllReadyL.cons (o := _) rfl (fun K hK => ?_) AllReadyL.nil
  try simp only [List.getElem_toArray, List.getElem_cons_succ, List.getElem_cons_zero]
  go_simp
  have hbZ : (w1.alloc (.cells #[.int .i64 v1, .int .i64 v2, .int .i64 v3, .int .i64 v4] 3)).drew.heap[w1.heap.size]? = some (.cells #[.int .i64 v1, .int .i64 v2, .int .i64 v3, .int .i64 v4] 3 (0, 0)) := heap_alloc_new w1 _
  have CO := Lib.hid (cor_any [v1, v2, v3, v4] rfl w1.heap.size _ (fun j hj => by
    match j, hj with
    | 0, _ => exact blk_cell hbZ 0 _ rfl
    | 1, _ => exact blk_cell hbZ 1 _ rfl
    | 2, _ => exact blk_cell hbZ 2 _ rfl
    | 3, _ => exact blk_cell hbZ 3 _ rfl))
  clear hHeld
  refine hK.out _ _ ?_ (fun hHeld => ?_)
  · exact (HoldC.past (by kernel_rfl) (HoldC.past (by kernel_rfl) (HoldC.past (by kernel_rfl) (HoldC.past (by kernel_rfl) HoldC.nil))))
  clear hK K
  try simp only [List.getElem_toArray, List.getElem_cons_succ, List.getElem_cons_zero, Act.put, List.setIfInBounds_toArray, List.set_cons_zero, List.set_cons_succ]
  refine wpAnyL_ready (rs := [27]) (by kernel_rfl) (by simp) ?_
  refine AllReadyL.cons (o := _) rfl (fun K hK => ?_) AllReadyL.nil
  try simp only [List.getElem_toArray, List.getElem_cons_succ, List.getElem_cons_zero]
  go_simp
  refine CO.out.mono ?_
  rintro e w' ⟨rfl, hq⟩
  subst hq
  clear hHeld
  refine hK.out _ _ ?_ (fun hHeld => ?_)
  · exact (HoldC.past (by kernel_rfl) (HoldC.past (by kernel_rfl) (HoldC.past (by kernel_rfl) (HoldC.past (by kernel_rfl) HoldC.nil))))
  clear hK K
  try simp only [List.getElem_toArray, List.getElem_cons_succ, List.getElem_cons_zero, Act.put, List.setIfInBounds_toArray, List.set_cons_zero, List.set_cons_succ]
  refine wpAnyL_take (i := 28) (oi := _) (v := ?_) rfl (by kernel_rfl) (by kernel_rfl) (by kernel_rfl) (by kernel_rfl) (by kernel_rfl) (fun _ _ _ h => h) (Or.inl ⟨by rfl, ?_⟩) (by assumption) (fun hNew => ?_)
  rotate_left
  · intro w _
    go_simp
    try with_reducible rfl
  clear hHeld
  have hHeld := hNew
  clear hNew
  try simp only [List.getElem_toArray, List.getElem_cons_succ, List.getElem_cons_zero, Act.put, List.setIfInBounds_toArray, List.set_cons_zero, List.set_cons_succ]
  refine wpAnyL_done (by kernel_rfl) ?_ _
  clear hHeld
  go_wp2_with fail
  go_ret
  rw [HF.out]
  exact ⟨rfl, 1, _, by rw [HW1.out, Go.Sort.alloc_eq_grow, Go.Sort.alloc_eq_grow, Go.Sort.alloc_eq_grow, Go.Sort.grow_grow, Go.Sort.grow_grow]; rfl⟩

def idE (x : Id) : List Value := [.int .i64 x.c, .int .i64 x.l, .int .i64 x.n, .int .i64 x.i]
theorem idE_len (x : Id) : (idE x).length = 4 := rfl
theorem idE_one (x : Id) : ∀ v ∈ idE x, v.oneCell' = true := by
  intro v hv
  simp [idE] at hv
  rcases hv with rfl | rfl | rfl | rfl <;> rfl
theorem cmpLaysI (blk off size : Nat) (w : World) : CmpLays Tryz.prog 150 #[] idE 4 cmpId blk off size w :=
  fun _ _ _ _ x y => closureI x y _
/-- The sort, at a row of ids of the call's own. -/
theorem sortI_any {w : World} {base : Nat} {v : Value} {ss : List Id} (hown : w.ownsRow base 38 4 v ss.length (ss.flatMap idE)) (hl : ss.length ≤ 1000000) :
    Calls Tryz.prog 149 #[v, .func (.func 150) #[] #[]] w fun e w' => e = .returned (.tuple #[]) ∧ w'.ownsRow base 38 4 v ss.length ((ss.mergeSort leI).flatMap idE) ∧ ∀ S : List Nat, (∀ k, v.ownBlock = some k → k ∈ S) → Chg S w w' := by
  obtain ⟨hlen, hrow⟩ := hown
  rcases hrow with ⟨rfl, h0⟩ | ⟨gb, cap, cur, rfl, hbg, hgb, hnc, hcm, hcs, htake⟩
  · have hnil : ss = [] := List.eq_nil_of_length_eq_zero h0
    subst hnil
    have hS := AnyF.slices_SortFunc_none (P := Tryz.prog) (ρ := Tryz.laysSortE_ren) { Tryz.laysSortE with } none 0 (.func (.func 150) #[] #[]) w
    change Calls Tryz.prog 149 _ _ _ at hS
    refine hS.mono fun e w' ⟨h1, h2⟩ => ⟨h1, ?_, ?_⟩
    · rw [h2]; simpa using World.ownsRow_nil w base 38 4
    · rw [h2]; exact fun S _ => Chg.refl _ _
  · have hH := holds_row idE idE_len hgb htake
    have eg : ∀ args w, (callFunc 150 args).run Tryz.prog w = .ok (.enter 150 args) w := enters_of Tryz.func150 (by kernel_rfl) rfl
    have hS := AnyQ.slices_SortFunc_total Tryz.laysSortE 4 Tryz.isAgg38 Tryz.sizeOf38 idE idE_len idE_one cmpId swoI 150 #[] gb 0 cap ss.toArray w eg (cmpLaysI gb 0 _ w) hH (blk_lt hgb) (by simp; omega) totI
    change Calls Tryz.prog 149 _ _ _ at hS
    have hsz : ss.toArray.size = ss.length := by simp
    rw [hsz] at hS
    refine hS.mono fun e w' ⟨h1, n, os, h2⟩ => ⟨h1, ?_, fun S hS => ?_⟩
    · rw [h2]
      exact ownsRow_sortedK idE idE_len (by rw [List.length_mergeSort]) hbg hgb hnc hcm hcs
    · rw [h2]
      exact (chg_sortedK _ _ _).mono (fun x hx => .inl (by rw [List.mem_singleton.1 hx]; exact hS gb rfl))
end Go.Proofs.YtdkhmfcfihbjeaaGreatDoor.W

/- Package store: List. -/
namespace Go.Proofs.YtdkhmfcfihbjeaaGreatDoor.W
open Go.RowKit Go.Sort
set_option linter.unusedVariables false
set_option linter.unusedSimpArgs false
variable {G : List Nat}

theorem wpList_nxtD (w : World) {ops : Array Oper} {rest : List Oper} {o : Oper} {a : Act} {Q : Exit → Act → World → Prop} (hg : o.guard = none) (it : Operand) (hop : o.op = Op.next it false) (b r N : Nat) (φ : Id → Option Value) (left : Id → Bool) (cnt : Nat)
    (hit : a.eval it = .pointer (some ⟨r, 0, none⟩)) (h : Rng 38 klD okD w b r φ N left cnt)
    (hDone : cnt = 0 → (∀ x, okD x → left x = false) → wpList Tryz.prog ops Q rest (a.put o.dst (.tuple #[.bool false])) w)
    (hMore : ∀ (c l n i : Int) (v : Value) (w' : World) (cnt' : Nat), okD ⟨c, l, n, i⟩ → left ⟨c, l, n, i⟩ = true → φ ⟨c, l, n, i⟩ = some v → Rng 38 klD okD w' b r φ N (fun y => !decide (y = ⟨c, l, n, i⟩) && left y) cnt' → cnt' < cnt → Chg [r] w w' → w'.heap.size = w.heap.size →
      (Instr.entry (.pointer (some ⟨r, 0, none⟩))).run Tryz.prog w' = .ok (.tuple #[.agg #[.int .i64 c, .int .i64 l, .int .i64 n, .int .i64 i], v]) w' → wpList Tryz.prog ops Q rest (a.put o.dst (.tuple #[.bool true, .agg #[.int .i64 c, .int .i64 l, .int .i64 n, .int .i64 i], v])) w') :
    wpList Tryz.prog ops Q (o :: rest) a w :=
  wpList_nxt keId w hg it hop b r N φ left cnt hit h hDone fun x v w' cnt' h1 h2 h3 h4 h5 h6 h7 h8 => hMore x.c x.l x.n x.i v w' cnt' h1 h2 h3 (h4 _ fun y _ => ⟨fun e => by simp [e], fun e => by
    have e' : ¬ y = ⟨x.c, x.l, x.n, x.i⟩ := e
    simp [e']⟩) h5 h6 h7 h8
theorem elIds : El Tryz.prog 29 38 (.agg #[.int .i64 0, .int .i64 0, .int .i64 0, .int .i64 0]) 4 32 := El.mk Tryz.underlying29 (by kernel_rfl) rfl (by decide)
def ListPost (w : World) (l : List Id) (e : Ending) (w' : World) : Prop := ∃ v, e = .returned v ∧ w'.ownsRow w.heap.size 38 4 v l.length (l.flatMap idE) ∧ Chg [] w w'

set_option maxHeartbeats 8000000 in
set_option maxRecDepth 100000 in
theorem stlist_any (q p : Nat) (U : List Nat) (t : Sto) (w : World) (h : StAt G w q p U t) : Calls Tryz.prog 124 #[.pointer (some ⟨q, 0, none⟩)] w (ListPost w t.ids) := by
  obtain ⟨sp, mb, Us, φ, N, h, rfl⟩ := h
  obtain ⟨k0, _, k2, _⟩ := h.cells
  have CM := Lib.hid (stmade_any q p w k0)
  have HM := Lib.hid h.map
  have HI : Hid (∀ x, okD x → (x ∈ firsts t.s.rows ↔ (φ x).isSome = true)) := Lib.hid (fun x hx => by
    rw [mem_firsts h.ok]
    rcases h.vals x hx with ⟨h1, h2⟩ | ⟨h1, v, h2, _⟩
    · rw [h1, h2]; simp
    · rw [h2]; simp [h1])
  have HFM : Hid (∀ x ∈ firsts t.s.rows, okD x) := Lib.hid (fun x hx => by
    rw [mem_firsts h.ok] at hx
    by_cases hm : mayId x = true
    · exact may_okD hm
    · rw [Sto.at_not (by simpa using hm)] at hx
      exact absurd rfl hx)
  have HND := Lib.hid (firsts_nodup h.ok)
  have hNl : N ≤ 1000 := by
    have h1 := h.map.card keId (firsts t.s.rows) (fun y hy hs => (HI.out y hy).2 hs)
    have h2 := t.ids_len
    unfold Sto.ids at h2
    rw [List.length_mergeSort] at h2
    obtain ⟨S0, rv0, R0, H0⟩ := h.slots
    have := H0.few
    omega
  have HID : Hid (t.ids = (firsts t.s.rows).mergeSort leI) := Lib.hid rfl
  generalize t.ids = L at *
  generalize firsts t.s.rows = F at *
  have hml := h.map.lt
  clear h
  go_enter Tryz.func124, Tryz.ntmps124
  go_wp2_with fail
  refine CM.out.mono ?_
  rintro e w' ⟨rfl, hq⟩
  subst hq
  go_wp2_with (refine wpList_rng keId _ rfl _ _ rfl 132 Tryz.underlying96 mb N φ rfl HM.out ?_; intro w1 hr1 hc1 hs1; have HR1 := Lib.hid (And.intro hr1 (And.intro hc1 hs1)); clear hr1 hc1 hs1)
  go_frame
  go_loopg [3] N (fun gh v3 wr => ∃ (v : Value) (ss : List Id) (left : Id → Bool) (cnt : Nat), v = v3 ∧ cnt ≤ gh ∧ ss.length + cnt ≤ N ∧ wr.ownsRow w.heap.size 38 4 v ss.length (ss.flatMap idE) ∧ Hid (Rng 38 klD okD wr mb w.heap.size φ N left cnt) ∧
    Hid (ss.Nodup ∧ ∀ k, okD k → (k ∈ ss ↔ (φ k).isSome = true ∧ left k = false)) ∧ Hid (∀ k ∈ ss, okD k) ∧ Hid (Chg [] w wr))
  case atStart =>
    refine ⟨_, [], _, _, rfl, Nat.le_refl _, by simp, World.ownsRow_nil _ _ _ _, Lib.hid HR1.out.1, Lib.hid ⟨List.nodup_nil, fun k hk => ?_⟩, Lib.hid (by simp), Lib.hid HR1.out.2.1⟩
    constructor
    · intro h; cases h
    · rintro ⟨h1, h2⟩
      rw [h1] at h2; cases h2
  case round =>
    obtain ⟨v3, ss, left, cnt, rfl, hcg, hkc, hown, HR, HK, HO, HC⟩ := hrel
    have hrne : some w.heap.size ≠ v3.ownBlock := by
      obtain ⟨D, lf, hr, _⟩ := HR.out
      exact row_ne_iter hown hr
    have HOWN := Lib.hid hown
    clear hown
    go_wp2_with (refine wpList_nxtD _ rfl _ rfl mb w.heap.size N φ left cnt rfl HR.out ?_ ?_)
    · intro hc0 hl0
      have HALL : Hid (∀ k, k ∈ ss ↔ k ∈ F) := Lib.hid (fun k => by
        constructor
        · intro hk
          have hko := HO.out k hk
          exact (HI.out k hko).2 ((HK.out.2 k hko).1 hk).1
        · intro hk
          have hko := HFM.out k hk
          exact (HK.out.2 k hko).2 ⟨(HI.out k hko).1 hk, hl0 k hko⟩)
      have HS : Hid (ss.mergeSort leI = L) := Lib.hid (by rw [HID.out]; exact sortedI_eq HK.out.1 HND.out HALL.out)
      have HL : Hid (ss.length = L.length) := Lib.hid (by
        have := congrArg List.length HS.out
        rwa [List.length_mergeSort] at this)
      clear hc0 hl0
      go_wp2_with fail
      refine (sortI_any HOWN.out (by omega)).mono ?_
      rintro e w5 ⟨rfl, hrow, hch⟩
      have HF : Hid (w5.ownsRow w.heap.size 38 4 v3 L.length (L.flatMap idE) ∧ Chg [] w w5) := Lib.hid (by
        rw [HS.out, HL.out] at hrow
        refine ⟨hrow, ?_⟩
        cases hv : v3.ownBlock with
        | none => exact HC.out.trans (hch [] (by rw [hv]; simp)) (by simp)
        | some k =>
          have hlt := (World.ownsRow.lt HOWN.out k hv).1
          exact HC.out.trans (hch [k] (by rw [hv]; simp)) (by simp; omega))
      clear hrow hch
      go_wp2
      go_ret
      exact ⟨_, rfl, HF.out⟩
    · intro xc xl xn xi v w2 cnt2 hox hlx hvx hr2 hlt hc2 hs2 hen
      have HX : Hid ((φ ⟨xc, xl, xn, xi⟩).isSome = true ∧ (⟨xc, xl, xn, xi⟩ : Id) ∉ ss ∧ okD ⟨xc, xl, xn, xi⟩) := Lib.hid (by
        refine ⟨by rw [hvx]; rfl, fun hk => ?_, hox⟩
        have := ((HK.out.2 _ hox).1 hk).2
        rw [hlx] at this; cases this)
      have HW2 := Lib.hid (And.intro hr2 (And.intro hc2 hs2))
      have hown2 := row_keep HOWN.out (w' := w2) (fun gq hq => hc2.block gq (World.ownsRow.lt HOWN.out gq hq).2 (by
        simp
        rintro rfl
        exact hrne hq.symm))
      have hc2a : Chg [] w2 (w2.alloc (.cells #[.int .i64 xc, .int .i64 xl, .int .i64 xn, .int .i64 xi] 38)) := (Chg.refl [] w2).alloc _
      have hown3 := row_keep hown2 (w' := w2.alloc (.cells #[.int .i64 xc, .int .i64 xl, .int .i64 xn, .int .i64 xi] 38)) (fun gq hq => hc2a.block gq (World.ownsRow.lt hown2 gq hq).2 (by simp))
      have hbase : w.heap.size ≤ w2.heap.size := by
        have := HC.out.size
        rw [hs2]; omega
      clear hox hlx hvx hr2 hc2 hs2
      go_wp2_with (at_builtin; refine wpList_app1 rfl _ _ _ rfl w.heap.size elIds _ _ _ rfl hown3 1 #[.int .i64 xc, .int .i64 xl, .int .i64 xn, .int .i64 xi] (by rw [show (w2.alloc (.cells #[.int .i64 xc, .int .i64 xl, .int .i64 xn, .int .i64 xi] 38)).heap.size = w2.heap.size + 1 by simp]; rfl) rfl (by intro u hu; simp at hu; rcases hu with rfl | rfl | rfl | rfl <;> rfl) (by unfold maxLen; omega) (by omega) (by simp; omega) ?_; intro v4 w4 hown4 hg4)
      have HEND : Hid (Rng 38 klD okD w4 mb w.heap.size φ N (fun y => !decide (y = ⟨xc, xl, xn, xi⟩) && left y) cnt2 ∧ Chg [] w w4) := Lib.hid (by
        have hc24 : Chg (match v3.ownBlock with | some k => [k] | none => []) w2 w4 := by
          exact ((Chg.refl (match v3.ownBlock with | some k => [k] | none => []) w2).alloc _).grown hg4 (fun k hk => by
            have hk' : v3.ownBlock = some k := hk
            rw [hk']; exact .inl (by simp))
        have hrb : ∀ k, v3.ownBlock = some k → w.heap.size ≤ k ∧ k ≠ w.heap.size := fun k hk => ⟨(World.ownsRow.lt HOWN.out k hk).1, fun e => hrne (by rw [hk, e])⟩
        refine ⟨HW2.out.1.kept hc24 ?_ ?_, (HC.out.trans HW2.out.2.1 (fun z hz => ?_)).trans hc24 (fun z hz => ?_)⟩
        · cases hv : v3.ownBlock with
          | none => simp
          | some k => have := hrb k hv; simp; omega
        · cases hv : v3.ownBlock with
          | none => simp
          | some k => have := hrb k hv; simp; omega
        · simp at hz; right; omega
        · cases hv : v3.ownBlock with
          | none => rw [hv] at hz; simp at hz
          | some k => rw [hv] at hz; simp at hz; have := hrb k hv; right; omega)
      clear hg4
      go_roundg cnt2
      case measure => omega
      case rel =>
        refine ⟨_, ss ++ [⟨xc, xl, xn, xi⟩], _, cnt2, rfl, Nat.le_refl _, by simp; omega, by simpa [idE] using hown4, Lib.hid HEND.out.1, Lib.hid ⟨?_, fun k hk => ?_⟩, Lib.hid (fun k hk => ?_), Lib.hid HEND.out.2⟩
        · refine List.nodup_append.2 ⟨HK.out.1, by simp, fun a ha b hb => ?_⟩
          simp at hb
          rintro rfl
          subst hb
          exact HX.out.2.1 ha
        · rw [List.mem_append, HK.out.2 k hk]
          by_cases e : k = ⟨xc, xl, xn, xi⟩
          · subst e; simp [HX.out.1]
          · simp [e]
        · rcases List.mem_append.1 hk with hk | hk
          · exact HO.out k hk
          · simp at hk; subst hk; exact HX.out.2.2
end Go.Proofs.YtdkhmfcfihbjeaaGreatDoor.W

/- Package store: Room, Whole, SetWhole. -/
namespace Go.Proofs.YtdkhmfcfihbjeaaGreatDoor.W
open Go.RowKit Go.Sort
set_option linter.unusedVariables false
set_option linter.unusedSimpArgs false
variable {G : List Nat}

theorem count_take {α : Type} (f : α → Bool) (l : List α) (j : Nat) (h : j < l.length) : (l.take (j + 1)).countP f = (l.take j).countP f + if f l[j] then 1 else 0 := by
  rw [List.take_succ_eq_append_getElem h, List.countP_append]
  simp [List.countP_singleton]
set_option maxHeartbeats 4000000 in
set_option maxRecDepth 100000 in
theorem stroom_any (q p : Nat) (U : List Nat) (t : Sto) (w : World) (h : StAt G w q p U t) : Calls Tryz.prog 125 #[.pointer (some ⟨q, 0, none⟩)] w fun e w' => e = .returned (.int .i64 (t.room : Int)) ∧ w = w' := by
  obtain ⟨sp, mb, Us, φ, N, h, rfl⟩ := h
  obtain ⟨k0, k1, _, _⟩ := h.cells
  have CM := Lib.hid (stmade_any q p w k0)
  have CN := Lib.hid (scount_any sp p Us t.s w h.slots)
  have CU := Lib.hid (fun i => sused_any sp p Us t.s i w h.slots)
  have hfew : t.s.rows.length ≤ 1000 := by
    obtain ⟨S0, rv0, R0, H0⟩ := h.slots
    have := H0.few
    omega
  have HRM : Hid (t.room = t.s.rows.countP (fun r => !r.used)) := Lib.hid rfl
  generalize t.room = R at *
  clear h
  obtain ⟨m, hm⟩ : ∃ m, m = t.s.rows.length := ⟨_, rfl⟩
  rw [← hm] at CN hfew
  have HM := Lib.hid hm
  clear hm
  go_enter Tryz.func125, Tryz.ntmps125
  go_wp2_with (first | (go_at_call 42; refine CM.out.mono ?_; rintro e w' ⟨rfl, hq⟩; subst hq) | (go_at_call 92; refine CN.out.mono ?_; rintro e w' ⟨rfl, hq⟩; subst hq))
  go_loopg [3, 13] m (fun g' s3 s13 wr => ∃ (i n : Nat), s13 = .int .i64 (i : Int) ∧ s3 = .int .i64 (n : Int) ∧ i ≤ m ∧ m ≤ i + g' ∧ n ≤ i ∧ Hid (wr = w ∧ n = (t.s.rows.take i).countP (fun r => !r.used)))
  case atStart => exact ⟨0, 0, rfl, rfl, by omega, by omega, by omega, Lib.hid ⟨rfl, by simp⟩⟩
  case round =>
    obtain ⟨i, n, rfl, rfl, hi, hig, hni, HJ⟩ := hrel
    obtain ⟨rfl, hn⟩ := HJ.out
    have HN := Lib.hid hn
    clear hn HJ
    by_cases hlt : i < m
    · have CU1 := Lib.hid (CU.out (i : Int))
      have hl2 : i < t.s.rows.length := by rw [← HM.out]; exact hlt
      have hus : t.s.used (i : Int) = (t.s.rows[i]).used := by
        rw [SS.used_true ⟨by omega, by omega⟩]
        show (t.s.rows.getD i noRow).used = _
        rw [List.getD_eq_getElem?_getD, List.getElem?_eq_getElem hl2]; rfl
      have HC := Lib.hid (count_take (fun r => !r.used) t.s.rows i hl2)
      rw [hus] at CU1
      have hiz : (i : Int) < (m : Int) := by omega
      clear hus
      generalize (t.s.rows[i]).used = u at *
      cases u with
      | true =>
        go_wp2_with (go_at_call 93; refine CU1.out.mono ?_; rintro e w' ⟨rfl, hq⟩; subst hq)
        go_roundg (gk - 1)
        case measure => omega
        case rel => exact ⟨i + 1, n, by go_num, rfl, by omega, by omega, by omega, Lib.hid ⟨rfl, by rw [HC.out, ← HN.out]; simp⟩⟩
      | false =>
        go_wp2_with (go_at_call 93; refine CU1.out.mono ?_; rintro e w' ⟨rfl, hq⟩; subst hq)
        go_roundg (gk - 1)
        case measure => omega
        case rel => exact ⟨i + 1, n + 1, by go_num, by go_num, by omega, by omega, by omega, Lib.hid ⟨rfl, by rw [HC.out, ← HN.out]; simp⟩⟩
    · have him : i = m := by omega
      have hiz : ¬ (i : Int) < (m : Int) := by omega
      have HE : Hid (R = n) := Lib.hid (by rw [HRM.out, HN.out, him, HM.out, List.take_length])
      go_wp2
      go_ret
      rw [HE.out]
      exact ⟨rfl, rfl⟩
set_option maxHeartbeats 2000000 in
theorem stwhole_any (q p : Nat) (U : List Nat) (t : Sto) (w : World) (h : StAt G w q p U t) : Calls Tryz.prog 21 #[.pointer (some ⟨q, 0, none⟩)] w fun e w' => e = .returned (.bool t.whole) ∧ w = w' := by
  obtain ⟨sp, mb, Us, φ, N, h, rfl⟩ := h
  obtain ⟨k0, _, _, k3⟩ := h.cells
  have CM := Lib.hid (stmade_any q p w k0)
  generalize t.whole = b at *
  clear h
  go_enter Tryz.func21, Tryz.ntmps21
  go_wp2_with (go_at_call 42; refine CM.out.mono ?_; rintro e w' ⟨rfl, hq⟩; subst hq)
  go_ret
  exact ⟨rfl, rfl⟩
end Go.Proofs.YtdkhmfcfihbjeaaGreatDoor.W

/- Package store: SetWhole, Latest. -/
namespace Go.Proofs.YtdkhmfcfihbjeaaGreatDoor.W
open Go.RowKit Go.Sort
set_option linter.unusedVariables false
set_option linter.unusedSimpArgs false
variable {G : List Nat}

/-- Slots hear nothing of a block that holds no byte. -/
theorem SlotsAt.keepNB {w w' : World} {q p B : Nat} {U : List Nat} {s : SS} (h : SlotsAt w q p U s) (hc : Chg [B] w w') (hm : ∀ o c, w.cell? ⟨B, o, none⟩ ≠ some (bv c)) (hU : B ∉ U) : SlotsAt w' q p U s := by
  obtain ⟨S, rv, R, h⟩ := h
  have hne : ∀ x ∈ U, x ∉ [B] := fun x hx hmm => hU (by rw [← List.mem_singleton.1 hmm]; exact hx)
  refine ⟨S, rv, R, h.obj.keep hc (fun x hx => hne x (h.uB x hx)), h.disk.keep hc (fun x hx => hne x (h.uS x hx)), h.rows, h.sep, fun x hx => ?_, h.uS, h.uB, fun x hx => Nat.lt_of_lt_of_le (h.uL x hx) hc.size, h.ok⟩
  obtain ⟨h1, h2⟩ := h.keys x hx
  refine ⟨h1.chgW hc (fun hn k hk hmm => ?_), fun g hg => ⟨Nat.lt_of_lt_of_le (h2 g hg).1 hc.size, (h2 g hg).2⟩⟩
  obtain rfl := List.mem_singleton.1 hmm
  obtain ⟨a, cap, hv, _, _, h3⟩ := h1
  rw [hv] at hk
  rcases h3 with ⟨h3, _⟩ | ⟨g, o, rfl, hcell⟩
  · exact hn h3
  · obtain rfl : g = k := by simpa [Value.ownBlock] using hk
    exact hm _ _ (hcell 0 (List.length_pos_iff.2 hn))
theorem head_nb {w : World} {q p sp mb : Nat} {b : Bool} (h : w.heap[q]? = some (.cells #[.pointer (some ⟨p, 0, none⟩), .pointer (some ⟨sp, 0, none⟩), .map (some mb), .bool b] 98 (0, 0))) (o : Nat) (c : UInt8) : w.cell? ⟨q, o, none⟩ ≠ some (bv c) := by
  simp only [World.cell?, h]
  match o with
  | 0 => simp [bv]
  | 1 => simp [bv]
  | 2 => simp [bv]
  | 3 => simp [bv]
  | o + 4 => simp
theorem StOk.setW {w : World} {q p sp mb : Nat} {Us : List Nat} {φ : Id → Option Value} {N : Nat} {t : Sto} (h : StOk G w q p sp mb Us φ N t) (b : Bool) : StOk G (w.setCell ⟨q, 3, none⟩ (.bool b)) q p sp mb Us φ N ⟨t.s, b⟩ := by
  have hc : Chg [q] w (w.setCell ⟨q, 3, none⟩ (.bool b)) := (Chg.refl [q] w).setCell (p := ⟨q, 3, none⟩) (.inl (by simp)) _
  have hqm := ne_blk h.head h.map
  refine ⟨set_blk h.head, h.slots.keepNB hc (head_nb h.head) h.apart.1, h.map.chg hc (by simpa using Ne.symm hqm), h.apart, fun x hx => ?_, h.ok, h.far.mono hc.size⟩
  exact (h.vals x hx).keep hc (fun y hy => .inl (by rw [List.mem_singleton.1 hy]; simp)) (fun y hy => .inl hy)
set_option maxHeartbeats 4000000 in
set_option maxRecDepth 100000 in
theorem stsetw_any (q p : Nat) (U : List Nat) (t : Sto) (w : World) (h : StAt G w q p U t) (hn : 1 ≤ t.s.d.n) (ho : t.s.d.ops ≤ 900000000) (hw : t.s.d.since.length ≤ 900000) :
    Calls Tryz.prog 126 #[.pointer (some ⟨q, 0, none⟩)] w fun e w' => e = .returned (.int .i64 t.setWhole.1) ∧ Std G w w' q p U t.setWhole.2 := by
  obtain ⟨sp, mb, Us, φ, N, h, rfl⟩ := h
  obtain ⟨k0, _, _, k3⟩ := h.cells
  have CM := Lib.hid (stmade_any q p w k0)
  have HH := Lib.hid h
  obtain ⟨S, rv, R, hS⟩ := h.slots
  have CS := Lib.hid (sign_any p S t.s.d 2 w hS.disk hn ho hw)
  obtain ⟨sn, _, _⟩ := t.s.d.sign_ok 2
  have HS := Lib.hid hS
  have HG : Hid (t.setWhole = ((t.s.d.sign 2).1, ⟨{ t.s with d := (t.s.d.sign 2).2 }, t.whole || ((t.s.d.sign 2).1 == 0)⟩)) := Lib.hid rfl
  generalize t.setWhole = r at *
  generalize t.s.d.sign 2 = z at *
  obtain ⟨ze, d'⟩ := z
  dsimp only at CS HG sn
  rw [show bv 2 = .int .u8 2 from rfl] at CS
  have HSN := Lib.hid sn
  clear h hS sn
  go_enter Tryz.func126, Tryz.ntmps126
  go_wp2_with (go_at_call 42; refine CM.out.mono ?_; rintro e w' ⟨rfl, hq⟩; subst hq)
  refine CS.out.mono ?_
  rintro e w2 ⟨rfl, hd2⟩
  have hsid := SlotsAt.did HS.out hd2 HSN.out
  obtain ⟨Us2, g1, g2, g3⟩ := HH.out.slotsDid hsid rfl
  obtain ⟨c0, _, _, c3⟩ := g1.cells
  have f3 := blk_frozen g1.head 3
  have hl := blk_lt g1.head
  have HW : Hid (∀ b, Std G w (w2.setCell ⟨q, 3, none⟩ (.bool b)) q p (q :: mb :: Us) ⟨{ t.s with d := d' }, b⟩) := Lib.hid (fun b => (g1.setW b).std g2 ((g3.mono (fun y hy => .inl (by simp [hy]))).setCell (p := ⟨q, 3, none⟩) (.inl (by simp)) _))
  have HI : Hid (r = (ze, ⟨{ t.s with d := d' }, t.whole || (ze == 0)⟩)) := HG
  have c3' : w2.cell? ⟨q, 3, none⟩ = some (.bool t.whole) := c3
  clear hd2 hsid g1 g2 g3 CS HG c3
  generalize t.whole = b at *
  cases b with
  | true =>
    go_wp2
    go_ret
    rw [HI.out]
    exact ⟨rfl, HW.out true⟩
  | false =>
    by_cases hz : ze = 0
    · subst hz
      go_wp2
      go_ret
      rw [HI.out]
      exact ⟨rfl, HW.out true⟩
    · have q0 : (ze == 0) = false := by simp [hz]
      rw [q0] at HI
      go_wp2
      go_ret
      rw [HI.out]
      exact ⟨rfl, HW.out false⟩

theorem id_row {w : World} {base g cap : Nat} {l : List Id} (h : w.ownsRow base 38 4 (.slice (some ⟨g, 0, none⟩) l.length cap) l.length (l.flatMap idE)) (j : Nat) (hj : j < l.length) (x : Id) (hx : l[j]? = some x) :
    w.cell? ⟨g, j * 4, none⟩ = some (.int .i64 x.c) ∧ w.cell? ⟨g, j * 4 + 1, none⟩ = some (.int .i64 x.l) ∧ w.cell? ⟨g, j * 4 + 2, none⟩ = some (.int .i64 x.n) ∧ w.cell? ⟨g, j * 4 + 3, none⟩ = some (.int .i64 x.i) := by
  have key : ∀ k, k < 4 → ∀ u, (idE x)[k]? = some u → w.cell? ⟨g, j * 4 + k, none⟩ = some u := by
    intro k hk u hu
    have := h.cells (g := g) rfl (j * 4 + k) u (by
      have := flatMap_at idE (fun _ => rfl) l j k hj hk
      rw [show l[j]! = x by simp [List.getElem!_eq_getElem?_getD, hx]] at this
      rw [this]; exact hu)
    rw [add_none] at this
    simpa using this
  exact ⟨by simpa using key 0 (by omega) (.int .i64 x.c) rfl, key 1 (by omega) _ rfl, key 2 (by omega) _ rfl, key 3 (by omega) _ rfl⟩
end Go.Proofs.YtdkhmfcfihbjeaaGreatDoor.W

/- Package store: Latest. -/
namespace Go.Proofs.YtdkhmfcfihbjeaaGreatDoor.W
open Go.RowKit Go.Sort
set_option linter.unusedVariables false
set_option linter.unusedSimpArgs false
variable {G : List Nat}

end Go.Proofs.YtdkhmfcfihbjeaaGreatDoor.W
