/- The walk of TokensPlays. -/
import Derived.Test.YtembgdjdljflhaaP10
import Derived.Test.YtembgdjdljflhaaQ
import Derived.Deep.RegionHeld3
import Derived.Deep.DeepCutAuto
import Derived.Deep.CutBlock
namespace Go.Proofs.Ytembgdjdljflhaa.tokensPlays
open Go.RowKit
set_option linter.unusedVariables false
set_option linter.unusedSimpArgs false

theorem ofAns_form (o : Option TRow) : ∃ (yc yh yi : Int) (yb q : Bool), ofAns o = .tuple #[.agg #[.int .i64 yc, .int .i64 yh, .int .i64 yi, .bool yb], .bool q] := by
  cases o with
  | none => exact ⟨0, 0, 0, false, false, rfl⟩
  | some r => exact ⟨r.c, r.h, r.i, r.b, true, rfl⟩
/-- Both sides hold the rows l. -/
structure Both (w0 w : World) (tb mb : Nat) (l : List TRow) : Prop where
  tok : TokS w0 w tb l
  ref : ∃ v, RTok w mb v w0.heap.size l
  good : Good2 l
  old : w0.heap.size ≤ mb

theorem Both.below {w0 w w' : World} {tb mb : Nat} {l : List TRow} (h : Both w0 w tb mb l) (hb : Below w.heap.size w w') : Both w0 w' tb mb l := by
  obtain ⟨v, hr⟩ := h.ref
  exact ⟨h.tok.below hb, ⟨v, hr.below hb⟩, h.good, h.old⟩
/-- The program's side has turned: what the reference's side must be given. -/
theorem Both.mid {w0 w w' : World} {tb mb dk : Nat} {l : List TRow} {cs : Array Value} (h : Both w0 w tb mb l) (hk : Keeps w w' tb) {lt' : List TRow} (ht : TokS w0 w' tb lt') (hd : w.heap[dk]? = some (.cells cs 27 (0, 0))) (hdk : dk ≠ tb) :
    (∃ v, RTok w' mb v w0.heap.size l) ∧ w'.heap[dk]? = some (.cells cs 27 (0, 0)) ∧ w0.heap.size ≤ w'.heap.size := by
  obtain ⟨v, hr⟩ := h.ref
  obtain ⟨h1, h2⟩ := tok_apart h.tok hr
  exact ⟨⟨v, hr.keeps hk h1 h2⟩, hk.2 dk _ hdk hd (by intro cs fz; simp), ht.bel.size⟩
/-- Both sides have turned. -/
theorem Both.mk2 {w0 w w' : World} {tb mb dk : Nat} {l l2 : List TRow} {v v2 : Value} {cs : Array Value} (ht : TokS w0 w tb l2) (hr : RTok w mb v w0.heap.size l) (hc : W.Chg [mb] w w') (hr2 : RTok w' mb v2 w0.heap.size l2) (hg : Good2 l2) (ho : w0.heap.size ≤ mb) (hd : w.heap[dk]? = some (.cells cs 27 (0, 0))) (hdk : dk ≠ mb) :
    Both w0 w' tb mb l2 ∧ w'.heap[dk]? = some (.cells cs 27 (0, 0)) :=
  ⟨⟨ht.chg hc hr.head ho, ⟨v2, hr2⟩, hg, ho⟩, hc.keep hd (by simp; exact hdk)⟩

set_option maxHeartbeats 8000000 in
set_option maxRecDepth 100000 in
theorem walk (a0 : Option Addr) (len0 cap0 : Nat) (f0 : Nat → TRow) (w : World) (w0 : len0 ≤ maxLen ∧ DeedsAt w w.heap.size a0 len0 f0) :
    Calls Try.prog 7 #[.slice a0 len0 cap0] w fun e w' => e = .returned (.bool true) ∧ Below w.heap.size w w' := by
  obtain ⟨hlen, hd⟩ := w0
  have CA := Lib.hid (awake_any w)
  have HD := Lib.hid hd
  unfold maxLen at hlen
  clear hd
  by_cases h150 : 150 < len0
  · go_enter Try.func7, Try.ntmps7
    go_wp2_with fail
    refine CA.out.mono ?_
    rintro e w1 ⟨rfl, hb1⟩
    go_wp2
    go_ret
    exact ⟨rfl, hb1⟩
  · go_enter Try.func7, Try.ntmps7
    go_wp2_with fail
    refine CA.out.mono ?_
    rintro e w1 ⟨rfl, hb1⟩
    have CN := Lib.hid (new_s w w1 hb1)
    have hs1 := hb1.size
    clear hb1 CA
    go_wp2_with fail
    refine CN.out.mono ?_
    rintro e w2 ⟨rfl, ht2, hb2⟩
    have hs2 := hb2.size
    have HB : Hid (Both w (w2.alloc (.cells #[.slice none 0 0] 57)) w1.heap.size w2.heap.size []) := Lib.hid
      ⟨ht2.below ((Below.refl _ _).alloc (Nat.le_refl _) _), ⟨.slice none 0 0, heap_alloc_new w2 _, World.ownsRow_nil _ _ _ _, by simp [Value.ownBlock]⟩, good2_nil, by omega⟩
    generalize w1.heap.size = tb at *
    generalize hmb : w2.heap.size = mb at *
    clear CN ht2 hb2
    go_wp2
    clear hmb
    go_loopg [5] len0 (fun g' s5 wr => ∃ (j : Nat) (l : List TRow), s5 = .int .i64 j ∧ j ≤ len0 ∧ len0 ≤ j + g' ∧ l.length ≤ j ∧ Hid (Both w wr tb mb l))
    case atStart => exact ⟨0, [], rfl, by omega, by omega, by simp, HB.out⟩
    case round =>
      obtain ⟨j, l, rfl, hj, hjg, hlj, HS⟩ := hrel
      by_cases hlt : j < len0
      · rcases HD.out with h0 | ⟨g, o, rfl, hg, hc⟩
        · omega
        have hjz : (j : Int) < (len0 : Int) := by omega
        have hjz0 : (0 : Int) ≤ (j : Int) := by omega
        have hjz1 : (j : Int).toNat = j := by omega
        obtain ⟨r, hr, c0, c1, c2, c3⟩ : ∃ r, f0 j = r ∧ wr.cell? ⟨g, o + j * 4, none⟩ = some (.int .i64 r.c) ∧ wr.cell? ⟨g, o + j * 4 + 1, none⟩ = some (.int .i64 r.h) ∧
            wr.cell? ⟨g, o + j * 4 + 2, none⟩ = some (.int .i64 r.i) ∧ wr.cell? ⟨g, o + j * 4 + 3, none⟩ = some (.bool r.b) := by
          obtain ⟨c0, c1, c2, c3⟩ := hc j hlt
          have hb := HS.out.tok.bel
          exact ⟨_, rfl, (hb.cell (p := ⟨g, o + j * 4, none⟩) hg).trans c0, (hb.cell (p := ⟨g, o + j * 4 + 1, none⟩) hg).trans c1, (hb.cell (p := ⟨g, o + j * 4 + 2, none⟩) hg).trans c2, (hb.cell (p := ⟨g, o + j * 4 + 3, none⟩) hg).trans c3⟩
        clear hc hr
        have htb : tb < wr.heap.size ∧ mb < wr.heap.size := by
          obtain ⟨v, hr⟩ := HS.out.ref
          obtain ⟨v', base', h1, _⟩ := HS.out.tok
          exact ⟨h1.lt, hr.lt⟩
        have hl1 : l.length ≤ 151 := by omega
        have HS1 : Hid (Both w (wr.alloc (.cells #[.int .i64 r.c, .int .i64 r.h, .int .i64 r.i, .bool r.b] 27)) tb mb l) := Lib.hid (HS.out.below ((Below.refl _ _).alloc (Nat.le_refl _) _))
        have HD1 : Hid ((wr.alloc (.cells #[.int .i64 r.c, .int .i64 r.h, .int .i64 r.i, .bool r.b] 27)).heap[wr.heap.size]? = some (.cells #[.int .i64 r.c, .int .i64 r.h, .int .i64 r.i, .bool r.b] 27 (0, 0))) := Lib.hid (heap_alloc_new wr _)
        have CO := Lib.hid (open_s HS1.out.tok (by omega) r.h r.i r.b)
        have CC := Lib.hid (close_s HS1.out.tok r.h r.i)
        have CD := Lib.hid (drop_s HS1.out.tok r.h)
        go_upto_block 2 with (fail)
        go_cut [7] (fun s7 wx => ∃ l2 : List TRow, s7 = .bool true ∧ l2.length ≤ j + 1 ∧ Hid (Both w wx tb mb l2) ∧ Hid (wx.heap[wr.heap.size]? = some (.cells #[.int .i64 r.c, .int .i64 r.h, .int .i64 r.i, .bool r.b] 27 (0, 0))))
        case first =>
          by_cases h4 : r.c ≤ 4
          · go_wp2_with fail
            refine CO.out.mono ?_
            rintro e w3 ⟨rfl, ht3, hk3⟩
            obtain ⟨⟨v3, hr3⟩, hd3, hs3⟩ := HS1.out.mid hk3 ht3 HD1.out (by omega)
            have m1 := blk_cell hd3 1 _ rfl
            have m2 := blk_cell hd3 2 _ rfl
            have m3 := blk_cell hd3 3 _ rfl
            have CR := Lib.hid (ropen_any mb v3 w.heap.size l r.h r.i r.b w3 hr3 HS1.out.good.good (by omega) hs3)
            have H3 := Lib.hid (And.intro ht3 (And.intro hr3 hd3))
            obtain ⟨z, hz⟩ : ∃ z, z = openR l r.h r.i r.b := ⟨_, rfl⟩
            rw [← hz] at CR H3 ⊢
            have HZ := Lib.hid hz
            clear ht3 hk3 hr3 hd3 CO hz
            go_wp2_with fail
            refine CR.out.mono ?_
            intro e w4 hpost
            obtain ⟨v4, rfl, hr4, hc4⟩ := hpost
            have hb4 := Both.mk2 H3.out.1 H3.out.2.1 hc4 hr4 (by rw [HZ.out]; exact HS1.out.good.opens _ _ _) HS1.out.old H3.out.2.2 (by omega)
            have HB4 := Lib.hid hb4
            clear hr4 hc4 hb4
            go_wp2
            go_meet
            exact ⟨z.2.2, rfl, by rw [HZ.out]; exact Nat.le_trans (open_len _ _ _ _) (by omega), HB4.out.1, HB4.out.2⟩
          · by_cases h6 : r.c ≤ 6
            · go_wp2_with fail
              refine CC.out.mono ?_
              rintro e w3 ⟨rfl, ht3, hk3⟩
              obtain ⟨⟨v3, hr3⟩, hd3, hs3⟩ := HS1.out.mid hk3 ht3 HD1.out (by omega)
              have m1 := blk_cell hd3 1 _ rfl
              have m2 := blk_cell hd3 2 _ rfl
              have CR := Lib.hid (rclose_any mb v3 w.heap.size l r.h r.i w3 hr3 (by omega) hs3)
              rw [close_same l r.h r.i HS1.out.good.good] at CR
              have H3 := Lib.hid (And.intro ht3 (And.intro hr3 hd3))
              obtain ⟨z, hz⟩ : ∃ z, z = closeE (find l r.h r.i) := ⟨_, rfl⟩
              obtain ⟨lc, hlc⟩ : ∃ lc, lc = closeL l (find l r.h r.i) := ⟨_, rfl⟩
              rw [← hlc] at CR H3
              rw [← hz] at CR ⊢
              have HLC := Lib.hid hlc
              clear ht3 hk3 hr3 hd3 CC CO CD hz hlc
              go_wp2_with fail
              refine CR.out.mono ?_
              rintro e w4 ⟨v4, rfl, hr4, hc4⟩
              have hb4 := Both.mk2 H3.out.1 H3.out.2.1 hc4 hr4 (by rw [HLC.out]; exact HS1.out.good.close _ _) HS1.out.old H3.out.2.2 (by omega)
              have HB4 := Lib.hid hb4
              clear hr4 hc4 hb4
              go_wp2
              go_meet
              exact ⟨lc, rfl, by rw [HLC.out]; exact Nat.le_trans (close_len _ _) (by omega), HB4.out.1, HB4.out.2⟩
            · go_wp2_with fail
              refine CD.out.mono ?_
              rintro e w3 ⟨rfl, ht3, hk3⟩
              obtain ⟨⟨v3, hr3⟩, hd3, hs3⟩ := HS1.out.mid hk3 ht3 HD1.out (by omega)
              have m1 := blk_cell hd3 1 _ rfl
              have CR := Lib.hid (rdrop_any mb v3 w.heap.size l r.h w3 hr3 (by omega) hs3)
              have H3 := Lib.hid (And.intro ht3 (And.intro hr3 hd3))
              obtain ⟨lc, hlc⟩ : ∃ lc, lc = keep (fun x => x.c == r.h) l := ⟨_, rfl⟩
              rw [← hlc] at CR H3 ⊢
              obtain ⟨z, hz⟩ : ∃ z : Int, z = (l.length : Int) - (lc.length : Int) := ⟨_, rfl⟩
              rw [← hz] at CR ⊢
              have HLC := Lib.hid hlc
              clear ht3 hk3 hr3 hd3 CC CO CD hz hlc
              go_wp2_with fail
              refine CR.out.mono ?_
              rintro e w4 ⟨v4, rfl, hr4, hc4⟩
              have hb4 := Both.mk2 H3.out.1 H3.out.2.1 hc4 hr4 (by rw [HLC.out]; exact HS1.out.good.drop _) HS1.out.old H3.out.2.2 (by omega)
              have HB4 := Lib.hid hb4
              clear hr4 hc4 hb4
              go_wp2
              go_meet
              exact ⟨lc, rfl, by rw [HLC.out]; exact Nat.le_trans (List.length_filter_le _ _) (by omega), HB4.out.1, HB4.out.2⟩
        case rest =>
          obtain ⟨l2, rfl, hl2, HS2, HD2⟩ := hcut
          obtain ⟨vr, hvr⟩ := HS2.out.ref
          have hpb : mb < wc.heap.size := hvr.lt
          have hl2' : l2.length ≤ 151 := by omega
          have hw2 := HS2.out.tok.bel.size
          have hb0 : Below wc.heap.size wc (wc.alloc (.cells #[.slice none 0 0, .int .i64 0] 64)) := (Below.refl _ _).alloc (Nat.le_refl _) _
          have CW := Lib.hid (rwrite_any mb vr w.heap.size l2 wc.heap.size none _ (hvr.below hb0) ⟨_, heap_alloc_new wc _, W.BRow.nil _, rfl, by simp, by simp⟩ (by omega) (by simp) (fun e => by have := (hvr.rows.lt _ e).2; omega) (by
            cases h : vr.ownBlock with
            | none => exact .inl rfl
            | some k => exact .inr (by simp)) HS2.out.good.inR (by omega))
          have HB0 := Lib.hid hb0
          have hs0 : (wc.alloc (.cells #[.slice none 0 0, .int .i64 0] 64)).heap.size = wc.heap.size + 1 := by simp
          have hdl : wr.heap.size < wc.heap.size := lt_of_block HD2.out
          clear hvr hb0
          go_wp2_with fail
          refine CW.out.mono ?_
          rintro e w5 ⟨rfl, hw5⟩
          obtain ⟨g5, hp5, _, hc5⟩ := hw5
          have HB5 : Hid (Below wc.heap.size wc w5) := Lib.hid (W.Chg.to_below HB0.out hc5 (by omega) (by intro x hx; simp at hx; omega))
          have HP5 := Lib.hid hp5
          have HS5 := Lib.hid (HS2.out.below HB5.out)
          have hd5 := (HB5.out.block _ hdl).trans HD2.out
          have n1 := blk_cell hd5 1 _ rfl
          have n2 := blk_cell hd5 2 _ rfl
          obtain ⟨yc, yh, yi, yb, q, hoa⟩ := ofAns_form (find l2 r.h r.i)
          have HOA := Lib.hid hoa
          have C5 := of_s HS5.out.tok r.h r.i
          rw [hoa] at C5
          have CO5 := Lib.hid C5
          clear C5 hoa
          have HD5 := Lib.hid hd5
          clear hp5 hc5 hd5 CW
          go_wp2_with fail
          refine CO5.out.mono ?_
          rintro e w6 ⟨rfl, ht6, hb6⟩
          have HB6 := Lib.hid (HB5.out.trans (hb6.mono HB5.out.size))
          have HC6 : Hid (Below w5.heap.size w5 (w6.alloc (.cells #[.int .i64 yc, .int .i64 yh, .int .i64 yi, .bool yb] 35))) := Lib.hid (hb6.alloc hb6.size _)
          have HA6 : Hid (Below wc.heap.size wc (w6.alloc (.cells #[.int .i64 yc, .int .i64 yh, .int .i64 yi, .bool yb] 35))) := Lib.hid (HB6.out.alloc HB6.out.size _)
          have HT6 : Hid ((w6.alloc (.cells #[.int .i64 yc, .int .i64 yh, .int .i64 yi, .bool yb] 35)).heap[w6.heap.size]? = some (.cells #[.int .i64 yc, .int .i64 yh, .int .i64 yi, .bool yb] 35 (0, 0))) := Lib.hid (heap_alloc_new w6 _)
          have HS6 := Lib.hid (HS2.out.below HA6.out)
          obtain ⟨v6, hv6⟩ := HS6.out.ref
          have C6 := rof_any mb v6 w.heap.size l2 r.h r.i _ hv6 (by omega)
          rw [HOA.out] at C6
          have CO6 := Lib.hid C6
          have hd6 := (HA6.out.block _ hdl).trans HD2.out
          have o1 := blk_cell hd6 1 _ rfl
          have o2 := blk_cell hd6 2 _ rfl
          clear C6 hv6 hd6 n1 n2 ht6 hb6 CO5
          go_wp2_with fail
          refine CO6.out.mono ?_
          rintro e w7 ⟨rfl, hb7⟩
          have HB7 : Hid (Below wc.heap.size wc (w7.alloc (.cells #[.int .i64 yc, .int .i64 yh, .int .i64 yi, .bool yb] 66))) := Lib.hid ((HA6.out.trans (hb7.mono HA6.out.size)).alloc (by have := HA6.out.size; have := hb7.size; omega) _)
          have HC7 : Hid (Below w5.heap.size w5 (w7.alloc (.cells #[.int .i64 yc, .int .i64 yh, .int .i64 yi, .bool yb] 66))) := Lib.hid ((HC6.out.trans (hb7.mono HC6.out.size)).alloc (by have := HC6.out.size; have := hb7.size; omega) _)
          have HT7 : Hid ((w7.alloc (.cells #[.int .i64 yc, .int .i64 yh, .int .i64 yi, .bool yb] 66)).heap[w6.heap.size]? = some (.cells #[.int .i64 yc, .int .i64 yh, .int .i64 yi, .bool yb] 35 (0, 0))) := Lib.hid (W.blk_alloc ((hb7.block _ (by simp)).trans HT6.out))
          have HU7 : Hid ((w7.alloc (.cells #[.int .i64 yc, .int .i64 yh, .int .i64 yi, .bool yb] 66)).heap[w7.heap.size]? = some (.cells #[.int .i64 yc, .int .i64 yh, .int .i64 yi, .bool yb] 66 (0, 0))) := Lib.hid (heap_alloc_new w7 _)
          clear hb7 CO6 o1 o2 HC6 HT6 HS6 HB6 HA6
          go_wp2
          obtain ⟨X, hX⟩ : ∃ X, X = w7.alloc (.cells #[.int .i64 yc, .int .i64 yh, .int .i64 yi, .bool yb] 66) := ⟨_, rfl⟩
          rw [← hX] at HB7 HC7 HT7 HU7 ⊢
          clear hX
          have HB2 : Hid (Both w X tb mb l2) := Lib.hid (HS2.out.below HB7.out)
          obtain ⟨vX, hvX⟩ := HB2.out.ref
          have HVX := Lib.hid hvX
          obtain ⟨am, cm, rfl, hcm, hrm⟩ := rown_rows hvX.rows
          have HRM := Lib.hid hrm
          have x1 : X.cell? ⟨wr.heap.size, 2, none⟩ = some (.int .i64 r.i) := blk_cell ((HB7.out.block _ hdl).trans HD2.out) 2 _ rfl
          have x2 : X.cell? ⟨mb, 0, none⟩ = some (.slice am l2.length cm) := blk_cell hvX.head 0 _ rfl
          obtain ⟨B, hB⟩ : ∃ B, B = tokBytes l2 := ⟨_, rfl⟩
          have HPX := HP5.out.keep (W.Chg.of_below (S := []) HC7.out) (by simp) (by simp)
          rw [← hB] at HPX
          obtain ⟨vp, hp1, hp2, hp3, hp4, hp5⟩ := HPX
          obtain ⟨ap, cp, rfl⟩ := hp2.slice
          have x3 : X.cell? ⟨wc.heap.size, 0, none⟩ = some (.slice ap B.length cp) := blk_cell hp1 0 _ rfl
          have x4 : X.cell? ⟨w6.heap.size, 2, none⟩ = some (.int .i64 yi) := blk_cell HT7.out 2 _ rfl
          have x5 : X.cell? ⟨w6.heap.size, 3, none⟩ = some (.bool yb) := blk_cell HT7.out 3 _ rfl
          have x6 : X.cell? ⟨w7.heap.size, 2, none⟩ = some (.int .i64 yi) := blk_cell HU7.out 2 _ rfl
          have x7 : X.cell? ⟨w7.heap.size, 3, none⟩ = some (.bool yb) := blk_cell HU7.out 3 _ rfl
          obtain ⟨z, hz⟩ : ∃ z, z = has (fun x => x.i == r.i) l2 := ⟨_, rfl⟩
          have CY4 := Lib.hid (c_rows HB2.out.tok)
          have CY5 := Lib.hid (c_model (X := X) (l := l2) (by omega))
          have CY10 := Lib.hid (c_samet (X := X) (l := l2) (by omega) (cr := cm) hrm)
          have CY17 := Lib.hid (c_busy HB2.out.tok hz)
          have CY21 := Lib.hid (c_rbusy hvX (by omega) hz)
          have CY26 := Lib.hid (c_bytes HB2.out.tok HB2.out.good.inR (by omega) hB)
          have CY31 := Lib.hid (fun Y a c h1 hW => c_same (X := X) (B := B) (by omega) hp2.bytes Y a c h1 (fun g hg => hp2.lt g hg) hW)
          clear hvX hrm hp1 hp2 hp3 hp4 hp5 hz hB
          --REGION27 (printed by gen_plays.py)
          refine wp_region_held_drew (S := fun w' => Hid (Below X.heap.size X w') ∧ w'.cell? ⟨wr.heap.size, 2, none⟩ = some (.int .i64 r.i) ∧ w'.cell? ⟨mb, 0, none⟩ = some (.slice am l2.length cm) ∧ w'.cell? ⟨wc.heap.size, 0, none⟩ = some (.slice ap B.length cp) ∧ w'.cell? ⟨w6.heap.size, 2, none⟩ = some (.int .i64 yi) ∧ w'.cell? ⟨w6.heap.size, 3, none⟩ = some (.bool yb) ∧ w'.cell? ⟨w7.heap.size, 2, none⟩ = some (.int .i64 yi) ∧ w'.cell? ⟨w7.heap.size, 3, none⟩ = some (.bool yb)) (by kernel_rfl) ?_ (fun hHeld => ?_)
          · exact ⟨Lib.hid ((Below.refl _ _).drew), x1, x2, x3, x4, x5, x6, x7⟩
          refine wpAnyH_take (i := 0) (oi := _) (v := ?_) rfl (by kernel_rfl) (by kernel_rfl) (by kernel_rfl) (fun _ _ _ h => h) (Or.inl ⟨by rfl, ?_⟩) (by assumption) ?_
          rotate_left
          · intro w hSw
            (try dsimp only at hSw)
            go_simp
            try with_reducible rfl
          try simp only [List.getElem_toArray, List.getElem_cons_succ, List.getElem_cons_zero, Act.put, List.setIfInBounds_toArray, List.set_cons_zero, List.set_cons_succ]
          refine wpAnyH_take (i := 1) (oi := _) (v := ?_) rfl (by kernel_rfl) (by kernel_rfl) (by kernel_rfl) (fun _ _ _ h => h) (Or.inl ⟨by rfl, ?_⟩) (by assumption) ?_
          rotate_left
          · intro w hSw
            (try dsimp only at hSw)
            go_simp
            try with_reducible rfl
          try simp only [List.getElem_toArray, List.getElem_cons_succ, List.getElem_cons_zero, Act.put, List.setIfInBounds_toArray, List.set_cons_zero, List.set_cons_succ]
          refine wpAnyH_take (i := 2) (oi := _) (v := ?_) rfl (by kernel_rfl) (by kernel_rfl) (by kernel_rfl) (fun _ _ _ h => h) (Or.inl ⟨by rfl, ?_⟩) (by assumption) ?_
          rotate_left
          · intro w hSw
            (try dsimp only at hSw)
            go_simp
            try with_reducible rfl
          try simp only [List.getElem_toArray, List.getElem_cons_succ, List.getElem_cons_zero, Act.put, List.setIfInBounds_toArray, List.set_cons_zero, List.set_cons_succ]
          refine wpAnyH_take (i := 3) (oi := _) (v := ?_) rfl (by kernel_rfl) (by kernel_rfl) (by kernel_rfl) (fun _ _ _ h => h) (Or.inl ⟨by rfl, ?_⟩) (by assumption) ?_
          rotate_left
          · intro w hSw
            (try dsimp only at hSw)
            go_simp
            try with_reducible rfl
          try simp only [List.getElem_toArray, List.getElem_cons_succ, List.getElem_cons_zero, Act.put, List.setIfInBounds_toArray, List.set_cons_zero, List.set_cons_succ]
          refine wpAnyH_take (i := 6) (oi := _) (v := ?_) rfl (by kernel_rfl) (by kernel_rfl) (by kernel_rfl) (fun _ _ _ h => h) (Or.inl ⟨by rfl, ?_⟩) (by assumption) ?_
          rotate_left
          · intro w hSw
            (try dsimp only at hSw)
            go_simp
            try with_reducible rfl
          try simp only [List.getElem_toArray, List.getElem_cons_succ, List.getElem_cons_zero, Act.put, List.setIfInBounds_toArray, List.set_cons_zero, List.set_cons_succ]
          refine wpAnyH_take (i := 7) (oi := _) (v := ?_) rfl (by kernel_rfl) (by kernel_rfl) (by kernel_rfl) (fun _ _ _ h => h) (Or.inl ⟨by rfl, ?_⟩) (by assumption) ?_
          rotate_left
          · intro w hSw
            (try dsimp only at hSw)
            go_simp
            try with_reducible rfl
          try simp only [List.getElem_toArray, List.getElem_cons_succ, List.getElem_cons_zero, Act.put, List.setIfInBounds_toArray, List.set_cons_zero, List.set_cons_succ]
          refine wpAnyH_take (i := 8) (oi := _) (v := ?_) rfl (by kernel_rfl) (by kernel_rfl) (by kernel_rfl) (fun _ _ _ h => h) (Or.inl ⟨by rfl, ?_⟩) (by assumption) ?_
          rotate_left
          · intro w hSw
            (try dsimp only at hSw)
            go_simp
            try with_reducible rfl
          try simp only [List.getElem_toArray, List.getElem_cons_succ, List.getElem_cons_zero, Act.put, List.setIfInBounds_toArray, List.set_cons_zero, List.set_cons_succ]
          refine wpAnyH_take (i := 9) (oi := _) (v := ?_) rfl (by kernel_rfl) (by kernel_rfl) (by kernel_rfl) (fun _ _ _ h => h) (Or.inl ⟨by rfl, ?_⟩) (by assumption) ?_
          rotate_left
          · intro w hSw
            (try dsimp only at hSw)
            go_simp
            try with_reducible rfl
          try simp only [List.getElem_toArray, List.getElem_cons_succ, List.getElem_cons_zero, Act.put, List.setIfInBounds_toArray, List.set_cons_zero, List.set_cons_succ]
          refine wpAnyH_ready (rs := [4]) (by kernel_rfl) (by simp) ?_
          refine AllReadyH.cons (o := _) rfl (fun K hK => ?_) AllReadyH.nil
          try simp only [List.getElem_toArray, List.getElem_cons_succ, List.getElem_cons_zero]
          go_simp
          refine (CY4.out _ ((Below.refl _ _).drew)).mono ?_; rintro e y1 ⟨a1, c1, rfl, HR1, HY1⟩
          try go_wp2_with fail
          refine hK.out _ _ ?_ (fun hHeld => ?_)
          · exact ⟨HY1, cellK HY1 x1, cellK HY1 x2, cellK HY1 x3, cellK HY1 x4, cellK HY1 x5, cellK HY1 x6, cellK HY1 x7⟩
          clear hK K
          try simp only [List.getElem_toArray, List.getElem_cons_succ, List.getElem_cons_zero, Act.put, List.setIfInBounds_toArray, List.set_cons_zero, List.set_cons_succ]
          refine wpAnyH_ready (rs := [5]) (by kernel_rfl) (by simp) ?_
          refine AllReadyH.cons (o := _) rfl (fun K hK => ?_) AllReadyH.nil
          try simp only [List.getElem_toArray, List.getElem_cons_succ, List.getElem_cons_zero]
          go_simp
          refine (CY5.out _ _ _ HR1.out HY1.out).mono ?_; rintro e y2 ⟨a2, c2, rfl, HR2, HY2⟩
          try go_wp2_with fail
          refine hK.out _ _ ?_ (fun hHeld => ?_)
          · exact ⟨HY2, cellK HY2 x1, cellK HY2 x2, cellK HY2 x3, cellK HY2 x4, cellK HY2 x5, cellK HY2 x6, cellK HY2 x7⟩
          clear hK K
          try simp only [List.getElem_toArray, List.getElem_cons_succ, List.getElem_cons_zero, Act.put, List.setIfInBounds_toArray, List.set_cons_zero, List.set_cons_succ]
          refine wpAnyH_ready (rs := [10]) (by kernel_rfl) (by simp) ?_
          refine AllReadyH.cons (o := _) rfl (fun K hK => ?_) AllReadyH.nil
          try simp only [List.getElem_toArray, List.getElem_cons_succ, List.getElem_cons_zero]
          go_simp
          refine (CY10.out _ _ _ HR2.out HY2.out).mono ?_; rintro e y3 ⟨rfl, HY3⟩
          try go_wp2_with fail
          refine hK.out _ _ ?_ (fun hHeld => ?_)
          · exact ⟨HY3, cellK HY3 x1, cellK HY3 x2, cellK HY3 x3, cellK HY3 x4, cellK HY3 x5, cellK HY3 x6, cellK HY3 x7⟩
          clear hK K
          try simp only [List.getElem_toArray, List.getElem_cons_succ, List.getElem_cons_zero, Act.put, List.setIfInBounds_toArray, List.set_cons_zero, List.set_cons_succ]
          refine wpAnyH_take (i := 11) (oi := _) (v := ?_) rfl (by kernel_rfl) (by kernel_rfl) (by kernel_rfl) (fun _ _ _ h => h) (Or.inl ⟨by rfl, ?_⟩) (by assumption) ?_
          rotate_left
          · intro w hSw
            (try dsimp only at hSw)
            go_simp
            try with_reducible rfl
          try simp only [List.getElem_toArray, List.getElem_cons_succ, List.getElem_cons_zero, Act.put, List.setIfInBounds_toArray, List.set_cons_zero, List.set_cons_succ]
          refine wpAnyH_take (i := 12) (oi := _) (v := ?_) rfl (by kernel_rfl) (by kernel_rfl) (by kernel_rfl) (fun _ _ _ h => h) (Or.inl ⟨by rfl, ?_⟩) (by assumption) ?_
          rotate_left
          · intro w hSw
            (try dsimp only at hSw)
            go_simp
            try with_reducible rfl
          try simp only [List.getElem_toArray, List.getElem_cons_succ, List.getElem_cons_zero, Act.put, List.setIfInBounds_toArray, List.set_cons_zero, List.set_cons_succ]
          refine wpAnyH_take (i := 13) (oi := _) (v := ?_) rfl (by kernel_rfl) (by kernel_rfl) (by kernel_rfl) (fun _ _ _ h => h) (Or.inl ⟨by rfl, ?_⟩) (by assumption) ?_
          rotate_left
          · intro w hSw
            (try dsimp only at hSw)
            go_simp
            try with_reducible rfl
          try simp only [List.getElem_toArray, List.getElem_cons_succ, List.getElem_cons_zero, Act.put, List.setIfInBounds_toArray, List.set_cons_zero, List.set_cons_succ]
          refine wpAnyH_take (i := 14) (oi := _) (v := ?_) rfl (by kernel_rfl) (by kernel_rfl) (by kernel_rfl) (fun _ _ _ h => h) (Or.inl ⟨by rfl, ?_⟩) (by assumption) ?_
          rotate_left
          · intro w hSw
            (try dsimp only at hSw)
            go_simp
            try with_reducible rfl
          try simp only [List.getElem_toArray, List.getElem_cons_succ, List.getElem_cons_zero, Act.put, List.setIfInBounds_toArray, List.set_cons_zero, List.set_cons_succ]
          refine wpAnyH_take (i := 15) (oi := _) (v := ?_) rfl (by kernel_rfl) (by kernel_rfl) (by kernel_rfl) (fun _ _ _ h => h) (Or.inl ⟨by rfl, ?_⟩) (by assumption) ?_
          rotate_left
          · intro w hSw
            (try dsimp only at hSw)
            go_simp
            try with_reducible rfl
          try simp only [List.getElem_toArray, List.getElem_cons_succ, List.getElem_cons_zero, Act.put, List.setIfInBounds_toArray, List.set_cons_zero, List.set_cons_succ]
          refine wpAnyH_take (i := 16) (oi := _) (v := ?_) rfl (by kernel_rfl) (by kernel_rfl) (by kernel_rfl) (fun _ _ _ h => h) (Or.inl ⟨by rfl, ?_⟩) (by assumption) ?_
          rotate_left
          · intro w hSw
            (try dsimp only at hSw)
            go_simp
            try with_reducible rfl
          try simp only [List.getElem_toArray, List.getElem_cons_succ, List.getElem_cons_zero, Act.put, List.setIfInBounds_toArray, List.set_cons_zero, List.set_cons_succ]
          refine wpAnyH_take (i := 18) (oi := _) (v := ?_) rfl (by kernel_rfl) (by kernel_rfl) (by kernel_rfl) (fun _ _ _ h => h) (Or.inl ⟨by rfl, ?_⟩) (by assumption) ?_
          rotate_left
          · intro w hSw
            (try dsimp only at hSw)
            go_simp
            try with_reducible rfl
          try simp only [List.getElem_toArray, List.getElem_cons_succ, List.getElem_cons_zero, Act.put, List.setIfInBounds_toArray, List.set_cons_zero, List.set_cons_succ]
          refine wpAnyH_take (i := 19) (oi := _) (v := ?_) rfl (by kernel_rfl) (by kernel_rfl) (by kernel_rfl) (fun _ _ _ h => h) (Or.inl ⟨by rfl, ?_⟩) (by assumption) ?_
          rotate_left
          · intro w hSw
            (try dsimp only at hSw)
            go_simp
            try with_reducible rfl
          try simp only [List.getElem_toArray, List.getElem_cons_succ, List.getElem_cons_zero, Act.put, List.setIfInBounds_toArray, List.set_cons_zero, List.set_cons_succ]
          refine wpAnyH_take (i := 20) (oi := _) (v := ?_) rfl (by kernel_rfl) (by kernel_rfl) (by kernel_rfl) (fun _ _ _ h => h) (Or.inl ⟨by rfl, ?_⟩) (by assumption) ?_
          rotate_left
          · intro w hSw
            (try dsimp only at hSw)
            go_simp
            try with_reducible rfl
          try simp only [List.getElem_toArray, List.getElem_cons_succ, List.getElem_cons_zero, Act.put, List.setIfInBounds_toArray, List.set_cons_zero, List.set_cons_succ]
          refine wpAnyH_ready (rs := [17]) (by kernel_rfl) (by simp) ?_
          refine AllReadyH.cons (o := _) rfl (fun K hK => ?_) AllReadyH.nil
          try simp only [List.getElem_toArray, List.getElem_cons_succ, List.getElem_cons_zero]
          go_simp
          refine (CY17.out _ HY3.out).mono ?_; rintro e y4 ⟨rfl, HY4⟩
          try go_wp2_with fail
          refine hK.out _ _ ?_ (fun hHeld => ?_)
          · exact ⟨HY4, cellK HY4 x1, cellK HY4 x2, cellK HY4 x3, cellK HY4 x4, cellK HY4 x5, cellK HY4 x6, cellK HY4 x7⟩
          clear hK K
          try simp only [List.getElem_toArray, List.getElem_cons_succ, List.getElem_cons_zero, Act.put, List.setIfInBounds_toArray, List.set_cons_zero, List.set_cons_succ]
          refine wpAnyH_ready (rs := [21]) (by kernel_rfl) (by simp) ?_
          refine AllReadyH.cons (o := _) rfl (fun K hK => ?_) AllReadyH.nil
          try simp only [List.getElem_toArray, List.getElem_cons_succ, List.getElem_cons_zero]
          go_simp
          refine (CY21.out _ HY4.out).mono ?_; rintro e y5 ⟨rfl, HY5⟩
          try go_wp2_with fail
          refine hK.out _ _ ?_ (fun hHeld => ?_)
          · exact ⟨HY5, cellK HY5 x1, cellK HY5 x2, cellK HY5 x3, cellK HY5 x4, cellK HY5 x5, cellK HY5 x6, cellK HY5 x7⟩
          clear hK K
          try simp only [List.getElem_toArray, List.getElem_cons_succ, List.getElem_cons_zero, Act.put, List.setIfInBounds_toArray, List.set_cons_zero, List.set_cons_succ]
          refine wpAnyH_take (i := 22) (oi := _) (v := ?_) rfl (by kernel_rfl) (by kernel_rfl) (by kernel_rfl) (fun _ _ _ h => h) (Or.inl ⟨by rfl, ?_⟩) (by assumption) ?_
          rotate_left
          · intro w hSw
            (try dsimp only at hSw)
            go_simp
            try with_reducible rfl
          try simp only [List.getElem_toArray, List.getElem_cons_succ, List.getElem_cons_zero, Act.put, List.setIfInBounds_toArray, List.set_cons_zero, List.set_cons_succ]
          refine wpAnyH_take (i := 23) (oi := _) (v := ?_) rfl (by kernel_rfl) (by kernel_rfl) (by kernel_rfl) (fun _ _ _ h => h) (Or.inl ⟨by rfl, ?_⟩) (by assumption) ?_
          rotate_left
          · intro w hSw
            (try dsimp only at hSw)
            go_simp
            try with_reducible rfl
          try simp only [List.getElem_toArray, List.getElem_cons_succ, List.getElem_cons_zero, Act.put, List.setIfInBounds_toArray, List.set_cons_zero, List.set_cons_succ]
          refine wpAnyH_take (i := 24) (oi := _) (v := ?_) rfl (by kernel_rfl) (by kernel_rfl) (by kernel_rfl) (fun _ _ _ h => h) (Or.inl ⟨by rfl, ?_⟩) (by assumption) ?_
          rotate_left
          · intro w hSw
            (try dsimp only at hSw)
            go_simp
            try with_reducible rfl
          try simp only [List.getElem_toArray, List.getElem_cons_succ, List.getElem_cons_zero, Act.put, List.setIfInBounds_toArray, List.set_cons_zero, List.set_cons_succ]
          refine wpAnyH_take (i := 25) (oi := _) (v := ?_) rfl (by kernel_rfl) (by kernel_rfl) (by kernel_rfl) (fun _ _ _ h => h) (Or.inl ⟨by rfl, ?_⟩) (by assumption) ?_
          rotate_left
          · intro w hSw
            (try dsimp only at hSw)
            go_simp
            try with_reducible rfl
          try simp only [List.getElem_toArray, List.getElem_cons_succ, List.getElem_cons_zero, Act.put, List.setIfInBounds_toArray, List.set_cons_zero, List.set_cons_succ]
          refine wpAnyH_take (i := 27) (oi := _) (v := ?_) rfl (by kernel_rfl) (by kernel_rfl) (by kernel_rfl) (fun _ _ _ h => h) (Or.inl ⟨by rfl, ?_⟩) (by assumption) ?_
          rotate_left
          · intro w hSw
            (try dsimp only at hSw)
            go_simp
            try with_reducible rfl
          try simp only [List.getElem_toArray, List.getElem_cons_succ, List.getElem_cons_zero, Act.put, List.setIfInBounds_toArray, List.set_cons_zero, List.set_cons_succ]
          refine wpAnyH_take (i := 28) (oi := _) (v := ?_) rfl (by kernel_rfl) (by kernel_rfl) (by kernel_rfl) (fun _ _ _ h => h) (Or.inl ⟨by rfl, ?_⟩) (by assumption) ?_
          rotate_left
          · intro w hSw
            (try dsimp only at hSw)
            go_simp
            try with_reducible rfl
          try simp only [List.getElem_toArray, List.getElem_cons_succ, List.getElem_cons_zero, Act.put, List.setIfInBounds_toArray, List.set_cons_zero, List.set_cons_succ]
          refine wpAnyH_take (i := 29) (oi := _) (v := ?_) rfl (by kernel_rfl) (by kernel_rfl) (by kernel_rfl) (fun _ _ _ h => h) (Or.inl ⟨by rfl, ?_⟩) (by assumption) ?_
          rotate_left
          · intro w hSw
            (try dsimp only at hSw)
            go_simp
            try with_reducible rfl
          try simp only [List.getElem_toArray, List.getElem_cons_succ, List.getElem_cons_zero, Act.put, List.setIfInBounds_toArray, List.set_cons_zero, List.set_cons_succ]
          refine wpAnyH_take (i := 30) (oi := _) (v := ?_) rfl (by kernel_rfl) (by kernel_rfl) (by kernel_rfl) (fun _ _ _ h => h) (Or.inl ⟨by rfl, ?_⟩) (by assumption) ?_
          rotate_left
          · intro w hSw
            (try dsimp only at hSw)
            go_simp
            try with_reducible rfl
          try simp only [List.getElem_toArray, List.getElem_cons_succ, List.getElem_cons_zero, Act.put, List.setIfInBounds_toArray, List.set_cons_zero, List.set_cons_succ]
          refine wpAnyH_ready (rs := [26]) (by kernel_rfl) (by simp) ?_
          refine AllReadyH.cons (o := _) rfl (fun K hK => ?_) AllReadyH.nil
          try simp only [List.getElem_toArray, List.getElem_cons_succ, List.getElem_cons_zero]
          go_simp
          refine (CY26.out _ HY5.out).mono ?_; rintro e y6 ⟨a6, c6, rfl, HB6, HY6⟩
          try go_wp2_with fail
          refine hK.out _ _ ?_ (fun hHeld => ?_)
          · exact ⟨HY6, cellK HY6 x1, cellK HY6 x2, cellK HY6 x3, cellK HY6 x4, cellK HY6 x5, cellK HY6 x6, cellK HY6 x7⟩
          clear hK K
          try simp only [List.getElem_toArray, List.getElem_cons_succ, List.getElem_cons_zero, Act.put, List.setIfInBounds_toArray, List.set_cons_zero, List.set_cons_succ]
          refine wpAnyH_ready (rs := [31]) (by kernel_rfl) (by simp) ?_
          refine AllReadyH.cons (o := _) rfl (fun K hK => ?_) AllReadyH.nil
          try simp only [List.getElem_toArray, List.getElem_cons_succ, List.getElem_cons_zero]
          go_simp
          refine (CY31.out _ _ _ HB6.out HY6.out).mono ?_; rintro e y7 ⟨rfl, HY7⟩
          try go_wp2_with fail
          refine hK.out _ _ ?_ (fun hHeld => ?_)
          · exact ⟨HY7, cellK HY7 x1, cellK HY7 x2, cellK HY7 x3, cellK HY7 x4, cellK HY7 x5, cellK HY7 x6, cellK HY7 x7⟩
          clear hK K
          try simp only [List.getElem_toArray, List.getElem_cons_succ, List.getElem_cons_zero, Act.put, List.setIfInBounds_toArray, List.set_cons_zero, List.set_cons_succ]
          refine wpAnyH_take (i := 32) (oi := _) (v := ?_) rfl (by kernel_rfl) (by kernel_rfl) (by kernel_rfl) (fun _ _ _ h => h) (Or.inl ⟨by rfl, ?_⟩) (by assumption) ?_
          rotate_left
          · intro w hSw
            (try dsimp only at hSw)
            go_simp
            try with_reducible rfl
          try simp only [List.getElem_toArray, List.getElem_cons_succ, List.getElem_cons_zero, Act.put, List.setIfInBounds_toArray, List.set_cons_zero, List.set_cons_succ]
          refine wpAnyH_take (i := 33) (oi := _) (v := ?_) rfl (by kernel_rfl) (by kernel_rfl) (by kernel_rfl) (fun _ _ _ h => h) (Or.inl ⟨by rfl, ?_⟩) (by assumption) ?_
          rotate_left
          · intro w hSw
            (try dsimp only at hSw)
            go_simp
            try with_reducible rfl
          try simp only [List.getElem_toArray, List.getElem_cons_succ, List.getElem_cons_zero, Act.put, List.setIfInBounds_toArray, List.set_cons_zero, List.set_cons_succ]
          refine wpAnyH_take (i := 34) (oi := _) (v := ?_) rfl (by kernel_rfl) (by kernel_rfl) (by kernel_rfl) (fun _ _ _ h => h) (Or.inl ⟨by rfl, ?_⟩) (by assumption) ?_
          rotate_left
          · intro w hSw
            (try dsimp only at hSw)
            go_simp
            try with_reducible rfl
          try simp only [List.getElem_toArray, List.getElem_cons_succ, List.getElem_cons_zero, Act.put, List.setIfInBounds_toArray, List.set_cons_zero, List.set_cons_succ]
          refine wpAnyH_take (i := 35) (oi := _) (v := ?_) rfl (by kernel_rfl) (by kernel_rfl) (by kernel_rfl) (fun _ _ _ h => h) (Or.inl ⟨by rfl, ?_⟩) (by assumption) ?_
          rotate_left
          · intro w hSw
            (try dsimp only at hSw)
            go_simp
            try with_reducible rfl
          try simp only [List.getElem_toArray, List.getElem_cons_succ, List.getElem_cons_zero, Act.put, List.setIfInBounds_toArray, List.set_cons_zero, List.set_cons_succ]
          refine wpAnyH_take (i := 36) (oi := _) (v := ?_) rfl (by kernel_rfl) (by kernel_rfl) (by kernel_rfl) (fun _ _ _ h => h) (Or.inl ⟨by rfl, ?_⟩) (by assumption) ?_
          rotate_left
          · intro w hSw
            (try dsimp only at hSw)
            go_simp
            try with_reducible rfl
          try simp only [List.getElem_toArray, List.getElem_cons_succ, List.getElem_cons_zero, Act.put, List.setIfInBounds_toArray, List.set_cons_zero, List.set_cons_succ]
          refine wpAnyH_take (i := 37) (oi := _) (v := ?_) rfl (by kernel_rfl) (by kernel_rfl) (by kernel_rfl) (fun _ _ _ h => h) (Or.inl ⟨by rfl, ?_⟩) (by assumption) ?_
          rotate_left
          · intro w hSw
            (try dsimp only at hSw)
            go_simp
            try with_reducible rfl
          try simp only [List.getElem_toArray, List.getElem_cons_succ, List.getElem_cons_zero, Act.put, List.setIfInBounds_toArray, List.set_cons_zero, List.set_cons_succ]
          refine wpAnyH_take (i := 38) (oi := _) (v := ?_) rfl (by kernel_rfl) (by kernel_rfl) (by kernel_rfl) (fun _ _ _ h => h) (Or.inl ⟨by rfl, ?_⟩) (by assumption) ?_
          rotate_left
          · intro w hSw
            (try dsimp only at hSw)
            go_simp
            try with_reducible rfl
          try simp only [List.getElem_toArray, List.getElem_cons_succ, List.getElem_cons_zero, Act.put, List.setIfInBounds_toArray, List.set_cons_zero, List.set_cons_succ]
          refine wpAnyH_take (i := 39) (oi := _) (v := ?_) rfl (by kernel_rfl) (by kernel_rfl) (by kernel_rfl) (fun _ _ _ h => h) (Or.inl ⟨by rfl, ?_⟩) (by assumption) ?_
          rotate_left
          · intro w hSw
            (try dsimp only at hSw)
            go_simp
            try with_reducible rfl
          try simp only [List.getElem_toArray, List.getElem_cons_succ, List.getElem_cons_zero, Act.put, List.setIfInBounds_toArray, List.set_cons_zero, List.set_cons_succ]
          refine wpAnyH_take (i := 40) (oi := _) (v := ?_) rfl (by kernel_rfl) (by kernel_rfl) (by kernel_rfl) (fun _ _ _ h => h) (Or.inl ⟨by rfl, ?_⟩) (by assumption) ?_
          rotate_left
          · intro w hSw
            (try dsimp only at hSw)
            go_simp
            try with_reducible rfl
          try simp only [List.getElem_toArray, List.getElem_cons_succ, List.getElem_cons_zero, Act.put, List.setIfInBounds_toArray, List.set_cons_zero, List.set_cons_succ]
          refine wpAnyH_take (i := 41) (oi := _) (v := ?_) rfl (by kernel_rfl) (by kernel_rfl) (by kernel_rfl) (fun _ _ _ h => h) (Or.inl ⟨by rfl, ?_⟩) (by assumption) ?_
          rotate_left
          · intro w hSw
            (try dsimp only at hSw)
            go_simp
            try with_reducible rfl
          try simp only [List.getElem_toArray, List.getElem_cons_succ, List.getElem_cons_zero, Act.put, List.setIfInBounds_toArray, List.set_cons_zero, List.set_cons_succ]
          refine wpAnyH_take (i := 42) (oi := _) (v := ?_) rfl (by kernel_rfl) (by kernel_rfl) (by kernel_rfl) (fun _ _ _ h => h) (Or.inl ⟨by rfl, ?_⟩) (by assumption) ?_
          rotate_left
          · intro w hSw
            (try dsimp only at hSw)
            go_simp
            try with_reducible rfl
          try simp only [List.getElem_toArray, List.getElem_cons_succ, List.getElem_cons_zero, Act.put, List.setIfInBounds_toArray, List.set_cons_zero, List.set_cons_succ]
          refine wpAnyH_take (i := 43) (oi := _) (v := ?_) rfl (by kernel_rfl) (by kernel_rfl) (by kernel_rfl) (fun _ _ _ h => h) (Or.inl ⟨by rfl, ?_⟩) (by assumption) ?_
          rotate_left
          · intro w hSw
            (try dsimp only at hSw)
            go_simp
            try with_reducible rfl
          try simp only [List.getElem_toArray, List.getElem_cons_succ, List.getElem_cons_zero, Act.put, List.setIfInBounds_toArray, List.set_cons_zero, List.set_cons_succ]
          refine wpAnyH_take (i := 44) (oi := _) (v := ?_) rfl (by kernel_rfl) (by kernel_rfl) (by kernel_rfl) (fun _ _ _ h => h) (Or.inl ⟨by rfl, ?_⟩) (by assumption) ?_
          rotate_left
          · intro w hSw
            (try dsimp only at hSw)
            go_simp
            try with_reducible rfl
          try simp only [List.getElem_toArray, List.getElem_cons_succ, List.getElem_cons_zero, Act.put, List.setIfInBounds_toArray, List.set_cons_zero, List.set_cons_succ]
          refine wpAnyH_take (i := 45) (oi := _) (v := ?_) rfl (by kernel_rfl) (by kernel_rfl) (by kernel_rfl) (fun _ _ _ h => h) (Or.inl ⟨by rfl, ?_⟩) (by assumption) ?_
          rotate_left
          · intro w hSw
            (try dsimp only at hSw)
            go_simp
            try with_reducible rfl
          try simp only [List.getElem_toArray, List.getElem_cons_succ, List.getElem_cons_zero, Act.put, List.setIfInBounds_toArray, List.set_cons_zero, List.set_cons_succ]
          refine wpAnyH_take (i := 46) (oi := _) (v := ?_) rfl (by kernel_rfl) (by kernel_rfl) (by kernel_rfl) (fun _ _ _ h => h) (Or.inl ⟨by rfl, ?_⟩) (by assumption) ?_
          rotate_left
          · intro w hSw
            (try dsimp only at hSw)
            go_simp
            try with_reducible rfl
          try simp only [List.getElem_toArray, List.getElem_cons_succ, List.getElem_cons_zero, Act.put, List.setIfInBounds_toArray, List.set_cons_zero, List.set_cons_succ]
          refine wpAnyH_take (i := 47) (oi := _) (v := ?_) rfl (by kernel_rfl) (by kernel_rfl) (by kernel_rfl) (fun _ _ _ h => h) (Or.inl ⟨by rfl, ?_⟩) (by assumption) ?_
          rotate_left
          · intro w hSw
            (try dsimp only at hSw)
            go_simp
            try with_reducible rfl
          try simp only [List.getElem_toArray, List.getElem_cons_succ, List.getElem_cons_zero, Act.put, List.setIfInBounds_toArray, List.set_cons_zero, List.set_cons_succ]
          refine wpAnyH_take (i := 48) (oi := _) (v := ?_) rfl (by kernel_rfl) (by kernel_rfl) (by kernel_rfl) (fun _ _ _ h => h) (Or.inl ⟨by rfl, ?_⟩) (by assumption) ?_
          rotate_left
          · intro w hSw
            (try dsimp only at hSw)
            go_simp
            try with_reducible rfl
          try simp only [List.getElem_toArray, List.getElem_cons_succ, List.getElem_cons_zero, Act.put, List.setIfInBounds_toArray, List.set_cons_zero, List.set_cons_succ]
          refine wpAnyH_take (i := 49) (oi := _) (v := ?_) rfl (by kernel_rfl) (by kernel_rfl) (by kernel_rfl) (fun _ _ _ h => h) (Or.inl ⟨by rfl, ?_⟩) (by assumption) ?_
          rotate_left
          · intro w hSw
            (try dsimp only at hSw)
            go_simp
            try with_reducible rfl
          try simp only [List.getElem_toArray, List.getElem_cons_succ, List.getElem_cons_zero, Act.put, List.setIfInBounds_toArray, List.set_cons_zero, List.set_cons_succ]
          refine wpAnyH_take (i := 50) (oi := _) (v := ?_) rfl (by kernel_rfl) (by kernel_rfl) (by kernel_rfl) (fun _ _ _ h => h) (Or.inl ⟨by rfl, ?_⟩) (by assumption) ?_
          rotate_left
          · intro w hSw
            (try dsimp only at hSw)
            go_simp
            try with_reducible rfl
          try simp only [List.getElem_toArray, List.getElem_cons_succ, List.getElem_cons_zero, Act.put, List.setIfInBounds_toArray, List.set_cons_zero, List.set_cons_succ]
          refine wpAnyH_take (i := 51) (oi := _) (v := ?_) rfl (by kernel_rfl) (by kernel_rfl) (by kernel_rfl) (fun _ _ _ h => h) (Or.inl ⟨by rfl, ?_⟩) (by assumption) ?_
          rotate_left
          · intro w hSw
            (try dsimp only at hSw)
            go_simp
            try with_reducible rfl
          try simp only [List.getElem_toArray, List.getElem_cons_succ, List.getElem_cons_zero, Act.put, List.setIfInBounds_toArray, List.set_cons_zero, List.set_cons_succ]
          refine wpAnyH_take (i := 52) (oi := _) (v := ?_) rfl (by kernel_rfl) (by kernel_rfl) (by kernel_rfl) (fun _ _ _ h => h) (Or.inl ⟨by rfl, ?_⟩) (by assumption) ?_
          rotate_left
          · intro w hSw
            (try dsimp only at hSw)
            go_simp
            try with_reducible rfl
          try simp only [List.getElem_toArray, List.getElem_cons_succ, List.getElem_cons_zero, Act.put, List.setIfInBounds_toArray, List.set_cons_zero, List.set_cons_succ]
          refine wpAnyH_done (by kernel_rfl) ?_ _
          have HEND := Lib.hid (HB2.out.below HY7.out)
          go_wp2
          go_roundg (gk - 1)
          case measure => omega
          case rel => exact ⟨j + 1, l2, by go_num, by omega, by omega, hl2, HEND⟩
          --END27
      · obtain rfl : j = len0 := by omega
        have hl1 : l.length ≤ 150 := by omega
        obtain ⟨B, hB⟩ : ∃ B, B = tokBytes l := ⟨_, rfl⟩
        have CB := Lib.hid (c_bytes HS.out.tok HS.out.good.inR (by omega) hB wr (Below.refl _ _))
        have hBl : B.length ≤ 1000 := by rw [hB, tokBytes_len]; omega
        have hRd : rdTok B = (l, [], 0) := by rw [hB]; exact rdTok_back l HS.out.good.inR HS.out.good.good.ord HS.out.good.good.alone (by omega)
        have HRD := Lib.hid hRd
        clear hB hRd
        have htb : tb < wr.heap.size ∧ mb < wr.heap.size := by
          obtain ⟨v, hr⟩ := HS.out.ref
          obtain ⟨v', base', h1, _⟩ := HS.out.tok
          exact ⟨h1.lt, hr.lt⟩
        go_wp2_with fail
        refine CB.out.mono ?_
        rintro e w1 ⟨a1, c1, rfl, HB1, HW1⟩
        have CN := Lib.hid (W.neweye_any _ B w1 HB1.out (by omega))
        have hs1 := HW1.out.size
        clear CB
        go_wp2_with fail
        refine CN.out.mono ?_
        rintro e w2 ⟨eb, eg, rfl, he2, hee, heg, hc2⟩
        have hs2 := hc2.size
        have heg2 : eg < w2.heap.size ∨ B = [] := by
          obtain ⟨v, h1, h2, h3, h4, h5⟩ := id he2
          rcases h4 with h4 | h4
          · exact .inl h4
          · right
            rcases h2 with ⟨_, h⟩ | ⟨o, c, h, _⟩
            · exact h
            · rw [h4] at h; cases h
        have CR := read_any eb eg B w2 he2 heg2
        rw [HRD.out] at CR
        have HW2 : Hid (Below wr.heap.size wr w2) := Lib.hid (W.Chg.to_below HW1.out hc2 (by omega) (by simp))
        have HCR := Lib.hid CR
        clear CN he2 hc2 CR heg2
        go_wp2_with fail
        refine HCR.out.mono ?_
        intro e w3 hpost
        unfold ReadPost at hpost
        obtain ⟨hres, hc3⟩ := hpost
        rw [if_pos rfl] at hres
        obtain ⟨t2, v2, rfl, ht2, hT2, _⟩ := hres
        have HW3 : Hid (Below wr.heap.size wr w3) := Lib.hid (W.Chg.to_below HW2.out hc3 (by omega) (by intro x hx; simp at hx; omega))
        have HS3 : Hid (Both w w3 tb mb l) := Lib.hid (HS.out.below HW3.out)
        obtain ⟨v3, hv3⟩ := HS3.out.ref
        obtain ⟨am, cm, rfl, hcm, hrm⟩ := rown_rows hv3.rows
        have x1 : w3.cell? ⟨mb, 0, none⟩ = some (.slice am l.length cm) := blk_cell hv3.head 0 _ rfl
        have CY4 := Lib.hid (c_rows0 hT2)
        have CY5 := Lib.hid (c_model (X := w3) (l := l) (by omega))
        have CY10 := Lib.hid (c_samet (X := w3) (l := l) (by omega) (cr := cm) hrm)
        have CY14 := Lib.hid (c_clone HS3.out.tok)
        have CY15 := Lib.hid (fun tb => c_rows1 (X := w3) (tb := tb) (l := l))
        clear hc3 hT2 hv3 hrm HCR
        go_wp2
        --REGION30 (printed by gen_plays.py)
        refine wp_region_held_drew (S := fun w' => Hid (Below w3.heap.size w3 w') ∧ w'.cell? ⟨mb, 0, none⟩ = some (.slice am l.length cm)) (by kernel_rfl) ?_ (fun hHeld => ?_)
        · exact ⟨Lib.hid ((Below.refl _ _).drew), x1⟩
        refine wpAnyH_take (i := 0) (oi := _) (v := ?_) rfl (by kernel_rfl) (by kernel_rfl) (by kernel_rfl) (fun _ _ _ h => h) (Or.inl ⟨by rfl, ?_⟩) (by assumption) ?_
        rotate_left
        · intro w hSw
          (try dsimp only at hSw)
          go_simp
          try with_reducible rfl
        try simp only [List.getElem_toArray, List.getElem_cons_succ, List.getElem_cons_zero, Act.put, List.setIfInBounds_toArray, List.set_cons_zero, List.set_cons_succ]
        refine wpAnyH_take (i := 1) (oi := _) (v := ?_) rfl (by kernel_rfl) (by kernel_rfl) (by kernel_rfl) (fun _ _ _ h => h) (Or.inl ⟨by rfl, ?_⟩) (by assumption) ?_
        rotate_left
        · intro w hSw
          (try dsimp only at hSw)
          go_simp
          try with_reducible rfl
        try simp only [List.getElem_toArray, List.getElem_cons_succ, List.getElem_cons_zero, Act.put, List.setIfInBounds_toArray, List.set_cons_zero, List.set_cons_succ]
        refine wpAnyH_take (i := 2) (oi := _) (v := ?_) rfl (by kernel_rfl) (by kernel_rfl) (by kernel_rfl) (fun _ _ _ h => h) (Or.inl ⟨by rfl, ?_⟩) (by assumption) ?_
        rotate_left
        · intro w hSw
          (try dsimp only at hSw)
          go_simp
          try with_reducible rfl
        try simp only [List.getElem_toArray, List.getElem_cons_succ, List.getElem_cons_zero, Act.put, List.setIfInBounds_toArray, List.set_cons_zero, List.set_cons_succ]
        refine wpAnyH_take (i := 3) (oi := _) (v := ?_) rfl (by kernel_rfl) (by kernel_rfl) (by kernel_rfl) (fun _ _ _ h => h) (Or.inl ⟨by rfl, ?_⟩) (by assumption) ?_
        rotate_left
        · intro w hSw
          (try dsimp only at hSw)
          go_simp
          try with_reducible rfl
        try simp only [List.getElem_toArray, List.getElem_cons_succ, List.getElem_cons_zero, Act.put, List.setIfInBounds_toArray, List.set_cons_zero, List.set_cons_succ]
        refine wpAnyH_take (i := 6) (oi := _) (v := ?_) rfl (by kernel_rfl) (by kernel_rfl) (by kernel_rfl) (fun _ _ _ h => h) (Or.inl ⟨by rfl, ?_⟩) (by assumption) ?_
        rotate_left
        · intro w hSw
          (try dsimp only at hSw)
          go_simp
          try with_reducible rfl
        try simp only [List.getElem_toArray, List.getElem_cons_succ, List.getElem_cons_zero, Act.put, List.setIfInBounds_toArray, List.set_cons_zero, List.set_cons_succ]
        refine wpAnyH_take (i := 7) (oi := _) (v := ?_) rfl (by kernel_rfl) (by kernel_rfl) (by kernel_rfl) (fun _ _ _ h => h) (Or.inl ⟨by rfl, ?_⟩) (by assumption) ?_
        rotate_left
        · intro w hSw
          (try dsimp only at hSw)
          go_simp
          try with_reducible rfl
        try simp only [List.getElem_toArray, List.getElem_cons_succ, List.getElem_cons_zero, Act.put, List.setIfInBounds_toArray, List.set_cons_zero, List.set_cons_succ]
        refine wpAnyH_take (i := 8) (oi := _) (v := ?_) rfl (by kernel_rfl) (by kernel_rfl) (by kernel_rfl) (fun _ _ _ h => h) (Or.inl ⟨by rfl, ?_⟩) (by assumption) ?_
        rotate_left
        · intro w hSw
          (try dsimp only at hSw)
          go_simp
          try with_reducible rfl
        try simp only [List.getElem_toArray, List.getElem_cons_succ, List.getElem_cons_zero, Act.put, List.setIfInBounds_toArray, List.set_cons_zero, List.set_cons_succ]
        refine wpAnyH_take (i := 9) (oi := _) (v := ?_) rfl (by kernel_rfl) (by kernel_rfl) (by kernel_rfl) (fun _ _ _ h => h) (Or.inl ⟨by rfl, ?_⟩) (by assumption) ?_
        rotate_left
        · intro w hSw
          (try dsimp only at hSw)
          go_simp
          try with_reducible rfl
        try simp only [List.getElem_toArray, List.getElem_cons_succ, List.getElem_cons_zero, Act.put, List.setIfInBounds_toArray, List.set_cons_zero, List.set_cons_succ]
        refine wpAnyH_ready (rs := [4]) (by kernel_rfl) (by simp) ?_
        refine AllReadyH.cons (o := _) rfl (fun K hK => ?_) AllReadyH.nil
        try simp only [List.getElem_toArray, List.getElem_cons_succ, List.getElem_cons_zero]
        go_simp
        refine (CY4.out _ ((Below.refl _ _).drew)).mono ?_; rintro e y1 ⟨a1, c1, rfl, HR1, HY1⟩
        try go_wp2_with fail
        refine hK.out _ _ ?_ (fun hHeld => ?_)
        · exact ⟨HY1, cellK HY1 x1⟩
        clear hK K
        try simp only [List.getElem_toArray, List.getElem_cons_succ, List.getElem_cons_zero, Act.put, List.setIfInBounds_toArray, List.set_cons_zero, List.set_cons_succ]
        refine wpAnyH_ready (rs := [5]) (by kernel_rfl) (by simp) ?_
        refine AllReadyH.cons (o := _) rfl (fun K hK => ?_) AllReadyH.nil
        try simp only [List.getElem_toArray, List.getElem_cons_succ, List.getElem_cons_zero]
        go_simp
        refine (CY5.out _ _ _ HR1.out HY1.out).mono ?_; rintro e y2 ⟨a2, c2, rfl, HR2, HY2⟩
        try go_wp2_with fail
        refine hK.out _ _ ?_ (fun hHeld => ?_)
        · exact ⟨HY2, cellK HY2 x1⟩
        clear hK K
        try simp only [List.getElem_toArray, List.getElem_cons_succ, List.getElem_cons_zero, Act.put, List.setIfInBounds_toArray, List.set_cons_zero, List.set_cons_succ]
        refine wpAnyH_ready (rs := [10]) (by kernel_rfl) (by simp) ?_
        refine AllReadyH.cons (o := _) rfl (fun K hK => ?_) AllReadyH.nil
        try simp only [List.getElem_toArray, List.getElem_cons_succ, List.getElem_cons_zero]
        go_simp
        refine (CY10.out _ _ _ HR2.out HY2.out).mono ?_; rintro e y3 ⟨rfl, HY3⟩
        try go_wp2_with fail
        refine hK.out _ _ ?_ (fun hHeld => ?_)
        · exact ⟨HY3, cellK HY3 x1⟩
        clear hK K
        try simp only [List.getElem_toArray, List.getElem_cons_succ, List.getElem_cons_zero, Act.put, List.setIfInBounds_toArray, List.set_cons_zero, List.set_cons_succ]
        refine wpAnyH_take (i := 11) (oi := _) (v := ?_) rfl (by kernel_rfl) (by kernel_rfl) (by kernel_rfl) (fun _ _ _ h => h) (Or.inl ⟨by rfl, ?_⟩) (by assumption) ?_
        rotate_left
        · intro w hSw
          (try dsimp only at hSw)
          go_simp
          try with_reducible rfl
        try simp only [List.getElem_toArray, List.getElem_cons_succ, List.getElem_cons_zero, Act.put, List.setIfInBounds_toArray, List.set_cons_zero, List.set_cons_succ]
        refine wpAnyH_take (i := 12) (oi := _) (v := ?_) rfl (by kernel_rfl) (by kernel_rfl) (by kernel_rfl) (fun _ _ _ h => h) (Or.inl ⟨by rfl, ?_⟩) (by assumption) ?_
        rotate_left
        · intro w hSw
          (try dsimp only at hSw)
          go_simp
          try with_reducible rfl
        try simp only [List.getElem_toArray, List.getElem_cons_succ, List.getElem_cons_zero, Act.put, List.setIfInBounds_toArray, List.set_cons_zero, List.set_cons_succ]
        refine wpAnyH_take (i := 13) (oi := _) (v := ?_) rfl (by kernel_rfl) (by kernel_rfl) (by kernel_rfl) (fun _ _ _ h => h) (Or.inl ⟨by rfl, ?_⟩) (by assumption) ?_
        rotate_left
        · intro w hSw
          (try dsimp only at hSw)
          go_simp
          try with_reducible rfl
        try simp only [List.getElem_toArray, List.getElem_cons_succ, List.getElem_cons_zero, Act.put, List.setIfInBounds_toArray, List.set_cons_zero, List.set_cons_succ]
        refine wpAnyH_take (i := 17) (oi := _) (v := ?_) rfl (by kernel_rfl) (by kernel_rfl) (by kernel_rfl) (fun _ _ _ h => h) (Or.inl ⟨by rfl, ?_⟩) (by assumption) ?_
        rotate_left
        · intro w hSw
          (try dsimp only at hSw)
          go_simp
          try with_reducible rfl
        try simp only [List.getElem_toArray, List.getElem_cons_succ, List.getElem_cons_zero, Act.put, List.setIfInBounds_toArray, List.set_cons_zero, List.set_cons_succ]
        refine wpAnyH_take (i := 18) (oi := _) (v := ?_) rfl (by kernel_rfl) (by kernel_rfl) (by kernel_rfl) (fun _ _ _ h => h) (Or.inl ⟨by rfl, ?_⟩) (by assumption) ?_
        rotate_left
        · intro w hSw
          (try dsimp only at hSw)
          go_simp
          try with_reducible rfl
        try simp only [List.getElem_toArray, List.getElem_cons_succ, List.getElem_cons_zero, Act.put, List.setIfInBounds_toArray, List.set_cons_zero, List.set_cons_succ]
        refine wpAnyH_take (i := 19) (oi := _) (v := ?_) rfl (by kernel_rfl) (by kernel_rfl) (by kernel_rfl) (fun _ _ _ h => h) (Or.inl ⟨by rfl, ?_⟩) (by assumption) ?_
        rotate_left
        · intro w hSw
          (try dsimp only at hSw)
          go_simp
          try with_reducible rfl
        try simp only [List.getElem_toArray, List.getElem_cons_succ, List.getElem_cons_zero, Act.put, List.setIfInBounds_toArray, List.set_cons_zero, List.set_cons_succ]
        refine wpAnyH_take (i := 20) (oi := _) (v := ?_) rfl (by kernel_rfl) (by kernel_rfl) (by kernel_rfl) (fun _ _ _ h => h) (Or.inl ⟨by rfl, ?_⟩) (by assumption) ?_
        rotate_left
        · intro w hSw
          (try dsimp only at hSw)
          go_simp
          try with_reducible rfl
        try simp only [List.getElem_toArray, List.getElem_cons_succ, List.getElem_cons_zero, Act.put, List.setIfInBounds_toArray, List.set_cons_zero, List.set_cons_succ]
        refine wpAnyH_ready (rs := [14]) (by kernel_rfl) (by simp) ?_
        refine AllReadyH.cons (o := _) rfl (fun K hK => ?_) AllReadyH.nil
        try simp only [List.getElem_toArray, List.getElem_cons_succ, List.getElem_cons_zero]
        go_simp
        refine (CY14.out _ HY3.out).mono ?_; rintro e y4 ⟨t4, rfl, HT4, HY4⟩
        try go_wp2_with fail
        refine hK.out _ _ ?_ (fun hHeld => ?_)
        · exact ⟨HY4, cellK HY4 x1⟩
        clear hK K
        try simp only [List.getElem_toArray, List.getElem_cons_succ, List.getElem_cons_zero, Act.put, List.setIfInBounds_toArray, List.set_cons_zero, List.set_cons_succ]
        refine wpAnyH_ready (rs := [15]) (by kernel_rfl) (by simp) ?_
        refine AllReadyH.cons (o := _) rfl (fun K hK => ?_) AllReadyH.nil
        try simp only [List.getElem_toArray, List.getElem_cons_succ, List.getElem_cons_zero]
        go_simp
        refine (CY15.out _ _ HT4.out HY4.out).mono ?_; rintro e y5 ⟨a5, c5, rfl, HR5, HY5⟩
        try go_wp2_with fail
        refine hK.out _ _ ?_ (fun hHeld => ?_)
        · exact ⟨HY5, cellK HY5 x1⟩
        clear hK K
        try simp only [List.getElem_toArray, List.getElem_cons_succ, List.getElem_cons_zero, Act.put, List.setIfInBounds_toArray, List.set_cons_zero, List.set_cons_succ]
        refine wpAnyH_ready (rs := [16]) (by kernel_rfl) (by simp) ?_
        refine AllReadyH.cons (o := _) rfl (fun K hK => ?_) AllReadyH.nil
        try simp only [List.getElem_toArray, List.getElem_cons_succ, List.getElem_cons_zero]
        go_simp
        refine (CY5.out _ _ _ HR5.out HY5.out).mono ?_; rintro e y6 ⟨a6, c6, rfl, HR6, HY6⟩
        try go_wp2_with fail
        refine hK.out _ _ ?_ (fun hHeld => ?_)
        · exact ⟨HY6, cellK HY6 x1⟩
        clear hK K
        try simp only [List.getElem_toArray, List.getElem_cons_succ, List.getElem_cons_zero, Act.put, List.setIfInBounds_toArray, List.set_cons_zero, List.set_cons_succ]
        refine wpAnyH_ready (rs := [21]) (by kernel_rfl) (by simp) ?_
        refine AllReadyH.cons (o := _) rfl (fun K hK => ?_) AllReadyH.nil
        try simp only [List.getElem_toArray, List.getElem_cons_succ, List.getElem_cons_zero]
        go_simp
        refine (CY10.out _ _ _ HR6.out HY6.out).mono ?_; rintro e y7 ⟨rfl, HY7⟩
        try go_wp2_with fail
        refine hK.out _ _ ?_ (fun hHeld => ?_)
        · exact ⟨HY7, cellK HY7 x1⟩
        clear hK K
        try simp only [List.getElem_toArray, List.getElem_cons_succ, List.getElem_cons_zero, Act.put, List.setIfInBounds_toArray, List.set_cons_zero, List.set_cons_succ]
        refine wpAnyH_take (i := 22) (oi := _) (v := ?_) rfl (by kernel_rfl) (by kernel_rfl) (by kernel_rfl) (fun _ _ _ h => h) (Or.inl ⟨by rfl, ?_⟩) (by assumption) ?_
        rotate_left
        · intro w hSw
          (try dsimp only at hSw)
          go_simp
          try with_reducible rfl
        try simp only [List.getElem_toArray, List.getElem_cons_succ, List.getElem_cons_zero, Act.put, List.setIfInBounds_toArray, List.set_cons_zero, List.set_cons_succ]
        refine wpAnyH_take (i := 23) (oi := _) (v := ?_) rfl (by kernel_rfl) (by kernel_rfl) (by kernel_rfl) (fun _ _ _ h => h) (Or.inl ⟨by rfl, ?_⟩) (by assumption) ?_
        rotate_left
        · intro w hSw
          (try dsimp only at hSw)
          go_simp
          try with_reducible rfl
        try simp only [List.getElem_toArray, List.getElem_cons_succ, List.getElem_cons_zero, Act.put, List.setIfInBounds_toArray, List.set_cons_zero, List.set_cons_succ]
        refine wpAnyH_done (by kernel_rfl) ?_ _
        have HEND := Lib.hid (HS3.out.tok.bel.trans (HY7.out.mono HS3.out.tok.bel.size))
        go_wp2
        go_ret
        exact ⟨rfl, HEND.out⟩
        --END30
end Go.Proofs.Ytembgdjdljflhaa.tokensPlays
