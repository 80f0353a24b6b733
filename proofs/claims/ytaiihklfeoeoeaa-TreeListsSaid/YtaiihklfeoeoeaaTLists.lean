/- The entries of each directory are what their paths name; nothing else is there. -/
import Derived.Test.YtaiihklfeoeoeaaTQue
import Derived.Deep.CutBlock
import Derived.Deep.DeepCutAuto
namespace Go.Proofs.Ytaiihklfeoeoeaa.treeLists
open Go.RowKit
open Go.Proofs.Ytaiihklfeoeoeaa.NM
open Go.Proofs.Ytaiihklfeoeoeaa.W
set_option linter.unusedVariables false
set_option linter.unusedSimpArgs false

theorem less_eq : ∀ (x y : List UInt8), Op.bytesLess x y = decide (x < y)
  | [], [] => rfl
  | [], b :: y => by simp [Op.bytesLess]
  | a :: x, [] => by simp [Op.bytesLess]
  | a :: x, b :: y => by
    rw [Op.bytesLess, less_eq x y, Bool.eq_iff_iff]
    simp [List.cons_lt_cons_iff]
theorem not_leq {s u : List UInt8} (h : u < s) : (Op.bytesLess (mk s).toList (mk u).toList || (mk s).toList == (mk u).toList) = false := by
  rw [toList_data, toList_data, data_mk, data_mk, less_eq]
  have h1 : ¬ s < u := fun h2 => absurd (List.lt_trans h h2) (List.lt_irrefl u)
  have h2 : ¬ s = u := fun e => by rw [e] at h; exact absurd h (List.lt_irrefl u)
  simp [h1, h2]
theorem leqF {s u : List UInt8} (h : u < s) : (Op.bytesLess s u || s == u) = false := by
  have := not_leq h
  rw [toList_data, toList_data, data_mk, data_mk] at this
  exact this
/-- A list's entries, as they lie. -/
def EntRow (w : World) (base : Nat) (T : PT) (a : Nat) (av : Option Addr) : Prop := namesOf T a = [] ∨ ∃ gb, av = some ⟨gb, 0, none⟩ ∧ base ≤ gb ∧ gb < w.heap.size ∧ ∀ i s, (namesOf T a)[i]? = some s →
  w.cell? ⟨gb, i * 3, none⟩ = some (.string (mk s)) ∧ w.cell? ⟨gb, i * 3 + 1, none⟩ = some (.int .i64 (tKid T a s : Int)) ∧ w.cell? ⟨gb, i * 3 + 2, none⟩ = some (.bool (tIsDir T (tKid T a s)))
theorem EntRow.keep {w w' : World} {base : Nat} {T : PT} {a : Nat} {av : Option Addr} (h : EntRow w base T a av) (hs : w.heap.size ≤ w'.heap.size) (hc : ∀ gb, av = some ⟨gb, 0, none⟩ → base ≤ gb → gb < w.heap.size → w'.heap[gb]? = w.heap[gb]?) : EntRow w' base T a av := by
  rcases h with h | ⟨gb, h1, h2, h3, h4⟩
  · exact .inl h
  · have hk := hc gb h1 h2 h3
    refine .inr ⟨gb, h1, h2, Nat.lt_of_lt_of_le h3 hs, fun i s hi => ?_⟩
    obtain ⟨c0, c1, c2⟩ := h4 i s hi
    exact ⟨(World.cell?_of_block (a := ⟨gb, i * 3, none⟩) hk).trans c0, (World.cell?_of_block (a := ⟨gb, i * 3 + 1, none⟩) hk).trans c1, (World.cell?_of_block (a := ⟨gb, i * 3 + 2, none⟩) hk).trans c2⟩
theorem entC_len (x : Ent) : (entC x).length = 3 := rfl
instance : Inhabited Ent := ⟨([], 0, false)⟩
theorem ent_row {w : World} {base : Nat} {T : PT} {a : Nat} {v : Value} (h : w.ownsRow base 39 3 v (entsOf T a).length ((entsOf T a).flatMap entC)) : ∃ av cv, v = .slice av (namesOf T a).length cv ∧ EntRow w base T a av := by
  have hl : (entsOf T a).length = (namesOf T a).length := by unfold entsOf; simp
  rcases h.2 with ⟨rfl, h0⟩ | ⟨g, cap, cur, rfl, hbg, hg, hnc, hcm, hcs, htake⟩
  · rw [hl] at h0
    rw [h0]
    exact ⟨none, 0, rfl, .inl (List.eq_nil_of_length_eq_zero h0)⟩
  · refine ⟨_, cap, by rw [hl], .inr ⟨g, rfl, hbg, blk_lt hg, fun i s hs => ?_⟩⟩
    have hi := (List.getElem?_eq_some_iff.1 hs).1
    have he : (entsOf T a)[i]? = some (entOf T a s) := by unfold entsOf; rw [List.getElem?_map, hs]; rfl
    have key : ∀ j, j < 3 → ∀ u, (entC (entOf T a s))[j]? = some u → w.cell? ⟨g, i * 3 + j, none⟩ = some u := by
      intro j hj u hu
      have := h.cells (g := g) rfl (i * 3 + j) u (by
        have := flatMap_at entC entC_len (entsOf T a) i j (by rw [hl]; exact hi) hj
        rw [show (entsOf T a)[i]! = entOf T a s by simp [List.getElem!_eq_getElem?_getD, he]] at this
        rw [this]; exact hu)
      rw [add_none] at this
      simpa using this
    exact ⟨by simpa using key 0 (by omega) (.string (mk s)) rfl, key 1 (by omega) _ rfl, key 2 (by omega) _ rfl⟩

set_option maxHeartbeats 8000000 in
set_option maxRecDepth 100000 in
theorem walk (a0 : Option Addr) (len0 cap0 : Nat) (f0 : Nat → Dd) (W : World) (w0 : len0 ≤ maxLen ∧ DeedsAt W a0 len0 f0) :
    Calls Try.prog 5 #[.slice a0 len0 cap0] W fun e W' => e = .returned (.bool true) ∧ Below W.heap.size W W' := by
  obtain ⟨hlm, hd0⟩ := w0
  have CA := Lib.hid (tawake_any W)
  have HD := Lib.hid hd0
  have HLM := Lib.hid hlm
  unfold maxLen at hlm
  clear hd0
  go_enter Try.func5, Try.ntmps5
  go_wp2_with fail
  refine CA.out.mono ?_
  rintro e wa ⟨rfl, hc1⟩
  have HC1 := Lib.hid hc1
  have CR := Lib.hid (room_any a0 len0 cap0 f0 80 wa (HD.out.keep hc1) HLM.out)
  clear hc1 CA
  cases hroom : roomB len0 f0 80 with
  | false =>
    rw [hroom] at CR
    go_wp2_with fail
    refine CR.out.mono ?_
    rintro e w' ⟨rfl, rfl⟩
    go_wp2
    go_ret
    exact ⟨rfl, HC1.out.below (by simp)⟩
  | true =>
    rw [hroom] at CR
    obtain ⟨hn80, hsmall⟩ := room_true hroom
    have HSM := Lib.hid hsmall
    clear hroom hsmall
    go_wp2_with fail
    refine CR.out.mono ?_
    rintro e w' ⟨rfl, rfl⟩
    go_wp2_with fail
    refine (onew_any HC1.out).mono ?_
    rintro e w2 ⟨t, rfl, ht⟩
    have HT := Lib.hid ht
    clear ht CR
    go_wp2
    go_loopg [4] len0 (fun gh v4 wr => ∃ k : Nat, v4 = .int .i64 k ∧ k ≤ len0 ∧ len0 ≤ k + gh ∧ Hid (∃ T, Own W wr t T ∧ TR T))
    case atStart => exact ⟨0, rfl, by omega, by omega, Lib.hid ⟨[], HT.out, TR.nil⟩⟩
    case round =>
      obtain ⟨k, rfl, hk, hkg, HO⟩ := hrel
      by_cases hlt : k < len0
      · obtain ⟨T, hT, hR⟩ := HO.out
        have HDk := Lib.hid (HD.out.keep hT.chg)
        obtain ⟨g, o, rfl, c0, c1, c2, c3⟩ : ∃ g o, a0 = some ⟨g, o, none⟩ ∧ wr.cell? ⟨g, o + k * 4, none⟩ = some (.int .i64 (f0 k).c) ∧ wr.cell? ⟨g, o + k * 4 + 1, none⟩ = some (.string (mk (f0 k).p)) ∧
            wr.cell? ⟨g, o + k * 4 + 2, none⟩ = some (.string (mk (f0 k).q)) ∧ wr.cell? ⟨g, o + k * 4 + 3, none⟩ = some (.bool (f0 k).d) := by
          rcases HDk.out with h0 | ⟨g, o, h1, h2⟩
          · omega
          · obtain ⟨c0, c1, c2, c3, _⟩ := h2 k hlt
            exact ⟨g, o, h1, c0, c1, c2, c3⟩
        have hgl : g < wr.heap.size := World.block_lt_of_cell? wr _ c0
        have hx1 := (HSM.out k hlt).1
        have hx2 := (HSM.out k hlt).2
        have HB := Lib.hid hT.both
        have HTT := Lib.hid hT
        have HRR := Lib.hid hR
        generalize f0 k = x at *
        have CD := Lib.hid (do_any HB.out x (by omega) (by omega))
        have hkz : (k : Int) < (len0 : Int) := by omega
        clear hT hR hx1 hx2
        go_wp2_with fail
        refine CD.out.mono ?_
        rintro e w3 ⟨rfl, h3, _⟩
        have HO3 : Hid (∃ T, Own W w3 t T ∧ TR T) := Lib.hid ⟨_, h3.own, by
          unfold doT
          split
          · exact HRR.out.make HTT.out.ok _ _
          · split
            · exact HRR.out.remove _ _
            · exact HRR.out.move HTT.out.ok _ _⟩
        clear h3 CD HB
        go_wp2
        go_roundg (len0 - k - 1)
        case measure => omega
        case rel => exact ⟨k + 1, by go_num, by omega, by omega, HO3⟩
      · obtain ⟨w1, rfl⟩ : ∃ w1 : World, w1 = wr := ⟨_, rfl⟩
        obtain ⟨T, hT, hR⟩ := HO.out
        have hTl := tok_len hT.ok
        have HTK := Lib.hid hT.ok
        have HRR := Lib.hid hR
        obtain ⟨S, hS1, hS2, hS3⟩ := hT
        have HS := Lib.hid hS1
        have HW1 := Lib.hid hS3
        have HQ0 := Lib.hid (QueOk.start w1 w1.heap.size (Nat.le_refl _))
        have HC0 : Hid (Chg [] w1 (w1.alloc (.cells #[.string (mk [47])] 9))) := Lib.hid ((Chg.refl [] w1).alloc _)
        clear hR hS1 hS2 hS3 HO
        go_wp2
        go_loopg [5, 6] (T.length + 2) (fun gh v5 v6 wr => ∃ (P : List Nat) (Q : List (List (List UInt8))) (c nq g o cq : Nat), v5 = .int .i64 c ∧ v6 = .slice (some ⟨g, o, none⟩) nq cq ∧ 1 ≤ c ∧ c ≤ 128 ∧ nq ≤ 200 ∧ nq ≤ cq ∧ Hid (nq = Q.length) ∧ Hid (c = 1 + cntP T P) ∧ Hid (BFS T P Q) ∧ Hid (QueOk wr g o cq Q w1.heap.size) ∧ Hid (Chg [] w1 wr) ∧ T.length + 1 ≤ P.length + gh)
        case atStart => exact ⟨[], [[]], 1, 1, _, 0, 1, rfl, rfl, by omega, by omega, by omega, by omega, Lib.hid rfl, Lib.hid (by rw [cnt_nil]), Lib.hid (BFS.start T), HQ0, HC0, by simp⟩
        case round =>
          obtain ⟨P, Q, c, nq, g, o, cq, rfl, rfl, hc1, hc128, hnq, hnc, HN, HCN, HB, HQ, HC, hgh⟩ := hrel
          by_cases hq0 : nq = 0
          · have HF : Hid ((inosL T).length = c) := Lib.hid (by
              have e : Q = [] := List.eq_nil_of_length_eq_zero (by rw [← HN.out]; exact hq0)
              have h1 := HB.out
              rw [e] at h1
              rw [inosL_len, HCN.out, h1.all HTK.out HRR.out]; omega)
            have CI : Hid (Calls Try.prog 12 #[.pointer (some ⟨t, 0, none⟩)] wr fun e w' => (∃ a k, e = .returned (.slice a c k)) ∧ Chg [] W w') := Lib.hid (by
              refine (tinos_any t S _ wr (HS.out.keep0 HC.out)).mono ?_
              rintro e w' ⟨v, rfl, hr, hc⟩
              rw [HF.out] at hr
              obtain ⟨a, k, rfl, _⟩ := rowAt_own hr
              exact ⟨⟨_, _, rfl⟩, chg_tr HW1.out (chg_tr HC.out hc)⟩)
            subst hq0
            go_wp2_with fail
            refine CI.out.mono ?_
            rintro e w6 ⟨⟨a, k6, rfl⟩, hc6⟩
            have HC6 := Lib.hid (hc6.below (by simp))
            clear hc6
            go_wp2
            go_ret
            exact ⟨rfl, HC6.out⟩
          · obtain ⟨l, R, hQ⟩ : ∃ l R, Q = l :: R := by
              cases Q with
              | nil => exact absurd HN.out hq0
              | cons l R => exact ⟨l, R, rfl⟩
            subst hQ
            have hnz : (0 : Int) < (nq : Int) := by omega
            have hn1 : 0 < nq := by omega
            have hc128z : (c : Int) ≤ 128 := by omega
            have hhead := HQ.out.head
            have HTL := Lib.hid HQ.out.tail
            clear hq0
            go_upto_region 16 with (fail)
            go_cut [6] (fun s6 wx => s6 = .slice (some ⟨g, (if cq = 1 then o else o + 1), none⟩) (nq - 1) (cq - 1) ∧ wx = wr)
            case first =>
              by_cases hcq : cq = 1
              · go_wp2_with fail
                go_meet
                exact ⟨by first | rfl | simp [hcq], rfl⟩
              · have hcz : 1 ≤ (cq : Int) := by omega
                go_wp2_with fail
                go_meet
                exact ⟨by first | rfl | simp [hcq], rfl⟩
            case rest =>
            obtain ⟨hs6, hwc⟩ := hcut
            rw [hwc, hs6]
            clear hwc hs6 hhead
            generalize (if cq = 1 then o else o + 1) = o1 at *
            obtain ⟨wy1, wy2, wy3, wy4⟩ := HB.out.ways l (List.mem_cons_self ..)
            obtain ⟨a, ha⟩ : ∃ a, a = inoW T l := ⟨_, rfl⟩
            rw [← ha] at wy3 wy4
            have hfr := HB.out.fresh
            rw [← ha] at hfr
            have hjl : (joinB l).length ≤ 1000 := by
              have := joinB_len l (fun p hp => by have := (may_len (wy1 p hp)).2; omega)
              omega
            have HWY := Lib.hid (And.intro wy1 (And.intro wy3 wy4))
            have HA := Lib.hid ha
            have HFR := Lib.hid hfr
            have CLL : Hid (∀ wx, Chg [] w1 wx → Calls Try.prog 14 #[.pointer (some ⟨t, 0, none⟩), .string (mk (joinB l))] wx (ListPost wx (entsOf T a, 0))) := Lib.hid (fun wx hx => by
              have := tlist_any t S T (mk (joinB l)) wx (HS.out.keep0 hx) (mk_size _ (by unfold maxLen; omega)) (by omega)
              rw [data_mk, list_join HWY.out.1 (by omega) HWY.out.2.1 HWY.out.2.2] at this
              exact this)
            have hcm := HTL.out.cm
            have HBL := HB.out.len
            simp only [List.length_cons] at HBL
            have hPl : P.length ≤ T.length := by omega
            clear wy1 wy3 wy4 ha hfr HQ
            go_wp2_with fail
            refine (CLL.out wr HC.out).mono ?_
            rintro e w2 ⟨v, rfl, hrow, hc2⟩
            obtain ⟨av, cv, rfl, hent⟩ := ent_row hrow
            have HENT := Lib.hid hent
            have HC2 := Lib.hid (chg_tr HC.out hc2)
            have HTL2 := Lib.hid (HTL.out.keep hc2 (by simp))
            have hgw := HTL.out.lt
            have hml : (namesOf T a).length ≤ 127 := by
              rw [names_len]
              have := List.countP_le_length (p := fun x => x.dir == a) (l := T)
              omega
            have HCC : Hid (c + (namesOf T a).length = 1 + cntP T (P ++ [a])) := Lib.hid (by rw [cnt_snoc HFR.out, HCN.out]; omega)
            have hcc : c + (namesOf T a).length ≤ 128 := by
              have := cnt_le T (P ++ [a])
              have := HCC.out
              omega
            clear hrow hc2 hent
            obtain ⟨ns, hns⟩ : ∃ ns, ns = namesOf T a := ⟨_, rfl⟩
            have HNS := Lib.hid hns
            rw [← hns] at hml hcc
            rw [← hns]
            clear hns
            go_wp2
            obtain ⟨wo, rfl⟩ : ∃ wo : World, wo = wr := ⟨_, rfl⟩
            obtain ⟨gko, rfl⟩ : ∃ gko : Nat, gko = gk := ⟨_, rfl⟩
            go_loopg [5, 6, 10] ns.length (fun gh v5 v6 v10 wx => ∃ (k nq' g' o' cq' : Nat), v10 = .int .i64 k ∧ v5 = .int .i64 (c + k : Nat) ∧ v6 = .slice (some ⟨g', o', none⟩) nq' cq' ∧ k ≤ ns.length ∧ ns.length ≤ k + gh ∧ nq' ≤ nq - 1 + k ∧ nq' ≤ cq' ∧ Hid (nq' = (R ++ downs T l a (ns.take k)).length) ∧
              Hid (QueOk wx g' o' cq' (R ++ downs T l a (ns.take k)) w1.heap.size) ∧ Hid (Chg [] w1 wx) ∧ Hid (EntRow wx wo.heap.size T a av) ∧ Hid (∀ gb, av = some ⟨gb, 0, none⟩ → wo.heap.size ≤ gb → gb < wx.heap.size → g' ≠ gb) ∧ Hid (k = 0 ∨ l.length ≤ 7) ∧ w2.heap.size ≤ wx.heap.size)
            case atStart =>
              refine ⟨0, nq - 1, g, o1, cq - 1, rfl, rfl, rfl, by omega, by omega, by omega, by omega, Lib.hid ?_, Lib.hid ?_, HC2, HENT, Lib.hid (fun gb h1 h2 h3 => by omega), Lib.hid (.inl rfl), Nat.le_refl _⟩
              · rw [HN.out]; simp [downs]
              · simpa [downs] using HTL2.out
            case round =>
              obtain ⟨k, nq', g', o', cq', rfl, rfl, rfl, hkn, hkg2, hnq', hnc', HN', HQ', HC', HENT', HNE', HK7, hsz⟩ := hrel
              by_cases hlt : k < ns.length
              · obtain ⟨s, hs⟩ : ∃ s, ns[k]? = some s := ⟨_, List.getElem?_eq_getElem hlt⟩
                have hs2 : (namesOf T a)[k]? = some s := by rw [← HNS.out]; exact hs
                have hmem := List.mem_of_getElem? hs2
                obtain ⟨gb, rfl, hb1, hb2, hcells⟩ : ∃ gb, av = some ⟨gb, 0, none⟩ ∧ wo.heap.size ≤ gb ∧ gb < wr.heap.size ∧ ∀ i s, (namesOf T a)[i]? = some s →
                    wr.cell? ⟨gb, i * 3, none⟩ = some (.string (mk s)) ∧ wr.cell? ⟨gb, i * 3 + 1, none⟩ = some (.int .i64 (tKid T a s : Int)) ∧ wr.cell? ⟨gb, i * 3 + 2, none⟩ = some (.bool (tIsDir T (tKid T a s))) := by
                  rcases HENT'.out with h0 | h0
                  · rw [h0] at hs2; cases hs2
                  · exact h0
                obtain ⟨x, hx, xd, xn, xe, xne, xi, xm⟩ := kid_facts HTK.out hmem
                obtain ⟨e0, e1, e2⟩ := hcells k s hs2
                have hsl := (may_len xm).2
                have HCE := Lib.hid hcells
                have HXM := Lib.hid xm
                have HM := Lib.hid hmem
                have HS2 := Lib.hid hs2
                have HTAK : Hid (ns.take (k + 1) = ns.take k ++ [s]) := Lib.hid (by rw [List.take_add_one, hs]; rfl)
                obtain ⟨pj, hpj⟩ : ∃ pj, pj = joinB (l ++ [s]) := ⟨_, rfl⟩
                have HPJ := Lib.hid hpj
                have hpl : pj.length ≤ 1100 := by
                  rw [hpj, join_app]
                  simp only [List.length_append, List.length_cons]
                  split
                  · simp; omega
                  · omega
                obtain ⟨wz, rfl⟩ : ∃ wz : World, wz = wr := ⟨_, rfl⟩
                have hkz : (k : Int) < (ns.length : Int) := by omega
                clear hs hs2 hmem hcells hx xd xn xe xne xi xm hpj
                go_upto_if 75 with (fail)
                go_cut [11] (fun s11 wy => s11 = .string (mk pj) ∧ wy = wz)
                case first =>
                  by_cases hl0 : l = []
                  · have HP1 : Hid (mk [47] ++ mk s = mk pj) := Lib.hid (by rw [HPJ.out, join_app, if_pos hl0]; exact mk_append [47] s)
                    subst hl0
                    have hq1 : ((mk (joinB [])).toList == [47]) = true := by rw [toList_data, data_mk]; rfl
                    go_wp2_with fail
                    go_meet
                    exact ⟨by rw [← HP1.out], rfl⟩
                  · have hq1 : ((mk (joinB l)).toList == [47]) = false := by
                      rw [toList_data, data_mk, beq_eq_false_iff_ne]
                      exact fun h => hl0 ((join_root HWY.out.1).1 h)
                    have HL0 := Lib.hid hl0
                    have HP1 : Hid (mk (joinB l) ++ mk [47] ++ mk s = mk pj) := Lib.hid (by rw [HPJ.out, join_app, if_neg hl0, mk_append, mk_append]; simp)
                    clear hl0
                    go_wp2_with fail
                    · exfalso; exact HL0.out ((join_root HWY.out.1).1 (eq_of_beq (by assumption)))
                    · go_meet
                      exact ⟨by rw [← HP1.out], rfl⟩
                case rest =>
                obtain ⟨rfl, hwc⟩ := hcut
                rw [hwc]
                clear hwc
                have HSK := Lib.hid (HS.out.keep0 HC'.out)
                have CLK := tlook_any t S T (mk pj) wz HSK.out (mk_size _ (by unfold maxLen; omega))
                rw [data_mk] at CLK
                have HCLK := Lib.hid CLK
                have HCLI : Hid (∀ wq, Chg [] w1 wq → Calls Try.prog 14 #[.pointer (some ⟨t, 0, none⟩), .string (mk pj)] wq (fun e w' => (∃ v, e = .returned (.tuple #[v, .int .i64 (tList T pj).2])) ∧ Chg [] wq w')) := Lib.hid (fun wq hq => by
                  have := tlist_any t S T (mk pj) wq (HS.out.keep0 hq) (mk_size _ (by unfold maxLen; omega)) (by omega)
                  rw [data_mk] at this
                  exact this.mono fun e w' ⟨v, h1, _, h2⟩ => ⟨⟨v, h1⟩, h2⟩)
                clear CLK
                by_cases h7 : l.length ≤ 7
                · obtain ⟨g1, g2⟩ := look_kid HTK.out HWY.out.1 HWY.out.2.1 HWY.out.2.2 HM.out h7
                  rw [← HPJ.out] at g1 g2
                  rw [g1] at HCLK
                  rw [g2] at HCLI
                  have HDN : Hid (downs T l a (ns.take (k + 1)) = downs T l a (ns.take k) ++ if tIsDir T (tKid T a s) then [l ++ [s]] else []) := Lib.hid (by rw [HTAK.out, downs_snoc])
                  clear g1 g2
                  have HPRE : Hid (k = 0 ∨ ∃ j u, k = j + 1 ∧ wz.cell? ⟨gb, j * 3, none⟩ = some (.string (mk u)) ∧ u < s) := Lib.hid (by
                    rcases Nat.eq_zero_or_pos k with h0 | h0
                    · exact .inl h0
                    · right
                      obtain ⟨j, rfl⟩ : ∃ j, k = j + 1 := ⟨k - 1, by omega⟩
                      obtain ⟨u, hu⟩ : ∃ u, (namesOf T a)[j]? = some u := ⟨_, List.getElem?_eq_getElem (by rw [← HNS.out]; omega)⟩
                      exact ⟨j, u, rfl, (HCE.out j u hu).1, names_strict HTK.out hu HS2.out⟩)
                  generalize tKid T a s = y at *
                  generalize tIsDir T y = d at *
                  obtain ⟨er, her⟩ : ∃ er : Int, er = if d = true then 0 else 10 := ⟨_, rfl⟩
                  rw [← her] at HCLI
                  have HER := Lib.hid her
                  clear her
                  go_wp2_with fail
                  refine HCLK.out.mono ?_
                  rintro e w3 ⟨rfl, hc3⟩
                  have HC3 := Lib.hid (chg_tr HC'.out hc3)
                  have HZ3 := Lib.hid hc3
                  clear hc3 HCLK
                  go_wp2_with fail
                  refine (HCLI.out w3 HC3.out).mono ?_
                  rintro e w4 ⟨⟨v4, rfl⟩, hc4⟩
                  have HZ4 := Lib.hid (chg_tr HZ3.out hc4)
                  have HC4 := Lib.hid (chg_tr HC3.out hc4)
                  clear hc4 HCLI
                  have f0 := HZ4.out.cell e0 (by simp)
                  have f1 := HZ4.out.cell e1 (by simp)
                  have f2 := HZ4.out.cell e2 (by simp)
                  go_upto_region 28 with (fail)
                  go_cut [152] (fun s152 wy => s152 = .bool false ∧ ∃ n, wy = w4.drewN n)
                  case first =>
                    rcases HPRE.out with hk0 | ⟨j, u, hkj, hju, hus⟩
                    · have q1 : decide ((0 : Int) < (k : Int)) = false := decide_eq_false (by omega)
                      have q1n : decide (0 < k) = false := decide_eq_false (by omega)
                      cases d
                      · obtain rfl : er = 10 := HER.out
                        clear hk0
                        go_quiet (fail)
                        go_wp2
                        go_meet
                        exact ⟨rfl, _, rfl⟩
                      · obtain rfl : er = 0 := HER.out
                        clear hk0
                        go_quiet (fail)
                        go_wp2
                        go_meet
                        exact ⟨rfl, _, rfl⟩
                    · have q1 : decide ((0 : Int) < (k : Int)) = true := decide_eq_true (by omega)
                      have q1n : decide (0 < k) = true := decide_eq_true (by omega)
                      have q2 : IntKind.i64.wrap ((k : Int) - 1) = (j : Int) := by
                        have : (k : Int) - 1 = (j : Int) := by omega
                        rw [this]; exact IntWalk.i64_in _ (by omega)
                      have q3 := not_leq hus
                      have q4 : (j : Int) < (ns.length : Int) := by omega
                      have g0 := HZ4.out.cell hju (by simp)
                      have HKJ := Lib.hid hkj
                      have HUS := Lib.hid hus
                      clear hkj hju hus
                      cases d
                      · obtain rfl : er = 10 := HER.out
                        go_quiet (fail)
                        go_wp2
                        go_meet
                        exact ⟨congrArg Value.bool (leqF HUS.out), _, rfl⟩
                      · obtain rfl : er = 0 := HER.out
                        go_quiet (fail)
                        go_wp2
                        go_meet
                        exact ⟨congrArg Value.bool (leqF HUS.out), _, rfl⟩
                  case rest =>
                  obtain ⟨rfl, nd, hwc⟩ := hcut
                  rw [hwc]
                  clear hwc HPRE HCE f0 f1 f2 e0 e1 e2
                  have HZ5 : Hid (Chg [] wz (w4.drewN nd)) := Lib.hid (HZ4.out.drewN nd)
                  have HC5 : Hid (Chg [] w1 (w4.drewN nd)) := Lib.hid (HC4.out.drewN nd)
                  generalize w4.drewN nd = w5 at *
                  have HQ5 := Lib.hid (HQ'.out.keep HZ5.out (by simp))
                  have HE5 : Hid (EntRow w5 wo.heap.size T a (some ⟨gb, 0, none⟩)) := Lib.hid (HENT'.out.keep HZ5.out.size (fun gb _ _ h => HZ5.out.block gb h (by simp)))
                  have HN5 : Hid (g' ≠ gb ∧ wo.heap.size ≤ gb ∧ gb < wz.heap.size) := Lib.hid ⟨HNE'.out gb rfl hb1 hb2, hb1, hb2⟩
                  have hsz5 : w2.heap.size ≤ w5.heap.size := Nat.le_trans hsz HZ5.out.size
                  have hck : ((c + k : Nat) : Int) + 1 = ((c + (k + 1) : Nat) : Int) := by omega
                  cases d
                  · have HDE : Hid (R ++ downs T l a (ns.take (k + 1)) = R ++ downs T l a (ns.take k)) := Lib.hid (by rw [HDN.out]; simp)
                    go_wp2
                    go_roundg (ns.length - k - 1)
                    case measure => omega
                    case rel =>
                      refine ⟨k + 1, nq', g', o', cq', by go_num, ?_, rfl, by omega, by omega, by omega, by omega, Lib.hid ?_, Lib.hid ?_, HC5, HE5, Lib.hid (fun gb' h1 h2 h3 => ?_), Lib.hid (.inr h7), hsz5⟩
                      · first | rw [hck] | (congr 1; omega) | (simp; omega)
                      · rw [HDE.out]; exact HN'.out
                      · rw [HDE.out]; exact HQ5.out
                      · have hgb : gb = gb' := by simpa using h1
                        rw [← hgb]; exact HN5.out.1
                  · have HDE : Hid (R ++ downs T l a (ns.take (k + 1)) = R ++ downs T l a (ns.take k) ++ [l ++ [s]]) := Lib.hid (by rw [HDN.out]; simp)
                    go_wp2_with (at_builtin; refine wpList_que rfl _ _ rfl g' o' cq' w1.heap.size _ HQ5.out nq' HN'.out rfl (l ++ [s]) pj HPJ.out 1 rfl (by rw [← HN'.out]; omega) ?_; intro g6 o6 c6 w6 hq6 hg6 hc6)
                    have HC6 : Hid (Chg [] w1 w6) := Lib.hid (HC5.out.trans hc6 (fun x hx => .inr (by simp at hx; subst hx; exact HQ5.out.bg)))
                    have HE6 : Hid (EntRow w6 wo.heap.size T a (some ⟨gb, 0, none⟩)) := Lib.hid (HE5.out.keep hc6.size (fun gb' h1 _ h => hc6.block gb' h (by
                      have hgb : gb = gb' := by simpa using h1
                      rw [← hgb]; simp; exact fun e => HN5.out.1 e.symm)))
                    have hl6 := hq6.le
                    rw [List.length_append, ← HN'.out] at hl6
                    simp only [List.length_cons, List.length_nil] at hl6
                    have HQ6 := Lib.hid hq6
                    have HG6 := Lib.hid hg6
                    have hsz6 := Nat.le_trans hsz5 hc6.size
                    clear hq6 hg6 hc6
                    go_roundg (ns.length - k - 1)
                    case measure => omega
                    case rel =>
                      refine ⟨k + 1, nq' + 1, g6, o6, c6, by go_num, ?_, rfl, by omega, by omega, by omega, by omega, Lib.hid ?_, Lib.hid ?_, HC6, HE6, Lib.hid (fun gb' h1 h2 h3 => ?_), Lib.hid (.inr h7), hsz6⟩
                      · first | rw [hck] | (congr 1; omega) | (simp; omega)
                      · rw [HDE.out, List.length_append, ← HN'.out]; rfl
                      · rw [HDE.out]; exact HQ6.out
                      · have hgb : gb = gb' := by simpa using h1
                        rw [← hgb]
                        rcases HG6.out with h4 | h4
                        · rw [h4]; exact HN5.out.1
                        · have := HZ5.out.size
                          have := HN5.out.2.2
                          omega
                · obtain ⟨g1, g2⟩ := look_deep (T := T) HWY.out.1 HXM.out (by omega)
                  rw [← HPJ.out] at g1 g2
                  rw [g1] at HCLK
                  rw [g2] at HCLI
                  have HK0 : Hid (k = 0) := Lib.hid (by rcases HK7.out with h | h <;> omega)
                  have hdep : depB pj = 9 := by
                    rw [HPJ.out, dep_join (by simp) (fun p hp => by
                      rcases List.mem_append.1 hp with hp | hp
                      · exact HWY.out.1 p hp
                      · obtain rfl := List.mem_singleton.1 hp; exact HXM.out)]
                    simp; omega
                  have HDEP := Lib.hid hdep
                  clear g1 g2 hdep
                  go_wp2_with fail
                  refine HCLK.out.mono ?_
                  rintro e w3 ⟨rfl, hc3⟩
                  have HC3 := Lib.hid (chg_tr HC'.out hc3)
                  clear hc3 HCLK
                  go_wp2_with fail
                  refine (HCLI.out w3 HC3.out).mono ?_
                  rintro e w4 ⟨⟨v4, rfl⟩, hc4⟩
                  have HC4 := Lib.hid (chg_tr HC3.out hc4)
                  clear hc4 HCLI
                  have HDC : Hid (∀ n, Calls Try.prog 18 #[.string (mk pj)] (w4.drewN n) fun e w' => e = .returned (.int .i64 9) ∧ w' = w4.drewN n) := Lib.hid (fun n => (depth_any (mk pj) (w4.drewN n) (mk_size _ (by unfold maxLen; omega))).mono fun e w' ⟨h1, h2⟩ => ⟨by rw [h1, data_mk, HDEP.out]; rfl, h2.symm⟩)
                  go_upto_region 28 with (fail)
                  go_cut [152] (fun s152 wy => s152 = .bool false ∧ ∃ n, wy = w4.drewN n)
                  case first =>
                    have q1 : decide ((0 : Int) < (k : Int)) = false := decide_eq_false (by have := HK0.out; omega)
                    have q1n : decide (0 < k) = false := decide_eq_false (by have := HK0.out; omega)
                    by_cases h100 : pj.length < 100
                    · have q2 : decide ((pj.length : Int) < 100) = true := decide_eq_true (by omega)
                      have q2n : decide (pj.length < 100) = true := decide_eq_true h100
                      clear h100
                      go_quiet ((go_at_call 18; exact Calls.quiet_of_same (HDC.out _)))
                      go_wp2
                      go_meet
                      exact ⟨rfl, _, rfl⟩
                    · have q2 : decide ((pj.length : Int) < 100) = false := decide_eq_false (by omega)
                      have q2n : decide (pj.length < 100) = false := decide_eq_false h100
                      clear h100
                      go_quiet (fail)
                      go_wp2
                      go_meet
                      exact ⟨rfl, _, rfl⟩
                  case rest =>
                  obtain ⟨rfl, nd, hwc⟩ := hcut
                  rw [hwc]
                  clear hwc
                  have HF5 : Hid (Chg [] W (w4.drewN nd)) := Lib.hid (chg_tr HW1.out (HC4.out.drewN nd))
                  generalize w4.drewN nd = w5 at *
                  go_wp2
                  go_ret
                  exact ⟨rfl, HF5.out.below (by simp)⟩
              · obtain rfl : k = ns.length := by omega
                have HEND : Hid (BFS T (P ++ [a]) (R ++ downs T l a ns)) := Lib.hid (by
                  rw [HNS.out, HA.out]
                  refine HB.out.step HTK.out ?_
                  rcases HK7.out with h | h
                  · right
                    rw [← HA.out, ← HNS.out]
                    exact List.eq_nil_of_length_eq_zero h
                  · exact .inl h)
                have HQ9 : Hid (QueOk wr g' o' cq' (R ++ downs T l a ns) w1.heap.size ∧ nq' = (R ++ downs T l a ns).length) := Lib.hid (by
                  have h1 := HQ'.out
                  have h2 := HN'.out
                  rw [List.take_length] at h1 h2
                  exact ⟨h1, h2⟩)
                have hnq9 : nq' ≤ 200 := by
                  have h1 := HEND.out.len
                  rw [HQ9.out.2]
                  omega
                have HCC9 : Hid (c + ns.length = 1 + cntP T (P ++ [a])) := Lib.hid (by rw [HNS.out]; exact HCC.out)
                go_wp2
                go_roundg (T.length - P.length)
                case measure => omega
                case rel =>
                  exact ⟨P ++ [a], R ++ downs T l a ns, c + ns.length, nq', g', o', cq', rfl, rfl, by omega, by omega, hnq9, hnc', Lib.hid HQ9.out.2, HCC9, HEND, Lib.hid HQ9.out.1, HC', by simp; omega⟩
end Go.Proofs.Ytaiihklfeoeoeaa.treeLists
