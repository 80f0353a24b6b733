/- A thing that was moved is there with all that was below it, and no more where it was; moved back all is as it was; a clone hears of nothing. -/
import Derived.Test.YtaiihklfeoeoeaaTMoveP
import Derived.Test.YtaiihklfeoeoeaaTDo
import Derived.Test.YtaiihklfeoeoeaaTClone
import Derived.Test.YtaiihklfeoeoeaaTWr
import Derived.Test.YtaiihklfeoeoeaaTSame
import Derived.Test.YtaiihklfeoeoeaaSame
namespace Go.Proofs.Ytaiihklfeoeoeaa.treeMoves
open Go.RowKit
open Go.Proofs.Ytaiihklfeoeoeaa.NM
open Go.Proofs.Ytaiihklfeoeoeaa.W
set_option linter.unusedVariables false
set_option linter.unusedSimpArgs false

theorem bytes_chg {w w' : World} {v : Value} {l : List UInt8} {S : List Nat} (h : BytesAt w v l) (hc : Chg S w w') (hS : ∀ k, v.ownBlock = some k → k ∉ S) : BytesAt w' v l := by
  obtain ⟨a, cap, rfl, h1, h2, h3⟩ := h
  refine ⟨a, cap, rfl, h1, h2, ?_⟩
  rcases h3 with h3 | ⟨g, o, rfl, hcell⟩
  · exact .inl h3
  · exact .inr ⟨g, o, rfl, fun i hi => hc.cell (hcell i hi) (hS g rfl)⟩
theorem bytes_chg0 {w w' : World} {v : Value} {l : List UInt8} (h : BytesAt w v l) (hc : Chg [] w w') : BytesAt w' v l := bytes_chg h hc (by simp)
/-- A tree, and what must not be touched by it: blocks from B up. -/
def Lone (w : World) (B t : Nat) (T : PT) (K : List Nat) : Prop := ∃ S, TreeAt w t S T ∧ ∀ k ∈ K, k ∉ S
theorem Lone.keep {w w' : World} {B t : Nat} {T : PT} {K : List Nat} (h : Lone w B t T K) (hc : Chg [] w w') : Lone w' B t T K := by
  obtain ⟨S, h1, h2⟩ := h
  exact ⟨S, h1.keep0 hc, h2⟩

set_option maxHeartbeats 8000000 in
set_option maxRecDepth 100000 in
theorem walk (a0 : Option Addr) (len0 cap0 : Nat) (f0 : Nat → Dd) (a1 a2 : ByteArray) (W : World) (w0 : len0 ≤ maxLen ∧ DeedsAt W a0 len0 f0) (hp0 : a1.size ≤ maxLen) (hq0 : a2.size ≤ maxLen) :
    Calls Try.prog 6 #[.slice a0 len0 cap0, .string a1, .string a2] W fun e W' => e = .returned (.bool true) ∧ Below W.heap.size W W' := by
  obtain ⟨hlm, hd0⟩ := w0
  have CA := Lib.hid (tawake_any W)
  have HD := Lib.hid hd0
  have HLM := Lib.hid hlm
  unfold maxLen at hlm hp0 hq0
  clear hd0
  go_enter Try.func6, Try.ntmps6
  go_wp2_with fail
  refine CA.out.mono ?_
  rintro e wa ⟨rfl, hc1⟩
  have HC1 := Lib.hid hc1
  have CR := Lib.hid (room_any a0 len0 cap0 f0 60 wa (HD.out.keep hc1) HLM.out)
  clear hc1 CA
  by_cases hroom : roomB len0 f0 60 = true ∧ a1.size ≤ 300 ∧ a2.size ≤ 300
  · obtain ⟨hr1, hp3, hq3⟩ := hroom
    obtain ⟨hn80, hsmall⟩ := room_true hr1
    rw [hr1] at CR
    have HSM := Lib.hid hsmall
    clear hr1 hsmall hp0 hq0
    go_wp2_with fail
    refine CR.out.mono ?_
    rintro e w' ⟨rfl, rfl⟩
    go_wp2_with fail
    refine (onew_any HC1.out).mono ?_
    rintro e w2 ⟨t, rfl, ht⟩
    have HT := Lib.hid ht
    clear ht CR
    go_wp2
    go_loopg [8] len0 (fun gh v8 wr => ∃ k : Nat, v8 = .int .i64 k ∧ k ≤ len0 ∧ len0 ≤ k + gh ∧ Hid (∃ T, Own W wr t T ∧ TR T))
    case atStart => exact ⟨0, rfl, by omega, by omega, Lib.hid ⟨[], HT.out, TR.nil⟩⟩
    case round =>
      obtain ⟨k, rfl, hk, hkg, HO⟩ := hrel
      by_cases hlt : k < len0
      · obtain ⟨T, hT, hR⟩ := HO.out
        have HDk := Lib.hid (HD.out.keep hT.chg)
        obtain ⟨g, o, rfl, c0, c1, c2, c3⟩ : ∃ g o, a0 = some ⟨g, o, none⟩ ∧ wr.cell? ⟨g, o + k * 4, none⟩ = some (.int .i64 (f0 k).c) ∧ wr.cell? ⟨g, o + k * 4 + 1, none⟩ = some (.string (mk (f0 k).p)) ∧
            wr.cell? ⟨g, o + k * 4 + 2, none⟩ = some (.string (mk (f0 k).q)) ∧ wr.cell? ⟨g, o + k * 4 + 3, none⟩ = some (.bool (f0 k).d) := by
          rcases HDk.out with h0 | ⟨g, o, h1, h2⟩
          · omega
          · obtain ⟨c0, c1, c2, c3, _⟩ := h2 k hlt
            exact ⟨g, o, h1, c0, c1, c2, c3⟩
        have hgl : g < wr.heap.size := World.block_lt_of_cell? wr _ c0
        have hx1 := (HSM.out k hlt).1
        have hx2 := (HSM.out k hlt).2
        have HB := Lib.hid hT.both
        have HTT := Lib.hid hT
        have HRR := Lib.hid hR
        generalize f0 k = x at *
        have CD := Lib.hid (do_any HB.out x (by omega) (by omega))
        have hkz : (k : Int) < (len0 : Int) := by omega
        clear hT hR hx1 hx2
        go_wp2_with fail
        refine CD.out.mono ?_
        rintro e w3 ⟨rfl, h3, _⟩
        have HO3 : Hid (∃ T, Own W w3 t T ∧ TR T) := Lib.hid ⟨_, h3.own, by
          unfold doT
          split
          · exact HRR.out.make HTT.out.ok _ _
          · split
            · exact HRR.out.remove _ _
            · exact HRR.out.move HTT.out.ok _ _⟩
        clear h3 CD HB
        go_wp2
        go_roundg (len0 - k - 1)
        case measure => omega
        case rel => exact ⟨k + 1, by go_num, by omega, by omega, HO3⟩
      · obtain ⟨w1, rfl⟩ : ∃ w1 : World, w1 = wr := ⟨_, rfl⟩
        obtain ⟨T, hT, hR⟩ := HO.out
        have hTl := tok_len hT.ok
        have HTK := Lib.hid hT.ok
        obtain ⟨S, hS1, hS2, hS3⟩ := hT
        have HS := Lib.hid hS1
        have HSL := Lib.hid hS1.lim
        have HSN := Lib.hid hS2
        have HW1 := Lib.hid hS3
        have hl2 := Lib.hid (treeB_len HTK.out)
        clear hR hS1 hS2 hS3 HO
        go_wp2_with fail
        refine (tclone_any t S T w1 HS.out).mono ?_
        rintro e w3 ⟨ct, S', rfl, hcl, hcn, hc3⟩
        have HC3 := Lib.hid hc3
        have HCL3 := Lib.hid hcl
        have HCN := Lib.hid hcn
        have HT3 := Lib.hid (HS.out.keep0 hc3)
        clear hcl hcn hc3
        go_wp2_with fail
        refine (tbytes_any t S T w3 HT3.out).mono ?_
        rintro e w4 ⟨v0, rfl, hr0, hv0, hc4⟩
        have HB4 := Lib.hid hr0.bytes
        have HV0 := Lib.hid (And.intro hv0 hr0.lt)
        have HC4 := Lib.hid hc4
        have HT4 := Lib.hid (HT3.out.keep0 hc4)
        have CLK := tlook_any t S T a1 w4 HT4.out (by unfold maxLen; omega)
        have HCLK := Lib.hid CLK
        clear hr0 hv0 hc4 CLK
        obtain ⟨lk, hlk⟩ : ∃ lk, lk = tLook T a1.data.toList := ⟨_, rfl⟩
        rw [← hlk] at HCLK
        have HLK := Lib.hid hlk
        clear hlk
        obtain ⟨n, isd, er⟩ := lk
        go_wp2_with fail
        refine HCLK.out.mono ?_
        rintro e w5 ⟨rfl, hc5⟩
        have HC5 := Lib.hid hc5
        have HT5 := Lib.hid (HT4.out.keep0 hc5)
        clear hc5 HCLK
        have CLI := tlist_any t S T a1 w5 HT5.out (by unfold maxLen; omega) (by omega)
        obtain ⟨li, hli⟩ : ∃ li, li = tList T a1.data.toList := ⟨_, rfl⟩
        rw [← hli] at CLI
        have HLI := Lib.hid hli
        have HCLI := Lib.hid CLI
        clear hli CLI
        obtain ⟨L, ler⟩ := li
        go_wp2_with fail
        refine HCLI.out.mono ?_
        rintro e w6 ⟨u0, rfl, hru, hc6⟩
        have HE6 := Lib.hid (ents_own hru)
        have HU0 : Hid (∀ k, u0.ownBlock = some k → w5.heap.size ≤ k ∧ k < w6.heap.size) := Lib.hid (fun k hk => World.ownsRow.lt hru k hk)
        have HC6 := Lib.hid hc6
        have HT6 := Lib.hid (HT5.out.keep0 hc6)
        have hLl : Hid (L.length = L.length) := Lib.hid rfl
        clear hru hc6 HCLI
        have hs1 := HC3.out.size
        have hs2 := HC4.out.size
        have hs3 := HC5.out.size
        have hs4 := HC6.out.size
        -- what must stay as it is, whatever is done to the tree
        have HCT6 := Lib.hid (((HCL3.out.keep0 HC4.out).keep0 HC5.out).keep0 HC6.out)
        have HB6 := Lib.hid (bytes_chg0 (bytes_chg0 HB4.out HC5.out) HC6.out)
        have HOFF : Hid (∀ S5 : List Nat, (∀ x ∈ S5, x ∈ S ∨ w6.heap.size ≤ x) → (∀ x ∈ S', x ∉ S5) ∧ (∀ k, v0.ownBlock = some k → k ∉ S5) ∧ (∀ k, u0.ownBlock = some k → k ∉ S5)) := Lib.hid (fun S5 h5 => ⟨fun x hx hm => by
          have h1 := HCN.out x hx
          have h2 := HCL3.out.lim x hx
          rcases h5 x hm with h | h
          · have := HSL.out x h; omega
          · omega, fun k hk hm => by
          have h1 := HV0.out.1 k hk
          have h2 := HV0.out.2 k hk
          rcases h5 k hm with h | h
          · have := HSL.out k h; omega
          · omega, fun k hk hm => by
          obtain ⟨h1, h2⟩ := HU0.out k hk
          rcases h5 k hm with h | h
          · have := HSL.out k h; omega
          · omega⟩)
        have HW6 : Hid (Chg [] W w6) := Lib.hid (chg_tr (chg_tr (chg_tr (chg_tr HW1.out HC3.out) HC4.out) HC5.out) HC6.out)
        have CMV := tmove_any t S T a1 a2 w6 HT6.out (by unfold maxLen; omega) (by unfold maxLen; omega) (by omega)
        obtain ⟨mv, hmv⟩ : ∃ mv, mv = tMove T a1.data.toList a2.data.toList := ⟨_, rfl⟩
        rw [← hmv] at CMV
        have HMV := Lib.hid hmv
        have HCMV := Lib.hid CMV
        clear hmv CMV
        obtain ⟨f, T5⟩ := mv
        go_wp2_with fail
        refine HCMV.out.mono ?_
        rintro e w7 ⟨rfl, hd7⟩
        obtain ⟨S5, ht7, hn7, hc7⟩ := hd7
        have HT7 := Lib.hid ht7
        have HN7 := Lib.hid hn7
        have HC7 := Lib.hid hc7
        have HW7 : Hid (Chg [] W w7) := Lib.hid (HW6.out.trans hc7 (fun x hx => .inr (HSN.out x hx)))
        have HO6 := Lib.hid (HOFF.out S (fun x hx => .inl hx))
        have HB7 := Lib.hid (bytes_chg HB6.out hc7 HO6.out.2.1)
        have HE7 := Lib.hid (HE6.out.keep hc7 HO6.out.2.2)
        have HCT7 := Lib.hid (HCT6.out.keep hc7 HO6.out.1)
        have HO7 := Lib.hid (HOFF.out S5 hn7)
        have hs5 := hc7.size
        clear ht7 hn7 hc7 HCMV
        by_cases hf0 : f = 0
        · subst hf0
          obtain ⟨n', d, s, x, l, m, hm⟩ := moved (T := T) (p := a1.data.toList) (q := a2.data.toList) HTK.out (by rw [← HMV.out])
          have HM := Lib.hid hm
          have HT5e : Hid (T5 = tRename T n' d s) := Lib.hid (by have := HMV.out.trans hm.mv; exact (Prod.mk.inj this).2)
          have HLe : Hid (n = n' ∧ isd = tIsDir T n' ∧ er = 0) := Lib.hid (by
            have := HLK.out.trans hm.lk
            injection this with h1 h2
            injection h2 with h2 h3
            exact ⟨h1, h2, h3⟩)
          have hT5l := tok_len HT7.out.ok
          clear hm
          obtain ⟨rfl, rfl, rfl⟩ := HLe.out
          have CL8 := tlook_any t S5 T5 a2 w7 HT7.out (by unfold maxLen; omega)
          rw [HT5e.out, HM.out.lookQ HTK.out] at CL8
          have HCL8 := Lib.hid CL8
          clear CL8
          generalize hdd : tIsDir T n = dd at *
          go_wp2_with fail
          refine HCL8.out.mono ?_
          rintro e w8 ⟨rfl, hc8⟩
          have HC8 := Lib.hid hc8
          have HT8 := Lib.hid (HT7.out.keep0 hc8)
          clear hc8 HCL8 hdd
          have CL9 := tlook_any t S5 T5 a1 w8 HT8.out (by unfold maxLen; omega)
          rw [HT5e.out, HM.out.lookP HTK.out] at CL9
          have HCL9 := Lib.hid CL9
          clear CL9
          go_wp2_with fail
          refine HCL9.out.mono ?_
          rintro e w9 ⟨rfl, hc9⟩
          have HC9 := Lib.hid (chg_tr HC8.out hc9)
          have HT9 := Lib.hid (HT8.out.keep0 hc9)
          clear hc9 HCL9
          have CLA := tlist_any t S5 T5 a2 w9 HT9.out (by unfold maxLen; omega) (by omega)
          rw [HT5e.out, HM.out.list HTK.out, ← HLI.out] at CLA
          have HCLA := Lib.hid CLA
          clear CLA
          go_wp2_with fail
          refine HCLA.out.mono ?_
          rintro e wA ⟨uA, rfl, hrA, hcA⟩
          have HEA := Lib.hid (ents_own hrA)
          have HCA := Lib.hid (chg_tr HC9.out hcA)
          have HTA := Lib.hid (HT9.out.keep0 hcA)
          have HEB := Lib.hid (HE7.out.keep0 HCA.out)
          clear hrA hcA HCLA
          have hLl2 : Hid (L.length ≤ 1000) := Lib.hid (by
            have h1 : L = (tList T a1.data.toList).1 := by rw [← HLI.out]
            rw [h1]
            unfold tList
            split
            · simp
            · split
              · simp
              · unfold entsOf
                rw [List.length_map, names_len]
                have := List.countP_le_length (p := fun x => x.dir == (tLook T a1.data.toList).1) (l := T)
                omega)
          go_wp2_with fail
          refine (samee_any uA u0 L wA HEA.out HEB.out (by have := hLl2.out; omega)).mono ?_
          rintro e wB ⟨rfl, nB, hwB⟩
          have HCB : Hid (Chg [] w7 wB) := Lib.hid (by rw [hwB]; exact HCA.out.drewN _)
          have HWB := Lib.hid (rwithin_any a2 a1 wB (by omega) (by omega))
          have hw1f := HM.out.w1
          rw [hw1f] at HWB
          clear hwB hw1f
          go_wp2_with fail
          refine HWB.out.mono ?_
          rintro e wC ⟨rfl, hcC⟩
          have HCC := Lib.hid (chg_tr HCB.out (chg_below hcC))
          clear hcC HWB
          have HTC := Lib.hid (HT7.out.keep0 HCC.out)
          have CMB := tmove_any t S5 T5 a2 a1 wC HTC.out (by unfold maxLen; omega) (by unfold maxLen; omega) (by omega)
          rw [HT5e.out, HM.out.back HTK.out] at CMB
          have HCMB := Lib.hid CMB
          clear CMB
          go_wp2_with fail
          refine HCMB.out.mono ?_
          rintro e wD ⟨rfl, hdD⟩
          obtain ⟨S6, htD, hnD, hcD⟩ := hdD
          have HTD := Lib.hid htD
          have HCD : Hid (Chg S5 w7 wD) := Lib.hid ((HCC.out.mono (by simp)).trans hcD (fun x hx => .inl hx))
          have HBD := Lib.hid (bytes_chg HB7.out HCD.out HO7.out.2.1)
          have HCTD := Lib.hid (HCT7.out.keep HCD.out HO7.out.1)
          have HWD : Hid (Chg [] W wD) := Lib.hid (HW7.out.trans HCD.out (fun x hx => by
            rcases HN7.out x hx with h | h
            · exact .inr (HSN.out x h)
            · have := HW6.out.size; right; omega))
          clear htD hnD hcD HCMB
          go_wp2_with fail
          refine (tbytes_any t S6 T wD HTD.out).mono ?_
          rintro e wE ⟨v1, rfl, hr1, hv1, hcE⟩
          have HB1 := Lib.hid hr1.bytes
          have HBE := Lib.hid (bytes_chg0 HBD.out hcE)
          have HCTE := Lib.hid (HCTD.out.keep0 hcE)
          have HWE := Lib.hid (chg_tr HWD.out hcE)
          clear hr1 hv1 hcE
          go_wp2_with fail
          refine (same_any v1 v0 _ _ wE HB1.out HBE.out (by have := hl2.out; omega) (by have := hl2.out; omega)).mono ?_
          rintro e wF ⟨he, nF, hwF⟩
          have HEF : Hid (e = .returned (.bool true)) := Lib.hid (by rw [he, decide_eq_true rfl])
          have HCF : Hid (Chg [] wE wF) := Lib.hid (by rw [hwF]; exact (Chg.refl [] _).drewN _)
          clear he hwF
          rw [HEF.out]
          have HCTF := Lib.hid (HCTE.out.keep0 HCF.out)
          have HBF := Lib.hid (bytes_chg0 HBE.out HCF.out)
          have HWF := Lib.hid (chg_tr HWE.out HCF.out)
          go_wp2_with fail
          refine (tbytes_any ct S' T wF HCTF.out).mono ?_
          rintro e wG ⟨v2, rfl, hr2, hv2, hcG⟩
          have HB2 := Lib.hid hr2.bytes
          have HBG := Lib.hid (bytes_chg0 HBF.out hcG)
          have HWG := Lib.hid (chg_tr HWF.out hcG)
          clear hr2 hv2 hcG
          go_wp2_with fail
          refine (same_any v2 v0 _ _ wG HB2.out HBG.out (by have := hl2.out; omega) (by have := hl2.out; omega)).mono ?_
          rintro e wH ⟨he, nH, hwH⟩
          have HEH : Hid (e = .returned (.bool true)) := Lib.hid (by rw [he, decide_eq_true rfl])
          have HWH : Hid (Chg [] W wH) := Lib.hid (by rw [hwH]; exact HWG.out.drewN _)
          clear he hwH
          rw [HEH.out]
          go_wp2
          go_ret
          exact ⟨rfl, HWH.out.below (by simp)⟩
        · have HTE : Hid (T5 = T) := Lib.hid (by
            have h1 := move_stays (T := T) (p := a1.data.toList) (q := a2.data.toList) (by rw [← HMV.out]; exact hf0)
            rw [← HMV.out] at h1; exact h1)
          have hfb : (f != 0) = true := by simpa using hf0
          clear hf0
          go_wp2_with fail
          refine (tbytes_any t S5 T5 w7 HT7.out).mono ?_
          rintro e w8 ⟨v1, rfl, hr1, hv1, hc8⟩
          have HB1 : Hid (BytesAt w8 v1 (treeB T)) := Lib.hid (by rw [← HTE.out]; exact hr1.bytes)
          have HB8 := Lib.hid (bytes_chg0 HB7.out hc8)
          have HW8 := Lib.hid (chg_tr HW7.out hc8)
          clear hr1 hv1 hc8
          go_wp2_with fail
          refine (same_any v1 v0 _ _ w8 HB1.out HB8.out (by have := hl2.out; omega) (by have := hl2.out; omega)).mono ?_
          rintro e w9 ⟨he, n9, hw9⟩
          have HE9 : Hid (e = .returned (.bool true)) := Lib.hid (by rw [he, decide_eq_true rfl])
          have HW9 : Hid (Chg [] W w9) := Lib.hid (by rw [hw9]; exact HW8.out.drewN _)
          clear he hw9
          rw [HE9.out]
          go_wp2
          go_ret
          exact ⟨rfl, HW9.out.below (by simp)⟩
  · have HNR := Lib.hid hroom
    clear hroom
    generalize hrb : roomB len0 f0 60 = rb at *
    have HRB := Lib.hid hrb
    clear hrb
    cases rb with
    | false =>
      go_wp2_with fail
      refine CR.out.mono ?_
      rintro e w' ⟨rfl, rfl⟩
      go_wp2
      go_ret
      exact ⟨rfl, HC1.out.below (by simp)⟩
    | true =>
      by_cases hp3 : a1.size ≤ 300
      · have hq3 : ¬ a2.size ≤ 300 := fun h => HNR.out ⟨rfl, hp3, h⟩
        go_wp2_with fail
        refine CR.out.mono ?_
        rintro e w' ⟨rfl, rfl⟩
        go_wp2
        go_ret
        exact ⟨rfl, HC1.out.below (by simp)⟩
      · go_wp2_with fail
        refine CR.out.mono ?_
        rintro e w' ⟨rfl, rfl⟩
        go_wp2
        go_ret
        exact ⟨rfl, HC1.out.below (by simp)⟩
end Go.Proofs.Ytaiihklfeoeoeaa.treeMoves
