/- Package tree: place, directory, New, put. -/
import Derived.Test.YtaiihklfeoeoeaaT1
import Derived.StillTailTactics
namespace Go.Proofs.Ytaiihklfeoeoeaa.W
open Go.RowKit
open Go.Proofs.Ytaiihklfeoeoeaa.NM
set_option linter.unusedVariables false
set_option linter.unusedSimpArgs false

def PlacePost (w : World) (r : Nat × List UInt8 × Int) (e : Ending) (w' : World) : Prop := e = .returned (.tuple #[.int .i64 (r.1 : Int), .string ⟨r.2.1.toArray⟩, .int .i64 r.2.2]) ∧ Chg [] w w'
theorem look_join {T : PT} {l : List (List UInt8)} (hm : ∀ p ∈ l, mayB p = true) (h8 : l.length ≤ 8) :
    tLook T (joinB l) = if (tWalk T l 1).2 ≠ 0 then (0, false, (tWalk T l 1).2) else ((tWalk T l 1).1, tIsDir T (tWalk T l 1).1, 0) := by
  unfold tLook
  rw [split_join l hm h8]

set_option maxHeartbeats 4000000 in
set_option maxRecDepth 100000 in
theorem tplace_any (t : Nat) (S : List Nat) (T : PT) (s : ByteArray) (w : World) (h : TreeAt w t S T) (hs : s.size ≤ maxLen) :
    Calls Try.prog 26 #[.pointer (some ⟨t, 0, none⟩), .string s] w (PlacePost w (tPlace T s.data.toList)) := by
  have H := Lib.hid h
  have HS := Lib.hid hs
  cases hsp : splitB s.data.toList with
  | none =>
    have HR : Hid (tPlace T s.data.toList = (0, [], 12)) := Lib.hid (by unfold tPlace; rw [hsp])
    have HSP := Lib.hid hsp
    rw [HR.out]
    clear hsp h hs
    go_enter Try.func26, Try.ntmps26
    go_wp2_with fail
    refine (parent_any s w HS.out).mono ?_
    rintro e w1 ⟨hb, h2⟩
    rw [HSP.out] at h2
    subst h2
    have HB := Lib.hid hb
    clear hb
    go_wp2
    go_ret3
    exact ⟨rfl, chg_below HB.out⟩
  | some l =>
    by_cases hl0 : l = []
    · subst hl0
      have HR : Hid (tPlace T s.data.toList = (0, [], 1)) := Lib.hid (by unfold tPlace; rw [hsp]; rfl)
      have HSP := Lib.hid hsp
      rw [HR.out]
      clear hsp h hs
      go_enter Try.func26, Try.ntmps26
      go_wp2_with fail
      refine (parent_any s w HS.out).mono ?_
      rintro e w1 ⟨hb, h2⟩
      rw [HSP.out] at h2
      have h2' : e = .returned (.tuple #[.string (mk []), .string (mk []), .int .i64 1]) := by simpa using h2
      clear h2
      subst h2'
      have HB := Lib.hid hb
      clear hb
      go_wp2
      go_ret3
      exact ⟨rfl, chg_below HB.out⟩
    · have HR : Hid (tPlace T s.data.toList = if (tWalk T l.dropLast 1).2 ≠ 0 then (0, [], (tWalk T l.dropLast 1).2) else if tIsDir T (tWalk T l.dropLast 1).1 = false then (0, [], 10) else ((tWalk T l.dropLast 1).1, l.getLastD [], 0)) :=
        Lib.hid (by unfold tPlace; rw [hsp]; simp only [if_neg hl0])
      have HSP := Lib.hid hsp
      have HL0 := Lib.hid hl0
      obtain ⟨hm, h8, _⟩ := split_some hsp
      have HM : Hid (∀ p ∈ l.dropLast, mayB p = true) := Lib.hid (fun p hp => hm p (List.dropLast_subset l hp))
      have h8' : l.dropLast.length ≤ 8 := by rw [List.length_dropLast]; omega
      have HK := Lib.hid (look_join (T := T) HM.out h8')
      have hjl : (mk (joinB l.dropLast)).size ≤ maxLen := by
        have h1 := joinB_len l.dropLast (fun p hp => by have := (may_len (HM.out p hp)).2; omega)
        have h2 : (mk (joinB l.dropLast)).size = (joinB l.dropLast).length := by rw [size_len, data_mk]
        rw [h2]; unfold maxLen; omega
      have HJ := Lib.hid hjl
      have hpar : Calls Try.prog 41 #[.string s] w (fun e w1 => Chg [] w w1 ∧ e = .returned (.tuple #[.string (mk (joinB l.dropLast)), .string (mk (l.getLastD [])), .int .i64 0])) :=
        (parent_any s w hs).mono fun e w1 ⟨hb, h2⟩ => ⟨chg_below hb, by rw [hsp] at h2; simpa only [if_neg hl0] using h2⟩
      have HP := Lib.hid hpar
      clear hsp h hs hl0 hm h8 h8' hjl hpar HSP HL0
      generalize hZ : tPlace T s.data.toList = Z at HR ⊢
      clear hZ
      generalize l.dropLast = dl at *
      generalize l.getLastD [] = la at *
      go_enter Try.func26, Try.ntmps26
      go_wp2_with fail
      refine HP.out.mono ?_
      rintro e w1 ⟨hb, rfl⟩
      have HB := Lib.hid hb
      have H1 := Lib.hid (H.out.keep0 hb)
      clear hb
      go_wp2_with fail
      refine (tlook_any t S T (mk (joinB dl)) w1 H1.out HJ.out).mono ?_
      rintro e w2 ⟨rfl, hb⟩
      have HB2 := Lib.hid (chg_tr HB.out hb)
      clear hb
      have HK2 : Hid (tLook T (mk (joinB dl)).data.toList = if (tWalk T dl 1).2 ≠ 0 then (0, false, (tWalk T dl 1).2) else ((tWalk T dl 1).1, tIsDir T (tWalk T dl 1).1, 0)) := HK
      by_cases h0 : (tWalk T dl 1).2 = 0
      · have HR' : Hid (Z = if tIsDir T (tWalk T dl 1).1 = false then (0, [], 10) else ((tWalk T dl 1).1, la, 0)) := Lib.hid (by rw [HR.out, if_neg (by simp [h0])])
        have HK3 : Hid (tLook T (mk (joinB dl)).data.toList = ((tWalk T dl 1).1, tIsDir T (tWalk T dl 1).1, 0)) := Lib.hid (by rw [HK2.out, if_neg (by simp [h0])])
        rw [HK3.out]
        clear h0
        generalize (tWalk T dl 1).1 = a at *
        cases hd : tIsDir T a with
        | false =>
          have HE : Hid (Z = (0, [], 10)) := Lib.hid (by rw [HR'.out, if_pos hd])
          clear hd
          go_wp2
          go_ret3
          rw [HE.out]
          exact ⟨rfl, HB2.out⟩
        | true =>
          have HE : Hid (Z = (a, la, 0)) := Lib.hid (by rw [HR'.out, if_neg (by rw [hd]; simp)])
          clear hd
          go_wp2
          go_ret3
          rw [HE.out]
          exact ⟨rfl, HB2.out⟩
      · have HR' : Hid (Z = (0, [], (tWalk T dl 1).2)) := Lib.hid (by rw [HR.out, if_pos h0])
        have HK3 : Hid (tLook T (mk (joinB dl)).data.toList = (0, false, (tWalk T dl 1).2)) := Lib.hid (by rw [HK2.out, if_pos h0])
        have hb0 : ((tWalk T dl 1).2 != 0) = true := by simpa using h0
        rw [HK3.out]
        clear h0
        generalize (tWalk T dl 1).2 = er at *
        go_wp2
        go_ret3
        rw [HR'.out]
        exact ⟨rfl, HB2.out⟩

set_option maxHeartbeats 2000000 in
set_option maxRecDepth 100000 in
theorem tdirectory_any (up : Int) (s : ByteArray) (w : World) : Calls Try.prog 24 #[.int .i64 up, .string s] w fun e w' =>
    e = .returned (pth (w.heap.size + 1)) ∧ w' = (w.alloc (.map #[] 0)).alloc (.cells #[.int .i64 up, .string s, .bool true, .map (some w.heap.size)] 69) := by
  have hmm := @run_makeMap Try.prog
  go_enter Try.func24, Try.ntmps24
  go_wp2
  go_ret
  exact ⟨rfl, rfl⟩

theorem ne_map {w : World} {k : TypeId} {κ : Type} {kl : κ → Lit} {ok : κ → Prop} {b N : Nat} {φ : κ → Option Value} (h : MapF k kl ok w b φ N) {p : Addr} {v : Value} (hc : w.cell? p = some v) : p.block ≠ b := by
  obtain ⟨es, clock, hb⟩ := h.obj
  rintro rfl
  simp [World.cell?, hb] at hc

def PutsTh (w : World) (bm ga : Nat) (φ : Int → Option Value) (N : Nat) (ψ : List UInt8 → Option Value) (M : Nat) (ino : Int) (px : Nat) (name : List UInt8) (w' : World) : Prop :=
  MapF 3 klI okI w' bm (updF φ ino (pth px)) (if (φ ino).isSome then N else N + 1) ∧ MapF 9 klS okS w' ga (updF ψ name (.int .i64 ino)) (if (ψ name).isSome then M else M + 1) ∧ Chg [bm, ga] w w' ∧ w'.heap.size = w.heap.size
set_option maxHeartbeats 4000000 in
set_option maxRecDepth 100000 in
theorem tput_any (t bm : Nat) (at_ ino : Int) (px pa ga : Nat) (φ : Int → Option Value) (N : Nat) (ψ : List UInt8 → Option Value) (M : Nat) (name : List UInt8) (w : World)
    (h0 : w.heap[t]? = some (.cells #[.map (some bm)] 63 (0, 0))) (hm : MapF 3 klI okI w bm φ N) (hN : N < maxLen) (hat : okI at_) (hino : okI ino)
    (hpa : updF φ ino (pth px) at_ = some (pth pa)) (ca : w.cell? ⟨pa, 3, none⟩ = some (.map (some ga))) (cx : w.cell? ⟨px, 1, none⟩ = some (.string ⟨name.toArray⟩))
    (hg : MapF 9 klS okS w ga ψ M) (hM : M < maxLen) (hnm : okS name) (hne : ga ≠ bm) :
    Calls Try.prog 27 #[.pointer (some ⟨t, 0, none⟩), .int .i64 at_, .int .i64 ino, .pointer (some ⟨px, 0, none⟩)] w fun e w' => e = .returned (.tuple #[]) ∧ PutsTh w bm ga φ N ψ M ino px name w' := by
  have c0 := blk_cell h0 0 _ rfl
  have n0 : t ≠ bm := ne_map hm c0
  have n1 : pa ≠ bm := ne_map hm ca
  have n2 : px ≠ bm := ne_map hm cx
  have HM := Lib.hid hm
  have HG := Lib.hid hg
  have HC := Lib.hid (And.intro h0 (And.intro ca cx))
  have HPA := Lib.hid hpa
  have HO := Lib.hid (And.intro hat (And.intro hino hnm))
  have HN := Lib.hid (And.intro hN hM)
  have HNE := Lib.hid (And.intro (And.intro n0 (And.intro n1 n2)) hne)
  clear h0 hm hg ca cx hpa hat hino hnm hN hM n0 n1 n2 hne
  go_enter Try.func27, Try.ntmps27
  go_wp2_with (at_mapUpdate; refine wpList_upd keInt _ rfl _ _ _ _ (.inl rfl) 59 Try.underlying61 bm N φ rfl HM.out HN.out.1 ino rfl HO.out.2.1 (pth px) rfl ?_; intro w1 hm1 hc1 hs1)
  have c0 := hc1.cell (blk_cell HC.out.1 0 _ rfl) (by simpa using HNE.out.1.1)
  have ca := hc1.cell HC.out.2.1 (by simpa using HNE.out.1.2.1)
  have cx := hc1.cell HC.out.2.2 (by simpa using HNE.out.1.2.2)
  have hlk := hm1.look keInt Try.underlying61 zeroPT HO.out.1
  rw [HPA.out] at hlk
  have HM1 := Lib.hid hm1
  have HG1 := Lib.hid (HG.out.chg hc1 (by simpa using HNE.out.2))
  have HC1 := Lib.hid (And.intro hc1 hs1)
  clear hm1 hc1 hs1
  have hlk' : (Instr.lookup 61 (.map (some bm)) (.int .i64 at_) false).run Try.prog w1 = .ok (.pointer (some ⟨pa, 0, none⟩)) w1 := hlk
  clear hlk
  have hlk2 : (Instr.lookup 61 (.map (some bm)) (.int .i64 at_) false).run Try.prog w1.drew = .ok (.pointer (some ⟨pa, 0, none⟩)) w1.drew := by
    have h := (show MapF 3 klI okI w1.drew bm _ _ from HM1.out).look keInt Try.underlying61 zeroPT HO.out.1
    rw [HPA.out] at h
    exact h
  go_still_tail 14, (by kernel_rfl)
  change wpList _ _ _ _ _ w1.drew
  have HG2 : Hid (MapF 9 klS okS w1.drew ga ψ M) := Lib.hid HG1.out
  have HM2 : Hid (MapF 3 klI okI w1.drew bm (updF φ ino (pth px)) (if (φ ino).isSome then N else N + 1)) := Lib.hid HM1.out
  have HC2 : Hid (Chg [bm] w w1.drew ∧ w1.drew.heap.size = w.heap.size) := Lib.hid ⟨HC1.out.1.drew, HC1.out.2⟩
  generalize w1.drew = w2 at *
  go_wp2_with (at_mapUpdate; refine wpList_upd keStr _ rfl _ _ _ _ (.inl rfl) 3 Try.underlying67 ga M ψ rfl HG2.out HN.out.2 name rfl HO.out.2.2 (.int .i64 ino) rfl ?_; intro w3 hm3 hc3 hs3)
  have HF : Hid (PutsTh w bm ga φ N ψ M ino px name w3) :=
    Lib.hid ⟨HM2.out.chg hc3 (by simpa using fun e => HNE.out.2 e.symm), hm3, (HC2.out.1.mono (by simp)).trans hc3 (by simp), hs3.trans HC2.out.2⟩
  clear hm3 hc3 hs3
  go_wp2
  go_end0
  exact ⟨rfl, HF.out⟩
end Go.Proofs.Ytaiihklfeoeoeaa.W
