/- The reference's Look, place. -/
import Derived.Test.YtaiihklfeoeoeaaRT0
namespace Go.Proofs.Ytaiihklfeoeoeaa.W
open Go.RowKit
open Go.Proofs.Ytaiihklfeoeoeaa.NM
set_option linter.unusedVariables false
set_option linter.unusedSimpArgs false

set_option maxHeartbeats 4000000 in
set_option maxRecDepth 100000 in
theorem rlook_any (b base : Nat) (v : Value) (T : PT) (s : ByteArray) (w : World) (h : RTOk w b v base T) (hs : s.size ≤ 1000) :
    Calls Try.prog 49 #[.pointer (some ⟨b, 0, none⟩), .string s] w (LookPost w (tLook T s.data.toList)) := by
  have H := Lib.hid h
  have HS := Lib.hid hs
  cases hsp : splitB s.data.toList with
  | none =>
    have HR : Hid (tLook T s.data.toList = (0, false, 12)) := Lib.hid (by unfold tLook; rw [hsp])
    have HSP := Lib.hid hsp
    rw [HR.out]
    clear hsp h hs
    go_enter Try.func49, Try.ntmps49
    go_wp2_with fail
    refine (rsplit_any s w HS.out).mono ?_
    rintro e w1 ⟨hb, h2⟩
    rw [HSP.out] at h2
    subst h2
    have HB := Lib.hid hb
    clear hb
    go_wp2
    go_ret3
    exact ⟨rfl, chg_below HB.out⟩
  | some l =>
    have HR : Hid (tLook T s.data.toList = if (tWalk T l 1).2 ≠ 0 then (0, false, (tWalk T l 1).2) else ((tWalk T l 1).1, tIsDir T (tWalk T l 1).1, 0)) := Lib.hid (by unfold tLook; rw [hsp])
    have HSP := Lib.hid hsp
    obtain ⟨hl1, hl2⟩ := split_names hsp
    clear hsp h hs hl2
    generalize hZ : tLook T s.data.toList = Z at HR ⊢
    clear hZ
    go_enter Try.func49, Try.ntmps49
    go_wp2_with fail
    refine (rsplit_any s w HS.out).mono ?_
    rintro e w1 ⟨hb, h2⟩
    rw [HSP.out] at h2
    obtain ⟨u, rfl, hv⟩ := h2
    have HB := Lib.hid (chg_below hb)
    have H1 := Lib.hid (H.out.keep0 HB.out)
    have HV := Lib.hid hv
    clear hb hv
    go_wp2_with fail
    refine (rwalk_any b base v T u l w1 H1.out HV.out (by omega)).mono ?_
    rintro e w2 ⟨rfl, rfl⟩
    by_cases h0 : (tWalk T l 1).2 = 0
    · have HR' : Hid (Z = ((tWalk T l 1).1, tIsDir T (tWalk T l 1).1, 0)) := Lib.hid (by rw [HR.out, if_neg (by simp [h0])])
      rw [h0]
      clear h0
      generalize (tWalk T l 1).1 = a at *
      have CD := Lib.hid (risdir_any b base v T a w1 H1.out)
      generalize tIsDir T a = dd at *
      go_wp2_with fail
      refine CD.out.mono ?_
      rintro e w3 ⟨rfl, rfl⟩
      go_wp2
      go_ret3
      rw [HR'.out]
      exact ⟨rfl, HB.out⟩
    · have HR' : Hid (Z = (0, false, (tWalk T l 1).2)) := Lib.hid (by rw [HR.out, if_pos h0])
      have hb0 : ((tWalk T l 1).2 != 0) = true := by simpa using h0
      clear h0
      generalize (tWalk T l 1).2 = er at *
      go_wp2
      go_ret3
      rw [HR'.out]
      exact ⟨rfl, HB.out⟩

set_option maxHeartbeats 4000000 in
set_option maxRecDepth 100000 in
theorem rplace_any (b base : Nat) (v : Value) (T : PT) (s : ByteArray) (w : World) (h : RTOk w b v base T) (hs : s.size ≤ 1000) (hne : splitB s.data.toList ≠ some []) :
    Calls Try.prog 47 #[.pointer (some ⟨b, 0, none⟩), .string s] w (PlacePost w (tPlace T s.data.toList)) := by
  have H := Lib.hid h
  have HS := Lib.hid hs
  cases hsp : splitB s.data.toList with
  | none =>
    have HR : Hid (tPlace T s.data.toList = (0, [], 12)) := Lib.hid (by unfold tPlace; rw [hsp])
    have HSP := Lib.hid hsp
    rw [HR.out]
    clear hsp h hs hne
    go_enter Try.func47, Try.ntmps47
    go_wp2_with fail
    refine (rsplit_any s w HS.out).mono ?_
    rintro e w1 ⟨hb, h2⟩
    rw [HSP.out] at h2
    subst h2
    have HB := Lib.hid hb
    clear hb
    go_wp2
    go_ret3
    exact ⟨rfl, chg_below HB.out⟩
  | some l =>
    have hl0 : l ≠ [] := fun e => hne (by rw [hsp, e])
    have HR : Hid (tPlace T s.data.toList = if (tWalk T l.dropLast 1).2 ≠ 0 then (0, [], (tWalk T l.dropLast 1).2) else if tIsDir T (tWalk T l.dropLast 1).1 = false then (0, [], 10) else ((tWalk T l.dropLast 1).1, l.getLastD [], 0)) :=
      Lib.hid (by unfold tPlace; rw [hsp]; simp only [if_neg hl0])
    have HSP := Lib.hid hsp
    obtain ⟨m, hm⟩ : ∃ m, l.length = m + 1 := ⟨l.length - 1, by have := List.length_pos_iff.2 hl0; omega⟩
    have h8 := (split_some hsp).2.1
    have hm8 : m ≤ 8 := by omega
    have hdl : l.dropLast.length = m := by rw [List.length_dropLast]; omega
    have HM := Lib.hid hm
    have HDL := Lib.hid hdl
    clear hsp h hs hne hl0 h8 hdl
    generalize hZ : tPlace T s.data.toList = Z at HR ⊢
    clear hZ
    go_enter Try.func47, Try.ntmps47
    go_wp2_with fail
    refine (rsplit_any s w HS.out).mono ?_
    rintro e w1 ⟨hb, h2⟩
    rw [HSP.out] at h2
    obtain ⟨u, rfl, A, c, rfl, hcap, hrow⟩ := h2
    have HB := Lib.hid (chg_below hb)
    have H1 := Lib.hid (H.out.keep0 HB.out)
    rw [hm] at hcap hrow ⊢
    obtain ⟨x, o, rfl, hx, hc⟩ : ∃ x o, A = some ⟨x, o, none⟩ ∧ x < w1.heap.size ∧ ∀ i, i < m + 1 → w1.cell? ⟨x, o + i, none⟩ = some (.string (mk (l.getD i []))) := by
      rcases hrow with h0 | h0
      · omega
      · exact h0
    have HV : Hid (∀ C, m ≤ C → IsStrs w1 (.slice (some ⟨x, o, none⟩) m C) l.dropLast) := Lib.hid (fun C hC => by
      refine ⟨some ⟨x, o, none⟩, C, by rw [HDL.out], by rw [HDL.out]; exact hC, .inr ⟨x, o, rfl, hx, fun i hi => ?_⟩⟩
      rw [HDL.out] at hi
      show _ = some (Value.string (mk (l.dropLast.getD i [])))
      rw [dropLast_getD HM.out i hi]
      exact hc i (by omega))
    have hlast := hc m (by omega)
    rw [last_getD hm] at hlast
    have HLA := Lib.hid hlast
    clear hb hrow hc hm hlast
    generalize l.dropLast = dl at *
    generalize l.getLastD [] = la at *
    have e1 : ((m + 1 : Nat) : Int) - 1 = (m : Int) := by omega
    have e2 : (m + 1 : Int) - 1 = (m : Int) := by omega
    go_wp2_with fail
    refine (rwalk_any b base v T _ dl w1 H1.out (HV.out _ (by omega)) (by rw [HDL.out]; omega)).mono ?_
    rintro e w2 ⟨rfl, rfl⟩
    clear e1 e2
    by_cases h0 : (tWalk T dl 1).2 = 0
    · have HR' : Hid (Z = if tIsDir T (tWalk T dl 1).1 = false then (0, [], 10) else ((tWalk T dl 1).1, la, 0)) := Lib.hid (by rw [HR.out, if_neg (by simp [h0])])
      rw [h0]
      clear h0
      generalize (tWalk T dl 1).1 = a at *
      have CD := Lib.hid (risdir_any b base v T a w1 H1.out)
      cases hd : tIsDir T a with
      | false =>
        have HE : Hid (Z = (0, [], 10)) := Lib.hid (by rw [HR'.out, if_pos hd])
        rw [hd] at CD
        clear hd
        go_wp2_with fail
        refine CD.out.mono ?_
        rintro e w3 ⟨rfl, rfl⟩
        go_wp2
        go_ret3
        rw [HE.out]
        exact ⟨rfl, HB.out⟩
      | true =>
        have HE : Hid (Z = (a, la, 0)) := Lib.hid (by rw [HR'.out, if_neg (by rw [hd]; simp)])
        rw [hd] at CD
        clear hd
        go_wp2_with fail
        refine CD.out.mono ?_
        rintro e w3 ⟨rfl, rfl⟩
        have hla := HLA.out
        have hmz : (m : Int) < ((m + 1 : Nat) : Int) := by omega
        go_wp2
        go_quiet (fail)
        go_wp2
        go_ret3
        rw [HE.out]
        exact ⟨rfl, HB.out.drewN _⟩
    · have HR' : Hid (Z = (0, [], (tWalk T dl 1).2)) := Lib.hid (by rw [HR.out, if_pos h0])
      have hb0 : ((tWalk T dl 1).2 != 0) = true := by simpa using h0
      clear h0
      generalize (tWalk T dl 1).2 = er at *
      go_wp2
      go_ret3
      rw [HR'.out]
      exact ⟨rfl, HB.out⟩
end Go.Proofs.Ytaiihklfeoeoeaa.W
