/- The walk of the reference's Split: it answers a path's names. -/
import Derived.Test.YtaiihklfeoeoeaaNMSplit
namespace Go.Proofs.Ytaiihklfeoeoeaa.NM
open Go.RowKit
set_option linter.unusedVariables false

/-- What stands at the head of a round. -/
def RMode (s : ByteArray) (ls : List Bs) (a i : Nat) : Prop :=
  (1 ≤ a ∧ a ≤ i ∧ i ≤ s.size ∧ (47 : UInt8) ∉ (s.data.toList.drop a).take (i - a) ∧ contR ls (47 :: s.data.toList.drop a) = contR [] s.data.toList) ∨
  (i = s.size + 1 ∧ contR [] s.data.toList = some ls)

theorem extract_mid (s : ByteArray) (a k : Nat) : s.extract a k = mk ((s.data.toList.drop a).take (k - a)) := by
  rw [← mk_data (s.extract a k), Lib.extract_data]

theorem mid_step {s : ByteArray} {a i : Nat} (h1 : a ≤ i) (h2 : i < s.size) : (s.data.toList.drop a).take (i + 1 - a) = (s.data.toList.drop a).take (i - a) ++ [s[i]] := by
  have hl : i < s.data.toList.length := by rw [← size_len]; exact h2
  have e : i + 1 - a = (i - a) + 1 := by omega
  rw [e, List.take_succ_eq_append_getElem (by rw [List.length_drop]; omega), List.getElem_drop]
  congr 2
  have : a + (i - a) = i := by omega
  simp only [this]
  rfl
theorem mid_stroke {s : ByteArray} {a i : Nat} (h1 : a ≤ i) (h2 : i < s.size) (hc : s[i] = 47) : s.data.toList.drop a = (s.data.toList.drop a).take (i - a) ++ 47 :: s.data.toList.drop (i + 1) := by
  have hl : i < s.data.toList.length := by rw [← size_len]; exact h2
  have e : (s.data.toList.drop a).drop (i - a) = s.data.toList.drop i := by rw [List.drop_drop]; congr 1; omega
  have e2 : s.data.toList.drop i = s.data.toList[i] :: s.data.toList.drop (i + 1) := List.drop_eq_getElem_cons hl
  have e3 : s.data.toList[i] = 47 := hc
  conv => lhs; rw [← List.take_append_drop (i - a) (s.data.toList.drop a)]
  rw [e, e2, e3]

theorem mode_next {s : ByteArray} {ls : List Bs} {a i : Nat} (h1 : 1 ≤ a) (h2 : a ≤ i) (h3 : i < s.size) (h4 : (47 : UInt8) ∉ (s.data.toList.drop a).take (i - a)) (h5 : contR ls (47 :: s.data.toList.drop a) = contR [] s.data.toList)
    (hc : s[i] ≠ 47) : RMode s ls a (i + 1) := by
  refine .inl ⟨h1, by omega, by omega, ?_, h5⟩
  rw [mid_step h2 h3]
  intro hm
  rcases List.mem_append.1 hm with hm | hm
  · exact h4 hm
  · simp only [List.mem_singleton] at hm; exact hc hm.symm
theorem mode_stroke {s : ByteArray} {ls : List Bs} {a i : Nat} (h2 : a ≤ i) (h3 : i < s.size) (h4 : (47 : UInt8) ∉ (s.data.toList.drop a).take (i - a)) (h5 : contR ls (47 :: s.data.toList.drop a) = contR [] s.data.toList)
    (hc : s[i] = 47) : contR [] s.data.toList = if mayB ((s.data.toList.drop a).take (i - a)) then contR (ls ++ [(s.data.toList.drop a).take (i - a)]) (47 :: s.data.toList.drop (i + 1)) else none := by
  rw [← h5]
  conv => lhs; rw [mid_stroke h2 h3 hc]
  rw [contR_stroke h4]
theorem mode_go {s : ByteArray} {ls : List Bs} {i : Nat} {p : Bs} (h3 : i < s.size) (h : contR [] s.data.toList = if mayB p then contR (ls ++ [p]) (47 :: s.data.toList.drop (i + 1)) else none) (hm : mayB p = true) : RMode s (ls ++ [p]) (i + 1) (i + 1) := by
  rw [hm] at h
  refine .inl ⟨by omega, Nat.le_refl _, by omega, by simp, h.symm⟩
theorem mode_last {s : ByteArray} {ls : List Bs} {a : Nat} (h2 : a ≤ s.size) (h4 : (47 : UInt8) ∉ (s.data.toList.drop a).take (s.size - a)) (h5 : contR ls (47 :: s.data.toList.drop a) = contR [] s.data.toList) (h8 : ls.length < 8) :
    contR [] s.data.toList = if mayB ((s.data.toList.drop a).take (s.size - a)) then contR (ls ++ [(s.data.toList.drop a).take (s.size - a)]) [] else none := by
  have e : (s.data.toList.drop a).take (s.size - a) = s.data.toList.drop a := List.take_of_length_le (by rw [List.length_drop, ← size_len]; exact Nat.le_refl _)
  rw [e] at h4 ⊢
  rw [← h5, contR_end h4 h8]
theorem mode_end {s : ByteArray} {ls : List Bs} {p : Bs} (h : contR [] s.data.toList = if mayB p then contR (ls ++ [p]) [] else none) (hm : mayB p = true) : RMode s (ls ++ [p]) (s.size + 1) (s.size + 1) := by
  rw [hm, if_pos rfl, contR_nil, if_neg (by simp)] at h
  exact .inr ⟨rfl, h⟩

set_option maxHeartbeats 8000000 in
set_option maxRecDepth 100000 in
theorem rsplit_any (s : ByteArray) (w : World) (hs : s.size ≤ 1000) : Calls Try.prog 40 #[.string s] w (SplitPost w (splitB s.data.toList)) := by
  by_cases hroot : s.data.toList = [47]
  · have hb : (s.toList == [47]) = true := by rw [toList_data, hroot]; rfl
    have hres : splitB s.data.toList = some [] := by rw [hroot]; rfl
    rw [hres]
    clear hroot hres
    go_enter Try.func40, Try.ntmps40
    go_wp2
    go_ret2
    exact ⟨Below.refl _ _, _, rfl, none, 0, rfl, Nat.le_refl _, .inl rfl⟩
  · have hb : (s.toList == [47]) = false := by rw [toList_data, beq_eq_false_iff_ne]; exact hroot
    rw [← contR_start _ hroot]
    clear hroot
    by_cases h0 : s.size = 0
    · have hz : ((s.size : Int) == 0) = true := by rw [h0]; rfl
      have HN : Hid (contR [] s.data.toList = none) := by
        have : s.data.toList = [] := List.eq_nil_of_length_eq_zero (by rw [← size_len]; exact h0)
        show _ = _
        rw [this]; rfl
      clear h0
      go_enter Try.func40, Try.ntmps40
      go_wp2
      go_ret2
      rw [HN.out]
      exact ⟨Below.refl _ _, rfl⟩
    · have hpos : 0 < s.size := by omega
      have hz : ((s.size : Int) == 0) = false := by rw [beq_eq_false_iff_ne]; omega
      have hcons : s.data.toList = s[0] :: s.data.toList.drop 1 := by
        rw [← List.drop_zero (l := s.data.toList), List.drop_eq_getElem_cons (by simpa using hpos)]; rfl
      by_cases hc : s[0] = 47
      · have hcb : ((s[0].toNat : Int) != 47) = false := by rw [hc]; rfl
        have HM0 : Hid (RMode s [] 1 1) := .inl ⟨Nat.le_refl _, Nat.le_refl _, hpos, by simp, by conv => rhs; rw [hcons, hc]⟩
        clear hc hcons
        go_enter Try.func40, Try.ntmps40
        go_wp2
        go_loopg [4, 5, 6] s.size (fun g v5 v6 v7 wr => ∃ (ls : List Bs) (a i : Nat), v6 = .int .i64 a ∧ v7 = .int .i64 i ∧ s.size ≤ g + i - 1 ∧ 1 ≤ i ∧ i ≤ s.size + 1 ∧ ls.length ≤ 8 ∧ Hid (RMode s ls a i) ∧
          wr.ownsRow w.heap.size 9 1 v5 ls.length (ls.map (fun l => Value.string (mk l))) ∧ Below w.heap.size w wr)
        case atStart => exact ⟨[], 1, 1, rfl, rfl, by omega, by omega, by omega, by simp, HM0, World.ownsRow_nil _ _ _ _, Below.refl _ _⟩
        case round =>
          obtain ⟨ls, a, i, rfl, rfl, hg, hi1, hi2, hl8, HM, hown, hbel⟩ := hrel
          have HI := Lib.hid (isStrs_own hown)
          obtain ⟨va, vc, rfl, hro⟩ := rowAt_own hown
          clear hro
          rcases HM.out with ⟨m1, m2, m3, m4, m5⟩ | ⟨m1, m2⟩
          · have H4 := Lib.hid m4
            have H5 := Lib.hid m5
            clear m4 m5
            have hex := extract_mid s a i
            obtain ⟨p, hp⟩ : ∃ p, (s.data.toList.drop a).take (i - a) = p := ⟨_, rfl⟩
            rw [hp] at hex
            have HP := Lib.hid hp
            clear hp
            by_cases hlt : i < s.size
            · by_cases hci : s[i] = 47
              · have hcb2 : ((s[i].toNat : Int) != 47) = false := by rw [hci]; rfl
                have HST : Hid (contR [] s.data.toList = if mayB p then contR (ls ++ [p]) (47 :: s.data.toList.drop (i + 1)) else none) := by
                  show _ = _
                  rw [← HP.out]; exact mode_stroke m2 hlt H4.out H5.out hci
                clear hci
                cases hm : mayB p with
                | false =>
                  have HMM := Lib.hid hm
                  have hmd : mayB (mk p).data.toList = false := hm
                  clear hm
                  go_wp2_with (first
                    | (go_at_call 55; refine (rmay_any _ _ (by unfold maxLen; rw [size_len, data_mk, ← HP.out]; simp; omega)).mono ?_; rintro e w' ⟨rfl, rfl⟩))
                  go_ret2
                  rw [HST.out, HMM.out]
                  exact ⟨hbel, rfl⟩
                | true =>
                  have HMM := Lib.hid hm
                  have hmd : mayB (mk p).data.toList = true := hm
                  clear hm
                  by_cases h8 : ls.length = 8
                  · have h8b : ((ls.length : Int) == 8) = true := by rw [h8]; rfl
                    have HN : Hid (contR [] s.data.toList = none) := by
                      show _ = _
                      rw [← H5.out, contR_full h8]
                    clear h8
                    go_wp2_with (first
                      | (go_at_call 55; refine (rmay_any _ _ (by unfold maxLen; rw [size_len, data_mk, ← HP.out]; simp; omega)).mono ?_; rintro e w' ⟨rfl, rfl⟩))
                    go_ret2
                    rw [HN.out]
                    exact ⟨hbel, rfl⟩
                  · have h8b : ((ls.length : Int) == 8) = false := by rw [beq_eq_false_iff_ne]; omega
                    have hs0 := hbel.size
                    go_wp2_with (first
                      | (go_at_call 55; refine (rmay_any _ _ (by unfold maxLen; rw [size_len, data_mk, ← HP.out]; simp; omega)).mono ?_; rintro e w' ⟨rfl, rfl⟩)
                      | (at_builtin; refine wpList_app1 rfl (.tmp 46) (.tmp 48) _ rfl w.heap.size el24 _ _ _ rfl hown _ _ rfl rfl (one1 rfl) (by unfold maxLen; omega) (by omega) hs0 ?_
                         intro v1 w1 hown1 hg1
                         have hbel1 := Below.of_grown hown hg1 (Nat.le_refl _) hs0 hbel))
                    go_roundg (gk - 1)
                    case measure => omega
                    case rel => exact ⟨ls ++ [p], i + 1, i + 1, by go_num, by go_num, by omega, by omega, by omega, by simp; omega, mode_go hlt HST.out HMM.out, by simpa using hown1, hbel1⟩
              · have hcb2 : ((s[i].toNat : Int) != 47) = true := by
                  rw [bne_iff_ne]; intro x; exact hci ((byte_eq _ 47 (by omega)).1 x)
                have HNX : Hid (RMode s ls a (i + 1)) := mode_next m1 m2 hlt H4.out H5.out hci
                clear hci
                go_wp2
                go_roundg (gk - 1)
                case measure => omega
                case rel => exact ⟨ls, a, i + 1, rfl, by go_num, by omega, by omega, by omega, hl8, HNX, hown, hbel⟩
            · obtain rfl : i = s.size := by omega
              by_cases h8 : ls.length = 8
              · have h8b : ((ls.length : Int) == 8) = true := by rw [h8]; rfl
                have HN : Hid (contR [] s.data.toList = none) := by
                  show _ = _
                  rw [← H5.out, contR_full h8]
                clear h8
                cases hm : mayB p with
                | false =>
                  have hmd : mayB (mk p).data.toList = false := hm
                  clear hm
                  go_wp2_with (first
                    | (go_at_call 55; refine (rmay_any _ _ (by unfold maxLen; rw [size_len, data_mk, ← HP.out]; simp; omega)).mono ?_; rintro e w' ⟨rfl, rfl⟩))
                  go_ret2
                  rw [HN.out]
                  exact ⟨hbel, rfl⟩
                | true =>
                  have hmd : mayB (mk p).data.toList = true := hm
                  clear hm
                  go_wp2_with (first
                    | (go_at_call 55; refine (rmay_any _ _ (by unfold maxLen; rw [size_len, data_mk, ← HP.out]; simp; omega)).mono ?_; rintro e w' ⟨rfl, rfl⟩))
                  go_ret2
                  rw [HN.out]
                  exact ⟨hbel, rfl⟩
              · have h8b : ((ls.length : Int) == 8) = false := by rw [beq_eq_false_iff_ne]; omega
                have HST : Hid (contR [] s.data.toList = if mayB p then contR (ls ++ [p]) [] else none) := by
                  show _ = _
                  rw [← HP.out]; exact mode_last m2 H4.out H5.out (by omega)
                cases hm : mayB p with
                | false =>
                  have HMM := Lib.hid hm
                  have hmd : mayB (mk p).data.toList = false := hm
                  clear hm
                  go_wp2_with (first
                    | (go_at_call 55; refine (rmay_any _ _ (by unfold maxLen; rw [size_len, data_mk, ← HP.out]; simp; omega)).mono ?_; rintro e w' ⟨rfl, rfl⟩))
                  go_ret2
                  rw [HST.out, HMM.out]
                  exact ⟨hbel, rfl⟩
                | true =>
                  have HMM := Lib.hid hm
                  have hmd : mayB (mk p).data.toList = true := hm
                  have hs0 := hbel.size
                  clear hm
                  go_wp2_with (first
                    | (go_at_call 55; refine (rmay_any _ _ (by unfold maxLen; rw [size_len, data_mk, ← HP.out]; simp; omega)).mono ?_; rintro e w' ⟨rfl, rfl⟩)
                    | (at_builtin; refine wpList_app1 rfl (.tmp 46) (.tmp 48) _ rfl w.heap.size el24 _ _ _ rfl hown _ _ rfl rfl (one1 rfl) (by unfold maxLen; omega) (by omega) hs0 ?_
                       intro v1 w1 hown1 hg1
                       have hbel1 := Below.of_grown hown hg1 (Nat.le_refl _) hs0 hbel))
                  go_roundg (gk - 1)
                  case measure => omega
                  case rel => exact ⟨ls ++ [p], s.size + 1, s.size + 1, by go_num, by go_num, by omega, by omega, by omega, by simp; omega, mode_end HST.out HMM.out, by simpa using hown1, hbel1⟩
          · have hgt : ¬ (i : Int) ≤ (s.size : Int) := by omega
            have H2 := Lib.hid m2
            clear m1 m2
            go_wp2
            go_ret2
            rw [H2.out]
            exact ⟨hbel, _, rfl, HI.out⟩
      · have hcb : ((s[0].toNat : Int) != 47) = true := by
          rw [bne_iff_ne]; intro x; exact hc ((byte_eq _ 47 (by omega)).1 x)
        have HN : Hid (contR [] s.data.toList = none) := by
          show _ = _
          rw [hcons, contR_other hc]
        clear hc hcons
        go_enter Try.func40, Try.ntmps40
        go_wp2
        go_ret2
        rw [HN.out]
        exact ⟨Below.refl _ _, rfl⟩
end Go.Proofs.Ytaiihklfeoeoeaa.NM
