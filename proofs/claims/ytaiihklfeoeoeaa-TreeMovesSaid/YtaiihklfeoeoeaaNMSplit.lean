/- The walk of name.Split: it answers a path's names. -/
import Derived.Test.YtaiihklfeoeoeaaNMMay
import Derived.Test.YtaiihklfeoeoeaaC
import Derived.Test.YtaiihklfeoeoeaaNMSplitPlain
import Derived.Deep.LoopGhost
import Derived.Lib.Strings
import Derived.Lib.IndexBytes
namespace Go.Proofs.Ytaiihklfeoeoeaa.NM
open Go.RowKit
set_option linter.unusedVariables false

abbrev mk (l : Bs) : ByteArray := ⟨l.toArray⟩
theorem el24 : El Try.prog 49 9 (.string ByteArray.empty) 1 16 := El.mk Try.underlying49 (by kernel_rfl) rfl (by decide)

/-- A slice of texts that lies in memory. -/
def IsStrs (w : World) (v : Value) (l : List Bs) : Prop := ∃ a c, v = .slice a l.length c ∧ l.length ≤ c ∧ RowAt w w.heap.size a l.length (fun i => .string (mk (l.getD i [])))

/-- What Split answers. -/
def SplitPost (w : World) (o : Option (List Bs)) (e : Ending) (w' : World) : Prop :=
  Below w.heap.size w w' ∧ match o with
  | none => e = .returned (.tuple #[.slice none 0 0, .int .i64 12])
  | some l => ∃ v, e = .returned (.tuple #[v, .int .i64 0]) ∧ IsStrs w' v l

theorem mk_data (s : ByteArray) : mk s.data.toList = s := rfl
theorem data_mk (l : Bs) : (mk l).data.toList = l := rfl
theorem extract_take (s : ByteArray) (k : Nat) : s.extract 0 k = mk (s.data.toList.take k) := by
  have h := Lib.extract_data s 0 k
  rw [List.drop_zero, Nat.sub_zero] at h
  rw [← mk_data (s.extract 0 k), h]
theorem rowAt_ownc {w : World} {base : Nat} {e : TypeId} {v : Value} {n : Nat} {xs : List Value} (h : w.ownsRow base e 1 v n xs) :
    ∃ a c, v = .slice a n c ∧ RowAt w w.heap.size a n (fun i => xs.getD i undef) ∧ xs.length = n ∧ n ≤ c := by
  have hl : xs.length = n := by simpa using h.1
  rcases h.2 with ⟨rfl, rfl⟩ | ⟨g, cap, cur, rfl, hbg, hg, hnc, hcm, hcs, htake⟩
  · exact ⟨none, 0, rfl, .inl rfl, hl, Nat.le_refl _⟩
  · refine ⟨_, _, rfl, .inr ⟨g, 0, rfl, (Array.getElem?_eq_some_iff.1 hg).1, fun i hi => ?_⟩, hl, hnc⟩
    have := h.cells (g := g) rfl i (xs.getD i undef) (by rw [List.getD_eq_getElem?_getD, List.getElem?_eq_getElem (by omega)]; rfl)
    rwa [add_none] at this

theorem isStrs_own {w : World} {base : Nat} {v : Value} {ls : List Bs} (h : w.ownsRow base 9 1 v ls.length (ls.map (fun l => Value.string (mk l)))) : IsStrs w v ls := by
  obtain ⟨a, c, rfl, hr, hl, hc⟩ := rowAt_ownc h
  refine ⟨a, c, rfl, hc, ?_⟩
  rcases hr with h0 | ⟨b, off, e1, e2, e3⟩
  · exact .inl h0
  · refine .inr ⟨b, off, e1, e2, fun i hi => ?_⟩
    rw [e3 i hi]
    simp only [List.getD_eq_getElem?_getD, List.getElem?_map, List.getElem?_eq_getElem hi]
    rfl

theorem rest_split {r1 : ByteArray} {k : Nat} (hk : k < r1.size) (hc : r1[k] = 47) : r1.data.toList = r1.data.toList.take k ++ 47 :: r1.data.toList.drop (k + 1) := by
  have h : k < r1.data.toList.length := by rw [← size_len]; exact hk
  have e : r1.data.toList.drop k = r1.data.toList[k] :: r1.data.toList.drop (k + 1) := List.drop_eq_getElem_cons h
  have e2 : r1.data.toList[k] = 47 := hc
  rw [e2] at e
  rw [← e, List.take_append_drop]

set_option maxHeartbeats 4000000 in
set_option maxRecDepth 100000 in
theorem split_any (s : ByteArray) (w : World) (hs : s.size ≤ maxLen) : Calls Try.prog 29 #[.string s] w (SplitPost w (splitB s.data.toList)) := by
  unfold maxLen at hs
  by_cases hroot : s.data.toList = [47]
  · have hb : (s.toList == [47]) = true := by rw [toList_data, hroot]; rfl
    have hres : splitB s.data.toList = some [] := by rw [hroot]; rfl
    rw [hres]
    clear hroot hres
    go_enter Try.func29, Try.ntmps29
    go_wp2
    go_step3
    go_wp2
    try rw [Exit.noGoto_ret]
    go_ret2
    exact ⟨Below.refl _ _, _, rfl, none, 0, rfl, Nat.le_refl _, .inl rfl⟩
  · have hb : (s.toList == [47]) = false := by rw [toList_data, beq_eq_false_iff_ne]; exact hroot
    rw [← contR_start _ hroot]
    clear hroot
    go_enter Try.func29, Try.ntmps29
    go_wp2
    go_step3
    go_wp2
    go_step3
    go_wp2
    go_loopg [4, 5] s.size (fun g v5 v6 wr => ∃ (ls : List Bs) (rest : ByteArray), v6 = .string rest ∧ rest.size ≤ g ∧ g ≤ 9223372036854775807 ∧ ls.length ≤ 8 ∧ Hid (contR ls rest.data.toList = contR [] s.data.toList) ∧
      wr.ownsRow w.heap.size 9 1 v5 ls.length (ls.map (fun l => Value.string (mk l))) ∧ Below w.heap.size w wr)
    case atStart => exact ⟨[], s, rfl, Nat.le_refl _, hs, by simp, rfl, World.ownsRow_nil _ _ _ _, Below.refl _ _⟩
    case round =>
      obtain ⟨ls, rest, rfl, hrg, hg63, hl8, HC, hown, hbel⟩ := hrel
      have HI := Lib.hid (isStrs_own hown)
      obtain ⟨va, vc, rfl, hro⟩ := rowAt_own hown
      clear hro
      by_cases h0 : rest.size = 0
      · have hz : ¬ (0 : Int) < (rest.size : Int) := by omega
        have hnil : rest.data.toList = [] := List.eq_nil_of_length_eq_zero (by rw [← size_len]; exact h0)
        have HE := HC.out
        rw [hnil, contR_nil] at HE
        have HE' := Lib.hid HE
        clear HE hnil h0
        by_cases hl0 : ls = []
        · have hlb : ((ls.length : Int) == 0) = true := by rw [hl0]; rfl
          have HL := Lib.hid hl0
          clear hl0
          go_wp2
          try rw [Exit.noGoto_ret]
          go_ret2
          have := HE'.out
          rw [if_pos HL.out] at this
          rw [← this]
          exact ⟨hbel, rfl⟩
        · have hlb : ((ls.length : Int) == 0) = false := by
            rw [beq_eq_false_iff_ne]; intro x
            exact hl0 (List.eq_nil_of_length_eq_zero (by omega))
          have HL : Hid (ls ≠ []) := Lib.hid hl0
          clear hl0
          go_wp2
          try rw [Exit.noGoto_ret]
          go_ret2
          have := HE'.out
          rw [if_neg HL.out] at this
          rw [← this]
          exact ⟨hbel, _, rfl, HI.out⟩
      · have hpos : 0 < rest.size := by omega
        have hcons : rest.data.toList = rest[0] :: rest.data.toList.drop 1 := by
          rw [← List.drop_zero (l := rest.data.toList), List.drop_eq_getElem_cons (by simpa using hpos)]; rfl
        by_cases hc : rest[0] = 47
        · by_cases h8 : ls.length = 8
          · have hcb : ((rest[0].toNat : Int) != 47) = false := by rw [hc]; rfl
            have h8b : ((ls.length : Int) == 8) = true := by rw [h8]; rfl
            have HN : Hid (contR [] s.data.toList = none) := by
              have := HC.out
              rw [hcons, contR_full h8] at this
              exact this.symm
            clear hc h8 hcons
            go_wp2
            try rw [Exit.noGoto_ret]
            go_ret2
            rw [HN.out]
            exact ⟨hbel, rfl⟩
          · have hcb : ((rest[0].toNat : Int) != 47) = false := by rw [hc]; rfl
            have HC0 : Hid (rest[0] = 47) := Lib.hid hc
            have h8b : ((ls.length : Int) == 8) = false := by rw [beq_eq_false_iff_ne]; omega
            have hl7 : ls.length < 8 := by omega
            have HCN := Lib.hid hcons
            clear hc hcons
            go_wp2
            obtain ⟨r1, hr1⟩ : ∃ r1, rest.extract 1 rest.size = r1 := ⟨_, rfl⟩
            have hr1d : rest.data.toList = 47 :: r1.data.toList := by
              have e := Lib.extract_to_end rest 1
              rw [hr1] at e
              rw [HCN.out, ← e, HC0.out]
            have hr1s : rest.size - 1 = r1.size := by rw [← hr1, ByteArray.size_extract]; omega
            rw [hr1, hr1s]
            have HR := Lib.hid hr1d
            have hlt1 : r1.size < rest.size := by omega
            clear hr1 hr1d hr1s
            obtain ⟨wo, rfl⟩ : ∃ wo : World, wo = wr := ⟨_, rfl⟩
            obtain ⟨go, rfl⟩ : ∃ go : Nat, go = gk := ⟨_, rfl⟩
            go_loopg [4, 5, 25] r1.size (fun g v4 v5 v wx => ∃ k : Nat, v4 = .slice va ls.length vc ∧ v5 = .string r1 ∧ v = .int .i64 k ∧ k ≤ r1.size ∧ r1.size ≤ k + g ∧ Hid ((47 : UInt8) ∉ r1.data.toList.take k) ∧ wx = wo)
            case atStart => exact ⟨0, rfl, rfl, rfl, by omega, by omega, by simp [Hid], rfl⟩
            case round =>
              obtain ⟨k, rfl, rfl, rfl, hkl, hkg, HN, rfl⟩ := hrel
              by_cases hlt : k < r1.size
              · by_cases hck : r1[k] = 47
                · -- a stroke: the name is r1[:k]
                  have hcb2 : ((r1[k].toNat : Int) != 47) = false := by rw [hck]; rfl
                  have HCK : Hid (contR [] s.data.toList = if mayB (r1.data.toList.take k) then contR (ls ++ [r1.data.toList.take k]) (47 :: r1.data.toList.drop (k + 1)) else none) := by
                    have := HC.out
                    rw [HR.out, rest_split hlt hck, contR_stroke HN.out] at this
                    exact this.symm
                  have HDK : Hid (r1.data.toList.drop k = 47 :: r1.data.toList.drop (k + 1)) := by
                    have e := List.drop_eq_getElem_cons (l := r1.data.toList) (i := k) (by rw [← size_len]; exact hlt)
                    have e2 : r1.data.toList[k]'(by rw [← size_len]; exact hlt) = 47 := hck
                    rw [e2] at e
                    exact e
                  clear hck
                  cases hm : mayB (r1.data.toList.take k) with
                  | false =>
                    have HM := Lib.hid hm
                    go_wp2_with (first
                      | (go_at_call 44; refine (may_any _ _).mono ?_; rintro e w' ⟨rfl, rfl⟩))
                    try rw [Exit.noGoto_ret]
                    go_ret2
                    rw [HCK.out, HM.out]
                    exact ⟨hbel, rfl⟩
                  | true =>
                    have HM := Lib.hid hm
                    have hs0 := hbel.size
                    go_wp2_with (first
                      | (go_at_call 44; refine (may_any _ _).mono ?_; rintro e w' ⟨rfl, rfl⟩)
                      | (at_builtin; refine wpList_app1 rfl (.tmp 37) (.tmp 41) _ rfl w.heap.size el24 _ _ _ rfl hown _ _ rfl rfl (one1 rfl) (by unfold maxLen; omega) (by omega) hs0 ?_
                         intro v1 w1 hown1 hg1
                         have hbel1 := Below.of_grown hown hg1 (Nat.le_refl _) hs0 hbel))
                    have hsz : (r1.extract k r1.size).size = r1.size - k := by rw [ByteArray.size_extract]; omega
                    go_roundg (r1.size - k)
                    case measure => omega
                    case rel =>
                      refine ⟨ls ++ [r1.data.toList.take k], r1.extract k r1.size, rfl, by rw [hsz]; omega, by omega, by simp; omega, ?_, ?_, hbel1⟩
                      · show _ = _
                        rw [HCK.out, HM.out, Lib.extract_to_end, HDK.out]; rfl
                      · simpa [extract_take] using hown1
                · have hcb2 : ((r1[k].toNat : Int) != 47) = true := by
                    rw [bne_iff_ne]; intro x; exact hck ((byte_eq _ 47 (by omega)).1 x)
                  have HN2 : Hid ((47 : UInt8) ∉ r1.data.toList.take (k + 1)) := by
                    rw [take_snoc r1 k hlt]
                    intro hm
                    rcases List.mem_append.1 hm with hm | hm
                    · exact HN.out hm
                    · simp only [List.mem_singleton] at hm; exact hck hm.symm
                  clear hck
                  go_wp2
                  go_roundg (r1.size - (k + 1))
                  case measure => omega
                  case rel => exact ⟨k + 1, rfl, rfl, by go_num, by omega, by omega, HN2, rfl⟩
              · have HNA : Hid ((47 : UInt8) ∉ r1.data.toList) := by
                  have := HN.out
                  rw [List.take_of_length_le (by rw [← size_len]; omega)] at this
                  exact this
                have HCK : Hid (contR [] s.data.toList = if mayB r1.data.toList then contR (ls ++ [r1.data.toList]) [] else none) := by
                  have := HC.out
                  rw [HR.out, contR_end HNA.out hl7] at this
                  exact this.symm
                cases hm : mayB r1.data.toList with
                | false =>
                  have HM := Lib.hid hm
                  go_wp2_with (first
                    | (go_at_call 44; refine (may_any _ _).mono ?_; rintro e w' ⟨rfl, rfl⟩))
                  try rw [Exit.noGoto_ret]
                  go_ret2
                  rw [HCK.out, HM.out]
                  exact ⟨hbel, rfl⟩
                | true =>
                  have HM := Lib.hid hm
                  have hs0 := hbel.size
                  go_wp2_with (first
                    | (go_at_call 44; refine (may_any _ _).mono ?_; rintro e w' ⟨rfl, rfl⟩)
                    | (at_builtin; refine wpList_app1 rfl (.tmp 50) (.tmp 52) _ rfl w.heap.size el24 _ _ _ rfl hown _ _ rfl rfl (one1 rfl) (by unfold maxLen; omega) (by omega) hs0 ?_
                       intro v1 w1 hown1 hg1
                       have hbel1 := Below.of_grown hown hg1 (Nat.le_refl _) hs0 hbel))
                  go_roundg 0
                  case measure => omega
                  case rel =>
                    refine ⟨ls ++ [r1.data.toList], mk [], rfl, by exact Nat.le_refl _, by omega, by simp; omega, ?_, ?_, hbel1⟩
                    · show _ = _
                      rw [HCK.out, HM.out]; rfl
                    · simpa using hown1
        · have hcb : ((rest[0].toNat : Int) != 47) = true := by
            rw [bne_iff_ne]; intro x; exact hc ((byte_eq _ 47 (by omega)).1 x)
          have HN : Hid (contR [] s.data.toList = none) := by
            have := HC.out
            rw [hcons, contR_other hc] at this
            exact this.symm
          clear hc hcons
          go_wp2
          try rw [Exit.noGoto_ret]
          go_ret2
          rw [HN.out]
          exact ⟨hbel, rfl⟩
end Go.Proofs.Ytaiihklfeoeoeaa.NM
