/- The small functions of chapter 9: whether a text may be a name. -/
import Derived.Test.YtaiihklfeoeoeaaRows
import Derived.Test.YtaiihklfeoeoeaaShelf
import Derived.WalkKit
import Derived.WalkSpells
import Derived.WalkLawsBesides
import Derived.Lib.Hide
import Derived.Test.YtaiihklfeoeoeaaNMP
namespace Go.Proofs.Ytaiihklfeoeoeaa.NM
open Go.RowKit
set_option linter.unusedVariables false

theorem ret_bool {a b : Bool} (h : a = b) : Ending.returned (.bool a) = .returned (.bool b) := by rw [h]

theorem size_len (s : ByteArray) : s.size = s.data.toList.length := by rw [Array.length_toList]; rfl
theorem toList_data (s : ByteArray) : s.toList = s.data.toList := ByteArray.toList_eq s

theorem mayB_eq (s : ByteArray) : mayB s.data.toList = (decide (1 ≤ s.size) && decide (s.size ≤ 12) && (s.toList != [46]) && (s.toList != [46, 46]) && (decide (Lib.indexByte s.data.toList 0 < 0) && decide (Lib.indexByte s.data.toList 47 < 0))) := by
  rw [toList_data, size_len]
  unfold mayB
  congr 1
  rw [Bool.eq_iff_iff]
  simp only [okB_iff, Bool.and_eq_true, decide_eq_true_eq, indexByte_neg]
  constructor
  · intro h
    exact ⟨fun hm => (h 0 hm).1 rfl, fun hm => (h 47 hm).2 rfl⟩
  · rintro ⟨h1, h2⟩ x hx
    refine ⟨?_, ?_⟩
    · rintro rfl; exact h1 hx
    · rintro rfl; exact h2 hx

/-- The tests ahead of the look at each byte. -/
theorem no_len (s : ByteArray) (h : ¬ (1 ≤ s.size ∧ s.size ≤ 12)) : mayB s.data.toList = false := by
  rw [mayB_eq]
  by_cases h1 : 1 ≤ s.size
  · have h2 : ¬ s.size ≤ 12 := fun x => h ⟨h1, x⟩
    simp [h2]
  · simp [h1]
theorem no_dot (s : ByteArray) (h : s.toList = [46] ∨ s.toList = [46, 46]) : mayB s.data.toList = false := by
  rw [mayB_eq]
  rcases h with h | h <;> simp [h]
theorem dot_cases (s : ByteArray) : (s.toList = [46] ∧ (s.toList == [46, 46]) = false) ∨ (s.toList = [46, 46] ∧ (s.toList == [46]) = false) ∨ ((s.toList == [46]) = false ∧ (s.toList == [46, 46]) = false) := by
  by_cases h1 : s.toList = [46]
  · left; simp [h1]
  · by_cases h2 : s.toList = [46, 46]
    · right; left; simp [h2]
    · right; right; simp [h1, h2]
theorem yes_eq (s : ByteArray) (h1 : 1 ≤ s.size) (h2 : s.size ≤ 12) (h3 : (s.toList == [46]) = false) (h4 : (s.toList == [46, 46]) = false) :
    mayB s.data.toList = okB s.data.toList := by
  rw [beq_eq_false_iff_ne, toList_data] at h3 h4
  rw [size_len] at h1 h2
  unfold mayB
  generalize s.data.toList = l at *
  simp [h1, h2, h3, h4]
theorem yes_index (s : ByteArray) (h1 : 1 ≤ s.size) (h2 : s.size ≤ 12) (h3 : (s.toList == [46]) = false) (h4 : (s.toList == [46, 46]) = false) :
    mayB s.data.toList = (decide (Lib.indexByte s.data.toList 0 < 0) && decide (Lib.indexByte s.data.toList 47 < 0)) := by
  rw [beq_eq_false_iff_ne] at h3 h4
  rw [mayB_eq]
  simp [h1, h2, h3, h4]

set_option maxHeartbeats 1000000 in
theorem may_any (s : ByteArray) (w : World) : Calls Try.prog 44 #[.string s] w fun e w' => e = .returned (.bool (mayB s.data.toList)) ∧ w = w' := by
  by_cases hl : 1 ≤ s.size ∧ s.size ≤ 12
  · obtain ⟨h1, h2⟩ := hl
    rcases dot_cases s with ⟨h3, h4⟩ | ⟨h3, h4⟩ | ⟨h3, h4⟩
    · rw [no_dot s (.inl h3)]
      have h3' : (s.toList == [46]) = true := by simp [h3]
      clear h3
      go_enter Try.func44, Try.ntmps44
      go_wp2
      go_ret
      exact ⟨rfl, rfl⟩
    · rw [no_dot s (.inr h3)]
      have h3' : (s.toList == [46, 46]) = true := by simp [h3]
      clear h3
      go_enter Try.func44, Try.ntmps44
      go_wp2
      go_ret
      exact ⟨rfl, rfl⟩
    · rw [yes_index s h1 h2 h3 h4]
      go_enter Try.func44, Try.ntmps44
      go_wp2_with (first
        | (go_at_call 68; refine (Try.strings_IndexByte _ _ _).mono ?_; rintro e w' ⟨rfl, rfl⟩))
      all_goals
        go_ret
        refine ⟨ret_bool ?_, rfl⟩
        have : Lib.indexByte s.data.toList 0 < 0 ∨ 0 ≤ Lib.indexByte s.data.toList 0 := by omega
        simp <;> omega
  · rw [no_len s hl]
    by_cases h1 : 1 ≤ s.size
    · have h2 : 12 < s.size := by omega
      clear hl
      go_enter Try.func44, Try.ntmps44
      go_wp2
      go_ret
      exact ⟨rfl, rfl⟩
    · clear hl
      go_enter Try.func44, Try.ntmps44
      go_wp2
      go_ret
      exact ⟨rfl, rfl⟩

theorem take_snoc (s : ByteArray) (k : Nat) (h : k < s.size) : s.data.toList.take (k + 1) = s.data.toList.take k ++ [s[k]] := by
  rw [List.take_succ_eq_append_getElem (by simpa using h)]; rfl
theorem mem_at (s : ByteArray) (k : Nat) (h : k < s.size) : s[k] ∈ s.data.toList := by
  have : s[k] = s.data.toList[k]'(by simpa using h) := rfl
  rw [this]; exact List.getElem_mem _
theorem byte_eq (c : UInt8) (n : Nat) (hn : n < 256) : ((c.toNat : Int) = (n : Int)) ↔ c = n.toUInt8 := by
  constructor
  · intro h
    have : c.toNat = n := by omega
    rw [← this]; simp
  · rintro rfl
    simp; omega

set_option maxHeartbeats 1000000 in
theorem rmay_any (s : ByteArray) (w : World) (hs : s.size ≤ maxLen) : Calls Try.prog 55 #[.string s] w fun e w' => e = .returned (.bool (mayB s.data.toList)) ∧ w = w' := by
  unfold maxLen at hs
  by_cases hl : 1 ≤ s.size ∧ s.size ≤ 12
  · obtain ⟨h1, h2⟩ := hl
    rcases dot_cases s with ⟨h3, h4⟩ | ⟨h3, h4⟩ | ⟨h3, h4⟩
    · rw [no_dot s (.inl h3)]
      have h3' : (s.toList == [46]) = true := by simp [h3]
      clear h3
      go_enter Try.func55, Try.ntmps55
      go_wp2
      go_ret
      exact ⟨rfl, rfl⟩
    · rw [no_dot s (.inr h3)]
      have h3' : (s.toList == [46, 46]) = true := by simp [h3]
      clear h3
      go_enter Try.func55, Try.ntmps55
      go_wp2
      go_ret
      exact ⟨rfl, rfl⟩
    · rw [yes_eq s h1 h2 h3 h4]
      go_enter Try.func55, Try.ntmps55
      go_wp2
      go_loop [3] (fun i => ∃ k : Nat, k ≤ s.size ∧ i = .int .i64 k ∧ okB (s.data.toList.take k) = true) (fun i => s.size - (intOf i).toNat)
      case atStart => exact ⟨0, Nat.zero_le _, rfl, rfl⟩
      case round =>
        obtain ⟨k, hk, rfl, hall⟩ := hrel
        have HA := Lib.hid hall
        clear hall
        by_cases hlt : k < s.size
        · by_cases c0 : s[k] = 0 ∨ s[k] = 47
          · have hres : okB s.data.toList = false := by
              rw [← Bool.not_eq_true, okB_iff]
              intro hh
              have := hh _ (mem_at s k hlt)
              rcases c0 with c0 | c0
              · exact this.1 c0
              · exact this.2 c0
            have HR := Lib.hid hres
            clear hres
            rcases c0 with c0 | c0
            · have hb : ((s[k].toNat : Int) == 0) = true := by rw [c0]; rfl
              clear c0
              go_wp2
              go_ret
              rw [HR.out]
              exact ⟨rfl, rfl⟩
            · have hb : ((s[k].toNat : Int) == 47) = true := by rw [c0]; rfl
              have hb2 : ((s[k].toNat : Int) == 0) = false := by rw [c0]; rfl
              clear c0
              go_wp2
              go_ret
              rw [HR.out]
              exact ⟨rfl, rfl⟩
          · have hb : ((s[k].toNat : Int) == 0) = false := by
              rw [beq_eq_false_iff_ne]; intro x; exact c0 (.inl ((byte_eq _ 0 (by omega)).1 x))
            have hb2 : ((s[k].toNat : Int) == 47) = false := by
              rw [beq_eq_false_iff_ne]; intro x; exact c0 (.inr ((byte_eq _ 47 (by omega)).1 x))
            have hts := take_snoc s k hlt
            have HN : Hid (okB (s.data.toList.take (k + 1)) = true) := by
              have ha := HA.out
              rw [okB_iff] at ha
              rw [hts]
              refine (okB_iff _).2 fun c hc => ?_
              rcases List.mem_append.1 hc with hc | hc
              · exact ha c hc
              · simp only [List.mem_singleton] at hc
                subst hc
                exact ⟨fun x => c0 (.inl x), fun x => c0 (.inr x)⟩
            clear c0 hts
            go_wp2
            go_round
            case rel => exact ⟨k + 1, by omega, by go_num, HN.out⟩
            case measure => simp [intOf]; omega
        · have hk' : k = s.size := by omega
          have HT : Hid (okB s.data.toList = true) := by
            have := HA.out
            rw [List.take_of_length_le (by rw [← size_len]; omega)] at this
            exact this
          clear hk'
          go_wp2
          go_ret
          rw [HT.out]
          exact ⟨rfl, rfl⟩
  · rw [no_len s hl]
    by_cases h1 : 1 ≤ s.size
    · have h2 : 12 < s.size := by omega
      clear hl
      go_enter Try.func55, Try.ntmps55
      go_wp2
      go_ret
      exact ⟨rfl, rfl⟩
    · clear hl
      go_enter Try.func55, Try.ntmps55
      go_wp2
      go_ret
      exact ⟨rfl, rfl⟩
end Go.Proofs.Ytaiihklfeoeoeaa.NM
