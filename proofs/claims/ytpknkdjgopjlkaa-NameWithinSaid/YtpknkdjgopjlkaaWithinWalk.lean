/- The walk of NameWithin: to be within is an order. -/
import Derived.Test.YtpknkdjgopjlkaaTexts
namespace Go.Proofs.Ytpknkdjgopjlkaa.nameWithin
open Go.RowKit
set_option linter.unusedVariables false

theorem bt {w w1 w2 : World} (h1 : Below w.heap.size w w1) (h2 : Below w1.heap.size w1 w2) : Below w.heap.size w w2 := h1.trans (h2.mono h1.size)
theorem str_eqB (a b : ByteArray) : (a.toList == b.toList) = decide (a.data.toList = b.data.toList) := by
  rw [toList_data, toList_data]
  by_cases h : a.data.toList = b.data.toList
  · rw [h]; simp
  · rw [beq_eq_false_iff_ne.2 h, decide_eq_false h]

set_option maxHeartbeats 4000000 in
set_option maxRecDepth 100000 in
theorem walk_small (a b c : ByteArray) (w : World) (ha : a.size ≤ 300) (hb : b.size ≤ 300) (hc : c.size ≤ 300) :
    Calls Try.prog 3 #[.string a, .string b, .string c] w fun e w' => e = .returned (.bool true) ∧ Below w.heap.size w w' := by
  have la : a.size ≤ maxLen := by unfold maxLen; omega
  have lb : b.size ≤ maxLen := by unfold maxLen; omega
  have lc : c.size ≤ maxLen := by unfold maxLen; omega
  obtain ⟨x, hx⟩ : ∃ x, withinB a.data.toList b.data.toList = x := ⟨_, rfl⟩
  obtain ⟨y, hy⟩ : ∃ y, withinB b.data.toList c.data.toList = y := ⟨_, rfl⟩
  obtain ⟨z, hz⟩ : ∃ z, withinB a.data.toList c.data.toList = z := ⟨_, rfl⟩
  obtain ⟨u, hu⟩ : ∃ u, withinB b.data.toList a.data.toList = u := ⟨_, rfl⟩
  obtain ⟨q, hq⟩ : ∃ q, (a.toList == b.toList) = q := ⟨_, rfl⟩
  have F1 : Hid (x = true → y = true → z = true) := by
    rintro rfl rfl; rw [← hz]; exact within_trans hx hy
  have F2 : Hid (x = true → u = true → q = true) := by
    rintro rfl rfl
    rw [← hq, str_eqB, within_both hx hu]
    simp
  have F3 : Hid (withinB a.data.toList a.data.toList = (splitB a.data.toList).isSome) := within_self _
  have cab : Hid (∀ W, Calls Try.prog 9 #[.string a, .string b] W fun e w' => e = .returned (.bool x) ∧ Below W.heap.size W w') := by
    show ∀ W, _; rw [← hx]; exact fun W => within_any a b W la lb
  have cbc : Hid (∀ W, Calls Try.prog 9 #[.string b, .string c] W fun e w' => e = .returned (.bool y) ∧ Below W.heap.size W w') := by
    show ∀ W, _; rw [← hy]; exact fun W => within_any b c W lb lc
  have cac : Hid (∀ W, Calls Try.prog 9 #[.string a, .string c] W fun e w' => e = .returned (.bool z) ∧ Below W.heap.size W w') := by
    show ∀ W, _; rw [← hz]; exact fun W => within_any a c W la lc
  have cba : Hid (∀ W, Calls Try.prog 9 #[.string b, .string a] W fun e w' => e = .returned (.bool u) ∧ Below W.heap.size W w') := by
    show ∀ W, _; rw [← hu]; exact fun W => within_any b a W lb la
  have caa : Hid (∀ W, Calls Try.prog 9 #[.string a, .string a] W fun e w' => e = .returned (.bool (withinB a.data.toList a.data.toList)) ∧ Below W.heap.size W w') := fun W => within_any a a W la la
  have csp : Hid (∀ W, Calls Try.prog 10 #[.string a] W fun e w' => ∃ v k, e = .returned (.tuple #[v, .int .i64 k]) ∧ ((k == 0) = (splitB a.data.toList).isSome) ∧ Below W.heap.size W w') := by
    intro W
    refine (split_any a W la).mono ?_
    rintro e w' ⟨hb, he⟩
    cases hs : splitB a.data.toList with
    | none => rw [hs] at he; exact ⟨_, _, he, rfl, hb⟩
    | some l =>
      rw [hs] at he
      obtain ⟨v, he, _⟩ := he
      exact ⟨_, _, he, rfl, hb⟩
  clear hx hy hz hu la lb lc
  generalize hAA : withinB a.data.toList a.data.toList = aa at *
  clear hAA
  cases x with
  | false =>
    go_enter Try.func3, Try.ntmps3
    go_wp2_with fail
    refine (awake_any _).mono ?_
    rintro e w1 ⟨rfl, b1⟩
    go_wp2_with fail
    refine (cab.out _).mono ?_
    rintro e w2 ⟨rfl, b2⟩
    go_wp2_with fail
    refine (cbc.out _).mono ?_
    rintro e w3 ⟨rfl, b3⟩
    go_wp2_with fail
    refine (cac.out _).mono ?_
    rintro e w4 ⟨rfl, b4⟩
    go_wp2_with fail
    refine (csp.out _).mono ?_
    rintro e w5 ⟨v, k, rfl, hk, b5⟩
    go_wp2_with fail
    refine (caa.out _).mono ?_
    rintro e w6 ⟨rfl, b6⟩
    go_wp2
    go_ret
    exact ⟨ret_bool (by rw [beq_iff_eq]; exact F3.out), (bt (bt (bt (bt (bt b1 b2) b3) b4) b5) b6)⟩
  | true =>
    cases u with
    | false =>
      cases y with
      | false =>
        go_enter Try.func3, Try.ntmps3
        go_wp2_with fail
        refine (awake_any _).mono ?_
        rintro e w1 ⟨rfl, b1⟩
        go_wp2_with fail
        refine (cab.out _).mono ?_
        rintro e w2 ⟨rfl, b2⟩
        go_wp2_with fail
        refine (cbc.out _).mono ?_
        rintro e w3 ⟨rfl, b3⟩
        go_wp2_with fail
        refine (cac.out _).mono ?_
        rintro e w4 ⟨rfl, b4⟩
        go_wp2_with fail
        refine (cba.out _).mono ?_
        rintro e w40 ⟨rfl, b40⟩
        go_wp2_with fail
        refine (csp.out _).mono ?_
        rintro e w5 ⟨v, k, rfl, hk, b5⟩
        go_wp2_with fail
        refine (caa.out _).mono ?_
        rintro e w6 ⟨rfl, b6⟩
        go_wp2
        go_ret
        exact ⟨ret_bool (by rw [beq_iff_eq]; exact F3.out), (bt (bt (bt (bt (bt (bt b1 b2) b3) b4) b40) b5) b6)⟩
      | true =>
        obtain rfl := F1.out rfl rfl
        go_enter Try.func3, Try.ntmps3
        go_wp2_with fail
        refine (awake_any _).mono ?_
        rintro e w1 ⟨rfl, b1⟩
        go_wp2_with fail
        refine (cab.out _).mono ?_
        rintro e w2 ⟨rfl, b2⟩
        go_wp2_with fail
        refine (cbc.out _).mono ?_
        rintro e w3 ⟨rfl, b3⟩
        go_wp2_with fail
        refine (cac.out _).mono ?_
        rintro e w4 ⟨rfl, b4⟩
        go_wp2_with fail
        refine (cba.out _).mono ?_
        rintro e w5 ⟨rfl, b5⟩
        go_wp2_with fail
        refine (csp.out _).mono ?_
        rintro e w6 ⟨v, k, rfl, hk, b6⟩
        go_wp2_with fail
        refine (caa.out _).mono ?_
        rintro e w7 ⟨rfl, b7⟩
        go_wp2
        go_ret
        exact ⟨ret_bool (by rw [beq_iff_eq]; exact F3.out), (bt (bt (bt (bt (bt (bt b1 b2) b3) b4) b5) b6) b7)⟩
    | true =>
      obtain rfl := F2.out rfl rfl
      cases y with
      | false =>
        go_enter Try.func3, Try.ntmps3
        go_wp2_with fail
        refine (awake_any _).mono ?_
        rintro e w1 ⟨rfl, b1⟩
        go_wp2_with fail
        refine (cab.out _).mono ?_
        rintro e w2 ⟨rfl, b2⟩
        go_wp2_with fail
        refine (cbc.out _).mono ?_
        rintro e w3 ⟨rfl, b3⟩
        go_wp2_with fail
        refine (cac.out _).mono ?_
        rintro e w4 ⟨rfl, b4⟩
        go_wp2_with fail
        refine (cba.out _).mono ?_
        rintro e w5 ⟨rfl, b5⟩
        go_wp2_with fail
        refine (csp.out _).mono ?_
        rintro e w6 ⟨v, k, rfl, hk, b6⟩
        go_wp2_with fail
        refine (caa.out _).mono ?_
        rintro e w7 ⟨rfl, b7⟩
        go_wp2
        go_ret
        exact ⟨ret_bool (by rw [beq_iff_eq]; exact F3.out), (bt (bt (bt (bt (bt (bt b1 b2) b3) b4) b5) b6) b7)⟩
      | true =>
        obtain rfl := F1.out rfl rfl
        go_enter Try.func3, Try.ntmps3
        go_wp2_with fail
        refine (awake_any _).mono ?_
        rintro e w1 ⟨rfl, b1⟩
        go_wp2_with fail
        refine (cab.out _).mono ?_
        rintro e w2 ⟨rfl, b2⟩
        go_wp2_with fail
        refine (cbc.out _).mono ?_
        rintro e w3 ⟨rfl, b3⟩
        go_wp2_with fail
        refine (cac.out _).mono ?_
        rintro e w4 ⟨rfl, b4⟩
        go_wp2_with fail
        refine (cba.out _).mono ?_
        rintro e w5 ⟨rfl, b5⟩
        go_wp2_with fail
        refine (csp.out _).mono ?_
        rintro e w6 ⟨v, k, rfl, hk, b6⟩
        go_wp2_with fail
        refine (caa.out _).mono ?_
        rintro e w7 ⟨rfl, b7⟩
        go_wp2
        go_ret
        exact ⟨ret_bool (by rw [beq_iff_eq]; exact F3.out), (bt (bt (bt (bt (bt (bt b1 b2) b3) b4) b5) b6) b7)⟩

set_option maxHeartbeats 4000000 in
theorem walk (a b c : ByteArray) (w : World) (la : a.size ≤ maxLen) (lb : b.size ≤ maxLen) (lc : c.size ≤ maxLen) :
    Calls Try.prog 3 #[.string a, .string b, .string c] w fun e w' => e = .returned (.bool true) ∧ Below w.heap.size w w' := by
  by_cases h : a.size ≤ 300 ∧ b.size ≤ 300 ∧ c.size ≤ 300
  · exact walk_small a b c w h.1 h.2.1 h.2.2
  · clear la lb lc
    by_cases ha : a.size ≤ 300
    · by_cases hb : b.size ≤ 300
      · have hc : 300 < c.size := by omega
        clear h
        go_enter Try.func3, Try.ntmps3
        go_wp2_with fail
        refine (awake_any _).mono ?_
        rintro e w1 ⟨rfl, b1⟩
        go_wp2
        go_ret
        exact ⟨rfl, b1⟩
      · clear h
        go_enter Try.func3, Try.ntmps3
        go_wp2_with fail
        refine (awake_any _).mono ?_
        rintro e w1 ⟨rfl, b1⟩
        go_wp2
        go_ret
        exact ⟨rfl, b1⟩
    · clear h
      go_enter Try.func3, Try.ntmps3
      go_wp2_with fail
      refine (awake_any _).mono ?_
      rintro e w1 ⟨rfl, b1⟩
      go_wp2
      go_ret
      exact ⟨rfl, b1⟩
end Go.Proofs.Ytpknkdjgopjlkaa.nameWithin
