/- The walk of NamePaths: any two texts: whether the one is a name, its names as a path, its parent, whether it is within the other one. -/
import Derived.Test.YtpknkdjgopjlkaaRef
namespace Go.Proofs.Ytpknkdjgopjlkaa.namePaths
open Go.RowKit
set_option linter.unusedVariables false

theorem nil_row (w : World) (t : Nat) : RowAt w t none ([] : List Bs).length (fun i => .string (mk (([] : List Bs).getD i []))) := .inl rfl

/-- What Parent answers, as three parts. -/
theorem parent_parts {w w' : World} {s : Bs} {e : Ending} (h : ParentPost w s e w') : ∃ p n : Bs, ∃ k : Int, e = .returned (.tuple #[.string (mk p), .string (mk n), .int .i64 k]) ∧
    (p, n, k) = (match splitB s with | none => ([], [], 12) | some l => if l = [] then ([], [], 1) else (joinB l.dropLast, l.getLastD [], 0)) ∧ Below w.heap.size w w' := by
  obtain ⟨hb, he⟩ := h
  cases hs : splitB s with
  | none => rw [hs] at he; exact ⟨_, _, _, he, rfl, hb⟩
  | some l =>
    rw [hs] at he
    by_cases hl : l = []
    · simp only [hl, if_true] at he ⊢; exact ⟨_, _, _, he, rfl, hb⟩
    · simp only [hl, if_false] at he ⊢; exact ⟨_, _, _, he, rfl, hb⟩
/-- What Split answers, as two parts. -/
theorem split_parts {w w' : World} {s : Bs} {e : Ending} (h : SplitPost w (splitB s) e w') : ∃ a c, ∃ k : Int, e = .returned (.tuple #[.slice a ((splitB s).getD []).length c, .int .i64 k]) ∧
    k = (match splitB s with | none => 12 | some _ => 0) ∧ RowAt w' w'.heap.size a ((splitB s).getD []).length (fun i => .string (mk (((splitB s).getD []).getD i []))) ∧ Below w.heap.size w w' := by
  obtain ⟨hb, he⟩ := h
  cases hs : splitB s with
  | none => rw [hs] at he; exact ⟨none, 0, 12, he, rfl, .inl rfl, hb⟩
  | some l =>
    rw [hs] at he
    obtain ⟨v, he, a, c, rfl, _, hr⟩ := he
    exact ⟨a, c, 0, he, rfl, hr, hb⟩
theorem split_len (s : Bs) : ((splitB s).getD []).length ≤ 8 := by
  cases hs : splitB s with
  | none => simp
  | some l => exact (split_some hs).2.1

set_option maxHeartbeats 4000000 in
set_option maxRecDepth 100000 in
theorem walk_small (s t : ByteArray) (w : World) (hs : s.size ≤ 500) (ht : t.size ≤ 500) :
    Calls Try.prog 6 #[.string s, .string t] w fun e w' => e = .returned (.bool true) ∧ Below w.heap.size w w' := by
  have ls : s.size ≤ maxLen := by unfold maxLen; omega
  have lt : t.size ≤ maxLen := by unfold maxLen; omega
  have c1 : Hid (∀ W, Calls Try.prog 10 #[.string s] W (SplitPost W (splitB s.data.toList))) := fun W => split_any s W ls
  have c2 : Hid (∀ W, Calls Try.prog 13 #[.string s] W (SplitPost W (splitB s.data.toList))) := fun W => rsplit_any s W (by omega)
  have c3 : Hid (∀ W, Calls Try.prog 12 #[.string s] W (ParentPost W s.data.toList)) := fun W => parent_any s W ls
  have c4 : Hid (∀ W, Calls Try.prog 14 #[.string s] W (ParentPost W s.data.toList)) := fun W => rparent_any s W (by omega)
  have c5 : Hid (∀ W, Calls Try.prog 15 #[.string s] W fun e w' => e = .returned (.bool (mayB s.data.toList)) ∧ W = w') := fun W => may_any s W
  have c6 : Hid (∀ W, Calls Try.prog 16 #[.string s] W fun e w' => e = .returned (.bool (mayB s.data.toList)) ∧ W = w') := fun W => rmay_any s W ls
  have c7 : Hid (∀ W, Calls Try.prog 9 #[.string s, .string t] W fun e w' => e = .returned (.bool (withinB s.data.toList t.data.toList)) ∧ Below W.heap.size W w') := fun W => within_any s t W ls lt
  have c8 : Hid (∀ W, Calls Try.prog 18 #[.string s, .string t] W fun e w' => e = .returned (.bool (withinB s.data.toList t.data.toList)) ∧ Below W.heap.size W w') := fun W => rwithin_any s t W (by omega) (by omega)
  clear ls lt
  generalize hm : mayB s.data.toList = m at *
  generalize hw : withinB s.data.toList t.data.toList = wi at *
  clear hm hw
  have hL := split_len s.data.toList
  go_enter Try.func6, Try.ntmps6
  go_wp2_with fail
  refine (awake_any _).mono ?_
  rintro e w0 ⟨rfl, b0⟩
  go_wp2_with fail
  refine (c1.out _).mono ?_
  intro e w1 h1
  obtain ⟨a1, d1, k1, rfl, e1, r1, b1⟩ := split_parts h1
  clear h1
  have E1 := Lib.hid e1
  have R1 := Lib.hid r1
  clear e1 r1
  go_wp2_with fail
  refine (c2.out _).mono ?_
  intro e w2 h2
  obtain ⟨a2, d2, k2, rfl, e2, r2, b2⟩ := split_parts h2
  clear h2
  obtain rfl : k2 = k1 := e2.trans E1.out.symm
  have R2 := Lib.hid r2
  clear e2 r2
  go_wp2_with fail
  refine (c3.out _).mono ?_
  intro e w3 h3
  obtain ⟨p1, n1, g1, rfl, e3, b3⟩ := parent_parts h3
  clear h3
  have E3 := Lib.hid e3
  clear e3
  go_wp2_with fail
  refine (c4.out _).mono ?_
  intro e w4 h4
  obtain ⟨p2, n2, g2, rfl, e4, b4⟩ := parent_parts h4
  clear h4
  have e5 := e4.trans E3.out.symm
  simp only [Prod.mk.injEq] at e5
  obtain ⟨rfl, rfl, rfl⟩ := e5
  clear e4
  have RA : Hid (RowAt w4 w1.heap.size a1 ((splitB s.data.toList).getD []).length (fun i => .string (mk (((splitB s.data.toList).getD []).getD i [])))) :=
    R1.out.below (bt0 (bt0 b2 b3) b4)
  have RB : Hid (RowAt w4 w2.heap.size a2 ((splitB s.data.toList).getD []).length (fun i => .string (mk (((splitB s.data.toList).getD []).getD i [])))) :=
    R2.out.below (bt0 b3 b4)
  generalize (splitB s.data.toList).getD [] = l at *
  clear R1 R2 E1 E3
  go_wp2_with fail
  refine (c5.out _).mono ?_
  rintro e w' ⟨rfl, rfl⟩
  go_wp2_with fail
  refine (c6.out _).mono ?_
  rintro e w' ⟨rfl, rfl⟩
  go_wp2_with fail
  refine (texts_any a1 a2 l l d1 d2 _ _ _ (by omega) RA.out RB.out).mono ?_
  rintro e w5 ⟨rfl, nd, rfl⟩
  have hll : decide (l = l) = true := by simp
  rw [hll]
  have hbel : Below w.heap.size w (w4.drewN nd) := below_drewN (bt0 (bt0 (bt0 (bt0 b0 b1) b2) b3) b4) nd
  go_wp2_with fail
  refine (c7.out _).mono ?_
  rintro e w6 ⟨rfl, b6⟩
  go_wp2_with fail
  refine (c8.out _).mono ?_
  rintro e w7 ⟨rfl, b7⟩
  go_wp2
  go_ret
  refine ⟨ret_bool ?_, bt0 (bt0 hbel b6) b7⟩
  simp

set_option maxHeartbeats 4000000 in
theorem walk (a b : ByteArray) (w : World) (la : a.size ≤ maxLen) (lb : b.size ≤ maxLen) :
    Calls Try.prog 6 #[.string a, .string b] w fun e w' => e = .returned (.bool true) ∧ Below w.heap.size w w' := by
  by_cases h : a.size ≤ 500 ∧ b.size ≤ 500
  · exact walk_small a b w h.1 h.2
  · clear la lb
    by_cases ha : a.size ≤ 500
    · have hb : 500 < b.size := by omega
      clear h
      go_enter Try.func6, Try.ntmps6
      go_wp2_with fail
      refine (awake_any _).mono ?_
      rintro e w1 ⟨rfl, b1⟩
      go_wp2
      go_ret
      exact ⟨rfl, b1⟩
    · clear h
      go_enter Try.func6, Try.ntmps6
      go_wp2_with fail
      refine (awake_any _).mono ?_
      rintro e w1 ⟨rfl, b1⟩
      go_wp2
      go_ret
      exact ⟨rfl, b1⟩
end Go.Proofs.Ytpknkdjgopjlkaa.namePaths
