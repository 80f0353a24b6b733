/- The walk of NameKnown: chapter 9's examples. -/
import Derived.Test.YtpknkdjgopjlkaaPathsWalk
namespace Go.Proofs.Ytpknkdjgopjlkaa.nameKnown
open Go.RowKit namePaths
set_option linter.unusedVariables false

theorem split_k (S : Bs) (n : Nat) (k : Int) (h : S.length ≤ 2000) (h1 : ((splitB S).getD []).length = n) (h2 : (match splitB S with | none => (12 : Int) | some _ => 0) = k) (W : World) :
    Calls Try.prog 10 #[.string (mk S)] W fun e w' => ∃ a c, e = .returned (.tuple #[.slice a n c, .int .i64 k]) ∧ Below W.heap.size W w' := by
  refine (split_any (mk S) W (by unfold maxLen; rw [size_len, data_mk]; omega)).mono ?_
  intro e w' h
  obtain ⟨a, c, k', rfl, e1, _, hb⟩ := split_parts h
  refine ⟨a, c, ?_, hb⟩
  rw [e1]
  show Ending.returned (.tuple #[.slice a ((splitB S).getD []).length c, .int .i64 (match splitB S with | none => (12 : Int) | some _ => 0)]) = _
  rw [h1, h2]
theorem parent_k (S p n : Bs) (k : Int) (h : S.length ≤ 2000) (h1 : (match splitB S with | none => (([], [], 12) : Bs × Bs × Int) | some l => if l = [] then ([], [], 1) else (joinB l.dropLast, l.getLastD [], 0)) = (p, n, k)) (W : World) :
    Calls Try.prog 12 #[.string (mk S)] W fun e w' => e = .returned (.tuple #[.string (mk p), .string (mk n), .int .i64 k]) ∧ Below W.heap.size W w' := by
  refine (parent_any (mk S) W (by unfold maxLen; rw [size_len, data_mk]; omega)).mono ?_
  intro e w' h
  obtain ⟨p', n', k', rfl, e1, hb⟩ := parent_parts h
  have e2 := e1.trans h1
  simp only [Prod.mk.injEq] at e2
  obtain ⟨rfl, rfl, rfl⟩ := e2
  exact ⟨rfl, hb⟩
theorem within_k (S T : Bs) (b : Bool) (h : S.length ≤ 2000) (h' : T.length ≤ 2000) (h1 : withinB S T = b) (W : World) :
    Calls Try.prog 9 #[.string (mk S), .string (mk T)] W fun e w' => e = .returned (.bool b) ∧ Below W.heap.size W w' := by
  have := within_any (mk S) (mk T) W (by unfold maxLen; rw [size_len, data_mk]; omega) (by unfold maxLen; rw [size_len, data_mk]; omega)
  rw [data_mk, data_mk, h1] at this
  exact this

set_option maxHeartbeats 4000000 in
set_option maxRecDepth 100000 in
theorem walk (w : World) : Calls Try.prog 5 #[] w fun e w' => e = .returned (.bool true) ∧ Below w.heap.size w w' := by
  go_enter Try.func5, Try.ntmps5
  go_wp2_with fail
  refine (awake_any _).mono ?_
  rintro e w0 ⟨rfl, b0⟩
  go_wp2_with fail
  refine (split_k [47] 0 0 (by decide) (by decide) (by decide) _).mono ?_
  rintro e w1 ⟨a1, d1, rfl, b1⟩
  go_wp2_with fail
  refine (split_k [97] 0 12 (by decide) (by decide) (by decide) _).mono ?_
  rintro e w2 ⟨a2, d2, rfl, b2⟩
  go_wp2_with fail
  refine (split_k [47, 97, 47] 0 12 (by decide) (by decide) (by decide) _).mono ?_
  rintro e w3 ⟨a3, d3, rfl, b3⟩
  go_wp2_with fail
  refine (parent_k [47, 97, 47, 98] [47, 97] [98] 0 (by decide) (by decide) _).mono ?_
  rintro e w4 ⟨rfl, b4⟩
  go_wp2_with fail
  refine (parent_k [47] [] [] 1 (by decide) (by decide) _).mono ?_
  rintro e w5 ⟨rfl, b5⟩
  go_wp2_with fail
  refine (within_k [47, 97, 47, 98] [47, 97] true (by decide) (by decide) (by decide) _).mono ?_
  rintro e w6 ⟨rfl, b6⟩
  go_wp2_with fail
  refine (within_k [47, 97, 98] [47, 97] false (by decide) (by decide) (by decide) _).mono ?_
  rintro e w7 ⟨rfl, b7⟩
  go_wp2
  go_ret
  exact ⟨rfl, bt0 (bt0 (bt0 (bt0 (bt0 (bt0 (bt0 b0 b1) b2) b3) b4) b5) b6) b7⟩
end Go.Proofs.Ytpknkdjgopjlkaa.nameKnown
