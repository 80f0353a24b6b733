/- Texts laid together. -/
import Derived.Test.YtnbhanmpmjjkkaaGreatDoorBP9
import Derived.Below
set_option linter.unusedVariables false
set_option linter.unusedSimpArgs false
set_option maxHeartbeats 64000000
set_option maxRecDepth 100000
namespace Go.Proofs.YtnbhanmpmjjkkaaGreatDoor.W
open Go.RowKit
attribute [local go_sem] Oper.semAt_some
theorem bzero_yes (w : World) : Calls Tryz.prog 46 #[.agg #[.int .i64 0, .int .i64 0, .int .i64 0, .int .i64 0, .int .i64 0]] w fun e w' => e = .returned (.bool true) /\ Chg [] w w' := by
 go_enter Tryz.func46, Tryz.ntmps46
 go_wp2
 all_goals
  go_ret
  exact ⟨rfl, (Chg.refl [] w).alloc _⟩
theorem fnew_zero (w : World) : Calls Tryz.prog 12 #[.agg #[.int .i64 0, .int .i64 0, .int .i64 0, .int .i64 0, .int .i64 0], .int .i64 4] w fun e w' => e = .returned (.tuple #[.pointer none, .int .i64 1]) /\ Chg [] w w' := by
 go_enter Tryz.func12, Tryz.ntmps12
 go_wp2_with fail
 have CB : Calls Tryz.prog 25 #[.agg #[.int .i64 0, .int .i64 0, .int .i64 0, .int .i64 0, .int .i64 0]] (w.alloc (.cells #[.int .i64 0, .int .i64 0, .int .i64 0, .int .i64 0, .int .i64 0] 35)) fun e w' => e = .returned (.bool true) /\ Chg [] (w.alloc (.cells #[.int .i64 0, .int .i64 0, .int .i64 0, .int .i64 0, .int .i64 0] 35)) w' := by
  generalize w.alloc (.cells #[.int .i64 0, .int .i64 0, .int .i64 0, .int .i64 0, .int .i64 0] 35) = w1
  go_enter Tryz.func25, Tryz.ntmps25
  go_wp2_with fail
  refine (bzero_yes _).mono ?_
  rintro e w2 ⟨rfl, hc2⟩
  have HC2 := LH hc2
  clear hc2
  go_wp2
  go_ret
  exact ⟨rfl, ((Chg.refl [] w1).alloc _).trans HC2.out (by simp)⟩
 have CBH := LH CB
 clear CB
 refine CBH.out.mono ?_
 rintro e w2 ⟨rfl, hc2⟩
 have hb2 := hc2.keep (heap_alloc_new w _) (by simp)
 have q4 := blk_cell hb2 4 _ rfl
 have HC2 := LH (((Chg.refl [] w).alloc (.cells #[.int .i64 0, .int .i64 0, .int .i64 0, .int .i64 0, .int .i64 0] 35)).trans hc2 (by simp))
 clear hc2 hb2 CBH
 go_wp2
 go_ret2
 exact ⟨rfl, HC2.out⟩
theorem fmay_two (s : Sp) (w : World) (hs : s.Ok) : Calls Tryz.prog 26 #[spV s, .int .i64 2] w fun e w' => e = .returned (.bool false) /\ Chg [] w w' := by
 obtain ⟨w1, hw1⟩ : ∃ w1, w1 = w.alloc (.cells (spC s) 26) := ⟨_, rfl⟩
 have hc1 : Chg [] w w1 := by rw [hw1]; exact (Chg.refl _ _).alloc _
 have HW1 := LH hw1
 have HC1 := LH hc1
 clear hw1 hc1
 go_enter Tryz.func26, Tryz.ntmps26
 go_wp2_with fail
 rw [<- HW1.out]
 refine (bmay_ok s 0 1 w1 hs (by omega) (by omega) (by omega) (by omega)).mono ?_
 rintro e w2 ⟨rfl, hc2⟩
 have HC2 := LH (HC1.out.trans hc2 (by simp))
 clear hc2
 go_wp2
 go_ret
 exact ⟨rfl, HC2.out⟩
theorem fwhole_two (s : Sp) (w : World) (hs : s.Ok) : Calls Tryz.prog 20 #[spV s, .int .i64 2] w fun e w' => e = .returned (.tuple #[.pointer none, .int .i64 1]) /\ Chg [] w w' := by
 obtain ⟨w1, hw1⟩ : ∃ w1, w1 = w.alloc (.cells (spC s) 26) := ⟨_, rfl⟩
 have hc1 : Chg [] w w1 := by rw [hw1]; exact (Chg.refl _ _).alloc _
 have HW1 := LH hw1
 have HC1 := LH hc1
 clear hw1 hc1
 go_enter Tryz.func20, Tryz.ntmps20
 go_wp2_with fail
 rw [<- HW1.out]
 refine (fmay_two s w1 hs).mono ?_
 rintro e w2 ⟨rfl, hc2⟩
 have HC2 := LH (HC1.out.trans hc2 (by simp))
 clear hc2
 go_wp2
 go_ret2
 exact ⟨rfl, HC2.out⟩
theorem known21_any (w : World) : Calls Tryz.prog 5 #[] w fun e w' => e = .returned (.bool true) /\ Chg [] w w' := by
 have CA := LH (awake21_any w)
 go_enter Tryz.func5, Tryz.ntmps5
 go_wp2_with fail
 refine CA.out.mono ?_
 rintro e w1 ⟨rfl, hc1⟩
 have HC1 := LH hc1
 clear hc1 CA
 go_wp2_with fail
 refine (fnew_zero w1).mono ?_
 rintro e w2 ⟨rfl, hc2⟩
 have HC2 := LH (HC1.out.trans hc2 (by simp))
 have CS := LH (stripe_ok 1 w2)
 clear hc2
 go_wp2_with fail
 refine CS.out.mono ?_
 rintro e w3 ⟨s, hs, rfl, hc3⟩
 have HC3 := LH (HC2.out.trans hc3 (by simp))
 have CW := LH (fwhole_two s w3 hs)
 clear hc3 hs CS
 go_wp2_with fail
 refine CW.out.mono ?_
 rintro e w4 ⟨rfl, hc4⟩
 have HC4 := LH (HC3.out.trans hc4 (by simp))
 clear hc4 CW
 go_wp2
 go_ret
 exact ⟨rfl, HC4.out⟩
end Go.Proofs.YtnbhanmpmjjkkaaGreatDoor.W
namespace Go.Proofs.YtnbhanmpmjjkkaaGreatDoor.fetchKnown
open Go.RowKit
section
open Go.RowKit Go.ChangeShapes Go.WideShapes
theorem walk (X : World) : Calls Tryz.prog 5 #[] X fun e w' => e = .returned (.bool true) /\ Below X.heap.size X w' :=
 (Go.Proofs.YtnbhanmpmjjkkaaGreatDoor.W.known21_any X).mono fun e w' ⟨h1, h2⟩ => ⟨h1, h2.below (by simp)⟩
end
end Go.Proofs.YtnbhanmpmjjkkaaGreatDoor.fetchKnown
