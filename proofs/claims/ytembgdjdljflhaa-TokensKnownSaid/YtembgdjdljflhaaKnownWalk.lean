/- The walk of TokensKnown. -/
import Derived.Test.YtembgdjdljflhaaS
namespace Go.Proofs.Ytembgdjdljflhaa.tokensKnown
open Go.RowKit
set_option linter.unusedVariables false
set_option linter.unusedSimpArgs false

theorem s1 : openR [] 1 5 true = (0, 0, [⟨1, 0, 5, true⟩]) := by kernel_rfl
theorem s2 : find [⟨1, 0, 5, true⟩] 1 0 = some ⟨1, 0, 5, true⟩ := by kernel_rfl
theorem s2' : closeL [⟨1, 0, 5, true⟩] (some ⟨1, 0, 5, true⟩) = [] := by kernel_rfl
theorem s3 : find [] 1 0 = none := by kernel_rfl
theorem s4 : openR [] 2 5 false = (0, 0, [⟨2, 0, 5, false⟩]) := by kernel_rfl
theorem s5 : openR [⟨2, 0, 5, false⟩] 1 5 false = (0, 0, [⟨1, 0, 5, false⟩, ⟨2, 0, 5, false⟩]) := by kernel_rfl
theorem s6 : openR [⟨1, 0, 5, false⟩, ⟨2, 0, 5, false⟩] 0 5 true = (0, 8, [⟨1, 0, 5, false⟩, ⟨2, 0, 5, false⟩]) := by kernel_rfl
theorem s7 : openR [⟨1, 0, 5, false⟩, ⟨2, 0, 5, false⟩] 4 5 false = (0, 1, [⟨1, 0, 5, false⟩, ⟨2, 0, 5, false⟩]) := by kernel_rfl
theorem s8 : has (fun r => r.i == 5) [⟨1, 0, 5, false⟩, ⟨2, 0, 5, false⟩] = true := by kernel_rfl
theorem s9 : keep (fun r => r.c == 1) [⟨1, 0, 5, false⟩, ⟨2, 0, 5, false⟩] = [⟨2, 0, 5, false⟩] := by kernel_rfl

set_option maxHeartbeats 4000000 in
set_option maxRecDepth 100000 in
theorem walk (W : World) : Calls Try.prog 4 #[] W fun e W' => e = .returned (.bool true) ∧ Below W.heap.size W W' := by
  have CA := Lib.hid (awake_any W)
  go_enter Try.func4, Try.ntmps4
  go_wp2_with fail
  refine CA.out.mono ?_
  rintro e w1 ⟨rfl, hb1⟩
  have CN := Lib.hid (new_s W w1 hb1)
  clear hb1 CA
  go_wp2_with fail
  refine CN.out.mono ?_
  rintro e w2 ⟨rfl, ht2, _⟩
  generalize w1.heap.size = b at *
  clear CN
  have C := open_s ht2 (by simp) 1 5 true
  rw [s1] at C
  have HC := Lib.hid C
  clear C ht2
  go_wp2_with fail
  refine HC.out.mono ?_
  rintro e w3 ⟨rfl, ht3, _⟩
  clear HC
  have C := close_s ht3 1 0
  rw [s2, s2'] at C; unfold closeE at C
  have HC := Lib.hid C
  clear C ht3
  go_wp2_with fail
  refine HC.out.mono ?_
  rintro e w4 ⟨rfl, ht4, _⟩
  clear HC
  have C := close_s ht4 1 0
  rw [s3] at C; unfold closeE closeL at C
  have HC := Lib.hid C
  clear C ht4
  go_wp2_with fail
  refine HC.out.mono ?_
  rintro e w5 ⟨rfl, ht5, _⟩
  clear HC
  have C := open_s ht5 (by simp) 2 5 false
  rw [s4] at C
  have HC := Lib.hid C
  clear C ht5
  go_wp2_with fail
  refine HC.out.mono ?_
  rintro e w6 ⟨rfl, ht6, _⟩
  clear HC
  have C := open_s ht6 (by simp) 1 5 false
  rw [s5] at C
  have HC := Lib.hid C
  clear C ht6
  go_wp2_with fail
  refine HC.out.mono ?_
  rintro e w7 ⟨rfl, ht7, _⟩
  clear HC
  have C := open_s ht7 (by simp) 0 5 true
  rw [s6] at C
  have HC := Lib.hid C
  clear C ht7
  go_wp2_with fail
  refine HC.out.mono ?_
  rintro e w8 ⟨rfl, ht8, _⟩
  clear HC
  have C := open_s ht8 (by simp) 4 5 false
  rw [s7] at C
  have HC := Lib.hid C
  clear C ht8
  go_wp2_with fail
  refine HC.out.mono ?_
  rintro e w9 ⟨rfl, ht9, _⟩
  clear HC
  have C := busy_s ht9 5
  rw [s8] at C
  have HC := Lib.hid C
  clear C ht9
  go_wp2_with fail
  refine HC.out.mono ?_
  rintro e w10 ⟨rfl, ht10, _⟩
  clear HC
  have C := drop_s ht10 1
  rw [s9] at C
  have HC := Lib.hid C
  clear C ht10
  go_wp2_with fail
  refine HC.out.mono ?_
  rintro e w11 ⟨rfl, ht11, _⟩
  clear HC
  have HB := Lib.hid ht11.bel
  clear ht11
  go_wp2
  go_ret
  exact ⟨rfl, HB.out⟩
end Go.Proofs.Ytembgdjdljflhaa.tokensKnown
