/- The eye of package wire. -/
import Derived.Test.YtaiihklfeoeoeaaSpec1
import Derived.Defers
import Derived.Recover
namespace Go.Proofs.Ytaiihklfeoeoeaa.W
open Go.RowKit
set_option linter.unusedVariables false
set_option linter.unusedSimpArgs false

theorem wmay_yes (n : Int) (w : World) (h1 : 1 ≤ n) (h7 : n ≤ 7) : Calls Try.prog 80 #[.int .i64 n] w fun e w' => e = .returned (.bool true) ∧ w = w' := by
  go_enter Try.func80, Try.ntmps80
  go_wp2
  go_ret
  exact ⟨rfl, rfl⟩

end Go.Proofs.Ytaiihklfeoeoeaa.W
