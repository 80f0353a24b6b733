/- What the deferred closure of package wire's read does. -/
import Derived.Test.YtaiihklfeoeoeaaB0
import Derived.Defers
import Derived.Recover
import Derived.RegionTactic
import Derived.ChangeAlike
namespace Go.Proofs.Ytaiihklfeoeoeaa.W
open Go.RowKit
set_option linter.unusedVariables false
set_option linter.unusedSimpArgs false

end Go.Proofs.Ytaiihklfeoeoeaa.W
