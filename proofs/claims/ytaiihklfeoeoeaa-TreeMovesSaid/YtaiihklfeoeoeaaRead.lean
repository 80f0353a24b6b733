/- Package wire's read: a step that ends, and a step that gives up. -/
import Derived.Test.YtaiihklfeoeoeaaCatch
import Derived.Test.YtaiihklfeoeoeaaEye
namespace Go.Proofs.Ytaiihklfeoeoeaa.W
open Go.RowKit
set_option linter.unusedVariables false
set_option linter.unusedSimpArgs false

end Go.Proofs.Ytaiihklfeoeoeaa.W
