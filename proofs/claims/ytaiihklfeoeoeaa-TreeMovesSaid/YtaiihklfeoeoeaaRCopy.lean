/- The reference's Copy. -/
import Derived.Test.YtaiihklfeoeoeaaPNum0
namespace Go.Proofs.Ytaiihklfeoeoeaa.W
open Go.RowKit
set_option linter.unusedVariables false
set_option linter.unusedSimpArgs false

end Go.Proofs.Ytaiihklfeoeoeaa.W
