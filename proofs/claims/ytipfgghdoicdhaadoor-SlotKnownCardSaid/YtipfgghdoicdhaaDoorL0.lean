/- The law's awake. -/
import Derived.Test.YtipfgghdoicdhaaDoorS10
import Derived.Test.YtipfgghdoicdhaaDoorSame
import Derived.Test.YtipfgghdoicdhaaDoorDNew
namespace Go.Proofs.YtipfgghdoicdhaaDoor.W
open Go.RowKit
set_option linter.unusedVariables false
set_option linter.unusedSimpArgs false

def ws0 : SS := ⟨DS.new 17, 1, [noRow, noRow]⟩
def ws1 : SS := (ws0.put 0 [7] [1, 2]).2
theorem ws0_open : (DS.new 17).slots 1 = (0, some ws0) := by rfl
theorem ws1_put : (ws0.put 0 [7] [1, 2]).1 = 0 := by kernel_rfl
theorem ws1_get : ws1.get 0 = ([1, 2], 0) := by kernel_rfl
theorem ws1_find : ws1.find [7] = 0 := by kernel_rfl
theorem ws1_free : ws1.free = 1 := by kernel_rfl
end Go.Proofs.YtipfgghdoicdhaaDoor.W
