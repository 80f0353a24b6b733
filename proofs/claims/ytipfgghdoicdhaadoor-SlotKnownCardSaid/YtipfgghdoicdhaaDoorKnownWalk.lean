/- SlotKnown: what the row asks. -/
import Derived.Test.YtipfgghdoicdhaaDoorL3
namespace Go.Proofs.YtipfgghdoicdhaaDoor.slotKnown
open Go.RowKit
theorem walk (X : World) : Calls Tryd.prog 4 #[] X fun e w' => e = .returned (.bool true) ∧ Below X.heap.size X w' :=
  (Go.Proofs.YtipfgghdoicdhaaDoor.W.known_any X).mono fun e w' ⟨h1, h2⟩ => ⟨h1, h2.below (by simp)⟩
end Go.Proofs.YtipfgghdoicdhaaDoor.slotKnown
