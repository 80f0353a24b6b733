/- SlotApart: what the row asks. -/
import Derived.Test.YtipfgghdoicdhaaDoorApW
namespace Go.Proofs.YtipfgghdoicdhaaDoor.slotApart
open Go.RowKit
theorem walk (a : Option Addr) (n cap : Nat) (f : Nat → Go.Proofs.YtipfgghdoicdhaaDoor.W.Dd) (X : World) (h : n ≤ maxLen ∧ Go.Proofs.YtipfgghdoicdhaaDoor.W.DeedsAt X a n f) : Calls Tryd.prog 5 #[.slice a n cap] X fun e w' => e = .returned (.bool true) ∧ Below X.heap.size X w' :=
  (Go.Proofs.YtipfgghdoicdhaaDoor.W.apart_any a n cap f X h.2).mono fun e w' ⟨h1, h2⟩ => ⟨h1, h2.below (by simp)⟩
end Go.Proofs.YtipfgghdoicdhaaDoor.slotApart
