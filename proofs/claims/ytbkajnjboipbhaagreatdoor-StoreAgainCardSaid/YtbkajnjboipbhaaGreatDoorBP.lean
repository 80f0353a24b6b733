/- What the store's laws share. -/
import Derived.Test.YtbkajnjboipbhaaGreatDoorBP6
namespace Go.Proofs.YtbkajnjboipbhaaGreatDoor.W
end Go.Proofs.YtbkajnjboipbhaaGreatDoor.W
