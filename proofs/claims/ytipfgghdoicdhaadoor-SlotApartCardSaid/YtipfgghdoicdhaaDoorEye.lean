/- The eye of package wire. -/
import Derived.Test.YtipfgghdoicdhaaDoorSpec1
import Derived.Defers
import Derived.Recover
namespace Go.Proofs.YtipfgghdoicdhaaDoor.W
open Go.RowKit
set_option linter.unusedVariables false
set_option linter.unusedSimpArgs false

set_option maxHeartbeats 1000000 in
theorem take_ok (b g o cap : Nat) (l : List UInt8) (bad : Value) (n : Nat) (w : World) (h : w.heap[b]? = some (.cells #[.bool true, .slice (some ⟨g, o, none⟩) l.length cap, bad] 122 (0, 0)))
    (hl : l.length ≤ cap) (hc : cap ≤ maxLen) (hn : n ≤ l.length) :
    Calls Tryd.prog 82 #[.pointer (some ⟨b, 0, none⟩), .int .i64 n] w fun e w' => e = .returned (.slice (some ⟨g, o, none⟩) n n) ∧
      w' = w.setCell ⟨b, 1, none⟩ (.slice (some ⟨g, if cap = n then o else o + n, none⟩) (l.length - n) (cap - n)) := by
  have c1 := blk_cell h 1 _ rfl
  have f1 := blk_frozen h 1
  have hlt := blk_lt h
  unfold maxLen at hc
  clear h
  by_cases hcn : cap = n
  · go_enter Tryd.func82, Tryd.ntmps82
    go_wp2
    go_ret
    exact ⟨rfl, rfl⟩
  · go_enter Tryd.func82, Tryd.ntmps82
    go_wp2
    go_ret
    exact ⟨rfl, rfl⟩

/-- The panic of an eye that gives up. -/
def gaveUp (x : Int) : Ending := .panicked [{ v := .iface 125 (.agg #[.int .i64 x]), recovered := false }]

set_option maxHeartbeats 1000000 in
theorem take_short (b : Nat) (a : Option Addr) (L cap : Nat) (bad : Value) (n : Int) (w : World) (h : w.heap[b]? = some (.cells #[.bool true, .slice a L cap, bad] 122 (0, 0)))
    (hL : L ≤ 1000000000000) (hn : (L : Int) < n) :
    Calls Tryd.prog 82 #[.pointer (some ⟨b, 0, none⟩), .int .i64 n] w fun e w' => e = gaveUp 2 ∧ w = w' := by
  have c1 := blk_cell h 1 _ rfl
  have f1 := blk_frozen h 1
  have hlt := blk_lt h
  clear h
  unfold gaveUp
  go_enter Tryd.func82, Tryd.ntmps82
  go_wp2
  exact ⟨rfl, rfl, rfl⟩

theorem wmay_yes (n : Int) (w : World) (h1 : 1 ≤ n) (h7 : n ≤ 7) : Calls Tryd.prog 73 #[.int .i64 n] w fun e w' => e = .returned (.bool true) ∧ w = w' := by
  go_enter Tryd.func73, Tryd.ntmps73
  go_wp2
  go_ret
  exact ⟨rfl, rfl⟩

end Go.Proofs.YtipfgghdoicdhaaDoor.W
