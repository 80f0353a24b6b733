/- The pens' Num and Bool. -/
import Derived.Test.YtaiihklfeoeoeaaPNum0
namespace Go.Proofs.Ytaiihklfeoeoeaa.W
open Go.RowKit
set_option linter.unusedVariables false
set_option linter.unusedSimpArgs false

set_option maxHeartbeats 4000000 in
set_option maxRecDepth 100000 in
/-- Bool. -/
theorem pbool_any (b : Nat) (g : Option Nat) (l : List UInt8) (bad : Int) (q : Bool) (w : World) (h : PenAt 82 w b g l bad) :
    Calls Try.prog 53 #[.pointer (some ⟨b, 0, none⟩), .bool q] w fun e w' => e = .returned (.tuple #[]) ∧ Wrote 82 w w' b g (penBool l bad q) := by
  have hbl := h.lt.1
  have key : ∀ (v : Int) (c : UInt8), bv c = .int .u8 v → Hid (Calls Try.prog 81 #[.pointer (some ⟨b, 0, none⟩), .int .i64 0, .slice (some ⟨w.heap.size, 0, none⟩) 1 1] (w.alloc (.cells #[.int .u8 v] 5)) fun e w' => e = .returned (.tuple #[]) ∧ Wrote 82 w w' b g (penAdd l bad [c])) := by
    intro v c hv
    have hc : Chg [] w (w.alloc (.cells #[.int .u8 v] 5)) := (Chg.refl [] w).alloc _
    refine (put_any b g l bad _ 1 [c] _ (h.keep hc (by simp) (by simp)) (one_byte w c _ hv) (by simp)).mono ?_
    rintro e w' ⟨rfl, h1⟩
    exact ⟨rfl, Wrote.before h1 hc⟩
  unfold penBool
  cases q
  · have CP := key 0 0 rfl
    clear key h
    go_enter Try.func53, Try.ntmps53
    go_wp2_with fail
    refine CP.out.mono ?_
    rintro e w2 ⟨rfl, HW⟩
    have HW2 := Lib.hid HW
    clear HW
    go_wp2
    go_end0
    exact ⟨rfl, HW2.out⟩
  · have CP := key 1 1 rfl
    clear key h
    go_enter Try.func53, Try.ntmps53
    go_wp2_with fail
    refine CP.out.mono ?_
    rintro e w2 ⟨rfl, HW⟩
    have HW2 := Lib.hid HW
    clear HW
    go_wp2
    refine bodyPost_ret (results_none rfl _ _ _) rfl ?_
    exact ⟨rfl, HW2.out⟩

end Go.Proofs.Ytaiihklfeoeoeaa.W
