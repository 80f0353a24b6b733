/- Package wire's eye: Fail, Left, NewEye, bytes.Clone. -/
import Derived.Test.YtaiihklfeoeoeaaNum
namespace Go.Proofs.Ytaiihklfeoeoeaa.W
open Go.RowKit
set_option linter.unusedVariables false
set_option linter.unusedSimpArgs false

set_option maxHeartbeats 2000000 in
set_option maxRecDepth 100000 in
/-- bytes.Clone. -/
theorem clone_any (v : Value) (l : List UInt8) (w : World) (h : BytesAt w v l) (hl : l.length ≤ 1000000000) :
    Calls Try.prog 54 #[v] w fun e w' => ∃ v', e = .returned v' ∧ BRow w' v' l ∧ (∀ g, v'.ownBlock = some g → w.heap.size ≤ g) ∧ Chg [] w w' := by
  obtain ⟨a, cap, rfl, h1, h2, h3⟩ := h
  cases a with
  | none =>
    obtain ⟨rfl, rfl⟩ : l = [] ∧ cap = 0 := by
      rcases h3 with h3 | ⟨g, o, h, _⟩
      · exact h3
      · cases h
    have hq : ∀ w, (binOp .eql 22 (.slice none 0 0) (.slice none 0 0)).run Try.prog w = .ok (.bool true) w := fun w => Lib.run_eql_slice_nil w 22 5 none 0 0 0 0 Try.underlying22
    go_enter Try.func54, Try.ntmps54
    go_wp2
    go_ret
    exact ⟨_, rfl, BRow.nil _, by simp [Value.ownBlock], Chg.refl _ _⟩
  | some ad =>
    have hB : BytesAt w (.slice (some ad) l.length cap) l := ⟨_, _, rfl, h1, h2, h3⟩
    have hr : BRow (w.alloc (.cells #[] 5)) (.slice (some ⟨w.heap.size, 0, none⟩) 0 0) [] := World.ownsRow_made w #[] 0 (Nat.zero_le _) (by unfold maxLen; omega) rfl
    have hc0 : Chg [] w (w.alloc (.cells #[] 5)) := (Chg.refl [] w).alloc _
    have hB1 : BytesAt (w.alloc (.cells #[] 5)) (.slice (some ad) l.length cap) l := by
      refine ⟨_, _, rfl, h1, h2, ?_⟩
      rcases h3 with h3 | ⟨g, o, he, hcell⟩
      · exact .inl h3
      · exact .inr ⟨g, o, he, fun i hi => hc0.cell (hcell i hi) (by simp)⟩
    have HB := Lib.hid hB1
    have HR := Lib.hid hr
    have HC := Lib.hid hc0
    have hq : ∀ w, (binOp .eql 22 (.slice (some ad) l.length cap) (.slice none 0 0)).run Try.prog w = .ok (.bool false) w := fun w => Lib.run_eql_slice_nil w 22 5 (some ad) _ _ 0 0 Try.underlying22
    clear hB hB1 hr hc0 h3
    go_enter Try.func54, Try.ntmps54
    go_wp2_with (at_builtin; refine wpList_appB rfl _ _ rfl (.slice (some ⟨w.heap.size, 0, none⟩) 0 0) [] rfl HR.out _ l rfl HB.out (by simp; omega) ?_; intro v1 w1 ho1 hg1 hat1)
    go_ret
    refine ⟨v1, rfl, by simpa using ho1, ?_, HC.out.grown hg1 (by simp [Value.ownBlock])⟩
    intro g hg
    rcases hat1 with h | h
    · rw [h] at hg; simp [Value.ownBlock] at hg; omega
    · rw [h] at hg; simp at hg; omega

end Go.Proofs.Ytaiihklfeoeoeaa.W
