/- Package wire's eye: Fail, Left, NewEye, bytes.Clone. -/
import Derived.Test.YtipfgghdoicdhaaDoorNum
namespace Go.Proofs.YtipfgghdoicdhaaDoor.W
open Go.RowKit
set_option linter.unusedVariables false
set_option linter.unusedSimpArgs false

set_option maxHeartbeats 2000000 in
/-- Fail. -/
theorem efail_any (b g : Nat) (l : List UInt8) (bad : Int) (w : World) (h : EyeAt w b g l bad) :
    Calls Tryd.prog 67 #[.pointer (some ⟨b, 0, none⟩)] w fun e w' => e = .returned (.int .i64 bad) ∧ w = w' := by
  obtain ⟨v, hb, _, _, _, _⟩ := h
  have h0 := blk_cell hb 0 _ rfl
  have h2 := blk_cell hb 2 _ rfl
  clear hb
  go_enter Tryd.func67, Tryd.ntmps67
  go_wp2
  go_ret
  exact ⟨rfl, rfl⟩

set_option maxHeartbeats 2000000 in
/-- Left. -/
theorem eleft_any (b g : Nat) (l : List UInt8) (bad : Int) (w : World) (h : EyeAt w b g l bad) :
    Calls Tryd.prog 68 #[.pointer (some ⟨b, 0, none⟩)] w fun e w' => e = .returned (.int .i64 l.length) ∧ w = w' := by
  obtain ⟨v, hb, hv, _, _, _⟩ := h
  obtain ⟨a, cap, rfl⟩ := hv.slice
  have h1 := blk_cell hb 1 _ rfl
  clear hb hv
  go_enter Tryd.func68, Tryd.ntmps68
  go_wp2
  go_ret
  exact ⟨rfl, rfl⟩

set_option maxHeartbeats 2000000 in
set_option maxRecDepth 100000 in
/-- bytes.Clone. -/
theorem clone_any (v : Value) (l : List UInt8) (w : World) (h : BytesAt w v l) (hl : l.length ≤ 1000000000) :
    Calls Tryd.prog 55 #[v] w fun e w' => ∃ v', e = .returned v' ∧ BRow w' v' l ∧ (∀ g, v'.ownBlock = some g → w.heap.size ≤ g) ∧ Chg [] w w' := by
  obtain ⟨a, cap, rfl, h1, h2, h3⟩ := h
  cases a with
  | none =>
    obtain ⟨rfl, rfl⟩ : l = [] ∧ cap = 0 := by
      rcases h3 with h3 | ⟨g, o, h, _⟩
      · exact h3
      · cases h
    have hq : ∀ w, (binOp .eql 31 (.slice none 0 0) (.slice none 0 0)).run Tryd.prog w = .ok (.bool true) w := fun w => Lib.run_eql_slice_nil w 31 5 none 0 0 0 0 Tryd.underlying31
    go_enter Tryd.func55, Tryd.ntmps55
    go_wp2
    go_ret
    exact ⟨_, rfl, BRow.nil _, by simp [Value.ownBlock], Chg.refl _ _⟩
  | some ad =>
    have hB : BytesAt w (.slice (some ad) l.length cap) l := ⟨_, _, rfl, h1, h2, h3⟩
    have hr : BRow (w.alloc (.cells #[] 5)) (.slice (some ⟨w.heap.size, 0, none⟩) 0 0) [] := World.ownsRow_made w #[] 0 (Nat.zero_le _) (by unfold maxLen; omega) rfl
    have hc0 : Chg [] w (w.alloc (.cells #[] 5)) := (Chg.refl [] w).alloc _
    have hB1 : BytesAt (w.alloc (.cells #[] 5)) (.slice (some ad) l.length cap) l := by
      refine ⟨_, _, rfl, h1, h2, ?_⟩
      rcases h3 with h3 | ⟨g, o, he, hcell⟩
      · exact .inl h3
      · exact .inr ⟨g, o, he, fun i hi => hc0.cell (hcell i hi) (by simp)⟩
    have HB := Lib.hid hB1
    have HR := Lib.hid hr
    have HC := Lib.hid hc0
    have hq : ∀ w, (binOp .eql 31 (.slice (some ad) l.length cap) (.slice none 0 0)).run Tryd.prog w = .ok (.bool false) w := fun w => Lib.run_eql_slice_nil w 31 5 (some ad) _ _ 0 0 Tryd.underlying31
    clear hB hB1 hr hc0 h3
    go_enter Tryd.func55, Tryd.ntmps55
    go_wp2_with (at_builtin; refine wpList_appB rfl _ _ rfl (.slice (some ⟨w.heap.size, 0, none⟩) 0 0) [] rfl HR.out _ l rfl HB.out (by simp; omega) ?_; intro v1 w1 ho1 hg1 hat1)
    go_ret
    refine ⟨v1, rfl, by simpa using ho1, ?_, HC.out.grown hg1 (by simp [Value.ownBlock])⟩
    intro g hg
    rcases hat1 with h | h
    · rw [h] at hg; simp [Value.ownBlock] at hg; omega
    · rw [h] at hg; simp at hg; omega

set_option maxHeartbeats 2000000 in
set_option maxRecDepth 100000 in
/-- NewEye. -/
theorem neweye_any (v : Value) (l : List UInt8) (w : World) (h : BytesAt w v l) (hl : l.length ≤ 1000000) :
    Calls Tryd.prog 64 #[v] w fun e w' => ∃ b g, e = .returned (.pointer (some ⟨b, 0, none⟩)) ∧ EyeAt w' b g l 0 ∧ w.heap.size ≤ b ∧ w.heap.size ≤ g ∧ Chg [] w w' := by
  have CC := Lib.hid (clone_any v l w h (by omega))
  clear h
  go_enter Tryd.func64, Tryd.ntmps64
  go_wp2_with fail
  refine CC.out.mono ?_
  rintro e w1 ⟨v1, rfl, hr, hg, hc⟩
  have hsl : ∃ a cap, v1 = .slice a l.length cap := by
    obtain ⟨a, cap, h, _⟩ := hr.bytes
    exact ⟨a, cap, h⟩
  obtain ⟨a, cap, rfl⟩ := hsl
  have HR := Lib.hid hr
  have HG := Lib.hid hg
  have HC := Lib.hid hc
  clear hr hg hc CC
  go_wp2
  go_ret
  have hw : w.heap.size ≤ w1.heap.size := HC.out.size
  have hca := (Chg.refl [] w1).alloc (.cells #[.bool true, .slice a l.length cap, .int .i64 0] 122)
  cases a with
  | none =>
    have hn : (Value.slice none l.length cap = .slice none 0 0) ∧ l = [] := by
      rcases HR.out.2 with ⟨h1, h2⟩ | ⟨g, c, cur, h1, _⟩
      · exact ⟨h1, List.eq_nil_of_length_eq_zero h2⟩
      · cases h1
    exact ⟨w1.heap.size, w1.heap.size + 1, rfl, ⟨_, heap_alloc_new w1 _, .inl hn, by omega, .inr hn.1, hl⟩, hw, by omega, HC.out.alloc _⟩
  | some x =>
    have hx := HG.out x.block rfl
    have hl2 := HR.out.lt x.block rfl
    refine ⟨w1.heap.size, x.block, rfl, ⟨_, heap_alloc_new w1 _, ?_, by omega, .inl (by simp; omega), hl⟩, hw, hx, HC.out.alloc _⟩
    rcases HR.out.2 with ⟨h1, h2⟩ | ⟨g, c, cur, h1, _⟩
    · cases h1
    · obtain ⟨aa, cc, h3, h4, h5, h6⟩ := (HR.out.keep (fun g' hg' => hca.block g' (HR.out.lt g' hg') (by simp))).bytes
      obtain ⟨rfl, rfl⟩ : x = ⟨g, 0, none⟩ ∧ cap = c := by simpa using h1
      obtain ⟨rfl, rfl⟩ : some (⟨g, 0, none⟩ : Addr) = aa ∧ cap = cc := by simpa using h3
      refine .inr ⟨0, cap, rfl, h4, h5, ?_⟩
      rcases h6 with ⟨h6, _⟩ | ⟨g2, o2, h6, h7⟩
      · intro i hi
        rw [h6] at hi; simp at hi
      · obtain ⟨rfl, rfl⟩ : g = g2 ∧ 0 = o2 := by simpa using h6
        exact h7
end Go.Proofs.YtipfgghdoicdhaaDoor.W
