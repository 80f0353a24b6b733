/- The functions of package tokens as the laws use them: rows of a struct of our own. -/
import Derived.Test.YtembgdjdljflhaaN
namespace Go.Proofs.Ytembgdjdljflhaa
open Go.RowKit
set_option linter.unusedVariables false
set_option linter.unusedSimpArgs false

/-- Handles in block b, all of them made since w0. -/
def TokS (w0 w : World) (b : Nat) (l : List TRow) : Prop :=
  ∃ v base, IsTok w b v base l ∧ w0.heap.size ≤ b ∧ w0.heap.size ≤ base ∧ base ≤ w.heap.size ∧ Below w0.heap.size w0 w
/-- Blocks that are not b and hold no rows stay. -/
def Keeps (w w' : World) (b : Nat) : Prop := w.heap.size ≤ w'.heap.size ∧ ∀ k o, k ≠ b → w.heap[k]? = some o → (∀ cs fz, o ≠ .cells cs 35 fz) → w'.heap[k]? = some o
theorem TokS.bel {w0 w : World} {b : Nat} {l : List TRow} (h : TokS w0 w b l) : Below w0.heap.size w0 w := by obtain ⟨v, base, _, _, _, _, hb⟩ := h; exact hb
theorem TokS.below {w0 w w' : World} {b : Nat} {l : List TRow} (h : TokS w0 w b l) (hb : Below w.heap.size w w') : TokS w0 w' b l := by
  obtain ⟨v, base, h1, h2, h3, h4, h5⟩ := h
  exact ⟨v, base, h1.below hb, h2, h3, Nat.le_trans h4 hb.size, bt h5 hb⟩
theorem keeps_below {w w' : World} (hb : Below w.heap.size w w') (b : Nat) : Keeps w w' b := ⟨hb.size, fun k o _ h _ => (hb.block k (lt_of_block h)).trans h⟩
theorem frame_s {w0 w w' : World} {b base : Nat} {v v' : Value} {l l' : List TRow} (h1 : IsTok w b v base l) (h2 : w0.heap.size ≤ b) (h3 : w0.heap.size ≤ base) (h4 : base ≤ w.heap.size) (h5 : Below w0.heap.size w0 w)
    (ht : IsTok w' b v' base l') (hf : TokFrame w w' b v) : TokS w0 w' b l' ∧ Keeps w w' b := by
  refine ⟨⟨v', base, ht, h2, h3, Nat.le_trans h4 hf.size, hf.toBelow h1 h2 h3 h5.size h5⟩, hf.size, fun k o hk ho hn => ?_⟩
  refine (hf.block k (lt_of_block ho) hk (fun e => ?_)).trans ho
  rcases h1.rows.2 with ⟨rfl, _⟩ | ⟨g, cap, cur, rfl, _, hg, _⟩
  · simp [Value.ownBlock] at e
  · obtain rfl : g = k := by simpa [Value.ownBlock] using e
    rw [hg] at ho
    exact hn _ _ (Option.some.inj ho).symm
theorem new_s (w0 w : World) (hb : Below w0.heap.size w0 w) : Calls Try.prog 9 #[] w fun e w' => e = .returned (.pointer (some ⟨w.heap.size, 0, none⟩)) ∧ TokS w0 w' w.heap.size [] ∧ Below w.heap.size w w' := by
  refine (new_any w).mono ?_
  rintro e w' ⟨rfl, rfl⟩
  refine ⟨rfl, ⟨.slice none 0 0, w0.heap.size, ⟨heap_alloc_new w _, World.ownsRow_nil _ _ _ _, by simp⟩, hb.size, Nat.le_refl _, ?_, hb.alloc hb.size _⟩, (Below.refl _ _).alloc (Nat.le_refl _) _⟩
  have := hb.size
  simp; omega
theorem open_s {w0 w : World} {b : Nat} {l : List TRow} (h : TokS w0 w b l) (hl : l.length < 100000) (c i : Int) (mw : Bool) :
    Calls Try.prog 10 #[.pointer (some ⟨b, 0, none⟩), .int .i64 c, .int .i64 i, .bool mw] w fun e w' => e = .returned (.tuple #[.int .i64 (openR l c i mw).1, .int .i64 (openR l c i mw).2.1]) ∧ TokS w0 w' b (openR l c i mw).2.2 ∧ Keeps w w' b := by
  obtain ⟨v, base, h1, h2, h3, h4, h5⟩ := h
  refine (open_any b v base l c i mw w h1 hl h4).mono ?_
  rintro e w' ⟨v', rfl, ht, hf⟩
  exact ⟨rfl, frame_s h1 h2 h3 h4 h5 ht hf⟩
theorem close_s {w0 w : World} {b : Nat} {l : List TRow} (h : TokS w0 w b l) (c n : Int) :
    Calls Try.prog 11 #[.pointer (some ⟨b, 0, none⟩), .int .i64 c, .int .i64 n] w fun e w' => e = .returned (.int .i64 (closeE (find l c n))) ∧ TokS w0 w' b (closeL l (find l c n)) ∧ Keeps w w' b := by
  obtain ⟨v, base, h1, h2, h3, h4, h5⟩ := h
  refine (close_any b v base l c n w h1).mono ?_
  rintro e w' ⟨v', rfl, ht, hf⟩
  exact ⟨rfl, frame_s h1 h2 h3 h4 h5 ht hf⟩
theorem drop_s {w0 w : World} {b : Nat} {l : List TRow} (h : TokS w0 w b l) (c : Int) :
    Calls Try.prog 14 #[.pointer (some ⟨b, 0, none⟩), .int .i64 c] w fun e w' => e = .returned (.int .i64 ((l.length : Int) - (keep (fun r => r.c == c) l).length)) ∧ TokS w0 w' b (keep (fun r => r.c == c) l) ∧ Keeps w w' b := by
  obtain ⟨v, base, h1, h2, h3, h4, h5⟩ := h
  refine (drop_any b v base l c w h1).mono ?_
  rintro e w' ⟨v', rfl, ht, hf⟩
  exact ⟨rfl, frame_s h1 h2 h3 h4 h5 ht hf⟩
theorem of_s {w0 w : World} {b : Nat} {l : List TRow} (h : TokS w0 w b l) (c n : Int) :
    Calls Try.prog 15 #[.pointer (some ⟨b, 0, none⟩), .int .i64 c, .int .i64 n] w fun e w' => e = .returned (ofAns (find l c n)) ∧ TokS w0 w' b l ∧ Below w.heap.size w w' := by
  have h0 := h
  obtain ⟨v, base, h1, h2, h3, h4, h5⟩ := h
  refine (of_any b v base l c n w h1).mono ?_
  rintro e w' ⟨rfl, hb⟩
  exact ⟨rfl, h0.below hb, hb⟩
theorem busy_s {w0 w : World} {b : Nat} {l : List TRow} (h : TokS w0 w b l) (n : Int) :
    Calls Try.prog 13 #[.pointer (some ⟨b, 0, none⟩), .int .i64 n] w fun e w' => e = .returned (.bool (has (fun r => r.i == n) l)) ∧ TokS w0 w' b l ∧ Below w.heap.size w w' := by
  have h0 := h
  obtain ⟨v, base, h1, h2, h3, h4, h5⟩ := h
  refine (busy_any b v base l n w h1).mono ?_
  rintro e w' ⟨rfl, hb⟩
  exact ⟨rfl, h0.below hb, hb⟩
theorem rows_s {w0 w : World} {b : Nat} {l : List TRow} (h : TokS w0 w b l) :
    Calls Try.prog 12 #[.pointer (some ⟨b, 0, none⟩)] w fun e w' => ∃ a cap, e = .returned (.slice a l.length cap) ∧ RowsAt w' w'.heap.size a l.length (fun i => l.getD i default) ∧ TokS w0 w' b l ∧ Below w.heap.size w w' := by
  have h0 := h
  obtain ⟨v, base, h1, h2, h3, h4, h5⟩ := h
  refine (copy_any b v base l w h1).mono ?_
  rintro e w' ⟨v', rfl, ho, hb⟩
  obtain ⟨a, cap, rfl, hcap, hr⟩ := own_rows ho
  exact ⟨a, cap, rfl, hr, h0.below hb, hb⟩

theorem awake1 : openR [] 1 5 true = (0, 0, [⟨1, 0, 5, true⟩]) := by rfl
theorem awake2 : openR [⟨1, 0, 5, true⟩] 2 5 false = (0, 8, [⟨1, 0, 5, true⟩]) := by rfl
theorem awake3 : find [⟨1, 0, 5, true⟩] 1 0 = some ⟨1, 0, 5, true⟩ := by rfl

set_option maxHeartbeats 4000000 in
set_option maxRecDepth 100000 in
theorem awake_any (w : World) : Calls Try.prog 8 #[] w fun e w' => e = .returned (.bool true) ∧ Below w.heap.size w w' := by
  have CN := Lib.hid (new_s w w (Below.refl _ _))
  go_enter Try.func8, Try.ntmps8
  go_wp2_with fail
  refine CN.out.mono ?_
  rintro e w1 ⟨rfl, ht1, _⟩
  have C1 := open_s ht1 (by simp) 1 5 true
  rw [awake1] at C1
  obtain ⟨b, hb⟩ : ∃ b, b = w.heap.size := ⟨_, rfl⟩
  rw [← hb] at C1 ⊢
  have HC1 := Lib.hid C1
  clear C1 ht1 CN hb
  go_wp2_with fail
  refine HC1.out.mono ?_
  rintro e w2 ⟨rfl, ht2, _⟩
  have C2 := open_s ht2 (by simp) 2 5 false
  rw [awake2] at C2
  have HC2 := Lib.hid C2
  clear C2 ht2 HC1
  go_wp2_with fail
  refine HC2.out.mono ?_
  rintro e w3 ⟨rfl, ht3, _⟩
  have C3 := of_s ht3 1 0
  rw [awake3] at C3
  unfold ofAns enc at C3
  have HC3 := Lib.hid C3
  clear C3 ht3 HC2
  go_wp2_with fail
  refine HC3.out.mono ?_
  rintro e w4 ⟨rfl, ht4, _⟩
  have HB := Lib.hid ht4.bel
  clear ht4 HC3
  go_wp2
  go_ret
  exact ⟨rfl, HB.out.alloc HB.out.size _⟩
end Go.Proofs.Ytembgdjdljflhaa
