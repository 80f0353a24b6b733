/- What TokensPlays keeps: good rows on both sides, apart. -/
import Derived.Test.YtembgdjdljflhaaP4
import Derived.Test.YtembgdjdljflhaaP7
import Derived.Test.YtembgdjdljflhaaS
namespace Go.Proofs.Ytembgdjdljflhaa
open Go.RowKit
set_option linter.unusedVariables false
set_option linter.unusedSimpArgs false

structure Good2 (l : List TRow) : Prop where
  good : Good l
  ino : ∀ r ∈ l, 2 ≤ r.i ∧ r.i ≤ 128
theorem good2_nil : Good2 [] := ⟨good_nil, by simp⟩
theorem Good2.inR {l : List TRow} (h : Good2 l) : ∀ r ∈ l, inR r := fun r hr => by
  have h1 := h.good.rng r hr
  have h2 := h.ino r hr
  unfold Proofs.Ytembgdjdljflhaa.inR
  omega
theorem Good2.sub {l m : List TRow} (h : Good2 l) (hs : m.Sublist l) : Good2 m := ⟨h.good.sub hs, fun r hr => h.ino r (hs.subset hr)⟩
theorem Good2.close {l : List TRow} (h : Good2 l) (c n : Int) : Good2 (closeL l (find l c n)) := by
  cases hf : find l c n with
  | none => exact h
  | some r => exact h.sub List.filter_sublist
theorem Good2.drop {l : List TRow} (h : Good2 l) (p : TRow → Bool) : Good2 (keep p l) := h.sub List.filter_sublist
theorem Good2.opens {l : List TRow} (h : Good2 l) (c i : Int) (q : Bool) : Good2 (openR l c i q).2.2 := by
  refine ⟨h.good.opens c i q, ?_⟩
  unfold openR
  split
  · exact h.ino
  · rename_i hm
    split
    · exact h.ino
    · split
      · exact h.ino
      · have hi : 2 ≤ i ∧ i ≤ 128 := by unfold mayB at hm; simp at hm; omega
        intro r hr
        simp only at hr
        unfold insRow at hr
        rcases List.mem_append.1 hr with h1 | h1
        · exact h.ino r ((List.takeWhile_sublist _).subset h1)
        · rcases List.mem_cons.1 h1 with rfl | h2
          · exact hi
          · exact h.ino r ((List.dropWhile_sublist _).subset h2)
/-- The two live in blocks of unlike types. -/
theorem tok_apart {w0 w : World} {tb b base : Nat} {v : Value} {l m : List TRow} (h : TokS w0 w tb l) (hr : RTok w b v base m) : b ≠ tb ∧ v.ownBlock ≠ some tb := by
  obtain ⟨v', base', h1, _⟩ := h
  constructor
  · intro e
    have := h1.head
    rw [← e, hr.head] at this
    simp at this
  · intro e
    rcases hr.rows.2 with ⟨rfl, _⟩ | ⟨g, cap, cur, rfl, _, hg, _⟩
    · simp [Value.ownBlock] at e
    · obtain rfl : g = tb := by simpa [Value.ownBlock] using e
      have := h1.head
      rw [hg] at this
      simp at this
/-- The reference's rows stay where only the program's turned. -/
theorem RTok.keeps {w w' : World} {tb b base : Nat} {v : Value} {l : List TRow} (h : RTok w b v base l) (hk : Keeps w w' tb) (hne : b ≠ tb) (hv : v.ownBlock ≠ some tb) : RTok w' b v base l := by
  refine ⟨hk.2 b _ hne h.head (by intro cs fz; simp), ?_, h.apart⟩
  refine ⟨h.rows.1, ?_⟩
  rcases h.rows.2 with h1 | ⟨g, cap, cur, rfl, hbg, hg, rest⟩
  · exact .inl h1
  · exact .inr ⟨g, cap, cur, rfl, hbg, hk.2 g _ (fun e => hv (by rw [← e]; rfl)) hg (by intro cs fz; simp), rest⟩
/-- The program's rows stay where only the reference's struct was written. -/
theorem TokS.chg {w0 w w' : World} {tb b : Nat} {l : List TRow} {cs : Array Value} (h : TokS w0 w tb l) (hc : W.Chg [b] w w') (hb : w.heap[b]? = some (.cells cs 57 (0, 0))) (h0 : w0.heap.size ≤ b) : TokS w0 w' tb l := by
  obtain ⟨v, base, h1, h2, h3, h4, h5⟩ := h
  have hne : tb ≠ b := by
    intro e
    have := h1.head
    rw [e, hb] at this
    simp at this
  refine ⟨v, base, ⟨hc.keep h1.head (by simp; exact hne), W.row_keep h1.rows (fun g hg => hc.block g (h1.rows.lt g hg).2 ?_), h1.few⟩, h2, h3, Nat.le_trans h4 hc.size, W.Chg.to_below h5 hc h5.size (by intro x hx; simp at hx; omega)⟩
  intro hm
  obtain rfl : g = b := by simpa using hm
  rcases h1.rows.2 with ⟨rfl, _⟩ | ⟨g', cap, cur, rfl, _, hg', _⟩
  · simp [Value.ownBlock] at hg
  · obtain rfl : g' = g := by simpa [Value.ownBlock] using hg
    rw [hg'] at hb
    simp at hb
end Go.Proofs.Ytembgdjdljflhaa
