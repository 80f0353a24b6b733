/- SameEntries, at two rows that are the same. -/
import Derived.Test.YtaiihklfeoeoeaaT9
import Derived.Deep.QuietTactic
import Derived.BigQuiet
namespace Go.Proofs.Ytaiihklfeoeoeaa.W
open Go.RowKit
open Go.Proofs.Ytaiihklfeoeoeaa.NM
set_option linter.unusedVariables false
set_option linter.unusedSimpArgs false

/-- A slice of entries that lies in memory. -/
def EntsAt (w : World) (u : Value) (L : List Ent) : Prop := ∃ a c, u = .slice a L.length c ∧ (L = [] ∨ ∃ g, a = some ⟨g, 0, none⟩ ∧ g < w.heap.size ∧ ∀ i e, L[i]? = some e →
  w.cell? ⟨g, i * 3, none⟩ = some (.string ⟨e.1.toArray⟩) ∧ w.cell? ⟨g, i * 3 + 1, none⟩ = some (.int .i64 (e.2.1 : Int)) ∧ w.cell? ⟨g, i * 3 + 2, none⟩ = some (.bool e.2.2))
theorem EntsAt.keep {S : List Nat} {w w' : World} {u : Value} {L : List Ent} (h : EntsAt w u L) (hc : Chg S w w') (hS : ∀ g, u.ownBlock = some g → g ∉ S) : EntsAt w' u L := by
  obtain ⟨a, c, rfl, h⟩ := h
  refine ⟨a, c, rfl, ?_⟩
  rcases h with h | ⟨g, rfl, hg, h⟩
  · exact .inl h
  · have hn := hS g rfl
    refine .inr ⟨g, rfl, Nat.lt_of_lt_of_le hg hc.size, fun i e he => ?_⟩
    obtain ⟨c0, c1, c2⟩ := h i e he
    exact ⟨hc.cell c0 hn, hc.cell c1 hn, hc.cell c2 hn⟩
theorem EntsAt.keep0 {w w' : World} {u : Value} {L : List Ent} (h : EntsAt w u L) (hc : Chg [] w w') : EntsAt w' u L := h.keep hc (by simp)
instance : Inhabited Ent := ⟨([], 0, false)⟩
theorem ents_own {w : World} {base : Nat} {L : List Ent} {v : Value} (h : w.ownsRow base 39 3 v L.length (L.flatMap entC)) : EntsAt w v L := by
  rcases h.2 with ⟨rfl, h0⟩ | ⟨g, cap, cur, rfl, hbg, hg, hnc, hcm, hcs, htake⟩
  · exact ⟨none, 0, by rw [h0], .inl (List.eq_nil_of_length_eq_zero h0)⟩
  · refine ⟨_, cap, rfl, .inr ⟨g, rfl, blk_lt hg, fun i e he => ?_⟩⟩
    have hi := (List.getElem?_eq_some_iff.1 he).1
    have key : ∀ j, j < 3 → ∀ u, (entC e)[j]? = some u → w.cell? ⟨g, i * 3 + j, none⟩ = some u := by
      intro j hj u hu
      have := h.cells (g := g) rfl (i * 3 + j) u (by
        have := flatMap_at entC (fun _ => rfl) L i j hi hj
        rw [show L[i]! = e by simp [List.getElem!_eq_getElem?_getD, he]] at this
        rw [this]; exact hu)
      rw [add_none] at this
      simpa using this
    exact ⟨by simpa using key 0 (by omega) (.string ⟨e.1.toArray⟩) rfl, key 1 (by omega) _ rfl, key 2 (by omega) _ rfl⟩

set_option maxHeartbeats 2000000 in
set_option maxRecDepth 100000 in
theorem samee_any (u v : Value) (L : List Ent) (w : World) (hu : EntsAt w u L) (hv : EntsAt w v L) (hL : L.length ≤ 1000000) : Calls Try.prog 22 #[u, v] w fun e w' => e = .returned (.bool true) ∧ ∃ n, w' = w.drewN n := by
  obtain ⟨a, c, rfl, hu⟩ := hu
  obtain ⟨a2, c2, rfl, hv⟩ := hv
  have HU := Lib.hid hu
  have HV := Lib.hid hv
  clear hu hv
  go_enter Try.func22, Try.ntmps22
  go_wp2
  go_loopw [5] (fun v5 wr => ∃ k : Nat, v5 = .int .i64 k ∧ k ≤ L.length ∧ ∃ n, wr = w.drewN n) (fun v5 _ => L.length - (intOf v5).toNat)
  case atStart => exact ⟨0, rfl, by omega, 0, rfl⟩
  case round =>
    obtain ⟨k, rfl, hk, n, rfl⟩ := hrel
    by_cases hlt : k < L.length
    · obtain ⟨x, hx⟩ : ∃ x, L[k]? = some x := ⟨_, List.getElem?_eq_getElem hlt⟩
      obtain ⟨g, rfl, hg, c0, c1, c2⟩ : ∃ g, a = some ⟨g, 0, none⟩ ∧ g < w.heap.size ∧ w.cell? ⟨g, k * 3, none⟩ = some (.string ⟨x.1.toArray⟩) ∧ w.cell? ⟨g, k * 3 + 1, none⟩ = some (.int .i64 (x.2.1 : Int)) ∧ w.cell? ⟨g, k * 3 + 2, none⟩ = some (.bool x.2.2) := by
        rcases HU.out with h0 | ⟨g, h1, h2, h3⟩
        · rw [h0] at hlt; simp at hlt
        · exact ⟨g, h1, h2, h3 k x hx⟩
      obtain ⟨g2, rfl, hg2, b0, b1, b2⟩ : ∃ g, a2 = some ⟨g, 0, none⟩ ∧ g < w.heap.size ∧ w.cell? ⟨g, k * 3, none⟩ = some (.string ⟨x.1.toArray⟩) ∧ w.cell? ⟨g, k * 3 + 1, none⟩ = some (.int .i64 (x.2.1 : Int)) ∧ w.cell? ⟨g, k * 3 + 2, none⟩ = some (.bool x.2.2) := by
        rcases HV.out with h0 | ⟨g, h1, h2, h3⟩
        · rw [h0] at hlt; simp at hlt
        · exact ⟨g, h1, h2, h3 k x hx⟩
      have hkz : (k : Int) < (L.length : Int) := by omega
      obtain ⟨sx, ix, bx⟩ := x
      simp only at c0 c1 c2 b0 b1 b2
      clear hx
      go_wp2_with fail
      go_quiet (fail)
      go_wp2
      go_roundw
      case rel => exact ⟨k + 1, by go_num, by omega, _, by first | rfl | rw [World.drewN_drewN] | simp⟩
      case measure => simp [intOf]; omega
    · go_wp2
      go_ret
      exact ⟨rfl, n, rfl⟩
end Go.Proofs.Ytaiihklfeoeoeaa.W
