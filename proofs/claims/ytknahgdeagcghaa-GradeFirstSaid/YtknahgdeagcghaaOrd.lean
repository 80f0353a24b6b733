/- grade.Order over the floats that came in. -/
import Derived.Test.YtknahgdeagcghaaStab
namespace Go.Proofs.Ytknahgdeagcghaa
open Go.RowKit Fl
set_option linter.unusedVariables false
set_option linter.unusedSimpArgs false

theorem el43 : El Try.prog 43 3 (.int .i64 0) 1 8 := El.mk Try.underlying43 (by kernel_rfl) rfl (by decide)
def places (n : Nat) : List Int := (List.range n).map fun i => ((i : Nat) : Int)
theorem places_succ (n : Nat) : places (n + 1) = places n ++ [(n : Int)] := by simp [places, List.range_succ]
theorem places_len (n : Nat) : (places n).length = n := by simp [places]
theorem places_mem {n : Nat} {x : Int} (h : x ∈ places n) : 0 ≤ x ∧ x < n := by
  simp only [places, List.mem_map, List.mem_range] at h
  obtain ⟨i, h1, rfl⟩ := h
  omega
theorem places_inc (n : Nat) : (places n).Pairwise (· < ·) := by
  unfold places
  rw [List.pairwise_map]
  exact (List.pairwise_lt_range (n := n)).imp (fun {a b} h => by omega)
theorem places_at (n i : Nat) (h : i < n) : (places n).getD i 0 = (i : Int) := by
  simp [places, List.getD_eq_getElem?_getD, h]

def fkey (xs : List Nat) (i : Int) : Int := ukey (xs.getD i.toNat 0)

/-- A row of the call's own, opened as the sort wants it. -/
theorem irow_own {w : World} {base n : Nat} {v : Value} (hn : 0 < n) (h : w.ownsRow base 3 1 v n ((places n).map (Value.int .i64))) :
    ∃ g cap, v = .slice (some ⟨g, 0, none⟩) n cap ∧ base ≤ g ∧ IRow 3 w g n (places n) := by
  have h' := h
  rcases h.2 with ⟨rfl, rfl⟩ | ⟨g, cap, cur, rfl, hbg, hg, hnc, hcm, hcs, htake⟩
  · omega
  · refine ⟨g, cap, rfl, hbg, cur, hg, places_len n, ?_, fun i hi => ?_⟩
    · simp at hcs; omega
    · have := h'.cells (g := g) rfl i (.int .i64 (i : Int)) (by simp [places, hi])
      rw [add_none] at this
      simp [World.cell?, hg] at this
      rw [places_at n i hi]
      exact this

set_option maxHeartbeats 4000000 in
set_option maxRecDepth 100000 in
theorem order_any (xs : List Nat) (b off n cf : Nat) (w : World) (hn : 0 < n) (hn60 : n ≤ 60) (hb : b < w.heap.size) (hc : ∀ i, i < n → w.cell? ⟨b, off + i, none⟩ = some (.float .f64 (xs.getD i 0)))
    (hwf : ∀ i, xs.getD i 0 < 18446744073709551616) :
    Calls Try.prog 18 #[.slice (some ⟨b, off, none⟩) n cf] w fun e w' => ∃ g cap L, e = .returned (.slice (some ⟨g, 0, none⟩) n cap) ∧ w.heap.size ≤ g ∧ IRow 3 w' g n L ∧ L.Perm (places n) ∧ St.Sorted (fkey xs) L ∧ Below w.heap.size w w' := by
  have HC := Lib.hid hc
  have HW := Lib.hid hwf
  clear hc hwf
  go_enter Try.func18, Try.ntmps18
  go_wp2
  go_loopg [3, 7] n (fun g1 v i wr => ∃ (k : Nat), i = .int .i64 k ∧ k ≤ n ∧ n ≤ k + g1 ∧ wr.ownsRow w.heap.size 3 1 v k ((places k).map (Value.int .i64)) ∧ Below w.heap.size w wr)
  case atStart => exact ⟨0, rfl, by omega, by omega, World.ownsRow_nil _ _ _ _, Below.refl _ _⟩
  case round =>
    obtain ⟨k, rfl, hk, hg, hown, hbel⟩ := hrel
    have hs0 := hbel.size
    by_cases hlt : k < n
    · have hz : (k : Int) < (n : Int) := by omega
      go_wp2_with (at_builtin; refine wpList_app1 rfl (.tmp 10) (.tmp 12) _ rfl w.heap.size el43 _ _ _ rfl hown _ _ rfl rfl (one1 rfl) (by unfold maxLen; omega) (by omega) hs0 ?_
                   intro v1 w1 hown1 hg1
                   have hbel1 := Below.of_grown hown hg1 (Nat.le_refl _) hs0 hbel
                   clear hown hg1)
      go_roundg (gk - 1)
      case measure => omega
      case rel => exact ⟨k + 1, by go_num, by omega, by omega, by rw [places_succ, List.map_append]; simpa using hown1, hbel1⟩
    · obtain rfl : k = n := by omega
      have hz : ¬ (k : Int) < (k : Int) := by omega
      obtain ⟨g, cap, rfl, hg0, hrow⟩ := irow_own hn hown
      have hC : CtxOk ⟨xs, b, off, k, cf, g, k, cap⟩ := ⟨by show b ≠ g; omega, HW.out, by show k ≤ 100; omega, by show k ≤ 100; omega⟩
      have hS : SW ⟨xs, b, off, k, cf, g, k, cap⟩ wr wr (places k) := ⟨hrow, fun i hi => (hbel.cell (p := ⟨b, off + i, none⟩) hb).trans (HC.out i hi), fun x hx => places_mem hx, Chg.refl _ _⟩
      have CI := Lib.hid (sortStable_any _ hC wr wr (places k) hS)
      have hst := St.stable_ok (fkey xs) (places k) (places_inc k)
      rw [places_len] at hst
      have HS := Lib.hid hst
      have HB := Lib.hid hbel
      have HG := Lib.hid hg0
      clear hC hS hst hrow hown hbel hg0
      go_wp2_with (go_at_call 22; refine CI.out.mono ?_; rintro e' w2 ⟨rfl, S2⟩; have HS2 := Lib.hid S2; clear S2)
      go_ret
      refine ⟨g, cap, _, rfl, HG.out, HS2.out.row, HS.out.1, HS.out.2, Chg.to_below HB.out HS2.out.chg hs0 HG.out⟩
end Go.Proofs.Ytknahgdeagcghaa
