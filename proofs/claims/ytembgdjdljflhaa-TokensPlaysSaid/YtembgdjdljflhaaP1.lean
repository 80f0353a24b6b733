/- The reference's Busy, Of, Drop, Close. -/
import Derived.Test.YtembgdjdljflhaaR5
import Derived.Test.YtembgdjdljflhaaA2
namespace Go.Proofs.Ytembgdjdljflhaa
open Go.RowKit
set_option linter.unusedVariables false
set_option linter.unusedSimpArgs false

theorem elR : El Try.prog 54 66 (.agg #[.int .i64 0, .int .i64 0, .int .i64 0, .bool false]) 4 32 := El.mk Try.underlying54 rinfo rfl (by decide)
theorem RTok.mono {w : World} {b base base' : Nat} {v : Value} {l : List TRow} (h : RTok w b v base l) (hb : base' ≤ base) : RTok w b v base' l :=
  ⟨h.head, W.row_base h.rows base' (fun g hg => Nat.le_trans hb (h.rows.lt g hg).1), h.apart⟩
theorem has_false {p : TRow → Bool} {l : List TRow} (h : ∀ q, q < l.length → p (l.getD q default) = false) : has p l = false := by
  unfold has
  rw [List.any_eq_false]
  intro x hx
  obtain ⟨q, hq, rfl⟩ := List.mem_iff_getElem.1 hx
  have := h q hq
  rw [getD_getElem l q hq] at this
  simp [this]
theorem has_true {p : TRow → Bool} {l : List TRow} {q : Nat} (hq : q < l.length) (h : p (l.getD q default) = true) : has p l = true := by
  unfold has
  rw [List.any_eq_true]
  exact ⟨l[q], List.getElem_mem hq, by rw [← getD_getElem l q hq]; exact h⟩

set_option maxHeartbeats 4000000 in
set_option maxRecDepth 100000 in
/-- Busy. -/
theorem rbusy_any (b : Nat) (v : Value) (base : Nat) (l : List TRow) (n : Int) (w : World) (ht : RTok w b v base l) (hl : l.length ≤ 100000) :
    Calls Try.prog 27 #[.pointer (some ⟨b, 0, none⟩), .int .i64 n] w fun e w' => e = .returned (.bool (has (fun r => r.i == n) l)) ∧ w = w' := by
  obtain ⟨a, cap, rfl, hcap, hr⟩ := rown_rows ht.rows
  have t0 : w.cell? ⟨b, 0, none⟩ = some (.slice a l.length cap) := blk_cell ht.head 0 _ rfl
  have hbl := ht.lt
  have HR := Lib.hid hr
  obtain ⟨ans, hans⟩ : ∃ ans, ans = has (fun r => r.i == n) l := ⟨_, rfl⟩
  rw [← hans]
  have HANS := Lib.hid hans
  clear ht hr hans
  go_enter Try.func27, Try.ntmps27
  go_wp2
  go_loopg [5] l.length (fun g' s5 wr => ∃ k : Nat, s5 = .int .i64 k ∧ k ≤ l.length ∧ l.length ≤ k + g' ∧ Hid (∀ q, q < k → ((l.getD q default).i == n) = false) ∧ wr = w)
  case atStart => exact ⟨0, rfl, by omega, by omega, fun q hq => absurd hq (by omega), rfl⟩
  case round =>
    obtain ⟨k, rfl, hk, hkg, HQ, rfl⟩ := hrel
    by_cases hlt : k < l.length
    · rcases HR.out with h0 | ⟨ga, rfl, hga, hcell⟩
      · omega
      obtain ⟨y, hy, c2⟩ : ∃ y, l.getD k default = y ∧ wr.cell? ⟨ga, k * 4 + 2, none⟩ = some (.int .i64 y.i) := ⟨_, rfl, (hcell k hlt).2.2.1⟩
      have HY := Lib.hid hy
      have hkz : (k : Int) < (l.length : Int) := by omega
      have hkz1 : (k : Int).toNat = k := by omega
      clear hy hcell
      cases hq : (y.i == n) with
      | true =>
        have HA : Hid (ans = true) := Lib.hid (by rw [HANS.out]; exact has_true hlt (by rw [HY.out]; exact hq))
        go_wp2
        go_ret
        exact ⟨ret_bool HA.out.symm, rfl⟩
      | false =>
        have HN : Hid (∀ q, q < k + 1 → ((l.getD q default).i == n) = false) := Lib.hid (fun q hq' => by
          rcases Nat.lt_or_ge q k with h | h
          · exact HQ.out q h
          · obtain rfl : q = k := by omega
            rw [HY.out]; exact hq)
        go_wp2
        go_roundg (gk - 1)
        case measure => omega
        case rel => exact ⟨k + 1, by go_num, by omega, by omega, HN, rfl⟩
    · have HA : Hid (ans = false) := Lib.hid (by rw [HANS.out]; exact has_false (fun q hq => HQ.out q (by omega)))
      go_wp2
      go_ret
      exact ⟨ret_bool HA.out.symm, rfl⟩

theorem rtok_put {w wr : World} {b base : Nat} {v v5 : Value} {l m : List TRow} (ht : RTok w b v base l) (hB : Below w.heap.size w wr) (hO : wr.ownsRow w.heap.size 66 4 v5 m.length (encs m)) (hb0 : base ≤ w.heap.size) :
    RTok (wr.setCell ⟨b, 0, none⟩ v5) b v5 base m ∧ W.Chg [b] w (wr.setCell ⟨b, 0, none⟩ v5) := by
  have hbl := ht.lt
  have hb : wr.heap[b]? = some (.cells #[v] 57 (0, 0)) := (hB.block b hbl).trans ht.head
  have hap : v5.ownBlock ≠ some b := fun e => by have := (hO.lt b e).1; omega
  refine ⟨⟨set_blk hb, W.row_base (W.row_keep hO (fun g hg => Below.heap_setCell _ _ _ g (fun e => hap (by rw [hg, e])))) base (fun g hg => Nat.le_trans hb0 (hO.lt g hg).1), hap⟩, ?_⟩
  exact ((W.Chg.of_below (S := [b]) hB)).setCell (p := ⟨b, 0, none⟩) (.inl (by simp)) _
theorem keep_snoc (p : TRow → Bool) (l : List TRow) (k : Nat) (hk : k < l.length) : keep p (l.take (k + 1)) = keep p (l.take k) ++ (if p (l.getD k default) then [] else [l.getD k default]) := by
  unfold keep
  rw [take_succ_getD l k hk, List.filter_append]
  congr 1
  generalize l.getD k default = z
  cases h : p z <;> simp [List.filter_cons, h]

set_option maxHeartbeats 4000000 in
set_option maxRecDepth 100000 in
/-- Drop. -/
theorem rdrop_any (b : Nat) (v : Value) (base : Nat) (l : List TRow) (c : Int) (w : World) (ht : RTok w b v base l) (hl : l.length ≤ 100000) (hb0 : base ≤ w.heap.size) :
    Calls Try.prog 24 #[.pointer (some ⟨b, 0, none⟩), .int .i64 c] w fun e w' => ∃ v', e = .returned (.int .i64 ((l.length : Int) - (keep (fun r => r.c == c) l).length)) ∧ RTok w' b v' base (keep (fun r => r.c == c) l) ∧ W.Chg [b] w w' := by
  obtain ⟨a, cap, rfl, hcap, hr⟩ := rown_rows ht.rows
  have hbl := ht.lt
  have HT := Lib.hid ht
  have HR := Lib.hid hr
  obtain ⟨KP, hKP⟩ : ∃ KP : Nat → List TRow, KP = fun k => keep (fun r => r.c == c) (l.take k) := ⟨_, rfl⟩
  have HK0 : Hid (KP 0 = []) := Lib.hid (by rw [hKP]; rfl)
  have HKL : Hid (KP l.length = keep (fun r => r.c == c) l) := Lib.hid (by rw [hKP]; simp)
  have HKS : Hid (∀ k, k < l.length → KP (k + 1) = KP k ++ (if (l.getD k default).c == c then [] else [l.getD k default])) := Lib.hid (fun k hk => by rw [hKP]; exact keep_snoc _ l k hk)
  have HKN : Hid (∀ k, (KP k).length ≤ l.length) := Lib.hid (fun k => by rw [hKP]; exact Nat.le_trans (List.length_filter_le _ _) (List.length_take_le' _ _))
  obtain ⟨FIN, hFIN⟩ : ∃ FIN, FIN = keep (fun r => r.c == c) l := ⟨_, rfl⟩
  rw [← hFIN] at HKL ⊢
  clear ht hr hKP hFIN
  go_enter Try.func24, Try.ntmps24
  go_wp2
  go_loopg [5, 6] l.length (fun g' s5 s6 wr => ∃ k : Nat, s6 = .int .i64 k ∧ k ≤ l.length ∧ l.length ≤ k + g' ∧ Hid (wr.ownsRow w.heap.size 66 4 s5 (KP k).length (encs (KP k))) ∧ Hid (Below w.heap.size w wr))
  case atStart => exact ⟨0, rfl, by omega, by omega, by rw [HK0.out]; exact World.ownsRow_nil _ _ _ _, Below.refl _ _⟩
  case round =>
    obtain ⟨k, rfl, hk, hkg, HO, HBE⟩ := hrel
    have hbs := HBE.out.size
    have hb9 := HBE.out.block b hbl
    have t0 : wr.cell? ⟨b, 0, none⟩ = some (.slice a l.length cap) := blk_cell (hb9.trans HT.out.head) 0 _ rfl
    have t1 : wr.frozen? ⟨b, 0, none⟩ = false := blk_frozen (hb9.trans HT.out.head) 0
    have t2 : b < wr.heap.size := by omega
    have hkn := HKN.out k
    clear hb9
    by_cases hlt : k < l.length
    · rcases HR.out with h0 | ⟨ga, rfl, hga, hcell⟩
      · omega
      obtain ⟨y, hy, c0, c1, c2, c3⟩ : ∃ y, l.getD k default = y ∧ wr.cell? ⟨ga, k * 4, none⟩ = some (.int .i64 y.c) ∧ wr.cell? ⟨ga, k * 4 + 1, none⟩ = some (.int .i64 y.h) ∧
          wr.cell? ⟨ga, k * 4 + 2, none⟩ = some (.int .i64 y.i) ∧ wr.cell? ⟨ga, k * 4 + 3, none⟩ = some (.bool y.b) := by
        obtain ⟨c0, c1, c2, c3⟩ := hcell k hlt
        exact ⟨_, rfl, (HBE.out.cell (p := ⟨ga, k * 4, none⟩) hga).trans c0, (HBE.out.cell (p := ⟨ga, k * 4 + 1, none⟩) hga).trans c1, (HBE.out.cell (p := ⟨ga, k * 4 + 2, none⟩) hga).trans c2, (HBE.out.cell (p := ⟨ga, k * 4 + 3, none⟩) hga).trans c3⟩
      have HS := Lib.hid (HKS.out k hlt)
      rw [hy] at HS
      have hkz : (k : Int) < (l.length : Int) := by omega
      have hkz1 : (k : Int).toNat = k := by omega
      clear hy hcell
      cases hq : (y.c == c) with
      | true =>
        have HN : Hid (KP (k + 1) = KP k) := Lib.hid (by rw [HS.out, hq]; simp)
        have hqn : (y.c != c) = false := by rw [bne, hq]; rfl
        clear HS hq
        go_wp2
        go_roundg (gk - 1)
        case measure => omega
        case rel => exact ⟨k + 1, by go_num, by omega, by omega, by rw [HN.out]; exact HO, HBE⟩
      | false =>
        have HN : Hid (KP (k + 1) = KP k ++ [y]) := Lib.hid (by rw [HS.out, hq]; simp)
        have hqn : (y.c != c) = true := by rw [bne, hq]; rfl
        clear HS hq
        go_wp2_with (at_builtin; refine wpList_app1 rfl _ _ _ rfl w.heap.size elR _ _ _ rfl HO.out 1 (enc y).toArray rfl rfl (by simp [enc, Value.oneCell']) (by unfold maxLen; omega) (by omega) hbs ?_; intro v7 w7 ho7 hg7)
        go_roundg (gk - 1)
        case measure => omega
        case rel =>
          refine ⟨k + 1, by go_num, by omega, by omega, ?_, HBE.out.grown hg7 hbs (fun q hq => (HO.out.lt q hq).1)⟩
          rw [HN.out, encs_app, List.length_append]
          exact ho7
    · have hke : k = l.length := by omega
      have hO := HO.out
      rw [hke, HKL.out] at hO
      obtain ⟨a5, c5, hv5, _⟩ := rown_rows hO
      subst hv5
      have HO2 := Lib.hid hO
      have HFL : Hid ((KP k).length = FIN.length) := Lib.hid (by rw [hke, HKL.out])
      clear hke hO
      have HP := Lib.hid (rtok_put HT.out HBE.out HO2.out hb0)
      go_wp2
      go_ret
      refine ⟨_, ?_, HP.out.1, HP.out.2⟩
      exact W.ret_int (by rw [← HFL.out]; first | rfl | exact IntWalk.wrap64_in _ ⟨by omega, by omega⟩)
end Go.Proofs.Ytembgdjdljflhaa
