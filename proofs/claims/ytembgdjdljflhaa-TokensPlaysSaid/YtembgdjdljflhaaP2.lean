/- The reference's Of, Close. -/
import Derived.Test.YtembgdjdljflhaaP1
namespace Go.Proofs.Ytembgdjdljflhaa
open Go.RowKit
set_option linter.unusedVariables false
set_option linter.unusedSimpArgs false

set_option maxHeartbeats 4000000 in
set_option maxRecDepth 100000 in
/-- Of. -/
theorem rof_any (b : Nat) (v : Value) (base : Nat) (l : List TRow) (c n : Int) (w : World) (ht : RTok w b v base l) (hl : l.length ≤ 100000) :
    Calls Try.prog 26 #[.pointer (some ⟨b, 0, none⟩), .int .i64 c, .int .i64 n] w fun e w' => e = .returned (ofAns (find l c n)) ∧ Below w.heap.size w w' := by
  obtain ⟨a, cap, rfl, hcap, hr⟩ := rown_rows ht.rows
  have hbl := ht.lt
  have t0 : (w.alloc (.cells #[.int .i64 0, .int .i64 0, .int .i64 0, .bool false] 66)).cell? ⟨b, 0, none⟩ = some (.slice a l.length cap) := blk_cell (blk_alloc ht.head) 0 _ rfl
  have hb0 : Below w.heap.size w (w.alloc (.cells #[.int .i64 0, .int .i64 0, .int .i64 0, .bool false] 66)) := (Below.refl _ _).alloc (Nat.le_refl _) _
  have hn0 : (w.alloc (.cells #[.int .i64 0, .int .i64 0, .int .i64 0, .bool false] 66)).heap[w.heap.size]? = some (.cells #[.int .i64 0, .int .i64 0, .int .i64 0, .bool false] 66 (0, 0)) := heap_alloc_new w _
  have HB0 := Lib.hid hb0
  have HN0 := Lib.hid hn0
  have HR := Lib.hid (hr.below hb0)
  have n0 := blk_cell hn0 0 _ rfl
  have n1 := blk_cell hn0 1 _ rfl
  have n2 := blk_cell hn0 2 _ rfl
  have n3 := blk_cell hn0 3 _ rfl
  have f0 := blk_frozen hn0 0
  have f1 := blk_frozen hn0 1
  have f2 := blk_frozen hn0 2
  have f3 := blk_frozen hn0 3
  have hwl : w.heap.size < (w.alloc (.cells #[.int .i64 0, .int .i64 0, .int .i64 0, .bool false] 66)).heap.size := lt_of_block hn0
  clear ht hr hb0 hn0
  go_enter Try.func26, Try.ntmps26
  go_wp2
  go_loopg [8] l.length (fun g' s8 wr => ∃ k : Nat, s8 = .int .i64 k ∧ k ≤ l.length ∧ l.length ≤ k + g' ∧ Hid (∀ q, q < k → ((l.getD q default).c == c && (l.getD q default).h == n) = false) ∧ wr = w.alloc (.cells #[.int .i64 0, .int .i64 0, .int .i64 0, .bool false] 66))
  case atStart => exact ⟨0, rfl, by omega, by omega, fun q hq => absurd hq (by omega), rfl⟩
  case round =>
    obtain ⟨k, rfl, hk, hkg, HQ, hwr⟩ := hrel
    subst hwr
    by_cases hlt : k < l.length
    · rcases HR.out with h0 | ⟨ga, rfl, hga, hcell⟩
      · omega
      obtain ⟨y, hy, c0, c1, c2, c3⟩ : ∃ y, l.getD k default = y ∧ (w.alloc (.cells #[.int .i64 0, .int .i64 0, .int .i64 0, .bool false] 66)).cell? ⟨ga, k * 4, none⟩ = some (.int .i64 y.c) ∧ (w.alloc (.cells #[.int .i64 0, .int .i64 0, .int .i64 0, .bool false] 66)).cell? ⟨ga, k * 4 + 1, none⟩ = some (.int .i64 y.h) ∧
          (w.alloc (.cells #[.int .i64 0, .int .i64 0, .int .i64 0, .bool false] 66)).cell? ⟨ga, k * 4 + 2, none⟩ = some (.int .i64 y.i) ∧ (w.alloc (.cells #[.int .i64 0, .int .i64 0, .int .i64 0, .bool false] 66)).cell? ⟨ga, k * 4 + 3, none⟩ = some (.bool y.b) := ⟨_, rfl, hcell k hlt⟩
      have HY := Lib.hid hy
      have hkz : (k : Int) < (l.length : Int) := by omega
      have hkz1 : (k : Int).toNat = k := by omega
      clear hy hcell
      cases hq1 : (y.c == c) with
      | true =>
        cases hq2 : (y.h == n) with
        | true =>
          have HFD : Hid (find l c n = some y) := Lib.hid (by
            rw [find_at l c n k hlt HQ.out (by rw [HY.out]; exact ⟨by simpa using hq1, by simpa using hq2⟩), HY.out])
          go_wp2
          have hb4 := set4 (u0 := .int .i64 y.c) (u1 := .int .i64 y.h) (u2 := .int .i64 y.i) (u3 := .bool y.b) HN0.out
          refine bodyPost_ret (v := .tuple #[.agg #[.int .i64 y.c, .int .i64 y.h, .int .i64 y.i, .bool y.b], .bool true]) (by simp [results, Try.results26, go_sem, blk_cell hb4 0 _ rfl, blk_cell hb4 1 _ rfl, blk_cell hb4 2 _ rfl, blk_cell hb4 3 _ rfl]) rfl ⟨?_, ?_⟩
          · rw [HFD.out]; rfl
          · exact (Below.refl _ _).alloc (Nat.le_refl _) _
        | false =>
          have HN : Hid (∀ q, q < k + 1 → ((l.getD q default).c == c && (l.getD q default).h == n) = false) := Lib.hid (fun q hq' => by
            rcases Nat.lt_or_ge q k with h | h
            · exact HQ.out q h
            · obtain rfl : q = k := by omega
              rw [HY.out, hq1, hq2]; rfl)
          go_wp2
          go_roundg (gk - 1)
          case measure => omega
          case rel => exact ⟨k + 1, by go_num, by omega, by omega, HN, rfl⟩
      | false =>
        have HN : Hid (∀ q, q < k + 1 → ((l.getD q default).c == c && (l.getD q default).h == n) = false) := Lib.hid (fun q hq' => by
          rcases Nat.lt_or_ge q k with h | h
          · exact HQ.out q h
          · obtain rfl : q = k := by omega
            rw [HY.out, hq1]; rfl)
        go_wp2
        go_roundg (gk - 1)
        case measure => omega
        case rel => exact ⟨k + 1, by go_num, by omega, by omega, HN, rfl⟩
    · have HFD : Hid (find l c n = none) := Lib.hid (find_none l c n (fun q hq => HQ.out q (by omega)))
      go_wp2
      have hb4 := set4 (u0 := .int .i64 0) (u1 := .int .i64 0) (u2 := .int .i64 0) (u3 := .bool false) HN0.out
      refine bodyPost_ret (v := .tuple #[.agg #[.int .i64 0, .int .i64 0, .int .i64 0, .bool false], .bool false]) (by simp [results, Try.results26, go_sem, blk_cell hb4 0 _ rfl, blk_cell hb4 1 _ rfl, blk_cell hb4 2 _ rfl, blk_cell hb4 3 _ rfl]) rfl ⟨?_, ?_⟩
      · rw [HFD.out]; rfl
      · exact (Below.refl _ _).alloc (Nat.le_refl _) _

def hit (c n : Int) (r : TRow) : Bool := r.c == c && r.h == n
def rcloseL (l : List TRow) (c n : Int) : List TRow := match find l c n with
  | none => l
  | some _ => keep (hit c n) l

set_option maxHeartbeats 4000000 in
set_option maxRecDepth 100000 in
/-- Close. -/
theorem rclose_any (b : Nat) (v : Value) (base : Nat) (l : List TRow) (c n : Int) (w : World) (ht : RTok w b v base l) (hl : l.length ≤ 100000) (hb0 : base ≤ w.heap.size) :
    Calls Try.prog 23 #[.pointer (some ⟨b, 0, none⟩), .int .i64 c, .int .i64 n] w fun e w' => ∃ v', e = .returned (.int .i64 (closeE (find l c n))) ∧ RTok w' b v' base (rcloseL l c n) ∧ W.Chg [b] w w' := by
  have CO := Lib.hid (rof_any b v base l c n w ht hl)
  obtain ⟨a, cap, rfl, hcap, hr⟩ := rown_rows ht.rows
  have hbl := ht.lt
  have HT := Lib.hid ht
  have HR := Lib.hid hr
  clear ht hr
  cases hf : find l c n with
  | none =>
    have HRES : Hid (rcloseL l c n = l) := Lib.hid (by unfold rcloseL; rw [hf])
    rw [hf] at CO
    unfold ofAns enc at CO
    rw [HRES.out]
    clear hf
    go_enter Try.func23, Try.ntmps23
    go_wp2_with fail
    refine CO.out.mono ?_
    rintro e w1 ⟨rfl, hb1⟩
    have HB1 := Lib.hid (hb1.alloc hb1.size (.cells #[.int .i64 0, .int .i64 0, .int .i64 0, .bool false] 66))
    clear hb1
    go_wp2
    go_ret
    exact ⟨_, rfl, HT.out.below HB1.out, W.Chg.of_below HB1.out⟩
  | some r =>
    have HRES : Hid (rcloseL l c n = keep (hit c n) l) := Lib.hid (by unfold rcloseL; rw [hf])
    rw [hf] at CO
    unfold ofAns enc at CO
    rw [HRES.out]
    clear hf
    obtain ⟨KP, hKP⟩ : ∃ KP : Nat → List TRow, KP = fun k => keep (hit c n) (l.take k) := ⟨_, rfl⟩
    have HK0 : Hid (KP 0 = []) := Lib.hid (by rw [hKP]; rfl)
    have HKL : Hid (KP l.length = keep (hit c n) l) := Lib.hid (by rw [hKP]; simp)
    have HKS : Hid (∀ k, k < l.length → KP (k + 1) = KP k ++ (if hit c n (l.getD k default) then [] else [l.getD k default])) := Lib.hid (fun k hk => by rw [hKP]; exact keep_snoc _ l k hk)
    have HKN : Hid (∀ k, (KP k).length ≤ l.length) := Lib.hid (fun k => by rw [hKP]; exact Nat.le_trans (List.length_filter_le _ _) (List.length_take_le' _ _))
    obtain ⟨FIN, hFIN⟩ : ∃ FIN, FIN = keep (hit c n) l := ⟨_, rfl⟩
    rw [← hFIN] at HKL ⊢
    clear hKP hFIN HRES
    go_enter Try.func23, Try.ntmps23
    go_wp2_with fail
    refine CO.out.mono ?_
    rintro e w1 ⟨rfl, hb1⟩
    have HB1 := Lib.hid (hb1.alloc hb1.size (.cells #[.int .i64 r.c, .int .i64 r.h, .int .i64 r.i, .bool r.b] 66))
    clear hb1
    go_wp2
    go_loopg [9, 10] l.length (fun g' s9 s10 wr => ∃ k : Nat, s10 = .int .i64 k ∧ k ≤ l.length ∧ l.length ≤ k + g' ∧ Hid (wr.ownsRow w.heap.size 66 4 s9 (KP k).length (encs (KP k))) ∧ Hid (Below w.heap.size w wr))
    case atStart => exact ⟨0, rfl, by omega, by omega, by rw [HK0.out]; exact World.ownsRow_nil _ _ _ _, HB1.out⟩
    case round =>
      obtain ⟨k, rfl, hk, hkg, HO, HBE⟩ := hrel
      have hbs := HBE.out.size
      have hb9 := HBE.out.block b hbl
      have t0 : wr.cell? ⟨b, 0, none⟩ = some (.slice a l.length cap) := blk_cell (hb9.trans HT.out.head) 0 _ rfl
      have t1 : wr.frozen? ⟨b, 0, none⟩ = false := blk_frozen (hb9.trans HT.out.head) 0
      have t2 : b < wr.heap.size := by omega
      have hkn := HKN.out k
      clear hb9
      by_cases hlt : k < l.length
      · rcases HR.out with h0 | ⟨ga, rfl, hga, hcell⟩
        · omega
        obtain ⟨y, hy, c0, c1, c2, c3⟩ : ∃ y, l.getD k default = y ∧ wr.cell? ⟨ga, k * 4, none⟩ = some (.int .i64 y.c) ∧ wr.cell? ⟨ga, k * 4 + 1, none⟩ = some (.int .i64 y.h) ∧
            wr.cell? ⟨ga, k * 4 + 2, none⟩ = some (.int .i64 y.i) ∧ wr.cell? ⟨ga, k * 4 + 3, none⟩ = some (.bool y.b) := by
          obtain ⟨c0, c1, c2, c3⟩ := hcell k hlt
          exact ⟨_, rfl, (HBE.out.cell (p := ⟨ga, k * 4, none⟩) hga).trans c0, (HBE.out.cell (p := ⟨ga, k * 4 + 1, none⟩) hga).trans c1, (HBE.out.cell (p := ⟨ga, k * 4 + 2, none⟩) hga).trans c2, (HBE.out.cell (p := ⟨ga, k * 4 + 3, none⟩) hga).trans c3⟩
        have HS := Lib.hid (HKS.out k hlt)
        rw [hy] at HS
        have hkz : (k : Int) < (l.length : Int) := by omega
        have hkz1 : (k : Int).toNat = k := by omega
        clear hy hcell
        have hcs : ((y.c != c) = true ∧ Hid (KP (k + 1) = KP k ++ [y])) ∨ ((y.c != c) = false ∧ (y.h != n) = true ∧ Hid (KP (k + 1) = KP k ++ [y])) ∨ ((y.c != c) = false ∧ (y.h != n) = false ∧ Hid (KP (k + 1) = KP k)) := by
          have h := HS.out
          unfold hit at h
          cases h1 : (y.c == c) with
          | false => left; exact ⟨by rw [bne, h1]; rfl, Lib.hid (by rw [h, h1]; simp)⟩
          | true =>
            cases h2 : (y.h == n) with
            | false => right; left; exact ⟨by rw [bne, h1]; rfl, by rw [bne, h2]; rfl, Lib.hid (by rw [h, h1, h2]; simp)⟩
            | true => right; right; exact ⟨by rw [bne, h1]; rfl, by rw [bne, h2]; rfl, Lib.hid (by rw [h, h1, h2]; simp)⟩
        clear HS
        rcases hcs with ⟨q1, HN⟩ | ⟨q1, q2, HN⟩ | ⟨q1, q2, HN⟩
        · go_wp2_with (at_builtin; refine wpList_app1 rfl _ _ _ rfl w.heap.size elR _ _ _ rfl HO.out 1 (enc y).toArray rfl rfl (by simp [enc, Value.oneCell']) (by unfold maxLen; omega) (by omega) hbs ?_; intro v7 w7 ho7 hg7)
          go_roundg (gk - 1)
          case measure => omega
          case rel =>
            refine ⟨k + 1, by go_num, by omega, by omega, ?_, HBE.out.grown hg7 hbs (fun q hq => (HO.out.lt q hq).1)⟩
            rw [HN.out, encs_app, List.length_append]
            exact ho7
        · go_wp2_with (at_builtin; refine wpList_app1 rfl _ _ _ rfl w.heap.size elR _ _ _ rfl HO.out 1 (enc y).toArray rfl rfl (by simp [enc, Value.oneCell']) (by unfold maxLen; omega) (by omega) hbs ?_; intro v7 w7 ho7 hg7)
          go_roundg (gk - 1)
          case measure => omega
          case rel =>
            refine ⟨k + 1, by go_num, by omega, by omega, ?_, HBE.out.grown hg7 hbs (fun q hq => (HO.out.lt q hq).1)⟩
            rw [HN.out, encs_app, List.length_append]
            exact ho7
        · go_wp2
          go_roundg (gk - 1)
          case measure => omega
          case rel => exact ⟨k + 1, by go_num, by omega, by omega, by rw [HN.out]; exact HO, HBE⟩
      · have hke : k = l.length := by omega
        have hO := HO.out
        rw [hke, HKL.out] at hO
        have HO2 := Lib.hid hO
        have HVS : Hid (∃ a c, u9 = .slice a FIN.length c) := Lib.hid (by obtain ⟨a, c, h, _⟩ := rown_rows hO; exact ⟨a, c, h⟩)
        obtain ⟨a5, c5, hv5⟩ := HVS.out
        subst hv5
        have HP := Lib.hid (rtok_put HT.out HBE.out HO2.out hb0)
        clear hke hO
        go_wp2
        go_ret
        exact ⟨_, rfl, HP.out.1, HP.out.2⟩
end Go.Proofs.Ytembgdjdljflhaa
