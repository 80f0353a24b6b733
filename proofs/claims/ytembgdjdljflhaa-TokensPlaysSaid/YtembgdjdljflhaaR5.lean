/- Model, SameTokens. -/
import Derived.Test.YtembgdjdljflhaaR4
namespace Go.Proofs.Ytembgdjdljflhaa
open Go.RowKit
set_option linter.unusedVariables false
set_option linter.unusedSimpArgs false

/-- 'out = append(out, Row{..})' of the reference's rows, out the call's own. -/
theorem step_rapp {ops : Array Oper} {o : Oper} {a : Act} {K : Act → World → Prop} {Q : Exit → Act → World → Prop} {E : Prop} (hgd : o.guard = none) (s x : Operand)
    (ho : o.op = .call { callee := .builtin .append, args := #[s, x], argTypes := #[54, 54] })
    (w : World) (base : Nat) (v : Value) (acc : List TRow) (r : TRow) (ht : w.ownsRow base 66 4 v acc.length (encs acc)) (hbase : base ≤ w.heap.size) (hl : acc.length ≤ 100000) (hs : a.eval s = v) (hx : a.eval x = .slice (some ⟨w.heap.size, 0, none⟩) 1 1)
    (h : ∀ g cap w', Hid (w'.ownsRow base 66 4 (.slice (some ⟨g, 0, none⟩) (acc.length + 1) cap) (acc ++ [r]).length (encs (acc ++ [r])) ∧ w.grownBy w' v.ownBlock) → (∀ p : Addr, p.block < w.heap.size → v.ownBlock ≠ some p.block → w'.cell? p = w.cell? p) → K (a.put o.dst (.slice (some ⟨g, 0, none⟩) (acc.length + 1) cap)) w') :
    if Region.wanted o (yielded ops a.tmps) = true then Oper.wp Try.prog o a ((w.alloc (.cells #[.int .i64 r.c, .int .i64 r.h, .int .i64 r.i, .bool r.b] 66)).drew) K Q else E := by
  obtain ⟨i0, hi0, hz0, hz1, hz2⟩ := info_parts rinfo
  refine step_append_lies _ hgd s x 54 ho base 66 i0 _ 4 32 Try.underlying54 hi0 hz0 hz1 hz2 rfl (by decide) v acc.length (encs acc) hs ((ht.alloc _).drew) ⟨w.heap.size, 0, none⟩ 1 1 (enc r) hx rfl
    (World.news_of_block (cs := #[.int .i64 r.c, .int .i64 r.h, .int .i64 r.i, .bool r.b]) (t := 66) (fr := (0, 0)) (heap_alloc_new w _)) (by simp [enc, Value.oneCell']) (by omega) (by unfold maxLen; omega) (by omega) (by simp; omega) _ rfl ?_
  intro g cap w1 hown hgrow hat hlt
  have hg : w.grownBy w1 v.ownBlock := grownBy_trans (World.grownBy_alloc w _ _) ⟨hgrow.os, hgrow.tape, hgrow.output, hgrow.size, hgrow.block⟩
  refine h g cap w1 ⟨?_, hg⟩ (fun p hp hn => World.cell?_of_block (hg.block p.block hp (fun e => hn e.symm)))
  rw [encs_app, List.length_append]
  exact hown

set_option maxHeartbeats 4000000 in
set_option maxRecDepth 100000 in
/-- Model. -/
theorem model_any (a : Option Addr) (cap : Nat) (l : List TRow) (w : World) (hr : RowsAt w w.heap.size a l.length (fun i => l.getD i default)) (hl : l.length ≤ 100000) :
    Calls Try.prog 20 #[.slice a l.length cap] w fun e w' => ∃ v', e = .returned v' ∧ w'.ownsRow w.heap.size 66 4 v' l.length (encs l) ∧ Below w.heap.size w w' := by
  have HR := Lib.hid hr
  clear hr
  go_enter Try.func20, Try.ntmps20
  go_wp2
  go_loopg [3, 4] l.length (fun g' s3 s4 wr => ∃ k : Nat, s4 = .int .i64 k ∧ k ≤ l.length ∧ l.length ≤ k + g' ∧ Hid (wr.ownsRow w.heap.size 66 4 s3 (l.take k).length (encs (l.take k))) ∧ Hid (Below w.heap.size w wr))
  case atStart => exact ⟨0, rfl, by omega, by omega, World.ownsRow_nil _ _ _ _, Below.refl _ _⟩
  case round =>
    obtain ⟨k, rfl, hk, hkg, HO, HBE⟩ := hrel
    have hbs := HBE.out.size
    have HR1 := Lib.hid (HR.out.below HBE.out)
    by_cases hlt : k < l.length
    · rcases HR1.out with h0 | ⟨ga, rfl, hga, hcell⟩
      · omega
      obtain ⟨y, hy, c0, c1, c2, c3⟩ : ∃ y, l.getD k default = y ∧ wr.cell? ⟨ga, k * 4, none⟩ = some (.int .i64 y.c) ∧ wr.cell? ⟨ga, k * 4 + 1, none⟩ = some (.int .i64 y.h) ∧
          wr.cell? ⟨ga, k * 4 + 2, none⟩ = some (.int .i64 y.i) ∧ wr.cell? ⟨ga, k * 4 + 3, none⟩ = some (.bool y.b) := ⟨_, rfl, hcell k hlt⟩
      have HY : Hid (l.take (k + 1) = l.take k ++ [y]) := Lib.hid (by rw [take_succ_getD l k hlt, hy])
      have hgw : ga < wr.heap.size := Nat.lt_of_lt_of_le hga hbs
      have hkz : (k : Int) < (l.length : Int) := by omega
      have hkz0 : (0 : Int) ≤ (k : Int) := by omega
      have hkz1 : (k : Int).toNat = k := by omega
      have htl : (l.take k).length = k := by rw [List.length_take]; omega
      have HNB : Hid (u3.ownBlock ≠ some ga) := Lib.hid (fun e => by have := (HO.out.lt ga e).1; omega)
      have HTL := Lib.hid htl
      have hla : (l.take k).length ≤ 100000 := by omega
      clear hy hcell htl
      go_wp2
      go_region_held3 (fun w' => w'.cell? ⟨ga, k * 4, none⟩ = some (.int .i64 y.c) ∧ w'.cell? ⟨ga, k * 4 + 1, none⟩ = some (.int .i64 y.h) ∧ w'.cell? ⟨ga, k * 4 + 2, none⟩ = some (.int .i64 y.i) ∧ w'.cell? ⟨ga, k * 4 + 3, none⟩ = some (.bool y.b))
        ((repeat' apply And.intro) <;> first | go_keep | exact (zc ⟨ga, k * 4, none⟩ hgw HNB.out).trans c0 | exact (zc ⟨ga, k * 4 + 1, none⟩ hgw HNB.out).trans c1 | exact (zc ⟨ga, k * 4 + 2, none⟩ hgw HNB.out).trans c2 | exact (zc ⟨ga, k * 4 + 3, none⟩ hgw HNB.out).trans c3)
        ((refine step_rapp (by rfl) _ _ (by rfl) wr w.heap.size u3 (l.take k) y HO.out hbs hla (by rfl) (by rfl) ?_; intro g7 cap7 w7 HT7 zc))
      go_wp2
      go_roundg (gk - 1)
      case measure => omega
      case rel =>
        refine ⟨k + 1, by go_num, by omega, by omega, ?_, HBE.out.grown HT7.out.2 hbs (fun q hq => (HO.out.lt q hq).1)⟩
        rw [HY.out]
        have h := HT7.out.1
        rw [HTL.out] at h
        exact h
    · have hke : k = l.length := by omega
      have HKE := Lib.hid hke
      clear hke
      go_wp2
      go_ret
      have h := HO.out
      rw [HKE.out, List.take_length] at h
      exact ⟨_, rfl, h, HBE.out⟩

theorem same_rows (l m : List TRow) (h : l.length = m.length) (hq : ∀ q, q < l.length → l.getD q default = m.getD q default) : l = m := by
  apply List.ext_getElem h
  intro i h1 h2
  have := hq i h1
  simpa [List.getD_eq_getElem?_getD, List.getElem?_eq_getElem h1, List.getElem?_eq_getElem h2] using this

set_option maxHeartbeats 4000000 in
set_option maxRecDepth 100000 in
/-- SameTokens, of equal rows. -/
theorem samet_any (a b : Option Addr) (ca cb : Nat) (l : List TRow) (w : World) (ha : RowsAt w w.heap.size a l.length (fun i => l.getD i default)) (hb : RowsAt w w.heap.size b l.length (fun i => l.getD i default)) (hl : l.length ≤ 100000) :
    Calls Try.prog 19 #[.slice a l.length ca, .slice b l.length cb] w fun e w' => e = .returned (.bool true) ∧ ∃ n, w' = w.drewN n := by
  have HA := Lib.hid ha
  have HB := Lib.hid hb
  clear ha hb
  go_enter Try.func19, Try.ntmps19
  go_wp2
  go_loopg [5] l.length (fun g' s5 wr => ∃ (k n : Nat), s5 = .int .i64 k ∧ k ≤ l.length ∧ l.length ≤ k + g' ∧ wr = w.drewN n)
  case atStart => exact ⟨0, 0, rfl, by omega, by omega, rfl⟩
  case round =>
    obtain ⟨k, n, rfl, hk, hkg, rfl⟩ := hrel
    by_cases hlt : k < l.length
    · rcases HA.out with h0 | ⟨ga, rfl, hga, hcell⟩
      · omega
      rcases HB.out with h0 | ⟨gb, rfl, hgb, hcellb⟩
      · omega
      obtain ⟨y, hy, c0, c1, c2, c3⟩ : ∃ y, l.getD k default = y ∧ w.cell? ⟨ga, k * 4, none⟩ = some (.int .i64 y.c) ∧ w.cell? ⟨ga, k * 4 + 1, none⟩ = some (.int .i64 y.h) ∧
          w.cell? ⟨ga, k * 4 + 2, none⟩ = some (.int .i64 y.i) ∧ w.cell? ⟨ga, k * 4 + 3, none⟩ = some (.bool y.b) := ⟨_, rfl, hcell k hlt⟩
      obtain ⟨d0, d1, d2, d3⟩ := hcellb k hlt
      simp only [hy] at d0 d1 d2 d3
      obtain ⟨yc, yh, yi, yb⟩ := y
      simp only at c0 c1 c2 c3 d0 d1 d2 d3
      have hkz : (k : Int) < (l.length : Int) := by omega
      have hkz0 : (0 : Int) ≤ (k : Int) := by omega
      have hkz1 : (k : Int).toNat = k := by omega
      clear hy hcell hcellb
      go_wp2
      go_quiet (fail)
      go_wp2
      go_roundg (gk - 1)
      case measure => omega
      case rel => exact ⟨k + 1, _, by go_num, by omega, by omega, rfl⟩
    · go_wp2
      go_ret
      exact ⟨rfl, _, rfl⟩
end Go.Proofs.Ytembgdjdljflhaa
