/- What the deferred closure of package wire's read does. -/
import Derived.Test.YtipfgghdoicdhaaDoorB0
import Derived.Defers
import Derived.Recover
import Derived.RegionTactic
import Derived.ChangeAlike
namespace Go.Proofs.YtipfgghdoicdhaaDoor.W
open Go.RowKit
set_option linter.unusedVariables false
set_option linter.unusedSimpArgs false

theorem assert_nil (w : World) : (Instr.typeAssert .nilIface 20 125 true).run Tryd.prog w = .ok (.tuple #[.agg #[.int .i64 0], .bool false]) w := by kernel_rfl
theorem assert_give (x : Int) (w : World) : (Instr.typeAssert (.iface 125 (.agg #[.int .i64 x])) 20 125 true).run Tryd.prog w = .ok (.tuple #[.agg #[.int .i64 x], .bool true]) w := by kernel_rfl

set_option maxHeartbeats 2000000 in
set_option maxRecDepth 100000 in
theorem catch_idle (pa pb : Value) (w : World) :
    CallsD Tryd.prog 90 #[pa, pb] .returning w fun e u' w' => e = .returned (.tuple #[]) ∧ u' = .returning ∧ w' = w.alloc (.cells #[.int .i64 0] 125) := by
  have hta := assert_nil
  refine callsD_of_wpS Tryd.func90 rfl fun c₀ cs hu => ?_
  rw [Tryd.ntmps90]
  change Code.wpS Tryd.prog _ _ ⟨#[pa, pb, undef, undef, undef, undef, undef, undef, undef, undef, undef, undef, undef, undef, undef, undef, undef, undef, undef], []⟩ _ _
  apply wpS_seq
  apply wpS_region
  simp [wpOpsS, go_sem, recoverD, hu, Exit.thenS, hta]
  apply wpS_seq
  apply wpS_region
  simp [wpOpsS, go_sem, Exit.thenS]
  refine wpS_cond (t := false) (by simp [Act.eval]) ?_
  simp only [Bool.false_eq_true, if_false]
  refine wpS_of_wp (wp_skip ?_)
  cases c₀
  simp_all [bodyPostS, results, Tryd.results90]

set_option maxHeartbeats 2000000 in
set_option maxRecDepth 100000 in
theorem catch_panic (b pa pb : Nat) (av : Option Addr) (L cap : Nat) (v1 bad : Value) (x : Int) (older : List PanicEntry) (w : World) (ha : w.heap[pa]? = some (.cells #[.slice av L cap] 31 (0, 0))) (hp : w.heap[pb]? = some (.cells #[.pointer (some ⟨b, 0, none⟩)] 112 (0, 0)))
    (hb : w.heap[b]? = some (.cells #[.bool true, v1, bad] 122 (0, 0))) :
    CallsD Tryd.prog 90 #[.pointer (some ⟨pa, 0, none⟩), .pointer (some ⟨pb, 0, none⟩)] (.panicking ({ v := .iface 125 (.agg #[.int .i64 x]), recovered := false } :: older)) w fun e u' w' =>
      e = .returned (.tuple #[]) ∧ u' = .panicking ({ v := .iface 125 (.agg #[.int .i64 x]), recovered := true } :: older) ∧ Chg [b] w w' ∧ w'.heap[b]? = some (.cells #[.bool true, .slice av L cap, .int .i64 x] 122 (0, 0)) := by
  have hta := assert_give x
  have ha0 := blk_cell ha 0 _ rfl
  have hp0 := blk_cell hp 0 _ rfl
  have hf1 := blk_frozen hb 1
  have hf2 := blk_frozen hb 2
  have hb1 := blk_cell hb 1 _ rfl
  have hb2 := blk_cell hb 2 _ rfl
  have l1 := blk_lt ha
  have l2 := blk_lt hp
  have l3 := blk_lt hb
  have l4 : ¬ (b = w.heap.size) := Nat.ne_of_lt l3
  have HB := Lib.hid hb
  clear ha hp hb
  refine callsD_of_wpS Tryd.func90 rfl fun c₀ cs hu => ?_
  rw [Tryd.ntmps90]
  change Code.wpS Tryd.prog _ _ ⟨#[_, _, undef, undef, undef, undef, undef, undef, undef, undef, undef, undef, undef, undef, undef, undef, undef, undef, undef], []⟩ _ _
  apply wpS_seq
  apply wpS_region
  simp [wpOpsS, go_sem, recoverD, hu, Exit.thenS, hta]
  apply wpS_seq
  apply wpS_region
  simp [wpOpsS, go_sem, Exit.thenS]
  refine wpS_cond (t := true) (by simp [Act.eval]) ?_
  simp only [if_true]
  refine wpS_of_wp ?_
  go_region
  refine ⟨rfl, _, rfl, .tuple #[], by simp [results, Tryd.results90], rfl, rfl, ?_, ?_⟩
  · exact ((((Chg.refl [b] w).setCell (p := ⟨b, 1, none⟩) (.inl (by simp)) _).setCell (p := ⟨b, 2, none⟩) (.inl (by simp)) _).alloc _).drew
  · exact blk_alloc (set_blk (set_blk HB.out))
end Go.Proofs.YtipfgghdoicdhaaDoor.W
