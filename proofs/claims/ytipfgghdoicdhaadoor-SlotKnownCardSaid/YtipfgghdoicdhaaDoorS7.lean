/- What the deferred closure of package slot's Open does. -/
import Derived.Test.YtipfgghdoicdhaaDoorS6
namespace Go.Proofs.YtipfgghdoicdhaaDoor.W
open Go.RowKit
set_option linter.unusedVariables false
set_option linter.unusedSimpArgs false

theorem assertB_nil (w : World) : (Instr.typeAssert .nilIface 20 82 true).run Tryd.prog w = .ok (.tuple #[.agg #[.int .i64 0], .bool false]) w := by kernel_rfl
theorem assertB_give (x : Int) (w : World) : (Instr.typeAssert (.iface 82 (.agg #[.int .i64 x])) 20 82 true).run Tryd.prog w = .ok (.tuple #[.agg #[.int .i64 x], .bool true]) w := by kernel_rfl

set_option maxHeartbeats 2000000 in
set_option maxRecDepth 100000 in
theorem catchB_idle (pa pb : Value) (w : World) :
    CallsD Tryd.prog 41 #[pa, pb] .returning w fun e u' w' => e = .returned (.tuple #[]) ∧ u' = .returning ∧ w' = w.alloc (.cells #[.int .i64 0] 82) := by
  have hta := assertB_nil
  refine callsD_of_wpS Tryd.func41 rfl fun c₀ cs hu => ?_
  rw [Tryd.ntmps41]
  change Code.wpS Tryd.prog _ _ ⟨#[pa, pb, undef, undef, undef, undef, undef, undef, undef, undef, undef, undef, undef, undef, undef], []⟩ _ _
  apply wpS_seq
  apply wpS_region
  simp [wpOpsS, go_sem, recoverD, hu, Exit.thenS, hta]
  apply wpS_seq
  apply wpS_region
  simp [wpOpsS, go_sem, Exit.thenS]
  refine wpS_cond (t := false) (by simp [Act.eval]) ?_
  simp only [Bool.false_eq_true, if_false]
  refine wpS_of_wp (wp_skip ?_)
  cases c₀
  simp_all [bodyPostS, results, Tryd.results41]

set_option maxHeartbeats 2000000 in
set_option maxRecDepth 100000 in
theorem catchB_14 (pa pb : Nat) (v1 v2 : Value) (older : List PanicEntry) (w : World) (ha : w.heap[pa]? = some (.cells #[v1] 34 (0, 0))) (hb : w.heap[pb]? = some (.cells #[v2] 25 (0, 0))) (hne : pa ≠ pb) :
    CallsD Tryd.prog 41 #[.pointer (some ⟨pa, 0, none⟩), .pointer (some ⟨pb, 0, none⟩)] (.panicking ({ v := .iface 82 (.agg #[.int .i64 14]), recovered := false } :: older)) w fun e u' w' =>
      e = .returned (.tuple #[]) ∧ u' = .panicking ({ v := .iface 82 (.agg #[.int .i64 14]), recovered := true } :: older) ∧ Chg [pa, pb] w w' ∧ w'.heap[pa]? = some (.cells #[.pointer none] 34 (0, 0)) ∧ w'.heap[pb]? = some (.cells #[.int .i64 14] 25 (0, 0)) := by
  have hta := assertB_give 14
  have ha0 := blk_cell ha 0 _ rfl
  have hb0 := blk_cell hb 0 _ rfl
  have fa0 := blk_frozen ha 0
  have fb0 := blk_frozen hb 0
  have l1 := blk_lt ha
  have l2 := blk_lt hb
  have l3 : ¬ (pa = w.heap.size) := Nat.ne_of_lt l1
  have l4 : ¬ (pb = w.heap.size) := Nat.ne_of_lt l2
  have l5 : ¬ (w.heap.size = pa) := fun e => l3 e.symm
  have l6 : ¬ (w.heap.size = pb) := fun e => l4 e.symm
  have l7 : ¬ (pb = pa) := fun e => hne e.symm
  have HA := Lib.hid ha
  have HB := Lib.hid hb
  clear ha hb
  refine callsD_of_wpS Tryd.func41 rfl fun c₀ cs hu => ?_
  rw [Tryd.ntmps41]
  change Code.wpS Tryd.prog _ _ ⟨#[_, _, undef, undef, undef, undef, undef, undef, undef, undef, undef, undef, undef, undef, undef], []⟩ _ _
  apply wpS_seq
  apply wpS_region
  simp [wpOpsS, go_sem, recoverD, hu, Exit.thenS, hta]
  apply wpS_seq
  apply wpS_region
  simp [wpOpsS, go_sem, Exit.thenS]
  refine wpS_cond (t := true) (by simp [Act.eval]) ?_
  simp only [if_true]
  refine wpS_of_wp ?_
  go_wp2
  refine ⟨rfl, _, rfl, .tuple #[], by simp [results, Tryd.results41], rfl, rfl, ?_, ?_, ?_⟩
  · exact ((((Chg.refl [pa, pb] w).setCell (p := ⟨pa, 0, none⟩) (.inl (by simp)) _).setCell (p := ⟨pb, 0, none⟩) (.inl (by simp)) _).setCell (p := ⟨pb, 0, none⟩) (.inl (by simp)) _).alloc _
  · exact blk_alloc (blk_sets (blk_sets (set_blk HA.out) hne) hne)
  · exact blk_alloc (set_blk (set_blk (blk_sets HB.out l7)))
set_option maxHeartbeats 2000000 in
set_option maxRecDepth 100000 in
theorem catchB_x (pa pb : Nat) (x : Int) (hx : x ≠ 14) (v1 v2 : Value) (older : List PanicEntry) (w : World) (ha : w.heap[pa]? = some (.cells #[v1] 34 (0, 0))) (hb : w.heap[pb]? = some (.cells #[v2] 25 (0, 0))) (hne : pa ≠ pb) :
    CallsD Tryd.prog 41 #[.pointer (some ⟨pa, 0, none⟩), .pointer (some ⟨pb, 0, none⟩)] (.panicking ({ v := .iface 82 (.agg #[.int .i64 x]), recovered := false } :: older)) w fun e u' w' =>
      e = .returned (.tuple #[]) ∧ u' = .panicking ({ v := .iface 82 (.agg #[.int .i64 x]), recovered := true } :: older) ∧ Chg [pa, pb] w w' ∧ w'.heap[pa]? = some (.cells #[.pointer none] 34 (0, 0)) ∧ w'.heap[pb]? = some (.cells #[.int .i64 4] 25 (0, 0)) := by
  have hta := assertB_give x
  have q14 : (x == 14) = false := by simp [hx]
  have ha0 := blk_cell ha 0 _ rfl
  have hb0 := blk_cell hb 0 _ rfl
  have fa0 := blk_frozen ha 0
  have fb0 := blk_frozen hb 0
  have l1 := blk_lt ha
  have l2 := blk_lt hb
  have l3 : ¬ (pa = w.heap.size) := Nat.ne_of_lt l1
  have l4 : ¬ (pb = w.heap.size) := Nat.ne_of_lt l2
  have l5 : ¬ (w.heap.size = pa) := fun e => l3 e.symm
  have l6 : ¬ (w.heap.size = pb) := fun e => l4 e.symm
  have l7 : ¬ (pb = pa) := fun e => hne e.symm
  have HA := Lib.hid ha
  have HB := Lib.hid hb
  clear ha hb hx
  refine callsD_of_wpS Tryd.func41 rfl fun c₀ cs hu => ?_
  rw [Tryd.ntmps41]
  change Code.wpS Tryd.prog _ _ ⟨#[_, _, undef, undef, undef, undef, undef, undef, undef, undef, undef, undef, undef, undef, undef], []⟩ _ _
  apply wpS_seq
  apply wpS_region
  simp [wpOpsS, go_sem, recoverD, hu, Exit.thenS, hta]
  apply wpS_seq
  apply wpS_region
  simp [wpOpsS, go_sem, Exit.thenS]
  refine wpS_cond (t := true) (by simp [Act.eval]) ?_
  simp only [if_true]
  refine wpS_of_wp ?_
  go_wp2
  refine ⟨rfl, _, rfl, .tuple #[], by simp [results, Tryd.results41], rfl, rfl, ?_, ?_, ?_⟩
  · exact (((Chg.refl [pa, pb] w).setCell (p := ⟨pa, 0, none⟩) (.inl (by simp)) _).setCell (p := ⟨pb, 0, none⟩) (.inl (by simp)) _).alloc _
  · exact blk_alloc (blk_sets (set_blk HA.out) hne)
  · exact blk_alloc (set_blk (blk_sets HB.out l7))
end Go.Proofs.YtipfgghdoicdhaaDoor.W
