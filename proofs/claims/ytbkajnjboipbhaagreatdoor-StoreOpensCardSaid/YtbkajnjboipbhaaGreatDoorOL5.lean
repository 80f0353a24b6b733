/- Texts laid together. -/
import Derived.Test.YtbkajnjboipbhaaGreatDoorOL4
import Derived.Sort.OwnSorted
import Derived.Test.YtbkajnjboipbhaaGreatDoorOL3
import Derived.Test.YtbkajnjboipbhaaGreatDoorOL1
import Derived.Test.YtbkajnjboipbhaaGreatDoorOL2
import Derived.DeepKeys
import Derived.Laws.StructEq
import Derived.Deep.Slices
import Derived.ChangeSlices
import Derived.Lib.SmallJoins
import Derived.Deep.AppendLies
import Derived.LoopTactic
/- Package store: the order that List sorts by; the sort. -/
namespace Go.Proofs.YtbkajnjboipbhaaGreatDoor.W
open Go.RowKit Go.Sort
set_option linter.unusedVariables false
set_option linter.unusedSimpArgs false

set_option maxHeartbeats 4000000 in
set_option maxRecDepth 100000 in
theorem closureI (x y : Id) (W : World) : Calls Tryz.prog 62 #[idV x, idV y] W fun e w' => e = .returned (.int .i64 (cmpId x y)) ∧ ∃ q os', w' = Go.Sort.grow (W.drewN q) os' := by
  obtain ⟨xc, xl, xn, xi⟩ := x
  obtain ⟨yc, yl, yn, yi⟩ := y
  obtain ⟨w1, hw1⟩ : ∃ w1, w1 = (W.alloc (.cells (idC ⟨xc, xl, xn, xi⟩) 25)).alloc (.cells (idC ⟨yc, yl, yn, yi⟩) 25) := ⟨_, rfl⟩
  have hx1 : w1.heap[W.heap.size]? = some (.cells (idC ⟨xc, xl, xn, xi⟩) 25 (0, 0)) := by rw [hw1]; exact blk_alloc (heap_alloc_new W _)
  have hy1 : w1.heap[W.heap.size + 1]? = some (.cells (idC ⟨yc, yl, yn, yi⟩) 25 (0, 0)) := by
    rw [hw1]
    have := heap_alloc_new (W.alloc (.cells (idC ⟨xc, xl, xn, xi⟩) 25)) (.cells (idC ⟨yc, yl, yn, yi⟩) 25)
    simpa using this
  obtain ⟨a0, a1, a2, a3⟩ := id_cells hx1
  obtain ⟨b0, b1, b2, b3⟩ := id_cells hy1
  have HW1 := Lib.hid hw1
  have C1 := Lib.hid (fun w => ccmp_any xc yc w)
  have C2 := Lib.hid (fun w => ccmp_any xl yl w)
  have C3 := Lib.hid (fun w => ccmp_any xn yn w)
  have C4 := Lib.hid (fun w => ccmp_any xi yi w)
  have HF : Hid (cmpId ⟨xc, xl, xn, xi⟩ ⟨yc, yl, yn, yi⟩ = firstNZ [cmpI xc yc, cmpI xl yl, cmpI xn yn, cmpI xi yi]) := Lib.hid rfl
  generalize cmpId ⟨xc, xl, xn, xi⟩ ⟨yc, yl, yn, yi⟩ = r at *
  generalize cmpI xc yc = v1 at *
  generalize cmpI xl yl = v2 at *
  generalize cmpI xn yn = v3 at *
  generalize cmpI xi yi = v4 at *
  clear hw1 hx1 hy1
  go_enter Tryz.func62, Tryz.ntmps62
  go_wp2_with fail
  rw [← HW1.out]
  refine wp_region_L [(6, fun w' => (w'.cell? ⟨W.heap.size, 0, none⟩ = some (.int .i64 xc) ∧ w'.cell? ⟨W.heap.size + 1, 0, none⟩ = some (.int .i64 yc))), (13, fun w' => (w'.cell? ⟨W.heap.size, 1, none⟩ = some (.int .i64 xl) ∧ w'.cell? ⟨W.heap.size + 1, 1, none⟩ = some (.int .i64 yl))), (20, fun w' => (w'.cell? ⟨W.heap.size, 2, none⟩ = some (.int .i64 xn) ∧ w'.cell? ⟨W.heap.size + 1, 2, none⟩ = some (.int .i64 yn))), (25, fun w' => (w'.cell? ⟨W.heap.size, 3, none⟩ = some (.int .i64 xi) ∧ w'.cell? ⟨W.heap.size + 1, 3, none⟩ = some (.int .i64 yi)))] (by kernel_rfl) ?_ (fun hHeld => ?_)
  · exact (HoldC.cons (⟨a0, b0⟩) (HoldC.cons (⟨a1, b1⟩) (HoldC.cons (⟨a2, b2⟩) (HoldC.cons (⟨a3, b3⟩) HoldC.nil))))
  refine wpAnyL_take (i := 0) (oi := _) (v := ?_) rfl (by kernel_rfl) (by kernel_rfl) (by kernel_rfl) (by kernel_rfl) (by kernel_rfl) (fun _ _ _ h => h) (Or.inl ⟨by rfl, ?_⟩) (by assumption) (fun hNew => ?_)
  rotate_left
  · intro w _
    go_simp
    try with_reducible rfl
  clear hHeld
  have hHeld := hNew
  clear hNew
  try simp only [List.getElem_toArray, List.getElem_cons_succ, List.getElem_cons_zero, Act.put, List.setIfInBounds_toArray, List.set_cons_zero, List.set_cons_succ]
  refine wpAnyL_take (i := 1) (oi := _) (v := ?_) rfl (by kernel_rfl) (by kernel_rfl) (by kernel_rfl) (by kernel_rfl) (by kernel_rfl) (fun _ _ _ h => h) (Or.inl ⟨by rfl, ?_⟩) (by assumption) (fun hNew => ?_)
  rotate_left
  · intro w _
    go_simp
    try with_reducible rfl
  clear hHeld
  have hHeld := hNew
  clear hNew
  try simp only [List.getElem_toArray, List.getElem_cons_succ, List.getElem_cons_zero, Act.put, List.setIfInBounds_toArray, List.set_cons_zero, List.set_cons_succ]
  refine wpAnyL_load 0 (i := 2) (oi := _) (v := ?_) rfl rfl (by kernel_rfl) (by kernel_rfl) (by kernel_rfl) (by kernel_rfl) (by kernel_rfl) (by kernel_rfl) (fun _ _ _ h => h) (Or.inl ⟨by rfl, ?_⟩) (by assumption) (fun hNew => ?_)
  rotate_left
  · intro w hSw
    (try dsimp only at hSw)
    go_simp
    try with_reducible rfl
  clear hHeld
  have hHeld := hNew
  clear hNew
  try simp only [List.getElem_toArray, List.getElem_cons_succ, List.getElem_cons_zero, Act.put, List.setIfInBounds_toArray, List.set_cons_zero, List.set_cons_succ]
  refine wpAnyL_take (i := 3) (oi := _) (v := ?_) rfl (by kernel_rfl) (by kernel_rfl) (by kernel_rfl) (by kernel_rfl) (by kernel_rfl) (fun _ _ _ h => h) (Or.inl ⟨by rfl, ?_⟩) (by assumption) (fun hNew => ?_)
  rotate_left
  · intro w _
    go_simp
    try with_reducible rfl
  clear hHeld
  have hHeld := hNew
  clear hNew
  try simp only [List.getElem_toArray, List.getElem_cons_succ, List.getElem_cons_zero, Act.put, List.setIfInBounds_toArray, List.set_cons_zero, List.set_cons_succ]
  refine wpAnyL_take (i := 4) (oi := _) (v := ?_) rfl (by kernel_rfl) (by kernel_rfl) (by kernel_rfl) (by kernel_rfl) (by kernel_rfl) (fun _ _ _ h => h) (Or.inl ⟨by rfl, ?_⟩) (by assumption) (fun hNew => ?_)
  rotate_left
  · intro w _
    go_simp
    try with_reducible rfl
  clear hHeld
  have hHeld := hNew
  clear hNew
  try simp only [List.getElem_toArray, List.getElem_cons_succ, List.getElem_cons_zero, Act.put, List.setIfInBounds_toArray, List.set_cons_zero, List.set_cons_succ]
  refine wpAnyL_load 0 (i := 5) (oi := _) (v := ?_) rfl rfl (by kernel_rfl) (by kernel_rfl) (by kernel_rfl) (by kernel_rfl) (by kernel_rfl) (by kernel_rfl) (fun _ _ _ h => h) (Or.inl ⟨by rfl, ?_⟩) (by assumption) (fun hNew => ?_)
  rotate_left
  · intro w hSw
    (try dsimp only at hSw)
    go_simp
    try with_reducible rfl
  clear hHeld
  have hHeld := hNew
  clear hNew
  try simp only [List.getElem_toArray, List.getElem_cons_succ, List.getElem_cons_zero, Act.put, List.setIfInBounds_toArray, List.set_cons_zero, List.set_cons_succ]
  refine wpAnyL_take (i := 7) (oi := _) (v := ?_) rfl (by kernel_rfl) (by kernel_rfl) (by kernel_rfl) (by kernel_rfl) (by kernel_rfl) (fun _ _ _ h => h) (Or.inl ⟨by rfl, ?_⟩) (by assumption) (fun hNew => ?_)
  rotate_left
  · intro w _
    go_simp
    try with_reducible rfl
  clear hHeld
  have hHeld := hNew
  clear hNew
  try simp only [List.getElem_toArray, List.getElem_cons_succ, List.getElem_cons_zero, Act.put, List.setIfInBounds_toArray, List.set_cons_zero, List.set_cons_succ]
  refine wpAnyL_take (i := 8) (oi := _) (v := ?_) rfl (by kernel_rfl) (by kernel_rfl) (by kernel_rfl) (by kernel_rfl) (by kernel_rfl) (fun _ _ _ h => h) (Or.inl ⟨by rfl, ?_⟩) (by assumption) (fun hNew => ?_)
  rotate_left
  · intro w _
    go_simp
    try with_reducible rfl
  clear hHeld
  have hHeld := hNew
  clear hNew
  try simp only [List.getElem_toArray, List.getElem_cons_succ, List.getElem_cons_zero, Act.put, List.setIfInBounds_toArray, List.set_cons_zero, List.set_cons_succ]
  refine wpAnyL_load 1 (i := 9) (oi := _) (v := ?_) rfl rfl (by kernel_rfl) (by kernel_rfl) (by kernel_rfl) (by kernel_rfl) (by kernel_rfl) (by kernel_rfl) (fun _ _ _ h => h) (Or.inl ⟨by rfl, ?_⟩) (by assumption) (fun hNew => ?_)
  rotate_left
  · intro w hSw
    (try dsimp only at hSw)
    go_simp
    try with_reducible rfl
  clear hHeld
  have hHeld := hNew
  clear hNew
  try simp only [List.getElem_toArray, List.getElem_cons_succ, List.getElem_cons_zero, Act.put, List.setIfInBounds_toArray, List.set_cons_zero, List.set_cons_succ]
  refine wpAnyL_take (i := 10) (oi := _) (v := ?_) rfl (by kernel_rfl) (by kernel_rfl) (by kernel_rfl) (by kernel_rfl) (by kernel_rfl) (fun _ _ _ h => h) (Or.inl ⟨by rfl, ?_⟩) (by assumption) (fun hNew => ?_)
  rotate_left
  · intro w _
    go_simp
    try with_reducible rfl
  clear hHeld
  have hHeld := hNew
  clear hNew
  try simp only [List.getElem_toArray, List.getElem_cons_succ, List.getElem_cons_zero, Act.put, List.setIfInBounds_toArray, List.set_cons_zero, List.set_cons_succ]
  refine wpAnyL_take (i := 11) (oi := _) (v := ?_) rfl (by kernel_rfl) (by kernel_rfl) (by kernel_rfl) (by kernel_rfl) (by kernel_rfl) (fun _ _ _ h => h) (Or.inl ⟨by rfl, ?_⟩) (by assumption) (fun hNew => ?_)
  rotate_left
  · intro w _
    go_simp
    try with_reducible rfl
  clear hHeld
  have hHeld := hNew
  clear hNew
  try simp only [List.getElem_toArray, List.getElem_cons_succ, List.getElem_cons_zero, Act.put, List.setIfInBounds_toArray, List.set_cons_zero, List.set_cons_succ]
  refine wpAnyL_load 1 (i := 12) (oi := _) (v := ?_) rfl rfl (by kernel_rfl) (by kernel_rfl) (by kernel_rfl) (by kernel_rfl) (by kernel_rfl) (by kernel_rfl) (fun _ _ _ h => h) (Or.inl ⟨by rfl, ?_⟩) (by assumption) (fun hNew => ?_)
  rotate_left
  · intro w hSw
    (try dsimp only at hSw)
    go_simp
    try with_reducible rfl
  clear hHeld
  have hHeld := hNew
  clear hNew
  try simp only [List.getElem_toArray, List.getElem_cons_succ, List.getElem_cons_zero, Act.put, List.setIfInBounds_toArray, List.set_cons_zero, List.set_cons_succ]
  refine wpAnyL_take (i := 14) (oi := _) (v := ?_) rfl (by kernel_rfl) (by kernel_rfl) (by kernel_rfl) (by kernel_rfl) (by kernel_rfl) (fun _ _ _ h => h) (Or.inl ⟨by rfl, ?_⟩) (by assumption) (fun hNew => ?_)
  rotate_left
  · intro w _
    go_simp
    try with_reducible rfl
  clear hHeld
  have hHeld := hNew
  clear hNew
  try simp only [List.getElem_toArray, List.getElem_cons_succ, List.getElem_cons_zero, Act.put, List.setIfInBounds_toArray, List.set_cons_zero, List.set_cons_succ]
  refine wpAnyL_take (i := 15) (oi := _) (v := ?_) rfl (by kernel_rfl) (by kernel_rfl) (by kernel_rfl) (by kernel_rfl) (by kernel_rfl) (fun _ _ _ h => h) (Or.inl ⟨by rfl, ?_⟩) (by assumption) (fun hNew => ?_)
  rotate_left
  · intro w _
    go_simp
    try with_reducible rfl
  clear hHeld
  have hHeld := hNew
  clear hNew
  try simp only [List.getElem_toArray, List.getElem_cons_succ, List.getElem_cons_zero, Act.put, List.setIfInBounds_toArray, List.set_cons_zero, List.set_cons_succ]
  refine wpAnyL_load 2 (i := 16) (oi := _) (v := ?_) rfl rfl (by kernel_rfl) (by kernel_rfl) (by kernel_rfl) (by kernel_rfl) (by kernel_rfl) (by kernel_rfl) (fun _ _ _ h => h) (Or.inl ⟨by rfl, ?_⟩) (by assumption) (fun hNew => ?_)
  rotate_left
  · intro w hSw
    (try dsimp only at hSw)
    go_simp
    try with_reducible rfl
  clear hHeld
  have hHeld := hNew
  clear hNew
  try simp only [List.getElem_toArray, List.getElem_cons_succ, List.getElem_cons_zero, Act.put, List.setIfInBounds_toArray, List.set_cons_zero, List.set_cons_succ]
  refine wpAnyL_take (i := 17) (oi := _) (v := ?_) rfl (by kernel_rfl) (by kernel_rfl) (by kernel_rfl) (by kernel_rfl) (by kernel_rfl) (fun _ _ _ h => h) (Or.inl ⟨by rfl, ?_⟩) (by assumption) (fun hNew => ?_)
  rotate_left
  · intro w _
    go_simp
    try with_reducible rfl
  clear hHeld
  have hHeld := hNew
  clear hNew
  try simp only [List.getElem_toArray, List.getElem_cons_succ, List.getElem_cons_zero, Act.put, List.setIfInBounds_toArray, List.set_cons_zero, List.set_cons_succ]
  refine wpAnyL_take (i := 18) (oi := _) (v := ?_) rfl (by kernel_rfl) (by kernel_rfl) (by kernel_rfl) (by kernel_rfl) (by kernel_rfl) (fun _ _ _ h => h) (Or.inl ⟨by rfl, ?_⟩) (by assumption) (fun hNew => ?_)
  rotate_left
  · intro w _
    go_simp
    try with_reducible rfl
  clear hHeld
  have hHeld := hNew
  clear hNew
  try simp only [List.getElem_toArray, List.getElem_cons_succ, List.getElem_cons_zero, Act.put, List.setIfInBounds_toArray, List.set_cons_zero, List.set_cons_succ]
  refine wpAnyL_load 2 (i := 19) (oi := _) (v := ?_) rfl rfl (by kernel_rfl) (by kernel_rfl) (by kernel_rfl) (by kernel_rfl) (by kernel_rfl) (by kernel_rfl) (fun _ _ _ h => h) (Or.inl ⟨by rfl, ?_⟩) (by assumption) (fun hNew => ?_)
  rotate_left
  · intro w hSw
    (try dsimp only at hSw)
    go_simp
    try with_reducible rfl
  clear hHeld
  have hHeld := hNew
  clear hNew
  try simp only [List.getElem_toArray, List.getElem_cons_succ, List.getElem_cons_zero, Act.put, List.setIfInBounds_toArray, List.set_cons_zero, List.set_cons_succ]
  refine wpAnyL_take (i := 21) (oi := _) (v := ?_) rfl (by kernel_rfl) (by kernel_rfl) (by kernel_rfl) (by kernel_rfl) (by kernel_rfl) (fun _ _ _ h => h) (Or.inl ⟨by rfl, ?_⟩) (by assumption) (fun hNew => ?_)
  rotate_left
  · intro w _
    go_simp
    try with_reducible rfl
  clear hHeld
  have hHeld := hNew
  clear hNew
  try simp only [List.getElem_toArray, List.getElem_cons_succ, List.getElem_cons_zero, Act.put, List.setIfInBounds_toArray, List.set_cons_zero, List.set_cons_succ]
  refine wpAnyL_load 3 (i := 22) (oi := _) (v := ?_) rfl rfl (by kernel_rfl) (by kernel_rfl) (by kernel_rfl) (by kernel_rfl) (by kernel_rfl) (by kernel_rfl) (fun _ _ _ h => h) (Or.inl ⟨by rfl, ?_⟩) (by assumption) (fun hNew => ?_)
  rotate_left
  · intro w hSw
    (try dsimp only at hSw)
    go_simp
    try with_reducible rfl
  clear hHeld
  have hHeld := hNew
  clear hNew
  try simp only [List.getElem_toArray, List.getElem_cons_succ, List.getElem_cons_zero, Act.put, List.setIfInBounds_toArray, List.set_cons_zero, List.set_cons_succ]
  refine wpAnyL_take (i := 23) (oi := _) (v := ?_) rfl (by kernel_rfl) (by kernel_rfl) (by kernel_rfl) (by kernel_rfl) (by kernel_rfl) (fun _ _ _ h => h) (Or.inl ⟨by rfl, ?_⟩) (by assumption) (fun hNew => ?_)
  rotate_left
  · intro w _
    go_simp
    try with_reducible rfl
  clear hHeld
  have hHeld := hNew
  clear hNew
  try simp only [List.getElem_toArray, List.getElem_cons_succ, List.getElem_cons_zero, Act.put, List.setIfInBounds_toArray, List.set_cons_zero, List.set_cons_succ]
  refine wpAnyL_load 3 (i := 24) (oi := _) (v := ?_) rfl rfl (by kernel_rfl) (by kernel_rfl) (by kernel_rfl) (by kernel_rfl) (by kernel_rfl) (by kernel_rfl) (fun _ _ _ h => h) (Or.inl ⟨by rfl, ?_⟩) (by assumption) (fun hNew => ?_)
  rotate_left
  · intro w hSw
    (try dsimp only at hSw)
    go_simp
    try with_reducible rfl
  clear hHeld
  have hHeld := hNew
  clear hNew
  try simp only [List.getElem_toArray, List.getElem_cons_succ, List.getElem_cons_zero, Act.put, List.setIfInBounds_toArray, List.set_cons_zero, List.set_cons_succ]
  refine wpAnyL_ready (rs := [6]) (by kernel_rfl) (by simp) ?_
  refine AllReadyL.cons (o := _) rfl (fun K hK => ?_) AllReadyL.nil
  try simp only [List.getElem_toArray, List.getElem_cons_succ, List.getElem_cons_zero]
  go_simp
  refine (C1.out _).mono ?_
  rintro e w' ⟨rfl, hq⟩
  subst hq
  clear hHeld
  refine hK.out _ _ ?_ (fun hHeld => ?_)
  · exact (HoldC.past (by kernel_rfl) (HoldC.cons (⟨a1, b1⟩) (HoldC.cons (⟨a2, b2⟩) (HoldC.cons (⟨a3, b3⟩) HoldC.nil))))
  clear hK K
  try simp only [List.getElem_toArray, List.getElem_cons_succ, List.getElem_cons_zero, Act.put, List.setIfInBounds_toArray, List.set_cons_zero, List.set_cons_succ]
  refine wpAnyL_ready (rs := [13]) (by kernel_rfl) (by simp) ?_
  refine AllReadyL.cons (o := _) rfl (fun K hK => ?_) AllReadyL.nil
  try simp only [List.getElem_toArray, List.getElem_cons_succ, List.getElem_cons_zero]
  go_simp
  refine (C2.out _).mono ?_
  rintro e w' ⟨rfl, hq⟩
  subst hq
  clear hHeld
  refine hK.out _ _ ?_ (fun hHeld => ?_)
  · exact (HoldC.past (by kernel_rfl) (HoldC.past (by kernel_rfl) (HoldC.cons (⟨a2, b2⟩) (HoldC.cons (⟨a3, b3⟩) HoldC.nil))))
  clear hK K
  try simp only [List.getElem_toArray, List.getElem_cons_succ, List.getElem_cons_zero, Act.put, List.setIfInBounds_toArray, List.set_cons_zero, List.set_cons_succ]
  refine wpAnyL_ready (rs := [20]) (by kernel_rfl) (by simp) ?_
  refine AllReadyL.cons (o := _) rfl (fun K hK => ?_) AllReadyL.nil
  try simp only [List.getElem_toArray, List.getElem_cons_succ, List.getElem_cons_zero]
  go_simp
  refine (C3.out _).mono ?_
  rintro e w' ⟨rfl, hq⟩
  subst hq
  clear hHeld
  refine hK.out _ _ ?_ (fun hHeld => ?_)
  · exact (HoldC.past (by kernel_rfl) (HoldC.past (by kernel_rfl) (HoldC.past (by kernel_rfl) (HoldC.cons (⟨a3, b3⟩) HoldC.nil))))
  clear hK K
  try simp only [List.getElem_toArray, List.getElem_cons_succ, List.getElem_cons_zero, Act.put, List.setIfInBounds_toArray, List.set_cons_zero, List.set_cons_succ]
  refine wpAnyL_ready (rs := [25]) (by kernel_rfl) (by simp) ?_
  refine AllReadyL.cons (o := _) rfl (fun K hK => ?_) AllReadyL.nil
  try simp only [List.getElem_toArray, List.getElem_cons_succ, List.getElem_cons_zero]
  go_simp
  refine (C4.out _).mono ?_
  rintro e w' ⟨rfl, hq⟩
  subst hq
  clear hHeld
  refine hK.out _ _ ?_ (fun hHeld => ?_)
  · exact (HoldC.past (by kernel_rfl) (HoldC.past (by kernel_rfl) (HoldC.past (by kernel_rfl) (HoldC.past (by kernel_rfl) HoldC.nil))))
  clear hK K
  try simp only [List.getElem_toArray, List.getElem_cons_succ, List.getElem_cons_zero, Act.put, List.setIfInBounds_toArray, List.set_cons_zero, List.set_cons_succ]
  refine wpAnyL_ready (rs := [26]) (by kernel_rfl) (by simp) ?_
  refine AllReadyL.cons (o := _) rfl (fun K hK => ?_) AllReadyL.nil
  try simp only [List.getElem_toArray, List.getElem_cons_succ, List.getElem_cons_zero]
  go_simp
  have hbZ : (w1.alloc (.cells #[.int .i64 v1, .int .i64 v2, .int .i64 v3, .int .i64 v4] 3)).drew.heap[w1.heap.size]? = some (.cells #[.int .i64 v1, .int .i64 v2, .int .i64 v3, .int .i64 v4] 3 (0, 0)) := heap_alloc_new w1 _
  have CO := Lib.hid (cor_any [v1, v2, v3, v4] rfl w1.heap.size _ (fun j hj => by
    match j, hj with
    | 0, _ => exact blk_cell hbZ 0 _ rfl
    | 1, _ => exact blk_cell hbZ 1 _ rfl
    | 2, _ => exact blk_cell hbZ 2 _ rfl
    | 3, _ => exact blk_cell hbZ 3 _ rfl))
  clear hHeld
  refine hK.out _ _ ?_ (fun hHeld => ?_)
  · exact (HoldC.past (by kernel_rfl) (HoldC.past (by kernel_rfl) (HoldC.past (by kernel_rfl) (HoldC.past (by kernel_rfl) HoldC.nil))))
  clear hK K
  try simp only [List.getElem_toArray, List.getElem_cons_succ, List.getElem_cons_zero, Act.put, List.setIfInBounds_toArray, List.set_cons_zero, List.set_cons_succ]
  refine wpAnyL_ready (rs := [27]) (by kernel_rfl) (by simp) ?_
  refine AllReadyL.cons (o := _) rfl (fun K hK => ?_) AllReadyL.nil
  try simp only [List.getElem_toArray, List.getElem_cons_succ, List.getElem_cons_zero]
  go_simp
  refine CO.out.mono ?_
  rintro e w' ⟨rfl, hq⟩
  subst hq
  clear hHeld
  refine hK.out _ _ ?_ (fun hHeld => ?_)
  · exact (HoldC.past (by kernel_rfl) (HoldC.past (by kernel_rfl) (HoldC.past (by kernel_rfl) (HoldC.past (by kernel_rfl) HoldC.nil))))
  clear hK K
  try simp only [List.getElem_toArray, List.getElem_cons_succ, List.getElem_cons_zero, Act.put, List.setIfInBounds_toArray, List.set_cons_zero, List.set_cons_succ]
  refine wpAnyL_take (i := 28) (oi := _) (v := ?_) rfl (by kernel_rfl) (by kernel_rfl) (by kernel_rfl) (by kernel_rfl) (by kernel_rfl) (fun _ _ _ h => h) (Or.inl ⟨by rfl, ?_⟩) (by assumption) (fun hNew => ?_)
  rotate_left
  · intro w _
    go_simp
    try with_reducible rfl
  clear hHeld
  have hHeld := hNew
  clear hNew
  try simp only [List.getElem_toArray, List.getElem_cons_succ, List.getElem_cons_zero, Act.put, List.setIfInBounds_toArray, List.set_cons_zero, List.set_cons_succ]
  refine wpAnyL_done (by kernel_rfl) ?_ _
  clear hHeld
  go_wp2_with fail
  go_ret
  rw [HF.out]
  exact ⟨rfl, 1, _, by rw [HW1.out, Go.Sort.alloc_eq_grow, Go.Sort.alloc_eq_grow, Go.Sort.alloc_eq_grow, Go.Sort.grow_grow, Go.Sort.grow_grow]; rfl⟩

def idE (x : Id) : List Value := [.int .i64 x.c, .int .i64 x.l, .int .i64 x.n, .int .i64 x.i]
theorem idE_len (x : Id) : (idE x).length = 4 := rfl
theorem idE_one (x : Id) : ∀ v ∈ idE x, v.oneCell' = true := by
  intro v hv
  simp [idE] at hv
  rcases hv with rfl | rfl | rfl | rfl <;> rfl
theorem cmpLaysI (blk off size : Nat) (w : World) : CmpLays Tryz.prog 62 #[] idE 4 cmpId blk off size w :=
  fun _ _ _ _ x y => closureI x y _
/-- The sort, at a row of ids of the call's own. -/
theorem sortI_any {w : World} {base : Nat} {v : Value} {ss : List Id} (hown : w.ownsRow base 25 4 v ss.length (ss.flatMap idE)) (hl : ss.length ≤ 1000000) :
    Calls Tryz.prog 61 #[v, .func (.func 62) #[] #[]] w fun e w' => e = .returned (.tuple #[]) ∧ w'.ownsRow base 25 4 v ss.length ((ss.mergeSort leI).flatMap idE) ∧ ∀ S : List Nat, (∀ k, v.ownBlock = some k → k ∈ S) → Chg S w w' := by
  obtain ⟨hlen, hrow⟩ := hown
  rcases hrow with ⟨rfl, h0⟩ | ⟨gb, cap, cur, rfl, hbg, hgb, hnc, hcm, hcs, htake⟩
  · have hnil : ss = [] := List.eq_nil_of_length_eq_zero h0
    subst hnil
    have hS := AnyF.slices_SortFunc_none (P := Tryz.prog) (ρ := Tryz.laysSortE_ren) { Tryz.laysSortE with } none 0 (.func (.func 62) #[] #[]) w
    change Calls Tryz.prog 61 _ _ _ at hS
    refine hS.mono fun e w' ⟨h1, h2⟩ => ⟨h1, ?_, ?_⟩
    · rw [h2]; simpa using World.ownsRow_nil w base 25 4
    · rw [h2]; exact fun S _ => Chg.refl _ _
  · have hH := holds_row idE idE_len hgb htake
    have eg : ∀ args w, (callFunc 62 args).run Tryz.prog w = .ok (.enter 62 args) w := enters_of Tryz.func62 (by kernel_rfl) rfl
    have hS := AnyQ.slices_SortFunc_total Tryz.laysSortE 4 Tryz.isAgg25 Tryz.sizeOf25 idE idE_len idE_one cmpId swoI 62 #[] gb 0 cap ss.toArray w eg (cmpLaysI gb 0 _ w) hH (blk_lt hgb) (by simp; omega) totI
    change Calls Tryz.prog 61 _ _ _ at hS
    have hsz : ss.toArray.size = ss.length := by simp
    rw [hsz] at hS
    refine hS.mono fun e w' ⟨h1, n, os, h2⟩ => ⟨h1, ?_, fun S hS => ?_⟩
    · rw [h2]
      exact ownsRow_sortedK idE idE_len (by rw [List.length_mergeSort]) hbg hgb hnc hcm hcs
    · rw [h2]
      exact (chg_sortedK _ _ _).mono (fun x hx => .inl (by rw [List.mem_singleton.1 hx]; exact hS gb rfl))
end Go.Proofs.YtbkajnjboipbhaaGreatDoor.W

/- Package store: List. -/
namespace Go.Proofs.YtbkajnjboipbhaaGreatDoor.W
open Go.RowKit Go.Sort
set_option linter.unusedVariables false
set_option linter.unusedSimpArgs false
variable {G : List Nat}

theorem wpList_nxtD (w : World) {ops : Array Oper} {rest : List Oper} {o : Oper} {a : Act} {Q : Exit → Act → World → Prop} (hg : o.guard = none) (it : Operand) (hop : o.op = Op.next it false) (b r N : Nat) (φ : Id → Option Value) (left : Id → Bool) (cnt : Nat)
    (hit : a.eval it = .pointer (some ⟨r, 0, none⟩)) (h : Rng 25 klD okD w b r φ N left cnt)
    (hDone : cnt = 0 → (∀ x, okD x → left x = false) → wpList Tryz.prog ops Q rest (a.put o.dst (.tuple #[.bool false])) w)
    (hMore : ∀ (c l n i : Int) (v : Value) (w' : World) (cnt' : Nat), okD ⟨c, l, n, i⟩ → left ⟨c, l, n, i⟩ = true → φ ⟨c, l, n, i⟩ = some v → Rng 25 klD okD w' b r φ N (fun y => !decide (y = ⟨c, l, n, i⟩) && left y) cnt' → cnt' < cnt → Chg [r] w w' → w'.heap.size = w.heap.size →
      (Instr.entry (.pointer (some ⟨r, 0, none⟩))).run Tryz.prog w' = .ok (.tuple #[.agg #[.int .i64 c, .int .i64 l, .int .i64 n, .int .i64 i], v]) w' → wpList Tryz.prog ops Q rest (a.put o.dst (.tuple #[.bool true, .agg #[.int .i64 c, .int .i64 l, .int .i64 n, .int .i64 i], v])) w') :
    wpList Tryz.prog ops Q (o :: rest) a w :=
  wpList_nxt keId w hg it hop b r N φ left cnt hit h hDone fun x v w' cnt' h1 h2 h3 h4 h5 h6 h7 h8 => hMore x.c x.l x.n x.i v w' cnt' h1 h2 h3 (h4 _ fun y _ => ⟨fun e => by simp [e], fun e => by
    have e' : ¬ y = ⟨x.c, x.l, x.n, x.i⟩ := e
    simp [e']⟩) h5 h6 h7 h8
theorem elIds : El Tryz.prog 36 25 (.agg #[.int .i64 0, .int .i64 0, .int .i64 0, .int .i64 0]) 4 32 := El.mk Tryz.underlying36 (by kernel_rfl) rfl (by decide)
def ListPost (w : World) (l : List Id) (e : Ending) (w' : World) : Prop := ∃ v, e = .returned v ∧ w'.ownsRow w.heap.size 25 4 v l.length (l.flatMap idE) ∧ Chg [] w w'

set_option maxHeartbeats 8000000 in
set_option maxRecDepth 100000 in
theorem stlist_any (q p : Nat) (U : List Nat) (t : Sto) (w : World) (h : StAt G w q p U t) : Calls Tryz.prog 20 #[.pointer (some ⟨q, 0, none⟩)] w (ListPost w t.ids) := by
  obtain ⟨sp, mb, Us, φ, N, h, rfl⟩ := h
  obtain ⟨k0, _, k2, _⟩ := h.cells
  have CM := Lib.hid (stmade_any q p w k0)
  have HM := Lib.hid h.map
  have HI : Hid (∀ x, okD x → (x ∈ firsts t.s.rows ↔ (φ x).isSome = true)) := Lib.hid (fun x hx => by
    rw [mem_firsts h.ok]
    rcases h.vals x hx with ⟨h1, h2⟩ | ⟨h1, v, h2, _⟩
    · rw [h1, h2]; simp
    · rw [h2]; simp [h1])
  have HFM : Hid (∀ x ∈ firsts t.s.rows, okD x) := Lib.hid (fun x hx => by
    rw [mem_firsts h.ok] at hx
    by_cases hm : mayId x = true
    · exact may_okD hm
    · rw [Sto.at_not (by simpa using hm)] at hx
      exact absurd rfl hx)
  have HND := Lib.hid (firsts_nodup h.ok)
  have hNl : N ≤ 1000 := by
    have h1 := h.map.card keId (firsts t.s.rows) (fun y hy hs => (HI.out y hy).2 hs)
    have h2 := t.ids_len
    unfold Sto.ids at h2
    rw [List.length_mergeSort] at h2
    obtain ⟨S0, rv0, R0, H0⟩ := h.slots
    have := H0.few
    omega
  have HID : Hid (t.ids = (firsts t.s.rows).mergeSort leI) := Lib.hid rfl
  generalize t.ids = L at *
  generalize firsts t.s.rows = F at *
  have hml := h.map.lt
  clear h
  go_enter Tryz.func20, Tryz.ntmps20
  go_wp2_with fail
  refine CM.out.mono ?_
  rintro e w' ⟨rfl, hq⟩
  subst hq
  go_wp2_with (refine wpList_rng keId _ rfl _ _ rfl 49 Tryz.underlying98 mb N φ rfl HM.out ?_; intro w1 hr1 hc1 hs1; have HR1 := Lib.hid (And.intro hr1 (And.intro hc1 hs1)); clear hr1 hc1 hs1)
  go_frame
  go_loopg [3] N (fun gh v3 wr => ∃ (v : Value) (ss : List Id) (left : Id → Bool) (cnt : Nat), v = v3 ∧ cnt ≤ gh ∧ ss.length + cnt ≤ N ∧ wr.ownsRow w.heap.size 25 4 v ss.length (ss.flatMap idE) ∧ Hid (Rng 25 klD okD wr mb w.heap.size φ N left cnt) ∧
    Hid (ss.Nodup ∧ ∀ k, okD k → (k ∈ ss ↔ (φ k).isSome = true ∧ left k = false)) ∧ Hid (∀ k ∈ ss, okD k) ∧ Hid (Chg [] w wr))
  case atStart =>
    refine ⟨_, [], _, _, rfl, Nat.le_refl _, by simp, World.ownsRow_nil _ _ _ _, Lib.hid HR1.out.1, Lib.hid ⟨List.nodup_nil, fun k hk => ?_⟩, Lib.hid (by simp), Lib.hid HR1.out.2.1⟩
    constructor
    · intro h; cases h
    · rintro ⟨h1, h2⟩
      rw [h1] at h2; cases h2
  case round =>
    obtain ⟨v3, ss, left, cnt, rfl, hcg, hkc, hown, HR, HK, HO, HC⟩ := hrel
    have hrne : some w.heap.size ≠ v3.ownBlock := by
      obtain ⟨D, lf, hr, _⟩ := HR.out
      exact row_ne_iter hown hr
    have HOWN := Lib.hid hown
    clear hown
    go_wp2_with (refine wpList_nxtD _ rfl _ rfl mb w.heap.size N φ left cnt rfl HR.out ?_ ?_)
    · intro hc0 hl0
      have HALL : Hid (∀ k, k ∈ ss ↔ k ∈ F) := Lib.hid (fun k => by
        constructor
        · intro hk
          have hko := HO.out k hk
          exact (HI.out k hko).2 ((HK.out.2 k hko).1 hk).1
        · intro hk
          have hko := HFM.out k hk
          exact (HK.out.2 k hko).2 ⟨(HI.out k hko).1 hk, hl0 k hko⟩)
      have HS : Hid (ss.mergeSort leI = L) := Lib.hid (by rw [HID.out]; exact sortedI_eq HK.out.1 HND.out HALL.out)
      have HL : Hid (ss.length = L.length) := Lib.hid (by
        have := congrArg List.length HS.out
        rwa [List.length_mergeSort] at this)
      clear hc0 hl0
      go_wp2_with fail
      refine (sortI_any HOWN.out (by omega)).mono ?_
      rintro e w5 ⟨rfl, hrow, hch⟩
      have HF : Hid (w5.ownsRow w.heap.size 25 4 v3 L.length (L.flatMap idE) ∧ Chg [] w w5) := Lib.hid (by
        rw [HS.out, HL.out] at hrow
        refine ⟨hrow, ?_⟩
        cases hv : v3.ownBlock with
        | none => exact HC.out.trans (hch [] (by rw [hv]; simp)) (by simp)
        | some k =>
          have hlt := (World.ownsRow.lt HOWN.out k hv).1
          exact HC.out.trans (hch [k] (by rw [hv]; simp)) (by simp; omega))
      clear hrow hch
      go_wp2
      go_ret
      exact ⟨_, rfl, HF.out⟩
    · intro xc xl xn xi v w2 cnt2 hox hlx hvx hr2 hlt hc2 hs2 hen
      have HX : Hid ((φ ⟨xc, xl, xn, xi⟩).isSome = true ∧ (⟨xc, xl, xn, xi⟩ : Id) ∉ ss ∧ okD ⟨xc, xl, xn, xi⟩) := Lib.hid (by
        refine ⟨by rw [hvx]; rfl, fun hk => ?_, hox⟩
        have := ((HK.out.2 _ hox).1 hk).2
        rw [hlx] at this; cases this)
      have HW2 := Lib.hid (And.intro hr2 (And.intro hc2 hs2))
      have hown2 := row_keep HOWN.out (w' := w2) (fun gq hq => hc2.block gq (World.ownsRow.lt HOWN.out gq hq).2 (by
        simp
        rintro rfl
        exact hrne hq.symm))
      have hc2a : Chg [] w2 (w2.alloc (.cells #[.int .i64 xc, .int .i64 xl, .int .i64 xn, .int .i64 xi] 25)) := (Chg.refl [] w2).alloc _
      have hown3 := row_keep hown2 (w' := w2.alloc (.cells #[.int .i64 xc, .int .i64 xl, .int .i64 xn, .int .i64 xi] 25)) (fun gq hq => hc2a.block gq (World.ownsRow.lt hown2 gq hq).2 (by simp))
      have hbase : w.heap.size ≤ w2.heap.size := by
        have := HC.out.size
        rw [hs2]; omega
      clear hox hlx hvx hr2 hc2 hs2
      go_wp2_with (at_builtin; refine wpList_app1 rfl _ _ _ rfl w.heap.size elIds _ _ _ rfl hown3 1 #[.int .i64 xc, .int .i64 xl, .int .i64 xn, .int .i64 xi] (by rw [show (w2.alloc (.cells #[.int .i64 xc, .int .i64 xl, .int .i64 xn, .int .i64 xi] 25)).heap.size = w2.heap.size + 1 by simp]; rfl) rfl (by intro u hu; simp at hu; rcases hu with rfl | rfl | rfl | rfl <;> rfl) (by unfold maxLen; omega) (by omega) (by simp; omega) ?_; intro v4 w4 hown4 hg4)
      have HEND : Hid (Rng 25 klD okD w4 mb w.heap.size φ N (fun y => !decide (y = ⟨xc, xl, xn, xi⟩) && left y) cnt2 ∧ Chg [] w w4) := Lib.hid (by
        have hc24 : Chg (match v3.ownBlock with | some k => [k] | none => []) w2 w4 := by
          exact ((Chg.refl (match v3.ownBlock with | some k => [k] | none => []) w2).alloc _).grown hg4 (fun k hk => by
            have hk' : v3.ownBlock = some k := hk
            rw [hk']; exact .inl (by simp))
        have hrb : ∀ k, v3.ownBlock = some k → w.heap.size ≤ k ∧ k ≠ w.heap.size := fun k hk => ⟨(World.ownsRow.lt HOWN.out k hk).1, fun e => hrne (by rw [hk, e])⟩
        refine ⟨HW2.out.1.kept hc24 ?_ ?_, (HC.out.trans HW2.out.2.1 (fun z hz => ?_)).trans hc24 (fun z hz => ?_)⟩
        · cases hv : v3.ownBlock with
          | none => simp
          | some k => have := hrb k hv; simp; omega
        · cases hv : v3.ownBlock with
          | none => simp
          | some k => have := hrb k hv; simp; omega
        · simp at hz; right; omega
        · cases hv : v3.ownBlock with
          | none => rw [hv] at hz; simp at hz
          | some k => rw [hv] at hz; simp at hz; have := hrb k hv; right; omega)
      clear hg4
      go_roundg cnt2
      case measure => omega
      case rel =>
        refine ⟨_, ss ++ [⟨xc, xl, xn, xi⟩], _, cnt2, rfl, Nat.le_refl _, by simp; omega, by simpa [idE] using hown4, Lib.hid HEND.out.1, Lib.hid ⟨?_, fun k hk => ?_⟩, Lib.hid (fun k hk => ?_), Lib.hid HEND.out.2⟩
        · refine List.nodup_append.2 ⟨HK.out.1, by simp, fun a ha b hb => ?_⟩
          simp at hb
          rintro rfl
          subst hb
          exact HX.out.2.1 ha
        · rw [List.mem_append, HK.out.2 k hk]
          by_cases e : k = ⟨xc, xl, xn, xi⟩
          · subst e; simp [HX.out.1]
          · simp [e]
        · rcases List.mem_append.1 hk with hk | hk
          · exact HO.out k hk
          · simp at hk; subst hk; exact HX.out.2.2
end Go.Proofs.YtbkajnjboipbhaaGreatDoor.W

/- Package store: Room, Whole, SetWhole. -/
namespace Go.Proofs.YtbkajnjboipbhaaGreatDoor.W
open Go.RowKit Go.Sort
set_option linter.unusedVariables false
set_option linter.unusedSimpArgs false
variable {G : List Nat}

theorem count_take {α : Type} (f : α → Bool) (l : List α) (j : Nat) (h : j < l.length) : (l.take (j + 1)).countP f = (l.take j).countP f + if f l[j] then 1 else 0 := by
  rw [List.take_succ_eq_append_getElem h, List.countP_append]
  simp [List.countP_singleton]
set_option maxHeartbeats 4000000 in
set_option maxRecDepth 100000 in
theorem stroom_any (q p : Nat) (U : List Nat) (t : Sto) (w : World) (h : StAt G w q p U t) : Calls Tryz.prog 32 #[.pointer (some ⟨q, 0, none⟩)] w fun e w' => e = .returned (.int .i64 (t.room : Int)) ∧ w = w' := by
  obtain ⟨sp, mb, Us, φ, N, h, rfl⟩ := h
  obtain ⟨k0, k1, _, _⟩ := h.cells
  have CM := Lib.hid (stmade_any q p w k0)
  have CN := Lib.hid (scount_any sp p Us t.s w h.slots)
  have CU := Lib.hid (fun i => sused_any sp p Us t.s i w h.slots)
  have hfew : t.s.rows.length ≤ 1000 := by
    obtain ⟨S0, rv0, R0, H0⟩ := h.slots
    have := H0.few
    omega
  have HRM : Hid (t.room = t.s.rows.countP (fun r => !r.used)) := Lib.hid rfl
  generalize t.room = R at *
  clear h
  obtain ⟨m, hm⟩ : ∃ m, m = t.s.rows.length := ⟨_, rfl⟩
  rw [← hm] at CN hfew
  have HM := Lib.hid hm
  clear hm
  go_enter Tryz.func32, Tryz.ntmps32
  go_wp2_with (first | (go_at_call 56; refine CM.out.mono ?_; rintro e w' ⟨rfl, hq⟩; subst hq) | (go_at_call 69; refine CN.out.mono ?_; rintro e w' ⟨rfl, hq⟩; subst hq))
  go_loopg [3, 13] m (fun g' s3 s13 wr => ∃ (i n : Nat), s13 = .int .i64 (i : Int) ∧ s3 = .int .i64 (n : Int) ∧ i ≤ m ∧ m ≤ i + g' ∧ n ≤ i ∧ Hid (wr = w ∧ n = (t.s.rows.take i).countP (fun r => !r.used)))
  case atStart => exact ⟨0, 0, rfl, rfl, by omega, by omega, by omega, Lib.hid ⟨rfl, by simp⟩⟩
  case round =>
    obtain ⟨i, n, rfl, rfl, hi, hig, hni, HJ⟩ := hrel
    obtain ⟨rfl, hn⟩ := HJ.out
    have HN := Lib.hid hn
    clear hn HJ
    by_cases hlt : i < m
    · have CU1 := Lib.hid (CU.out (i : Int))
      have hl2 : i < t.s.rows.length := by rw [← HM.out]; exact hlt
      have hus : t.s.used (i : Int) = (t.s.rows[i]).used := by
        rw [SS.used_true ⟨by omega, by omega⟩]
        show (t.s.rows.getD i noRow).used = _
        rw [List.getD_eq_getElem?_getD, List.getElem?_eq_getElem hl2]; rfl
      have HC := Lib.hid (count_take (fun r => !r.used) t.s.rows i hl2)
      rw [hus] at CU1
      have hiz : (i : Int) < (m : Int) := by omega
      clear hus
      generalize (t.s.rows[i]).used = u at *
      cases u with
      | true =>
        go_wp2_with (go_at_call 70; refine CU1.out.mono ?_; rintro e w' ⟨rfl, hq⟩; subst hq)
        go_roundg (gk - 1)
        case measure => omega
        case rel => exact ⟨i + 1, n, by go_num, rfl, by omega, by omega, by omega, Lib.hid ⟨rfl, by rw [HC.out, ← HN.out]; simp⟩⟩
      | false =>
        go_wp2_with (go_at_call 70; refine CU1.out.mono ?_; rintro e w' ⟨rfl, hq⟩; subst hq)
        go_roundg (gk - 1)
        case measure => omega
        case rel => exact ⟨i + 1, n + 1, by go_num, by go_num, by omega, by omega, by omega, Lib.hid ⟨rfl, by rw [HC.out, ← HN.out]; simp⟩⟩
    · have him : i = m := by omega
      have hiz : ¬ (i : Int) < (m : Int) := by omega
      have HE : Hid (R = n) := Lib.hid (by rw [HRM.out, HN.out, him, HM.out, List.take_length])
      go_wp2
      go_ret
      rw [HE.out]
      exact ⟨rfl, rfl⟩
set_option maxHeartbeats 2000000 in
theorem stwhole_any (q p : Nat) (U : List Nat) (t : Sto) (w : World) (h : StAt G w q p U t) : Calls Tryz.prog 34 #[.pointer (some ⟨q, 0, none⟩)] w fun e w' => e = .returned (.bool t.whole) ∧ w = w' := by
  obtain ⟨sp, mb, Us, φ, N, h, rfl⟩ := h
  obtain ⟨k0, _, _, k3⟩ := h.cells
  have CM := Lib.hid (stmade_any q p w k0)
  generalize t.whole = b at *
  clear h
  go_enter Tryz.func34, Tryz.ntmps34
  go_wp2_with (go_at_call 56; refine CM.out.mono ?_; rintro e w' ⟨rfl, hq⟩; subst hq)
  go_ret
  exact ⟨rfl, rfl⟩
end Go.Proofs.YtbkajnjboipbhaaGreatDoor.W

/- Package store: SetWhole, Latest. -/
namespace Go.Proofs.YtbkajnjboipbhaaGreatDoor.W
open Go.RowKit Go.Sort
set_option linter.unusedVariables false
set_option linter.unusedSimpArgs false
variable {G : List Nat}

def lastOf (c : Int) (l : List Id) : Id × Bool := l.foldl (fun r x => if x.c = c then (x, true) else r) (⟨0, 0, 0, 0⟩, false)
def Sto.latest (t : Sto) (c : Int) : Id × Bool := lastOf c t.ids
theorem id_row {w : World} {base g cap : Nat} {l : List Id} (h : w.ownsRow base 25 4 (.slice (some ⟨g, 0, none⟩) l.length cap) l.length (l.flatMap idE)) (j : Nat) (hj : j < l.length) (x : Id) (hx : l[j]? = some x) :
    w.cell? ⟨g, j * 4, none⟩ = some (.int .i64 x.c) ∧ w.cell? ⟨g, j * 4 + 1, none⟩ = some (.int .i64 x.l) ∧ w.cell? ⟨g, j * 4 + 2, none⟩ = some (.int .i64 x.n) ∧ w.cell? ⟨g, j * 4 + 3, none⟩ = some (.int .i64 x.i) := by
  have key : ∀ k, k < 4 → ∀ u, (idE x)[k]? = some u → w.cell? ⟨g, j * 4 + k, none⟩ = some u := by
    intro k hk u hu
    have := h.cells (g := g) rfl (j * 4 + k) u (by
      have := flatMap_at idE (fun _ => rfl) l j k hj hk
      rw [show l[j]! = x by simp [List.getElem!_eq_getElem?_getD, hx]] at this
      rw [this]; exact hu)
    rw [add_none] at this
    simpa using this
  exact ⟨by simpa using key 0 (by omega) (.int .i64 x.c) rfl, key 1 (by omega) _ rfl, key 2 (by omega) _ rfl, key 3 (by omega) _ rfl⟩
end Go.Proofs.YtbkajnjboipbhaaGreatDoor.W

/- Package store: Latest. -/
namespace Go.Proofs.YtbkajnjboipbhaaGreatDoor.W
open Go.RowKit Go.Sort
set_option linter.unusedVariables false
set_option linter.unusedSimpArgs false
variable {G : List Nat}

end Go.Proofs.YtbkajnjboipbhaaGreatDoor.W

/- Slots on a disk that lives: what Put and Clear leave, plainly. -/
namespace Go.Proofs.YtbkajnjboipbhaaGreatDoor.W
set_option linter.unusedVariables false
set_option linter.unusedSimpArgs false

def DS.Live (d : DS) : Prop := d.dead = false ∧ d.fuse < 0
theorem DS.write_live {d : DS} (hd : d.Live) (k : Nat) (b : List UInt8) (hk : k < d.n) (hb : b.length = 64) : (d.write (k : Int) b).1 = 0 ∧ (d.write (k : Int) b).2.Live ∧ (d.write (k : Int) b).2.n = d.n ∧ (d.write (k : Int) b).2.now = upd d.now k b := by
  obtain ⟨h1, h2⟩ := hd
  have h3 : ¬ d.fuse = 0 := by omega
  have h4 : ¬ (0 : Int) < d.fuse := by omega
  unfold DS.write DS.op
  simp [h1, h3, h4, hb, hk, DS.Live]
  omega
theorem DS.sync_live {d : DS} (hd : d.Live) : (d.sync).1 = 0 ∧ (d.sync).2.Live ∧ (d.sync).2.n = d.n ∧ (d.sync).2.now = d.now ∧ (d.sync).2.since = [] := by
  obtain ⟨h1, h2⟩ := hd
  have h3 : ¬ d.fuse = 0 := by omega
  have h4 : ¬ (0 : Int) < d.fuse := by omega
  unfold DS.sync DS.op
  simp [h1, h3, h4, DS.Live]
  omega
theorem DS.lay_live (pos : Nat) (b : List UInt8) : ∀ (k j : Nat) (d : DS), d.Live → pos + j + k ≤ d.n → (d.lay pos b k j).1 = 0 ∧ (d.lay pos b k j).2.Live ∧ (d.lay pos b k j).2.n = d.n ∧ (∀ i, (d.lay pos b k j).2.now i = if pos + j ≤ i ∧ i < pos + j + k then secAt b (i - pos) else d.now i) ∧ (d.lay pos b k j).2.since = [] := by
  intro k
  induction k with
  | zero =>
    intro j d hd hn
    obtain ⟨h1, h2, h3, h4, h5⟩ := d.sync_live hd
    exact ⟨h1, h2, h3, fun i => by rw [if_neg (by omega)]; show (d.sync).2.now i = _; rw [h4], h5⟩
  | succ k ih =>
    intro j d hd hn
    obtain ⟨h1, h2, h3, h4⟩ := DS.write_live hd (pos + j) (secAt b j) (by omega) (secAt_len b j)
    obtain ⟨i1, i2, i3, i4, i5⟩ := ih (j + 1) _ h2 (by rw [h3]; omega)
    unfold DS.lay
    rw [if_neg (by rw [h1]; simp)]
    refine ⟨i1, i2, by rw [i3, h3], fun i => ?_, i5⟩
    rw [i4, h4]
    unfold upd
    by_cases hi : i = pos + j
    · subst hi
      rw [if_neg (by omega), if_pos rfl, if_pos (by omega)]
      congr 1
      omega
    · rw [if_neg hi]
      by_cases hm : pos + (j + 1) ≤ i ∧ i < pos + (j + 1) + k
      · rw [if_pos hm, if_pos (by omega)]
      · rw [if_neg hm, if_neg (by omega)]
theorem DS.lays_live {d : DS} (pos : Nat) (b : List UInt8) (hd : d.Live) (hn : pos + nsec b.length ≤ d.n) : (d.lays pos b).1 = 0 ∧ (d.lays pos b).2.Live ∧ (d.lays pos b).2.n = d.n ∧ (∀ i, (d.lays pos b).2.now i = if pos ≤ i ∧ i < pos + nsec b.length then secAt b (i - pos) else d.now i) ∧ (d.lays pos b).2.since = [] :=
  DS.lay_live pos b _ 0 d hd hn

theorem beNum_two (n : Nat) (hn : n < 65536) : beNum (beBytes 2 n) = n := by
  simp [beBytes, beNum, UInt8.toNat_ofNat']
  omega
theorem allZ_zeros (n : Nat) : allZ (zeros n) = true := by simp [allZ, zeros]
theorem head_back (n : Nat) (key : List UInt8) (hn : n ≤ 448) (hk : key.length ≤ 40) : headOf (secAt (headBytes n key) 0) = some ⟨true, n, key⟩ := by
  have hl := headBytes_len n key hn hk
  have hs : secAt (headBytes n key) 0 = 1 :: (beBytes 2 n ++ (beBytes 2 key.length ++ (key ++ zeros (64 - (5 + key.length))))) := by
    unfold secAt
    rw [Nat.zero_mul, List.drop_zero, List.take_of_length_le (by omega), hl, head_h3, h3_eq n key hn hk]
    simp
  obtain ⟨z, hz⟩ : ∃ z, z = zeros (64 - (5 + key.length)) := ⟨_, rfl⟩
  have hzz : allZ z = true := by rw [hz]; exact allZ_zeros _
  rw [hs, ← hz]
  have e1 : eyeNum (1 :: (beBytes 2 n ++ (beBytes 2 key.length ++ (key ++ z)))) 0 1 = (1, beBytes 2 n ++ (beBytes 2 key.length ++ (key ++ z)), 0) := by
    unfold eyeNum
    rw [if_neg (by simp), if_neg (by simp)]
    rfl
  have e2 : eyeNum (beBytes 2 n ++ (beBytes 2 key.length ++ (key ++ z))) 0 2 = ((n : Int), beBytes 2 key.length ++ (key ++ z), 0) := by
    unfold eyeNum
    rw [if_neg (by simp), if_neg (by simp [beBytes_len]), List.take_left' (beBytes_len 2 n), List.drop_left' (beBytes_len 2 n), beNum_two n (by omega)]
  have e3 : eyeRaw (beBytes 2 key.length ++ (key ++ z)) 0 40 = (key, z, 0) := by
    unfold eyeRaw
    rw [if_neg (by simp), if_neg (by simp [beBytes_len]), List.take_left' (beBytes_len 2 _), List.drop_left' (beBytes_len 2 _), beNum_two _ (by omega), if_neg (by omega), if_neg (by simp), List.take_left' rfl, List.drop_left' rfl]
  unfold headOf
  rw [if_neg (by simp [allZ]), e1]
  dsimp only
  rw [e2]
  dsimp only
  rw [e3]
  dsimp only
  rw [if_neg (by simp [hzz]; omega)]
  simp
theorem head_none : headOf (secAt (zeros 64) 0) = some noRow := by rfl
theorem flat_full (b : List UInt8) : ∀ m, m * 64 ≤ b.length → flat m (secAt b) = b.take (m * 64) := by
  intro m
  induction m with
  | zero => intro _; simp [flat]
  | succ m ih =>
    intro h
    rw [flat_succ, ih (by omega)]
    unfold secAt
    have hl : ((b.drop (m * 64)).take 64).length = 64 := by rw [List.length_take, List.length_drop]; omega
    rw [hl]
    simp only [zeros, Nat.sub_self, List.replicate_zero, List.append_nil]
    rw [show (m + 1) * 64 = m * 64 + 64 by omega, List.take_add]
theorem flat_back (b : List UInt8) : (flat (nsec b.length) (secAt b)).take b.length = b := by
  by_cases h : b.length % 64 = 0
  · have hm : nsec b.length * 64 = b.length := by unfold nsec; omega
    rw [flat_full b _ (by omega), hm, List.take_length, List.take_length]
  · obtain ⟨m, hm⟩ : ∃ m, nsec b.length = m + 1 := ⟨nsec b.length - 1, by unfold nsec; omega⟩
    have hm1 : m * 64 ≤ b.length ∧ b.length < (m + 1) * 64 := by unfold nsec at hm; omega
    rw [hm, flat_succ, flat_full b m hm1.1]
    unfold secAt
    have hl : (b.drop (m * 64)).take 64 = b.drop (m * 64) := List.take_of_length_le (by rw [List.length_drop]; omega)
    rw [hl, ← List.append_assoc, List.take_append_drop, List.take_left' rfl]
theorem flat_congr (m : Nat) (f g : Nat → List UInt8) (h : ∀ k, k < m → f k = g k) : flat m f = flat m g := by
  induction m with
  | zero => rfl
  | succ m ih => rw [flat_succ, flat_succ, ih (fun k hk => h k (by omega)), h m (by omega)]

/-- Slots on a disk that lives, each told: used or not, and what it holds. -/
structure Told (s : SS) (u : Nat → Bool) (v : Nat → List UInt8) : Prop where
  live : s.d.Live
  room : s.first + 8 * s.rows.length ≤ s.d.n
  head : ∀ k, k < s.rows.length → headOf (s.d.now (s.first + 8 * k)) = some (s.rows.getD k noRow)
  used : ∀ k, k < s.rows.length → (s.rows.getD k noRow).used = u k
  data : ∀ k, k < s.rows.length → u k = true → s.data (k : Int) = v k
theorem Told.small {s : SS} {u : Nat → Bool} {v : Nat → List UInt8} (h : Told s u v) (k : Nat) (hk : k < s.rows.length) : (s.rows.getD k noRow).n ≤ 448 := (headOf_ok (h.head k hk)).1
theorem Told.get {s : SS} {u : Nat → Bool} {v : Nat → List UInt8} (h : Told s u v) (k : Nat) (hk : k < s.rows.length) : s.get (k : Int) = if u k then (v k, 0) else ([], 6) := by
  unfold SS.get
  have hh : s.has (k : Int) := ⟨by omega, by omega⟩
  have hr : s.row (k : Int) = s.rows.getD k noRow := rfl
  rw [if_neg (by simpa using hh), hr, h.used k hk]
  cases hu : u k with
  | false => simp
  | true =>
    rw [if_neg (by simp), h.live.1]
    simp [h.data k hk hu]
theorem set_getD (l : List SRow) (k j : Nat) (x : SRow) (hk : k < l.length) : (l.set k x).getD j noRow = if j = k then x else l.getD j noRow := by
  rw [List.getD_eq_getElem?_getD, List.getElem?_set, List.getD_eq_getElem?_getD]
  by_cases h : k = j
  · subst h; simp [hk]
  · rw [if_neg h, if_neg (fun e => h e.symm)]
/-- Put, where it may be. -/
theorem Told.put {s : SS} {u : Nat → Bool} {v : Nat → List UInt8} (h : Told s u v) (k : Nat) (hk : k < s.rows.length) (key b : List UInt8) (hu : u k = false) (hkey : key.length ≤ 40) (hb : b.length ≤ 448) :
    (s.put (k : Int) key b).1 = 0 ∧ Told (s.put (k : Int) key b).2 (fun j => if j = k then true else u j) (fun j => if j = k then b else v j) ∧ (s.put (k : Int) key b).2.rows.length = s.rows.length ∧ (s.put (k : Int) key b).2.first = s.first ∧ (s.put (k : Int) key b).2.d.n = s.d.n ∧ (s.put (k : Int) key b).2.d.since = [] := by
  have hh : s.has (k : Int) := ⟨by omega, by omega⟩
  have hr : s.row (k : Int) = s.rows.getD k noRow := rfl
  have hp : s.pos (k : Int) = s.first + 8 * k := rfl
  have hns : nsec b.length ≤ 7 := by unfold nsec; omega
  have hroom := h.room
  obtain ⟨a1, a2, a3, a4, a5⟩ := DS.lays_live (s.pos k + 1) b h.live (by rw [hp]; omega)
  have hh1 : nsec (headBytes b.length key).length = 1 := by rw [headBytes_len _ _ hb hkey]; unfold nsec; omega
  obtain ⟨b1, b2, b3, b4, b5⟩ := DS.lays_live (s.pos k) (headBytes b.length key) a2 (by rw [hh1, a3, hp]; omega)
  have hput : s.put (k : Int) key b = (0, { s with d := ((s.d.lays (s.pos k + 1) b).2.lays (s.pos k) (headBytes b.length key)).2, rows := s.rows.set k ⟨true, b.length, key⟩ }) := by
    unfold SS.put
    rw [if_neg (by simpa using hh), if_neg (by omega), hr, h.used k hk, hu, if_neg (by simp), if_neg (by rw [a1]; simp), if_neg (by rw [b1]; simp)]
    rfl
  rw [hput]
  generalize hd2 : ((s.d.lays (s.pos k + 1) b).2.lays (s.pos k) (headBytes b.length key)).2 = d2 at *
  have hnow : ∀ i, d2.now i = if i = s.first + 8 * k then secAt (headBytes b.length key) 0 else if s.first + 8 * k + 1 ≤ i ∧ i < s.first + 8 * k + 1 + nsec b.length then secAt b (i - (s.first + 8 * k + 1)) else s.d.now i := fun i => by
    rw [b4, a4, hh1, hp]
    by_cases hi : i = s.first + 8 * k
    · rw [if_pos (by omega), if_pos hi, hi, Nat.sub_self]
    · rw [if_neg (by omega), if_neg hi]
  refine ⟨rfl, ⟨b2, ?_, fun j hj => ?_, fun j hj => ?_, fun j hj huj => ?_⟩, by simp, rfl, by rw [← a3, ← b3], b5⟩
  · show s.first + 8 * (s.rows.set k _).length ≤ d2.n
    rw [List.length_set, b3, a3]
    exact hroom
  · replace hj : j < s.rows.length := by simpa using hj
    show headOf (d2.now (s.first + 8 * j)) = some ((s.rows.set k _).getD j noRow)
    rw [set_getD _ _ _ _ hk, hnow]
    by_cases hjk : j = k
    · subst hjk
      rw [if_pos rfl, if_pos rfl]
      exact head_back _ _ hb hkey
    · rw [if_neg (by omega), if_neg (by omega), if_neg hjk]
      exact h.head j hj
  · replace hj : j < s.rows.length := by simpa using hj
    show ((s.rows.set k _).getD j noRow).used = _
    rw [set_getD _ _ _ _ hk]
    by_cases hjk : j = k
    · rw [if_pos hjk, if_pos hjk]
    · rw [if_neg hjk, if_neg hjk]
      exact h.used j hj
  · replace hj : j < s.rows.length := by simpa using hj
    show (flat (nsec ((s.rows.set k _).getD j noRow).n) (fun i => d2.now (s.first + 8 * j + 1 + i))).take ((s.rows.set k _).getD j noRow).n = _
    rw [set_getD _ _ _ _ hk]
    by_cases hjk : j = k
    · subst hjk
      rw [if_pos rfl, if_pos rfl]
      dsimp only
      rw [flat_congr _ _ (secAt b) (fun i hi => by rw [hnow, if_neg (by omega), if_pos (by omega)]; congr 1; omega)]
      exact flat_back b
    · rw [if_neg hjk, if_neg hjk]
      try dsimp only at huj
      rw [if_neg hjk] at huj
      have hsm := h.small j hj
      rw [flat_congr _ _ (fun i => s.d.now (s.first + 8 * j + 1 + i)) (fun i hi => by
        have : i < 7 := by unfold nsec at hi; omega
        rw [hnow, if_neg (by omega), if_neg (by omega)])]
      exact h.data j hj huj
/-- Clear, where it may be. -/
theorem Told.clear {s : SS} {u : Nat → Bool} {v : Nat → List UInt8} (h : Told s u v) (k : Nat) (hk : k < s.rows.length) (hu : u k = true) :
    (s.clear (k : Int)).1 = 0 ∧ Told (s.clear (k : Int)).2 (fun j => if j = k then false else u j) v ∧ (s.clear (k : Int)).2.rows.length = s.rows.length ∧ (s.clear (k : Int)).2.first = s.first ∧ (s.clear (k : Int)).2.d.n = s.d.n ∧ (s.clear (k : Int)).2.d.since = [] := by
  have hh : s.has (k : Int) := ⟨by omega, by omega⟩
  have hr : s.row (k : Int) = s.rows.getD k noRow := rfl
  have hp : s.pos (k : Int) = s.first + 8 * k := rfl
  have hroom := h.room
  have hh1 : nsec (zeros 64).length = 1 := rfl
  obtain ⟨a1, a2, a3, a4, a5⟩ := DS.lays_live (s.pos k) (zeros 64) h.live (by rw [hp, hh1]; omega)
  have hcl : s.clear (k : Int) = (0, { s with d := (s.d.lays (s.pos k) (zeros 64)).2, rows := s.rows.set k noRow }) := by
    unfold SS.clear
    rw [if_neg (by simpa using hh), hr, h.used k hk, hu, if_neg (by simp), if_neg (by rw [a1]; simp)]
    rfl
  rw [hcl]
  generalize hd2 : (s.d.lays (s.pos k) (zeros 64)).2 = d2 at *
  have hnow : ∀ i, d2.now i = if i = s.first + 8 * k then secAt (zeros 64) 0 else s.d.now i := fun i => by
    rw [a4, hh1, hp]
    by_cases hi : i = s.first + 8 * k
    · rw [if_pos (by omega), if_pos hi, hi, Nat.sub_self]
    · rw [if_neg (by omega), if_neg hi]
  refine ⟨rfl, ⟨a2, ?_, fun j hj => ?_, fun j hj => ?_, fun j hj huj => ?_⟩, by simp, rfl, a3, a5⟩
  · show s.first + 8 * (s.rows.set k _).length ≤ d2.n
    rw [List.length_set, a3]
    exact hroom
  · replace hj : j < s.rows.length := by simpa using hj
    show headOf (d2.now (s.first + 8 * j)) = some ((s.rows.set k _).getD j noRow)
    rw [set_getD _ _ _ _ hk, hnow]
    by_cases hjk : j = k
    · subst hjk
      rw [if_pos rfl, if_pos rfl]
      exact head_none
    · rw [if_neg (by omega), if_neg hjk]
      exact h.head j hj
  · replace hj : j < s.rows.length := by simpa using hj
    show ((s.rows.set k _).getD j noRow).used = _
    rw [set_getD _ _ _ _ hk]
    by_cases hjk : j = k
    · rw [if_pos hjk, if_pos hjk]; rfl
    · rw [if_neg hjk, if_neg hjk]
      exact h.used j hj
  · replace hj : j < s.rows.length := by simpa using hj
    try dsimp only at huj
    by_cases hjk : j = k
    · rw [if_pos hjk] at huj; cases huj
    · rw [if_neg hjk] at huj
      show (flat (nsec ((s.rows.set k _).getD j noRow).n) (fun i => d2.now (s.first + 8 * j + 1 + i))).take ((s.rows.set k _).getD j noRow).n = _
      rw [set_getD _ _ _ _ hk, if_neg hjk]
      have hsm := h.small j hj
      rw [flat_congr _ _ (fun i => s.d.now (s.first + 8 * j + 1 + i)) (fun i hi => by
        have : i < 7 := by unfold nsec at hi; omega
        rw [hnow, if_neg (by omega)])]
      exact h.data j hj huj
end Go.Proofs.YtbkajnjboipbhaaGreatDoor.W

/- A store on a disk that lives, plainly. -/
namespace Go.Proofs.YtbkajnjboipbhaaGreatDoor.W
set_option linter.unusedVariables false
set_option linter.unusedSimpArgs false

/-! ### Formatting -/
theorem DS.wipe_live : ∀ (k a : Nat) (d : DS), d.Live → a + 8 * k ≤ d.n + 7 → (∀ i, d.now i = zeros 64) → (d.wipe k a).1 = 0 ∧ (d.wipe k a).2.Live ∧ (d.wipe k a).2.n = d.n ∧ (∀ i, (d.wipe k a).2.now i = zeros 64) ∧ (d.wipe k a).2.since = []
  | 0, a, d, hd, hn, hz => by
    obtain ⟨h1, h2, h3, h4, h5⟩ := d.sync_live hd
    exact ⟨h1, h2, h3, fun i => by show (d.sync).2.now i = _; rw [h4, hz], h5⟩
  | k + 1, a, d, hd, hn, hz => by
    obtain ⟨h1, h2, h3, h4⟩ := DS.write_live hd a (zeros 64) (by omega) (by simp [zeros])
    obtain ⟨i1, i2, i3, i4, i5⟩ := DS.wipe_live k (a + 8) _ h2 (by rw [h3]; omega) (fun i => by
      rw [h4]; unfold upd
      split
      · rfl
      · exact hz i)
    unfold DS.wipe
    rw [if_neg (by rw [h1]; simp)]
    exact ⟨i1, i2, by rw [i3, h3], i4, i5⟩
theorem DS.sign_live {d : DS} (hd : d.Live) (n : UInt8) (hn : 1 ≤ d.n) : (d.sign n).1 = 0 ∧ (d.sign n).2.Live ∧ (d.sign n).2.n = d.n ∧ (d.sign n).2.now = upd d.now 0 (n :: zeros 63) ∧ (d.sign n).2.since = [] := by
  obtain ⟨h1, h2, h3, h4⟩ := DS.write_live hd 0 (n :: zeros 63) (by omega) (by simp [zeros])
  obtain ⟨g1, g2, g3, g4, g5⟩ := DS.sync_live h2
  unfold DS.sign
  rw [show ((0 : Nat) : Int) = 0 from rfl] at *
  rw [if_neg (by rw [h1]; simp)]
  exact ⟨g1, g2, by rw [g3, h3], by rw [g4, h4], g5⟩
theorem rowsFrom_zero {d : DS} {first : Nat} (h : ∀ i, 1 ≤ i → d.now i = zeros 64) (hf : 1 ≤ first) : ∀ m k, rowsFrom d first m k = some (List.replicate m noRow)
  | 0, _ => rfl
  | m + 1, k => by
    unfold rowsFrom
    rw [h _ (by omega)]
    have : headOf (zeros 64) = some noRow := by rfl
    rw [this]
    dsimp only
    rw [rowsFrom_zero h hf m (k + 1)]
    rfl
/-- A new disk, formatted. -/
theorem format_new (n : Nat) (h9 : 9 ≤ n) : ∃ d, (DS.new n).format = ((0, some ⟨⟨d, 1, List.replicate ((n - 1) / 8) noRow⟩, false⟩), d) ∧ d.Live ∧ d.n = n ∧ d.since = [] ∧ (∀ i, 1 ≤ i → d.now i = zeros 64) ∧ d.ops ≤ n ∧ d.now 0 = 1 :: zeros 63 := by
  have hl : (DS.new n).Live := ⟨rfl, by show (-1 : Int) < 0; omega⟩
  obtain ⟨a1, a2, a3, a4, a5⟩ := DS.wipe_live ((n - 1) / 8) 1 (DS.new n) hl (by show _ ≤ n + 7; omega) (fun i => rfl)
  have a3' : ((DS.new n).wipe ((n - 1) / 8) 1).2.n = n := a3
  obtain ⟨w1, w2, w3⟩ := DS.wipe_ok ((n - 1) / 8) 1 (DS.new n)
  obtain ⟨b1, b2, b3, b4, b5⟩ := DS.sign_live a2 1 (by rw [a3']; omega)
  obtain ⟨s1, s2, s3⟩ := ((DS.new n).wipe ((n - 1) / 8) 1).2.sign_ok 1
  have hw0 : (DS.new n).ops = 0 := rfl
  obtain ⟨d, hd⟩ : ∃ d, d = (((DS.new n).wipe ((n - 1) / 8) 1).2.sign 1).2 := ⟨_, rfl⟩
  have hfm : (DS.new n).format = if ((DS.new n).wipe ((n - 1) / 8) 1).1 ≠ 0 then ((((DS.new n).wipe ((n - 1) / 8) 1).1, none), ((DS.new n).wipe ((n - 1) / 8) 1).2) else if (((DS.new n).wipe ((n - 1) / 8) 1).2.sign 1).1 ≠ 0 then (((((DS.new n).wipe ((n - 1) / 8) 1).2.sign 1).1, none), (((DS.new n).wipe ((n - 1) / 8) 1).2.sign 1).2) else ((((DS.new n).wipe ((n - 1) / 8) 1).2.sign 1).2.stOpen, (((DS.new n).wipe ((n - 1) / 8) 1).2.sign 1).2) := by
    unfold DS.format
    rw [if_neg (by show ¬ n < 9; omega)]
    rfl
  rw [hfm, if_neg (by rw [a1]; simp), if_neg (by rw [b1]; simp), ← hd]
  rw [← hd] at b2 b3 b4 b5 s2
  have hn : d.n = n := by rw [b3, a3']
  have h0 : d.now 0 = 1 :: zeros 63 := by rw [b4]; unfold upd; rw [if_pos rfl]
  have h1 : ∀ i, 1 ≤ i → d.now i = zeros 64 := fun i hi => by rw [b4]; unfold upd; rw [if_neg (by omega), a4]
  refine ⟨d, ?_, b2, hn, b5, h1, by omega, h0⟩
  have hsl : d.slots 1 = (0, some ⟨d, 1, List.replicate ((n - 1) / 8) noRow⟩) := by
    unfold DS.slots
    rw [if_neg (by omega), if_neg (by rw [b2.1]; simp; omega), show (1 : Int).toNat = 1 from rfl, rowsFrom_zero h1 (by omega), hn]
  have hop : d.stOpen = (0, some ⟨⟨d, 1, List.replicate ((n - 1) / 8) noRow⟩, false⟩) := by
    unfold DS.stOpen
    rw [if_neg (by omega), if_neg (by rw [b2.1]; simp), h0]
    rw [if_neg (by
      rintro (⟨h, _⟩ | h)
      · exact h rfl
      · rw [show (1 :: zeros 63).drop 1 = zeros 63 from rfl, allZ_zeros] at h; cases h), hsl]
    dsimp only
    rw [if_pos (stKeys_iff.2 (fun r hr hu => by
      obtain rfl := List.eq_of_mem_replicate hr
      simp [noRow] at hu))]
    rfl
  rw [hop]

/-! ### A store whose fragments are known -/
abbrev Frag := Id → Option (List UInt8)
def setF (F : Frag) (x : Id) (o : Option (List UInt8)) : Frag := fun y => if y = x then o else F y
theorem setF_self (F : Frag) (x : Id) (o : Option (List UInt8)) : setF F x o x = o := if_pos rfl
theorem setF_other (F : Frag) {x y : Id} (o : Option (List UInt8)) (h : y ≠ x) : setF F x o y = F y := if_neg h
structure Kept (t : Sto) (F : Frag) : Prop where
  told : ∃ u v, Told t.s u v ∧ ∀ x, mayId x = true → (F x = none ∧ t.at x = []) ∨ ∃ i b, F x = some b ∧ t.at x = [i] ∧ v i = b
  out : ∀ x, mayId x = false → F x = none
  keys : keysOk t.s.rows
  since : t.s.d.since = []
  first : t.s.first = 1
theorem Kept.live {t : Sto} {F : Frag} (h : Kept t F) : t.s.d.Live := by obtain ⟨u, v, h1, _⟩ := h.told; exact h1.live
theorem Kept.room {t : Sto} {F : Frag} (h : Kept t F) : t.s.first + 8 * t.s.rows.length ≤ t.s.d.n := by obtain ⟨u, v, h1, _⟩ := h.told; exact h1.room
theorem Kept.new (n : Nat) (h9 : 9 ≤ n) : ∃ t d, (DS.new n).format = ((0, some t), d) ∧ Kept t (fun _ => none) ∧ t.s.d = d ∧ t.s.rows = List.replicate ((n - 1) / 8) noRow ∧ d.n = n ∧ d.ops ≤ n ∧ t.whole = false := by
  obtain ⟨d, h1, h2, h3, h4, h5, h6, _⟩ := format_new n h9
  refine ⟨_, d, h1, ⟨⟨fun _ => false, fun _ => [], ⟨h2, by show 1 + 8 * (List.replicate _ noRow).length ≤ d.n; rw [List.length_replicate]; omega, fun k hk => ?_, fun k hk => ?_, fun k hk hu => by cases hu⟩, fun x hx => .inl ⟨rfl, ?_⟩⟩, fun _ _ => rfl, fun r hr hu => ?_, h4, rfl⟩, rfl, rfl, h3, h6, rfl⟩
  · rw [List.length_replicate] at hk
    show headOf (d.now (1 + 8 * k)) = _
    rw [h5 _ (by omega), List.getD_eq_getElem?_getD, List.getElem?_replicate, if_pos hk]
    rfl
  · rw [List.length_replicate] at hk
    show ((List.replicate _ noRow).getD k noRow).used = false
    rw [List.getD_eq_getElem?_getD, List.getElem?_replicate, if_pos hk]
    rfl
  · rw [Sto.at_may hx]
    cases hu : upto (List.replicate ((n - 1) / 8) noRow) (List.replicate ((n - 1) / 8) noRow).length (idKey x) with
    | nil => rfl
    | cons j r =>
      have hj : j ∈ upto (List.replicate ((n - 1) / 8) noRow) (List.replicate ((n - 1) / 8) noRow).length (idKey x) := by rw [hu]; simp
      obtain ⟨a, b, _⟩ := upto_mem.1 hj
      rw [List.length_replicate] at a
      rw [List.getD_eq_getElem?_getD, List.getElem?_replicate, if_pos a] at b
      simp [noRow] at b
  · obtain rfl := List.eq_of_mem_replicate hr
    simp [noRow] at hu
theorem Kept.at_none {t : Sto} {F : Frag} (h : Kept t F) {x : Id} (hx : F x = none) : t.at x = [] := by
  by_cases hm : mayId x = true
  · obtain ⟨u, v, _, h2⟩ := h.told
    rcases h2 x hm with ⟨_, h3⟩ | ⟨i, b, h3, _⟩
    · exact h3
    · rw [hx] at h3; cases h3
  · exact Sto.at_not (by simpa using hm)
theorem Kept.at_some {t : Sto} {F : Frag} (h : Kept t F) {x : Id} {b : List UInt8} (hx : F x = some b) : mayId x = true ∧ t.at x ≠ [] := by
  by_cases hm : mayId x = true
  · obtain ⟨u, v, _, h2⟩ := h.told
    rcases h2 x hm with ⟨h3, _⟩ | ⟨i, b', h3, h4, _⟩
    · rw [hx] at h3; cases h3
    · exact ⟨hm, by rw [h4]; simp⟩
  · rw [h.out x (by simpa using hm)] at hx; cases hx
/-- Get. -/
theorem Kept.get {t : Sto} {F : Frag} (h : Kept t F) (x : Id) : t.get x = if mayId x = false then (([] : List UInt8), (1 : Int)) else match F x with | none => ([], 6) | some b => (b, 0) := by
  unfold Sto.get
  by_cases hm : mayId x = true
  · rw [if_neg (by simp [hm]), if_neg (by simp [hm])]
    obtain ⟨u, v, h1, h2⟩ := h.told
    rcases h2 x hm with ⟨h3, h4⟩ | ⟨i, b, h3, h4, h5⟩
    · rw [h3, h4]
    · rw [h3, h4]
      dsimp only
      have hi : i ∈ upto t.s.rows t.s.rows.length (idKey x) := by rw [← Sto.at_may hm, h4]; simp
      obtain ⟨a, b1, _⟩ := upto_mem.1 hi
      rw [h1.get i a, if_pos (by rw [← h1.used i a]; exact b1), h5]
  · rw [if_pos (by simpa using hm), if_pos (by simpa using hm)]
theorem Kept.mem_ids {t : Sto} {F : Frag} (h : Kept t F) (x : Id) : x ∈ t.ids ↔ (F x).isSome = true := by
  rw [Sto.mem_ids h.keys]
  cases hx : F x with
  | none => simp [h.at_none hx]
  | some b => simp [(h.at_some hx).2]
theorem SS.put_ok (s : SS) (i : Int) (key b : List UInt8) : (s.put i key b).2.d.ops ≤ s.d.ops + 20 ∧ (s.put i key b).2.d.since.length ≤ s.d.since.length + 20 ∧ (s.put i key b).2.d.n = s.d.n ∧ (s.put i key b).2.first = s.first ∧ (s.put i key b).2.rows.length = s.rows.length := by
  unfold SS.put
  split
  · exact ⟨Nat.le_add_right _ _, Nat.le_add_right _ _, rfl, rfl, rfl⟩
  · split
    · exact ⟨Nat.le_add_right _ _, Nat.le_add_right _ _, rfl, rfl, rfl⟩
    · rename_i h1 h2
      obtain ⟨a1, a2, a3⟩ := s.d.lays_ok (s.pos i + 1) b
      obtain ⟨b1, b2, b3⟩ := (s.d.lays (s.pos i + 1) b).2.lays_ok (s.pos i) (headBytes b.length key)
      have hn1 : nsec b.length ≤ 7 := by unfold nsec; omega
      have hn2 : nsec (headBytes b.length key).length ≤ 1 := by rw [headBytes_len _ _ (by omega) (by omega)]; unfold nsec; omega
      split
      · exact ⟨Nat.le_add_right _ _, Nat.le_add_right _ _, rfl, rfl, rfl⟩
      · split
        · exact ⟨by dsimp only; omega, by dsimp only; omega, a1, rfl, rfl⟩
        · split
          · exact ⟨by dsimp only; omega, by dsimp only; omega, by dsimp only; rw [b1, a1], rfl, rfl⟩
          · exact ⟨by dsimp only; omega, by dsimp only; omega, by dsimp only; rw [b1, a1], rfl, by dsimp only; rw [List.length_set]⟩
theorem Sto.put_ok (t : Sto) (x : Id) (b : List UInt8) : (t.put x b).2.s.d.ops ≤ t.s.d.ops + 20 ∧ (t.put x b).2.s.d.since.length ≤ t.s.d.since.length + 20 ∧ (t.put x b).2.s.d.n = t.s.d.n ∧ (t.put x b).2.s.rows.length = t.s.rows.length ∧ (t.put x b).2.whole = t.whole := by
  have h0 : t.s.d.ops ≤ t.s.d.ops + 20 ∧ t.s.d.since.length ≤ t.s.d.since.length + 20 ∧ t.s.d.n = t.s.d.n ∧ t.s.rows.length = t.s.rows.length ∧ t.whole = t.whole := ⟨Nat.le_add_right _ _, Nat.le_add_right _ _, rfl, rfl, rfl⟩
  unfold Sto.put
  split
  · exact h0
  · split
    · exact h0
    · split
      · split
        · exact h0
        · split
          · exact h0
          · exact h0
      · split
        · exact h0
        · obtain ⟨a1, a2, a3, a4, a5⟩ := t.s.put_ok t.s.free (idKey x) b
          exact ⟨a1, a2, a3, a5, rfl⟩
theorem countP_put {l : List SRow} {i : Nat} (r : SRow) (hi : i < l.length) (f : SRow → Bool) : (l.set i r).countP f + (if f (l.getD i noRow) then 1 else 0) = l.countP f + if f r then 1 else 0 := by
  induction l generalizing i with
  | nil => simp at hi
  | cons a l ih =>
    cases i with
    | zero =>
      simp only [List.set_cons_zero, List.countP_cons, List.getD_cons_zero]
      omega
    | succ i =>
      have := ih (i := i) (by simpa using hi)
      simp only [List.set_cons_succ, List.countP_cons, List.getD_cons_succ]
      omega
/-- Put, where there is none and there is room. -/
theorem Kept.put_new {t : Sto} {F : Frag} (h : Kept t F) {x : Id} (hm : mayId x = true) (hF : F x = none) {b : List UInt8} (hb : b.length ≤ 448) (hr : 0 < t.room) : (t.put x b).1 = 0 ∧ Kept (t.put x b).2 (setF F x (some b)) ∧ (t.put x b).2.room + 1 = t.room := by
  have hfree : ¬ t.s.free < 0 := by
    intro hf
    unfold SS.free at hf
    rcases rowFree_spec t.s.rows 0 with ⟨_, h2⟩ | ⟨n, h1, h2, h3, _⟩
    · unfold Sto.room at hr
      obtain ⟨r, hr1, hr2⟩ := List.countP_pos_iff.1 hr
      rw [h2 r hr1] at hr2; simp at hr2
    · rw [h2] at hf; omega
  obtain ⟨i, hfi, hil, hiu⟩ := SS.free_ok hfree
  have hat := h.at_none hF
  obtain ⟨u, v, htold, hall⟩ := h.told
  have hui : u i = false := by rw [← htold.used i hil]; exact hiu
  obtain ⟨p1, p2, p3, p4, p5, p6⟩ := htold.put i hil (idKey x) b hui (by rw [idKey_len]; omega) hb
  have hput : t.put x b = ((t.s.put (i : Int) (idKey x) b).1, { t with s := (t.s.put (i : Int) (idKey x) b).2 }) := by
    unfold Sto.put
    rw [if_neg (by simp [hm]), if_neg (by omega), hat]
    dsimp only
    rw [if_neg hfree, hfi]
  obtain ⟨_, _, hrows⟩ := SS.put_done p1
  rw [hput]
  have hrows' : (t.s.put (i : Int) (idKey x) b).2.rows = t.s.rows.set i ⟨true, b.length, idKey x⟩ := by rw [hrows]; simp
  have hat2 : upto t.s.rows t.s.rows.length (idKey x) = [] := by rw [← Sto.at_may hm]; exact hat
  have hat' : ∀ y, mayId y = true → Sto.at { t with s := (t.s.put (i : Int) (idKey x) b).2 } y = if y = x then [i] else t.at y := fun y hy => by
    rw [Sto.at_may hy, Sto.at_may hy]
    show upto (t.s.put (i : Int) (idKey x) b).2.rows (t.s.put (i : Int) (idKey x) b).2.rows.length (idKey y) = _
    rw [hrows', upto_put hil hiu hat2]
    by_cases e : y = x
    · subst e; rw [if_pos rfl, if_pos rfl]
    · rw [if_neg e, if_neg (fun h => e (idKey_inj hy hm h))]
  refine ⟨p1, ⟨⟨_, _, p2, fun y hy => ?_⟩, fun y hy => ?_, ?_, p6, by show (t.s.put (i : Int) (idKey x) b).2.first = 1; rw [p4]; exact h.first⟩, ?_⟩
  · rw [hat' y hy]
    by_cases e : y = x
    · subst e
      rw [setF_self, if_pos rfl]
      exact .inr ⟨i, b, rfl, rfl, by simp⟩
    · rw [setF_other _ _ e, if_neg e]
      rcases hall y hy with h1 | ⟨j, c, h1, h2, h3⟩
      · exact .inl h1
      · refine .inr ⟨j, c, h1, h2, ?_⟩
        have hj : j ∈ upto t.s.rows t.s.rows.length (idKey y) := by rw [← Sto.at_may hy, h2]; simp
        obtain ⟨_, hju, _⟩ := upto_mem.1 hj
        have : j ≠ i := fun e => by subst e; rw [hiu] at hju; cases hju
        simp only [this, if_false]
        exact h3
  · have : y ≠ x := fun e => by subst e; rw [hm] at hy; cases hy
    rw [setF_other _ _ this]
    exact h.out y hy
  · show keysOk (t.s.put (i : Int) (idKey x) b).2.rows
    rw [hrows']
    exact h.keys.set i (fun _ => (un_key hm).2)
  · show (t.s.put (i : Int) (idKey x) b).2.rows.countP (fun r => !r.used) + 1 = t.s.rows.countP (fun r => !r.used)
    rw [hrows']
    have := countP_put ⟨true, b.length, idKey x⟩ hil (fun r => !r.used)
    simp only [hiu, Bool.not_false, if_true, Bool.not_true, Bool.false_eq_true, if_false, Nat.add_zero] at this
    exact this
/-- Put, where there is no room. -/
theorem Kept.put_full {t : Sto} {F : Frag} (h : Kept t F) {x : Id} (hm : mayId x = true) (hF : F x = none) {b : List UInt8} (hb : b.length ≤ 448) (hr : t.room = 0) : t.put x b = (5, t) := by
  have hfree : t.s.free < 0 := by
    unfold SS.free
    rcases rowFree_spec t.s.rows 0 with ⟨h1, _⟩ | ⟨n, h1, h2, h3, _⟩
    · rw [h1]; omega
    · unfold Sto.room at hr
      have := List.countP_eq_zero.1 hr _ (row_mem h1)
      rw [h3] at this; simp at this
  unfold Sto.put
  rw [if_neg (by simp [hm]), if_neg (by omega), h.at_none hF]
  dsimp only
  rw [if_pos hfree]
/-- Put, where there is one. -/
theorem Kept.put_there {t : Sto} {F : Frag} (h : Kept t F) {x : Id} {c : List UInt8} (hF : F x = some c) (b : List UInt8) (hb : b.length ≤ 448) : t.put x b = (if c = b then 0 else 7, t) := by
  obtain ⟨hm, hne⟩ := h.at_some hF
  have hg := h.get x
  rw [if_neg (by simp [hm]), hF] at hg
  unfold Sto.get at hg
  rw [if_neg (by simp [hm])] at hg
  unfold Sto.put
  rw [if_neg (by simp [hm]), if_neg (by omega)]
  cases hat : t.at x with
  | nil => exact absurd hat hne
  | cons i r =>
    rw [hat] at hg
    dsimp only at hg ⊢
    rw [hg, if_neg (by simp)]
    split <;> rfl
theorem Kept.put_bad {t : Sto} {F : Frag} (h : Kept t F) {x : Id} {b : List UInt8} (hm : mayId x = false ∨ 448 < b.length) : (t.put x b).1 ≠ 0 ∧ (t.put x b).2 = t := by
  unfold Sto.put
  by_cases h1 : mayId x = false
  · rw [if_pos h1]; exact ⟨by simp, rfl⟩
  · rw [if_neg h1, if_pos (by rcases hm with h2 | h2; exact absurd h2 h1; exact h2)]
    exact ⟨by simp, rfl⟩
/-- Delete. -/
theorem Kept.del {t : Sto} {F : Frag} (h : Kept t F) {x : Id} (hm : mayId x = true) : (t.del x).1 = 0 ∧ Kept (t.del x).2 (setF F x none) ∧ (t.del x).2.room = t.room + (if (F x).isSome then 1 else 0) ∧ (F x = none → (t.del x).2 = t) ∧ (t.del x).2.s.d.n = t.s.d.n ∧ (t.del x).2.s.rows.length = t.s.rows.length := by
  obtain ⟨u, v, htold, hall⟩ := h.told
  unfold Sto.del
  rw [if_neg (by simp [hm])]
  rcases hall x hm with ⟨h1, h2⟩ | ⟨i, b, h1, h2, h3⟩
  · rw [h2, h1]
    have e : setF F x none = F := by
      funext y
      unfold setF
      split
      · rename_i e; rw [e, h1]
      · rfl
    rw [e]
    exact ⟨rfl, h, rfl, fun _ => rfl, rfl, rfl⟩
  · have hi : i ∈ upto t.s.rows t.s.rows.length (idKey x) := by rw [← Sto.at_may hm, h2]; simp
    obtain ⟨hil, hiu, hik⟩ := upto_mem.1 hi
    have hui : u i = true := by rw [← htold.used i hil]; exact hiu
    obtain ⟨p1, p2, p3, p4, p5, p6⟩ := htold.clear i hil hui
    have hcl : t.s.clears [i] = (0, (t.s.clear (i : Int)).2) := by
      unfold SS.clears
      rw [if_neg (by rw [p1]; simp)]
      rfl
    rw [h2, hcl, h1]
    obtain ⟨_, _, hrows⟩ := SS.clear_done p1
    have hrows' : (t.s.clear (i : Int)).2.rows = t.s.rows.set i noRow := by rw [hrows]; simp
    have hat2 : upto t.s.rows t.s.rows.length (idKey x) = [i] := by rw [← Sto.at_may hm]; exact h2
    have hat' : ∀ y, mayId y = true → Sto.at { t with s := (t.s.clear (i : Int)).2 } y = if y = x then [] else t.at y := fun y hy => by
      rw [Sto.at_may hy, Sto.at_may hy]
      show upto (t.s.clear (i : Int)).2.rows (t.s.clear (i : Int)).2.rows.length (idKey y) = _
      rw [hrows', upto_clear hat2]
      by_cases e : y = x
      · subst e; rw [if_pos rfl, if_pos rfl]
      · rw [if_neg e, if_neg (fun h => e (idKey_inj hy hm h))]
    refine ⟨rfl, ⟨⟨_, _, p2, fun y hy => ?_⟩, fun y hy => ?_, ?_, p6, by show (t.s.clear (i : Int)).2.first = 1; rw [p4]; exact h.first⟩, ?_, (fun h => by cases h), p5, p3⟩
    · rw [hat' y hy]
      by_cases e : y = x
      · subst e
        rw [setF_self, if_pos rfl]
        exact .inl ⟨rfl, rfl⟩
      · rw [setF_other _ _ e, if_neg e]
        exact hall y hy
    · have : y ≠ x := fun e => by subst e; rw [hm] at hy; cases hy
      rw [setF_other _ _ this]
      exact h.out y hy
    · show keysOk (t.s.clear (i : Int)).2.rows
      rw [hrows']
      exact h.keys.set i (fun h => by simp [noRow] at h)
    · show (t.s.clear (i : Int)).2.rows.countP (fun r => !r.used) = t.s.rows.countP (fun r => !r.used) + _
      rw [hrows']
      have := countP_put noRow hil (fun r => !r.used)
      rw [hiu] at this
      simpa [noRow] using this
theorem Kept.del_bad {t : Sto} {x : Id} (hm : mayId x = false) : t.del x = (1, t) := by
  unfold Sto.del
  rw [if_pos hm]
end Go.Proofs.YtbkajnjboipbhaaGreatDoor.W

/- The reference's Same. -/
namespace Go.Proofs.YtbkajnjboipbhaaGreatDoor.W
open Go.RowKit
set_option linter.unusedVariables false
set_option linter.unusedSimpArgs false

theorem same_of (l m : List UInt8) (h : l.length = m.length) (hq : ∀ q, q < l.length → l.getD q 0 = m.getD q 0) : l = m := by
  apply List.ext_getElem h
  intro i h1 h2
  have := hq i h1
  simpa [List.getD_eq_getElem?_getD, List.getElem?_eq_getElem h1, List.getElem?_eq_getElem h2] using this
theorem bv_neq (a b : UInt8) (h : a ≠ b) : (((a.toNat : Int) != (b.toNat : Int)) = true) := by
  rw [bne_iff_ne]
  intro e
  exact h (UInt8.toNat_inj.1 (by omega))

set_option maxHeartbeats 4000000 in
set_option maxRecDepth 100000 in
/-- Same. -/
theorem same_any (u v : Value) (l m : List UInt8) (w : World) (hu : BytesAt w u l) (hv : BytesAt w v m) (hl : l.length ≤ 1000000000) (hm : m.length ≤ 1000000000) :
    Calls Tryz.prog 14 #[u, v] w fun e w' => e = .returned (.bool (decide (l = m))) ∧ ∃ n, w' = w.drewN n := by
  obtain ⟨au, cu, rfl, hlu, _, hu⟩ := hu
  obtain ⟨av, cv, rfl, hlv, _, hv⟩ := hv
  obtain ⟨d, hd⟩ : ∃ d, d = decide (l = m) := ⟨_, rfl⟩
  rw [← hd]
  have HD := Lib.hid hd
  clear hd
  have HU := Lib.hid hu
  have HV := Lib.hid hv
  clear hu hv
  by_cases hlen : l.length = m.length
  · have hmz : ((l.length : Int) != (m.length : Int)) = false := by rw [hlen]; simp
    have HL := Lib.hid hlen
    have hml : m.length = l.length := hlen.symm
    rw [hml]
    clear hlen hml hmz
    go_enter Tryz.func14, Tryz.ntmps14
    go_wp2
    go_loopg [5] l.length (fun g' s5 wr => ∃ (j n : Nat), s5 = .int .i64 j ∧ j ≤ l.length ∧ l.length ≤ j + g' ∧ Hid (∀ q, q < j → l.getD q 0 = m.getD q 0) ∧ wr = w.drewN n)
    case atStart => exact ⟨0, 0, rfl, by omega, by omega, fun q hq => absurd hq (by omega), rfl⟩
    case round =>
      obtain ⟨j, n, rfl, hj, hjg, HQ, rfl⟩ := hrel
      by_cases hlt : j < l.length
      · rcases HU.out with ⟨h0, _⟩ | ⟨gu, ou, rfl, hcu⟩
        · rw [h0] at hlt; simp at hlt
        rcases HV.out with ⟨h0, _⟩ | ⟨gv, ov, rfl, hcv⟩
        · have := HL.out; rw [h0, List.length_nil] at this; omega
        obtain ⟨x, hx, c0⟩ : ∃ x, l.getD j 0 = x ∧ w.cell? ⟨gu, ou + j, none⟩ = some (.int .u8 (x.toNat : Int)) := ⟨_, rfl, hcu j hlt⟩
        obtain ⟨y, hy, c1⟩ : ∃ y, m.getD j 0 = y ∧ w.cell? ⟨gv, ov + j, none⟩ = some (.int .u8 (y.toNat : Int)) := ⟨_, rfl, hcv j (by rw [← HL.out]; exact hlt)⟩
        have HX := Lib.hid hx
        have HY := Lib.hid hy
        have hjz : (j : Int) < (l.length : Int) := by omega
        have hjz0 : (0 : Int) ≤ (j : Int) := by omega
        have hjz1 : (j : Int).toNat = j := by omega
        clear hcu hcv hx hy
        by_cases hxy : x = y
        · subst hxy
          go_wp2
          go_quiet (fail)
          go_wp2
          go_roundg (gk - 1)
          case measure => omega
          case rel =>
            refine ⟨j + 1, _, by go_num, by omega, by omega, ?_, rfl⟩
            intro q hq
            rcases Nat.lt_or_ge q j with h | h
            · exact HQ.out q h
            · obtain rfl : q = j := by omega
              rw [HX.out, HY.out]
        · have hne := bv_neq x y hxy
          have hd : Hid (d = false) := Lib.hid (by
            rw [HD.out, decide_eq_false_iff_not]
            intro e
            have h1 := HX.out
            rw [e] at h1
            exact hxy (h1.symm.trans HY.out))
          clear hxy
          go_wp2
          go_quiet (fail)
          go_wp2
          go_ret
          exact ⟨ret_bool hd.out.symm, _, World.drewN_drewN ..⟩
      · have hd : Hid (d = true) := Lib.hid (by
          rw [HD.out, decide_eq_true_iff]
          exact same_of l m HL.out (fun q hq => HQ.out q (by omega)))
        go_wp2
        go_ret
        exact ⟨ret_bool hd.out.symm, _, rfl⟩
  · have hmz : ((l.length : Int) != (m.length : Int)) = true := by rw [bne_iff_ne]; omega
    have hd : Hid (d = false) := Lib.hid (by
      rw [HD.out, decide_eq_false_iff_not]
      intro e
      exact hlen (by rw [e]))
    clear hlen
    go_enter Tryz.func14, Tryz.ntmps14
    go_wp2
    go_ret
    exact ⟨ret_bool hd.out.symm, 0, rfl⟩
end Go.Proofs.YtbkajnjboipbhaaGreatDoor.W

/- The law's own: equality of ids, Id, a store of its own. -/
namespace Go.Proofs.YtbkajnjboipbhaaGreatDoor.W
open Go.RowKit
set_option linter.unusedVariables false
set_option linter.unusedSimpArgs false

theorem lits_id3 (m : Nat) (x : Id) : Tryz.prog.keyLits (m + 3) 25 (idC x).toList = litD (idC x).toList := by
  unfold Program.keyLits
  simp only [Tryz.underlying25, cells_id]
  rw [if_pos ⟨rfl, by kernel_rfl⟩]
  simp only [List.mapM_cons, List.mapM_nil, cells_intD, cells_stripe, List.drop_zero, List.drop_succ_cons, List.take_succ_cons, List.take_zero, lits_int, lits_stripe, litD]
  generalize litI (.int .i64 x.c) = a
  generalize litI (.int .i64 x.l) = b
  generalize litI (.int .i64 x.n) = c
  generalize litI (.int .i64 x.i) = d
  cases a <;> cases b <;> cases c <;> cases d <;> simp
theorem litD_ok {x : Id} (h : okD x) : litD (idC x).toList = some [.int .i64 x.c, .int .i64 x.l, .int .i64 x.n, .int .i64 x.i] := by
  obtain ⟨h1, h2, h3, h4⟩ := h
  simp [litD, litI_ok h1, litI_ok h2, litI_ok h3, litI_ok h4]
theorem eq_id (x y : Id) (hx : okD x) (hy : okD y) (w : World) : (binOp .eql 25 (idV x) (idV y)).run Tryz.prog w = .ok (.bool (decide (x = y))) w := by
  rw [run_eql_struct]
  obtain ⟨r, h1, h2⟩ := run_equalIn_deep (P := Tryz.prog) 9997 3 25 (by kernel_rfl) w 3 3 (idV x) (idV y) _ _
    (by simp [Value.formed, Tryz.underlying25, cells_id]) (by simp [Value.formed, Tryz.underlying25, cells_id])
    (by simpa [Value.cells] using (lits_id3 0 x).trans (litD_ok hx)) (by simpa [Value.cells] using (lits_id3 0 y).trans (litD_ok hy))
  have hr : r = decide (x = y) := by
    by_cases e : x = y
    · rw [decide_eq_true e]; exact h2.2 (by rw [e])
    · rw [decide_eq_false e]
      cases r with
      | false => rfl
      | true =>
        refine absurd ?_ e
        have := h2.1 rfl
        obtain ⟨a, b, c, d⟩ := x
        obtain ⟨a', b', c', d'⟩ := y
        simpa using this
  rw [← hr]
  have h3 : (Op.equalIn 10000 25 (idV x) (idV y)).run Tryz.prog w = .ok r w := h1
  rw [h3]
  rfl
theorem ret_id1 {fn : Func} {p : Tmp} (h : fn.results = #[.cell p 25]) (tmps : Array Value) {w : World} {b t : Nat} {x : Id} (hp : tmps.getD p undef = .pointer (some ⟨b, 0, none⟩)) (hb : w.heap[b]? = some (.cells (idC x) t (0, 0))) :
    (results fn tmps).run Tryz.prog w = .ok (idV x) w := by
  have hl := run_loadVar_row (P := Tryz.prog) w b t 25 (idC x) (0, 0) _ hb Tryz.underlying25 rfl (by rw [idSize]; rfl)
  have e : (results fn tmps).run Tryz.prog w = ((asAddr (tmps.getD p undef)).run Tryz.prog w).andThen fun a w₁ => (loadVar 25 a).run Tryz.prog w₁ := by
    simp only [results, h]
    simp [Sem.run_bind, Result.andThen]
  rw [e, hp]
  simp only [asAddr, Sem.run_pure, Result.andThen_ok, hl]
set_option maxHeartbeats 2000000 in
set_option maxRecDepth 100000 in
theorem lawid_any (c l n i : Int) (w : World) : Calls Tryz.prog 31 #[.int .i64 c, .int .i64 l, .int .i64 n, .int .i64 i] w fun e w' => e = .returned (.agg #[.int .i64 c, .int .i64 l, .int .i64 n, .int .i64 i]) ∧ Chg [] w w' := by
  go_enter Tryz.func31, Tryz.ntmps31
  go_wp2_with fail
  have HW := Lib.hid (show (w.alloc (.cells (idC ⟨c, l, n, i⟩) 25)).heap[w.heap.size]? = some (.cells (idC ⟨c, l, n, i⟩) 25 (0, 0)) from heap_alloc_new w _)
  refine bodyPost_ret (ret_id1 rfl _ rfl HW.out) rfl ?_
  exact ⟨rfl, (Chg.refl [] w).alloc _⟩

/-! ### A store of the law's own -/
def Kp (X : List Nat) (w w' : World) : Prop := ∀ k ∈ X, w'.heap[k]? = w.heap[k]?
theorem Kp.refl (X : List Nat) (w : World) : Kp X w w := fun _ _ => rfl
theorem Kp.trans {X : List Nat} {a b c : World} (h : Kp X a b) (k : Kp X b c) : Kp X a c := fun x hx => (k x hx).trans (h x hx)
theorem Kp.bytes {X : List Nat} {w w' : World} {v : Value} {l : List UInt8} (h : BytesAt w v l) (hk : Kp X w w') (hX : ∀ g, v.ownBlock = some g → g ∈ X) : BytesAt w' v l := h.keep fun g hg => hk g (hX g hg)
/-- All its blocks are new since w0, and none of them is in X. -/
def Own6 (X : List Nat) (w0 w : World) (q p : Nat) (t : Sto) : Prop := ∃ U, StAt [] w q p U t ∧ (∀ x ∈ U, w0.heap.size ≤ x) ∧ Chg [] w0 w ∧ ∀ x ∈ X, x ∉ U ∧ x < w.heap.size
variable {X : List Nat} {w0 w : World} {q p : Nat} {t : Sto}
theorem Own6.chg (h : Own6 X w0 w q p t) : Chg [] w0 w := by obtain ⟨U, h1, h2, h3, h4⟩ := h; exact h3
theorem Own6.keep0 {w' : World} (h : Own6 X w0 w q p t) (hc : Chg [] w w') : Own6 X w0 w' q p t := by
  obtain ⟨U, h1, h2, h3, h4⟩ := h
  exact ⟨U, h1.keep0 hc, h2, h3.trans hc (by simp), fun x hx => ⟨(h4 x hx).1, Nat.lt_of_lt_of_le (h4 x hx).2 hc.size⟩⟩
theorem Own6.kp {w' : World} (h : Own6 X w0 w q p t) (hc : Chg [] w w') : Kp X w w' := by
  obtain ⟨U, h1, h2, h3, h4⟩ := h
  exact fun x hx => hc.block x (h4 x hx).2 (by simp)
theorem Own6.add {Y : List Nat} {w' : World} (h : Own6 X w0 w q p t) (hc : Chg [] w w') (hY : ∀ k ∈ Y, k ∈ X ∨ w.heap.size ≤ k ∧ k < w'.heap.size) : Own6 Y w0 w' q p t := by
  obtain ⟨U, h1, h2, h3, h4⟩ := h
  refine ⟨U, h1.keep0 hc, h2, h3.trans hc (by simp), fun x hx => ?_⟩
  rcases hY x hx with h5 | ⟨h5, h6⟩
  · exact ⟨(h4 x h5).1, Nat.lt_of_lt_of_le (h4 x h5).2 hc.size⟩
  · exact ⟨fun hm => by have := h1.lim x hm; omega, h6⟩
theorem Own6.mono {Y : List Nat} (h : Own6 X w0 w q p t) (hY : ∀ x ∈ Y, x ∈ X) : Own6 Y w0 w q p t := by
  obtain ⟨U, h1, h2, h3, h4⟩ := h
  exact ⟨U, h1, h2, h3, fun x hx => h4 x (hY x hx)⟩
theorem Own6.did {w' : World} {t' : Sto} {U : List Nat} (h2 : ∀ x ∈ U, w0.heap.size ≤ x) (h3 : Chg [] w0 w) (h4 : ∀ x ∈ X, x ∉ U ∧ x < w.heap.size) (hd : Std [] w w' q p U t') : Own6 X w0 w' q p t' ∧ Kp X w w' := by
  obtain ⟨U', d1, d2, d3⟩ := hd
  have hs := h3.size
  refine ⟨⟨U', d1, fun x hx => ?_, h3.trans d3 (fun x hx => .inr (h2 x hx)), fun x hx => ⟨fun hm => ?_, Nat.lt_of_lt_of_le (h4 x hx).2 d3.size⟩⟩, fun x hx => d3.block x (h4 x hx).2 (h4 x hx).1⟩
  · rcases d2 x hx with h | h
    · exact h2 x h
    · omega
  · rcases d2 x hm with h | h
    · exact (h4 x hx).1 h
    · have := (h4 x hx).2; omega
theorem own_put (h : Own6 X w0 w q p t) (x : Id) (hx : okD x) (v : Value) (b : List UInt8) (hb : BytesAt w v b) (hv : b ≠ [] → ∀ k, v.ownBlock = some k → k < w0.heap.size ∨ k ∈ X) (hl : b.length ≤ 1000000) (ho : t.s.d.ops ≤ 900000000) (hw : t.s.d.since.length ≤ 900000) :
    Calls Tryz.prog 19 #[.pointer (some ⟨q, 0, none⟩), idV x, v] w fun e w' => e = .returned (.int .i64 (t.put x b).1) ∧ Own6 X w0 w' q p (t.put x b).2 ∧ Kp X w w' := by
  obtain ⟨U, h1, h2, h3, h4⟩ := h
  refine (stput_any q p U t x v b w h1 hx hb (fun hn k hk hm => ?_) hl ho hw).mono ?_
  · rcases hv hn k hk with h | h
    · have := h2 k hm; omega
    · exact (h4 k h).1 hm
  · rintro e w' ⟨rfl, hd⟩
    exact ⟨rfl, Own6.did h2 h3 h4 hd⟩
theorem own_get (h : Own6 X w0 w q p t) (x : Id) (hx : okD x) : Calls Tryz.prog 23 #[.pointer (some ⟨q, 0, none⟩), idV x] w fun e w' => (∃ v, e = .returned (.tuple #[v, .int .i64 (t.get x).2]) ∧ BytesAt w' v (t.get x).1 ∧ ∀ k, v.ownBlock = some k → w.heap.size ≤ k) ∧ Own6 X w0 w' q p t ∧ Kp X w w' ∧ Chg [] w w' := by
  have h' := h
  obtain ⟨U, h1, h2, h3, h4⟩ := h
  refine (stget_any q p U t x w h1 hx).mono ?_
  rintro e w' ⟨h5, hc⟩
  exact ⟨h5, h'.keep0 hc, h'.kp hc, hc⟩
theorem own_list (h : Own6 X w0 w q p t) : Calls Tryz.prog 20 #[.pointer (some ⟨q, 0, none⟩)] w fun e w' => (∃ v, e = .returned v ∧ w'.ownsRow w.heap.size 25 4 v t.ids.length (t.ids.flatMap idE)) ∧ Own6 X w0 w' q p t ∧ Kp X w w' ∧ Chg [] w w' := by
  have h' := h
  obtain ⟨U, h1, h2, h3, h4⟩ := h
  refine (stlist_any q p U t w h1).mono ?_
  rintro e w' ⟨v, rfl, hr, hc⟩
  exact ⟨⟨v, rfl, hr⟩, h'.keep0 hc, h'.kp hc, hc⟩
theorem own_room (h : Own6 X w0 w q p t) : Calls Tryz.prog 32 #[.pointer (some ⟨q, 0, none⟩)] w fun e w' => e = .returned (.int .i64 (t.room : Int)) ∧ w = w' := by
  obtain ⟨U, h1, h2, h3, h4⟩ := h
  exact stroom_any q p U t w h1
/-- A new disk. -/
theorem own_disk (n : Nat) (w : World) (h2 : 2 ≤ n) (hm : n ≤ 4160) : Calls Tryz.prog 17 #[.int .i64 (n : Int)] w fun e w' => ∃ p S, e = .returned (.tuple #[.pointer (some ⟨p, 0, none⟩), .int .i64 0]) ∧ DiskAt w' p S (DS.new n) ∧ (∀ x ∈ S, w.heap.size ≤ x) ∧ Chg [] w w' :=
  (dnew_any n w h2 hm).mono fun e w' ⟨p, S, h1, h3, h4, h5⟩ => ⟨p, S, h1, h3, h4, h5⟩
/-- A new store. -/
theorem own_format {S : List Nat} {w1 : World} {n : Nat} {t : Sto} {d : DS} (hd : DiskAt w1 p S (DS.new n)) (hS : ∀ x ∈ S, w0.heap.size ≤ x) (hc : Chg [] w0 w1) (hf : (DS.new n).format = ((0, some t), d)) : Calls Tryz.prog 18 #[.pointer (some ⟨p, 0, none⟩)] w1 fun e w' => ∃ q, e = .returned (.tuple #[.pointer (some ⟨q, 0, none⟩), .int .i64 0]) ∧ Own6 [] w0 w' q p t := by
  have h := format_any p S (DS.new n) w1 hd (by show 0 ≤ _; omega) (by show 0 ≤ _; omega)
  rw [hf] at h
  refine h.mono ?_
  rintro e w' ⟨q, U, rfl, h1, h2, h3⟩
  have hs := hc.size
  refine ⟨q, rfl, U, h1, fun x hx => ?_, hc.trans h3 (fun x hx => .inr (hS x hx)), by simp⟩
  rcases h2 x hx with h | h
  · exact hS x h
  · omega
theorem one_byte6 (w : World) (a : UInt8) : BytesAt (w.alloc (.cells #[bv a] 5)) (.slice (some ⟨w.heap.size, 0, none⟩) 1 1) [a] :=
  (row_of_block (l := [a]) (heap_alloc_new w _) (by unfold maxLen; simp)).bytes
theorem ids_one {t : Sto} (hk : keysOk t.s.rows) {x : Id} (h : ∀ y, y ∈ t.ids ↔ y = x) : t.ids = [x] := by
  have hr := t.ids_rise hk
  cases hl : t.ids with
  | nil => rw [hl] at h; exact absurd ((h x).2 rfl) (by simp)
  | cons a r =>
    rw [hl] at h hr
    have ha := (h a).1 (by simp)
    subst ha
    cases r with
    | nil => rfl
    | cons b r =>
      have hb := (h b).1 (by simp)
      subst hb
      exact absurd ((List.pairwise_cons.1 hr).1 b (by simp)) (idLt_irrefl _)
end Go.Proofs.YtbkajnjboipbhaaGreatDoor.W

/- The law's awake. -/
namespace Go.Proofs.YtbkajnjboipbhaaGreatDoor.W
open Go.RowKit
set_option linter.unusedVariables false
set_option linter.unusedSimpArgs false

structure Wake where
  t0 : Sto
  t1 : Sto
  d : DS
  fmt : (DS.new 25).format = ((0, some t0), d)
  small : t0.s.d.ops ≤ 25 ∧ t0.s.d.since.length = 0
  put : (t0.put ⟨1, 0, 5, 2⟩ [9]).1 = 0
  t1_eq : t1 = (t0.put ⟨1, 0, 5, 2⟩ [9]).2
  get : t1.get ⟨1, 0, 5, 2⟩ = ([9], 0)
  ids : t1.ids = [⟨1, 0, 5, 2⟩]
  room : t1.room = 2
theorem wake_is : Nonempty Wake := by
  obtain ⟨t, d, h1, h2, h3, h4, h5, h6, _⟩ := Kept.new 25 (by omega)
  have hm : mayId ⟨1, 0, 5, 2⟩ = true := by decide
  have hr : t.room = 3 := by unfold Sto.room; rw [h4]; rfl
  obtain ⟨p1, p2, p3⟩ := h2.put_new hm rfl (b := [9]) (by simp) (by omega)
  refine ⟨⟨t, _, d, h1, ⟨by rw [h3]; exact h6, by rw [h2.since]; rfl⟩, p1, rfl, ?_, ?_, by omega⟩⟩
  · rw [p2.get, if_neg (by rw [hm]; simp), setF_self]
  · refine ids_one p2.keys (fun y => ?_)
    rw [p2.mem_ids]
    by_cases e : y = ⟨1, 0, 5, 2⟩
    · rw [e, setF_self]; simp
    · rw [setF_other _ _ e]; simp [e]
theorem okD_c : okD ⟨1, 0, 5, 2⟩ := by decide

set_option maxHeartbeats 8000000 in
set_option maxRecDepth 100000 in
theorem awake6_any (w : World) : Calls Tryz.prog 11 #[] w fun e w' => e = .returned (.bool true) ∧ Chg [] w w' := by
  obtain ⟨⟨t0, t1, d, hf, hsm, hp, ht1, hg, hi, hrm⟩⟩ := wake_is
  have CN := Lib.hid (own_disk 25 w (by omega) (by omega))
  have HI := Lib.hid hi
  clear hi
  go_enter Tryz.func11, Tryz.ntmps11
  go_wp2_with fail
  refine CN.out.mono ?_
  rintro e w1 ⟨p, S, rfl, hd1, hS1, hc1⟩
  have CF := Lib.hid (own_format (w0 := w) hd1 hS1 hc1 hf)
  clear hd1 hS1 hc1 CN hf
  go_wp2_with fail
  refine CF.out.mono ?_
  rintro e w2 ⟨q, rfl, ho2⟩
  have CI := Lib.hid (lawid_any 1 0 5 2 w2)
  have HO2 := Lib.hid ho2
  clear ho2 CF
  go_wp2_with fail
  refine CI.out.mono ?_
  rintro e w3 ⟨rfl, hc3⟩
  have hcA : Chg [] w3 (w3.alloc (.cells #[bv 9] 5)) := (Chg.refl _ _).alloc _
  have HO3 := Lib.hid ((HO2.out.keep0 hc3).add hcA (Y := [w3.heap.size]) (fun k hk => .inr (by
    rw [List.mem_singleton.1 hk]
    exact ⟨Nat.le_refl _, by simp⟩)))
  have CP := Lib.hid (own_put HO3.out ⟨1, 0, 5, 2⟩ okD_c _ [9] (one_byte6 w3 9) (fun _ k hk => .inr (by
    obtain rfl : w3.heap.size = k := by simpa [Value.ownBlock] using hk
    simp)) (by simp) (by omega) (by omega))
  rw [hp, ← ht1, show bv 9 = .int .u8 9 from rfl] at CP
  clear hc3 hcA CI HO2
  go_wp2_with fail
  refine CP.out.mono ?_
  rintro e w4 ⟨rfl, ho4, _⟩
  have CI := Lib.hid (lawid_any 1 0 5 2 w4)
  have HO4 := Lib.hid ho4
  clear ho4 CP
  go_wp2_with fail
  refine CI.out.mono ?_
  rintro e w5 ⟨rfl, hc5⟩
  have CG := Lib.hid (own_get (HO4.out.keep0 hc5) ⟨1, 0, 5, 2⟩ okD_c)
  rw [hg] at CG
  clear hc5 CI
  go_wp2_with fail
  refine CG.out.mono ?_
  rintro e w6 ⟨⟨v6, rfl, hb6, _⟩, ho6, _, _⟩
  have CL := Lib.hid (own_list ho6)
  have HB6 := Lib.hid hb6
  obtain ⟨a6, c6, rfl⟩ := hb6.slice
  rw [HI.out] at CL
  clear hb6 ho6 CG
  go_wp2_with fail
  refine CL.out.mono ?_
  rintro e w7 ⟨⟨v7, rfl, hr7⟩, ho7, _, hc7⟩
  have hform : ∃ g cap, v7 = .slice (some ⟨g, 0, none⟩) 1 cap := by
    rcases hr7.2 with ⟨h1, h2⟩ | ⟨g, cap, cur, h1, _⟩
    · simp at h2
    · exact ⟨g, cap, h1⟩
  obtain ⟨g, cap, rfl⟩ := hform
  obtain ⟨m0, m1, m2, m3⟩ := id_row (l := [⟨1, 0, 5, 2⟩]) hr7 0 (by simp) ⟨1, 0, 5, 2⟩ rfl
  have hcap : 1 ≤ cap := by
    rcases hr7.2 with ⟨h1, h2⟩ | ⟨g, cap', cur, h1, _, _, h3, _⟩
    · simp at h2
    · obtain ⟨_, _, rfl⟩ := Value.slice.inj h1
      exact h3
  have HB7 := Lib.hid (HB6.out.chg hc7 (by simp))
  have HO7 := Lib.hid ho7
  have heq : ∀ w, (binOp .eql 25 (.agg #[.int .i64 1, .int .i64 0, .int .i64 5, .int .i64 2]) (.agg #[.int .i64 1, .int .i64 0, .int .i64 5, .int .i64 2])).run Tryz.prog w = .ok (.bool true) w := fun w => by
    have := eq_id ⟨1, 0, 5, 2⟩ ⟨1, 0, 5, 2⟩ okD_c okD_c w
    simpa using this
  simp only [Nat.zero_mul] at m0 m1 m2 m3
  clear hr7 ho7 hc7 CL HB6
  go_wp2_with fail
  refine wp_region_L [(17, fun w' => (w'.cell? ⟨g, 0, none⟩ = some (.int .i64 1) ∧ w'.cell? ⟨g, 1, none⟩ = some (.int .i64 0) ∧ w'.cell? ⟨g, 2, none⟩ = some (.int .i64 5) ∧ w'.cell? ⟨g, 3, none⟩ = some (.int .i64 2)))] (by kernel_rfl) ?_ (fun hHeld => ?_)
  · exact (HoldC.cons (⟨m0, m1, m2, m3⟩) HoldC.nil)
  refine wpAnyL_take (i := 0) (oi := _) (v := ?_) rfl (by kernel_rfl) (by kernel_rfl) (by kernel_rfl) (by kernel_rfl) (by kernel_rfl) (fun _ _ _ h => h) (Or.inl ⟨by rfl, ?_⟩) (by assumption) (fun hNew => ?_)
  rotate_left
  · intro w _
    go_simp
    try with_reducible rfl
  clear hHeld
  have hHeld := hNew
  clear hNew
  try simp only [List.getElem_toArray, List.getElem_cons_succ, List.getElem_cons_zero, Act.put, List.setIfInBounds_toArray, List.set_cons_zero, List.set_cons_succ]
  refine wpAnyL_take (i := 1) (oi := _) (v := ?_) rfl (by kernel_rfl) (by kernel_rfl) (by kernel_rfl) (by kernel_rfl) (by kernel_rfl) (fun _ _ _ h => h) (Or.inl ⟨by rfl, ?_⟩) (by assumption) (fun hNew => ?_)
  rotate_left
  · intro w _
    go_simp
    try with_reducible rfl
  clear hHeld
  have hHeld := hNew
  clear hNew
  try simp only [List.getElem_toArray, List.getElem_cons_succ, List.getElem_cons_zero, Act.put, List.setIfInBounds_toArray, List.set_cons_zero, List.set_cons_succ]
  refine wpAnyL_take (i := 2) (oi := _) (v := ?_) rfl (by kernel_rfl) (by kernel_rfl) (by kernel_rfl) (by kernel_rfl) (by kernel_rfl) (fun _ _ _ h => h) (Or.inl ⟨by rfl, ?_⟩) (by assumption) (fun hNew => ?_)
  rotate_left
  · intro w _
    go_simp
    try with_reducible rfl
  clear hHeld
  have hHeld := hNew
  clear hNew
  try simp only [List.getElem_toArray, List.getElem_cons_succ, List.getElem_cons_zero, Act.put, List.setIfInBounds_toArray, List.set_cons_zero, List.set_cons_succ]
  refine wpAnyL_take (i := 3) (oi := _) (v := ?_) rfl (by kernel_rfl) (by kernel_rfl) (by kernel_rfl) (by kernel_rfl) (by kernel_rfl) (fun _ _ _ h => h) (Or.inl ⟨by rfl, ?_⟩) (by assumption) (fun hNew => ?_)
  rotate_left
  · intro w _
    go_simp
    try with_reducible rfl
  clear hHeld
  have hHeld := hNew
  clear hNew
  try simp only [List.getElem_toArray, List.getElem_cons_succ, List.getElem_cons_zero, Act.put, List.setIfInBounds_toArray, List.set_cons_zero, List.set_cons_succ]
  refine wpAnyL_ready (rs := [4]) (by kernel_rfl) (by simp) ?_
  refine AllReadyL.cons (o := _) rfl (fun K hK => ?_) AllReadyL.nil
  try simp only [List.getElem_toArray, List.getElem_cons_succ, List.getElem_cons_zero]
  go_simp
  have hcW : Chg [] w7 (w7.alloc (.cells #[bv 9] 5)).drew := ((Chg.refl _ _).alloc _).drew
  have hbW : BytesAt (w7.alloc (.cells #[bv 9] 5)).drew (.slice (some ⟨w7.heap.size, 0, none⟩) 1 1) [9] := (one_byte6 w7 9).chg (Chg.drew (Chg.refl [] _)) (by simp)
  rw [show bv 9 = .int .u8 9 from rfl] at hcW hbW
  generalize (w7.alloc (.cells #[.int .u8 9] 5)).drew = W at *
  have CS := Lib.hid (same_any _ _ [9] [9] W (HB7.out.chg hcW (by simp)) hbW (by simp) (by simp))
  rw [decide_eq_true rfl] at CS
  have HOW := Lib.hid (HO7.out.keep0 hcW)
  have n0 := hcW.cell m0 (by simp)
  have n1 := hcW.cell m1 (by simp)
  have n2 := hcW.cell m2 (by simp)
  have n3 := hcW.cell m3 (by simp)
  clear hcW hbW
  clear hHeld
  refine hK.out _ _ ?_ (fun hHeld => ?_)
  · exact (HoldC.cons (⟨n0, n1, n2, n3⟩) HoldC.nil)
  clear hK K
  try simp only [List.getElem_toArray, List.getElem_cons_succ, List.getElem_cons_zero, Act.put, List.setIfInBounds_toArray, List.set_cons_zero, List.set_cons_succ]
  refine wpAnyL_ready (rs := [5]) (by kernel_rfl) (by simp) ?_
  refine AllReadyL.cons (o := _) rfl (fun K hK => ?_) AllReadyL.nil
  try simp only [List.getElem_toArray, List.getElem_cons_succ, List.getElem_cons_zero]
  go_simp
  refine CS.out.mono ?_
  rintro e w8 ⟨rfl, n, rfl⟩
  have CI := Lib.hid (lawid_any 1 0 5 2 (W.drewN n))
  have HO8 := Lib.hid (HOW.out.keep0 ((Chg.refl [] W).drewN n))
  have n0 : (W.drewN n).cell? ⟨g, 0, none⟩ = some (.int .i64 1) := n0
  have n1 : (W.drewN n).cell? ⟨g, 1, none⟩ = some (.int .i64 0) := n1
  have n2 : (W.drewN n).cell? ⟨g, 2, none⟩ = some (.int .i64 5) := n2
  have n3 : (W.drewN n).cell? ⟨g, 3, none⟩ = some (.int .i64 2) := n3
  clear hHeld
  refine hK.out _ _ ?_ (fun hHeld => ?_)
  · exact (HoldC.cons (⟨n0, n1, n2, n3⟩) HoldC.nil)
  clear hK K
  try simp only [List.getElem_toArray, List.getElem_cons_succ, List.getElem_cons_zero, Act.put, List.setIfInBounds_toArray, List.set_cons_zero, List.set_cons_succ]
  refine wpAnyL_take (i := 6) (oi := _) (v := ?_) rfl (by kernel_rfl) (by kernel_rfl) (by kernel_rfl) (by kernel_rfl) (by kernel_rfl) (fun _ _ _ h => h) (Or.inl ⟨by rfl, ?_⟩) (by assumption) (fun hNew => ?_)
  rotate_left
  · intro w _
    go_simp
    try with_reducible rfl
  clear hHeld
  have hHeld := hNew
  clear hNew
  try simp only [List.getElem_toArray, List.getElem_cons_succ, List.getElem_cons_zero, Act.put, List.setIfInBounds_toArray, List.set_cons_zero, List.set_cons_succ]
  refine wpAnyL_take (i := 7) (oi := _) (v := ?_) rfl (by kernel_rfl) (by kernel_rfl) (by kernel_rfl) (by kernel_rfl) (by kernel_rfl) (fun _ _ _ h => h) (Or.inl ⟨by rfl, ?_⟩) (by assumption) (fun hNew => ?_)
  rotate_left
  · intro w _
    go_simp
    try with_reducible rfl
  clear hHeld
  have hHeld := hNew
  clear hNew
  try simp only [List.getElem_toArray, List.getElem_cons_succ, List.getElem_cons_zero, Act.put, List.setIfInBounds_toArray, List.set_cons_zero, List.set_cons_succ]
  refine wpAnyL_take (i := 8) (oi := _) (v := ?_) rfl (by kernel_rfl) (by kernel_rfl) (by kernel_rfl) (by kernel_rfl) (by kernel_rfl) (fun _ _ _ h => h) (Or.inl ⟨by rfl, ?_⟩) (by assumption) (fun hNew => ?_)
  rotate_left
  · intro w _
    go_simp
    try with_reducible rfl
  clear hHeld
  have hHeld := hNew
  clear hNew
  try simp only [List.getElem_toArray, List.getElem_cons_succ, List.getElem_cons_zero, Act.put, List.setIfInBounds_toArray, List.set_cons_zero, List.set_cons_succ]
  refine wpAnyL_take (i := 9) (oi := _) (v := ?_) rfl (by kernel_rfl) (by kernel_rfl) (by kernel_rfl) (by kernel_rfl) (by kernel_rfl) (fun _ _ _ h => h) (Or.inl ⟨by rfl, ?_⟩) (by assumption) (fun hNew => ?_)
  rotate_left
  · intro w _
    go_simp
    try with_reducible rfl
  clear hHeld
  have hHeld := hNew
  clear hNew
  try simp only [List.getElem_toArray, List.getElem_cons_succ, List.getElem_cons_zero, Act.put, List.setIfInBounds_toArray, List.set_cons_zero, List.set_cons_succ]
  refine wpAnyL_take (i := 10) (oi := _) (v := ?_) rfl (by kernel_rfl) (by kernel_rfl) (by kernel_rfl) (by kernel_rfl) (by kernel_rfl) (fun _ _ _ h => h) (Or.inl ⟨by rfl, ?_⟩) (by assumption) (fun hNew => ?_)
  rotate_left
  · intro w _
    go_simp
    try with_reducible rfl
  clear hHeld
  have hHeld := hNew
  clear hNew
  try simp only [List.getElem_toArray, List.getElem_cons_succ, List.getElem_cons_zero, Act.put, List.setIfInBounds_toArray, List.set_cons_zero, List.set_cons_succ]
  refine wpAnyL_take (i := 11) (oi := _) (v := ?_) rfl (by kernel_rfl) (by kernel_rfl) (by kernel_rfl) (by kernel_rfl) (by kernel_rfl) (fun _ _ _ h => h) (Or.inl ⟨by rfl, ?_⟩) (by assumption) (fun hNew => ?_)
  rotate_left
  · intro w _
    go_simp
    try with_reducible rfl
  clear hHeld
  have hHeld := hNew
  clear hNew
  try simp only [List.getElem_toArray, List.getElem_cons_succ, List.getElem_cons_zero, Act.put, List.setIfInBounds_toArray, List.set_cons_zero, List.set_cons_succ]
  refine wpAnyL_take (i := 12) (oi := _) (v := ?_) rfl (by kernel_rfl) (by kernel_rfl) (by kernel_rfl) (by kernel_rfl) (by kernel_rfl) (fun _ _ _ h => h) (Or.inl ⟨by rfl, ?_⟩) (by assumption) (fun hNew => ?_)
  rotate_left
  · intro w _
    go_simp
    try with_reducible rfl
  clear hHeld
  have hHeld := hNew
  clear hNew
  try simp only [List.getElem_toArray, List.getElem_cons_succ, List.getElem_cons_zero, Act.put, List.setIfInBounds_toArray, List.set_cons_zero, List.set_cons_succ]
  refine wpAnyL_take (i := 13) (oi := _) (v := ?_) rfl (by kernel_rfl) (by kernel_rfl) (by kernel_rfl) (by kernel_rfl) (by kernel_rfl) (fun _ _ _ h => h) (Or.inl ⟨by rfl, ?_⟩) (by assumption) (fun hNew => ?_)
  rotate_left
  · intro w _
    go_simp
    try with_reducible rfl
  clear hHeld
  have hHeld := hNew
  clear hNew
  try simp only [List.getElem_toArray, List.getElem_cons_succ, List.getElem_cons_zero, Act.put, List.setIfInBounds_toArray, List.set_cons_zero, List.set_cons_succ]
  refine wpAnyL_take (i := 14) (oi := _) (v := ?_) rfl (by kernel_rfl) (by kernel_rfl) (by kernel_rfl) (by kernel_rfl) (by kernel_rfl) (fun _ _ _ h => h) (Or.inl ⟨by rfl, ?_⟩) (by assumption) (fun hNew => ?_)
  rotate_left
  · intro w _
    go_simp
    try with_reducible rfl
  clear hHeld
  have hHeld := hNew
  clear hNew
  try simp only [List.getElem_toArray, List.getElem_cons_succ, List.getElem_cons_zero, Act.put, List.setIfInBounds_toArray, List.set_cons_zero, List.set_cons_succ]
  refine wpAnyL_load 0 (i := 15) (oi := _) (v := ?_) rfl rfl (by kernel_rfl) (by kernel_rfl) (by kernel_rfl) (by kernel_rfl) (by kernel_rfl) (by kernel_rfl) (fun _ _ _ h => h) (Or.inl ⟨by rfl, ?_⟩) (by assumption) (fun hNew => ?_)
  rotate_left
  · intro w hSw
    (try dsimp only at hSw)
    go_simp
    try with_reducible rfl
  clear hHeld
  have hHeld := hNew
  clear hNew
  try simp only [List.getElem_toArray, List.getElem_cons_succ, List.getElem_cons_zero, Act.put, List.setIfInBounds_toArray, List.set_cons_zero, List.set_cons_succ]
  refine wpAnyL_ready (rs := [16]) (by kernel_rfl) (by simp) ?_
  refine AllReadyL.cons (o := _) rfl (fun K hK => ?_) AllReadyL.nil
  try simp only [List.getElem_toArray, List.getElem_cons_succ, List.getElem_cons_zero]
  go_simp
  refine CI.out.mono ?_
  rintro e w9 ⟨rfl, hc9⟩
  have HO9 := Lib.hid (HO8.out.keep0 hc9)
  have CR := Lib.hid (own_room HO9.out)
  rw [hrm] at CR
  have n0 := hc9.cell n0 (by simp)
  have n1 := hc9.cell n1 (by simp)
  have n2 := hc9.cell n2 (by simp)
  have n3 := hc9.cell n3 (by simp)
  clear hc9
  clear hHeld
  refine hK.out _ _ ?_ (fun hHeld => ?_)
  · exact (HoldC.cons (⟨n0, n1, n2, n3⟩) HoldC.nil)
  clear hK K
  try simp only [List.getElem_toArray, List.getElem_cons_succ, List.getElem_cons_zero, Act.put, List.setIfInBounds_toArray, List.set_cons_zero, List.set_cons_succ]
  refine wpAnyL_ready (rs := [17]) (by kernel_rfl) (by simp) ?_
  refine AllReadyL.cons (o := _) rfl (fun K hK => ?_) AllReadyL.nil
  try simp only [List.getElem_toArray, List.getElem_cons_succ, List.getElem_cons_zero]
  go_simp
  clear hHeld
  refine hK.out _ _ ?_ (fun hHeld => ?_)
  · exact (HoldC.past (by kernel_rfl) HoldC.nil)
  clear hK K
  try simp only [List.getElem_toArray, List.getElem_cons_succ, List.getElem_cons_zero, Act.put, List.setIfInBounds_toArray, List.set_cons_zero, List.set_cons_succ]
  refine wpAnyL_take (i := 18) (oi := _) (v := ?_) rfl (by kernel_rfl) (by kernel_rfl) (by kernel_rfl) (by kernel_rfl) (by kernel_rfl) (fun _ _ _ h => h) (Or.inl ⟨by rfl, ?_⟩) (by assumption) (fun hNew => ?_)
  rotate_left
  · intro w _
    go_simp
    try with_reducible rfl
  clear hHeld
  have hHeld := hNew
  clear hNew
  try simp only [List.getElem_toArray, List.getElem_cons_succ, List.getElem_cons_zero, Act.put, List.setIfInBounds_toArray, List.set_cons_zero, List.set_cons_succ]
  refine wpAnyL_take (i := 19) (oi := _) (v := ?_) rfl (by kernel_rfl) (by kernel_rfl) (by kernel_rfl) (by kernel_rfl) (by kernel_rfl) (fun _ _ _ h => h) (Or.inl ⟨by rfl, ?_⟩) (by assumption) (fun hNew => ?_)
  rotate_left
  · intro w _
    go_simp
    try with_reducible rfl
  clear hHeld
  have hHeld := hNew
  clear hNew
  try simp only [List.getElem_toArray, List.getElem_cons_succ, List.getElem_cons_zero, Act.put, List.setIfInBounds_toArray, List.set_cons_zero, List.set_cons_succ]
  refine wpAnyL_take (i := 20) (oi := _) (v := ?_) rfl (by kernel_rfl) (by kernel_rfl) (by kernel_rfl) (by kernel_rfl) (by kernel_rfl) (fun _ _ _ h => h) (Or.inl ⟨by rfl, ?_⟩) (by assumption) (fun hNew => ?_)
  rotate_left
  · intro w _
    go_simp
    try with_reducible rfl
  clear hHeld
  have hHeld := hNew
  clear hNew
  try simp only [List.getElem_toArray, List.getElem_cons_succ, List.getElem_cons_zero, Act.put, List.setIfInBounds_toArray, List.set_cons_zero, List.set_cons_succ]
  refine wpAnyL_ready (rs := [21]) (by kernel_rfl) (by simp) ?_
  refine AllReadyL.cons (o := _) rfl (fun K hK => ?_) AllReadyL.nil
  try simp only [List.getElem_toArray, List.getElem_cons_succ, List.getElem_cons_zero]
  go_simp
  refine CR.out.mono ?_
  rintro e w10 ⟨rfl, hq⟩
  subst hq
  clear hHeld
  refine hK.out _ _ ?_ (fun hHeld => ?_)
  · exact (HoldC.past (by kernel_rfl) HoldC.nil)
  clear hK K
  try simp only [List.getElem_toArray, List.getElem_cons_succ, List.getElem_cons_zero, Act.put, List.setIfInBounds_toArray, List.set_cons_zero, List.set_cons_succ]
  refine wpAnyL_take (i := 22) (oi := _) (v := ?_) rfl (by kernel_rfl) (by kernel_rfl) (by kernel_rfl) (by kernel_rfl) (by kernel_rfl) (fun _ _ _ h => h) (Or.inl ⟨by rfl, ?_⟩) (by assumption) (fun hNew => ?_)
  rotate_left
  · intro w _
    go_simp
    try with_reducible rfl
  clear hHeld
  have hHeld := hNew
  clear hNew
  try simp only [List.getElem_toArray, List.getElem_cons_succ, List.getElem_cons_zero, Act.put, List.setIfInBounds_toArray, List.set_cons_zero, List.set_cons_succ]
  refine wpAnyL_take (i := 23) (oi := _) (v := ?_) rfl (by kernel_rfl) (by kernel_rfl) (by kernel_rfl) (by kernel_rfl) (by kernel_rfl) (fun _ _ _ h => h) (Or.inl ⟨by rfl, ?_⟩) (by assumption) (fun hNew => ?_)
  rotate_left
  · intro w _
    go_simp
    try with_reducible rfl
  clear hHeld
  have hHeld := hNew
  clear hNew
  try simp only [List.getElem_toArray, List.getElem_cons_succ, List.getElem_cons_zero, Act.put, List.setIfInBounds_toArray, List.set_cons_zero, List.set_cons_succ]
  refine wpAnyL_ready (rs := [24]) (by kernel_rfl) (by simp) ?_
  refine AllReadyL.cons (o := _) rfl (fun K hK => ?_) AllReadyL.nil
  try simp only [List.getElem_toArray, List.getElem_cons_succ, List.getElem_cons_zero]
  go_simp
  clear hHeld
  refine hK.out _ _ ?_ (fun hHeld => ?_)
  · exact (HoldC.past (by kernel_rfl) HoldC.nil)
  clear hK K
  try simp only [List.getElem_toArray, List.getElem_cons_succ, List.getElem_cons_zero, Act.put, List.setIfInBounds_toArray, List.set_cons_zero, List.set_cons_succ]
  refine wpAnyL_done (by kernel_rfl) ?_ _
  clear hHeld
  go_wp2_with fail
  go_ret
  exact ⟨rfl, HO9.out.chg⟩
end Go.Proofs.YtbkajnjboipbhaaGreatDoor.W

/- Ids that came in: as an argument, in a slice. -/
namespace Go.Proofs.YtbkajnjboipbhaaGreatDoor.W
open Go.RowKit Go.ChangeShapes Go.WideShapes
set_option linter.unusedVariables false
set_option linter.unusedSimpArgs false

theorem fieldsI : ∃ f0 f1 : Field, Tryz.prog.underlying 25 = some (.struct #[f0, f1]) ∧ f0.offset = 0 ∧ f1.offset = 3 ∧ f0.type = 23 ∧ Tryz.prog.underlying f1.type = some (.int .i64) ∧ Tryz.prog.cellsOf f1.type = 1 :=
  ⟨_, _, Tryz.underlying25, rfl, rfl, rfl, by kernel_rfl, by kernel_rfl⟩
theorem fieldsT : ∃ f0 f1 f2 : Field, Tryz.prog.underlying 23 = some (.struct #[f0, f1, f2]) ∧ f0.offset = 0 ∧ f1.offset = 1 ∧ f2.offset = 2 ∧ Tryz.prog.underlying f0.type = some (.int .i64) ∧ Tryz.prog.underlying f1.type = some (.int .i64) ∧ Tryz.prog.underlying f2.type = some (.int .i64) ∧
    Tryz.prog.cellsOf f0.type = 1 ∧ Tryz.prog.cellsOf f1.type = 1 ∧ Tryz.prog.cellsOf f2.type = 1 :=
  ⟨_, _, _, Tryz.underlying23, rfl, rfl, rfl, by kernel_rfl, by kernel_rfl, by kernel_rfl, by kernel_rfl, by kernel_rfl, by kernel_rfl⟩
section
variable {H : Type} {enc : TypeId × Value → H} {w : World} {base : Nat} {held : Bool} {spare : Nat → Bool}
theorem open_idc {fuel : Nat} {v0 v1 v2 v3 : Value} {x : DataW H × List MemPlace} (h : DataW.trod enc Tryz.prog w base spare held fuel 25 [v0, v1, v2, v3] = some x) : ∃ y : Id, okD y ∧ v0 = .int .i64 y.c ∧ v1 = .int .i64 y.l ∧ v2 = .int .i64 y.n ∧ v3 = .int .i64 y.i := by
  obtain ⟨f0, f1, hs, o0, o1, t0, t1, c1⟩ := fieldsI
  obtain ⟨g0, g1, g2, hs2, p0, p1, p2, u0, u1, u2, d0, d1, d2⟩ := fieldsT
  obtain ⟨xs, k, hk, hxy, _, hxl, hf⟩ := DataW.trod_struct hs h
  match xs, hxl with
  | [y0, y1], _ =>
    have e0 := hf 0 f0 rfl
    have e1 := hf 1 f1 rfl
    rw [t0] at e0
    simp [o0, o1, c1, cells_stripe] at e0 e1
    obtain ⟨xs2, k2, hk2, hxy2, _, hxl2, hf2⟩ := DataW.trod_struct hs2 e0
    match xs2, hxl2 with
    | [z0, z1, z2], _ =>
      have r0 := hf2 0 g0 rfl
      have r1 := hf2 1 g1 rfl
      have r2 := hf2 2 g2 rfl
      simp [p0, p1, p2, d0, d1, d2] at r0 r1 r2
      obtain ⟨a0, q0, _, w0⟩ := DataW.trod_int u0 r0
      obtain ⟨a1, q1, _, w1⟩ := DataW.trod_int u1 r1
      obtain ⟨a2, q2, _, w2⟩ := DataW.trod_int u2 r2
      obtain ⟨a3, q3, _, w3⟩ := DataW.trod_int t1 e1
      simp at q0 q1 q2 q3
      refine ⟨⟨a0, a1, a2, a3⟩, ⟨?_, ?_, ?_, ?_⟩, q0, q1, q2, q3⟩
      · first | exact w0 | exact w0.1
      · first | exact w1 | exact w1.1
      · first | exact w2 | exact w2.1
      · first | exact w3 | exact w3.1

end
end Go.Proofs.YtbkajnjboipbhaaGreatDoor.W

/- The reference's Key, MayId. -/
namespace Go.Proofs.YtbkajnjboipbhaaGreatDoor.W
open Go.RowKit
set_option linter.unusedVariables false
set_option linter.unusedSimpArgs false

def mayStripe (c l n : Int) : Bool := withinB6 c 4 && withinB6 l 1048576 && withinB6 n 1073741824
set_option maxHeartbeats 2000000 in
theorem rmaystripe_any (c l n : Int) (w : World) : Calls Tryz.prog 51 #[.agg #[.int .i64 c, .int .i64 l, .int .i64 n]] w fun e w' => e = .returned (.bool (mayStripe c l n)) ∧ Chg [] w w' := by
  unfold mayStripe withinB6
  go_enter Tryz.func51, Tryz.ntmps51
  go_wp2
  all_goals
    go_ret
    refine ⟨?_, (Chg.refl [] w).alloc _⟩
    first
      | (simp_all; done)
      | (simp; omega)
set_option maxHeartbeats 2000000 in
set_option maxRecDepth 100000 in
theorem rmayid_any (x : Id) (w : World) : Calls Tryz.prog 16 #[idV x] w fun e w' => e = .returned (.bool (mayId x)) ∧ Chg [] w w' := by
  obtain ⟨c, l, n, i⟩ := x
  have he : mayId ⟨c, l, n, i⟩ = (mayStripe c l n && withinB6 i 15) := rfl
  rw [he]
  obtain ⟨w1, hw1⟩ : ∃ w1, w1 = w.alloc (.cells (idC ⟨c, l, n, i⟩) 25) := ⟨_, rfl⟩
  have hc1 : Chg [] w w1 := by rw [hw1]; exact (Chg.refl [] w).alloc _
  have hb1 : w1.heap[w.heap.size]? = some (.cells (idC ⟨c, l, n, i⟩) 25 (0, 0)) := by rw [hw1]; exact heap_alloc_new w _
  have CM := Lib.hid (rmaystripe_any c l n w1)
  obtain ⟨m0, m1, m2, m3⟩ := id_cells hb1
  have HB := Lib.hid hb1
  have HC1 := Lib.hid hc1
  have HW1 := Lib.hid hw1
  rw [hw1] at m0 m1 m2 m3
  generalize mayStripe c l n = b at *
  clear hw1 hb1 hc1 he
  unfold withinB6
  go_enter Tryz.func16, Tryz.ntmps16
  go_wp2_with fail
  rw [← HW1.out]
  refine CM.out.mono ?_
  rintro e w2 ⟨rfl, hc2⟩
  obtain ⟨m0, m1, m2, m3⟩ := id_cells (hc2.keep HB.out (by simp))
  have HC2 := Lib.hid (HC1.out.trans hc2 (by simp))
  clear hc2
  cases b with
  | false =>
    go_wp2
    go_ret
    exact ⟨rfl, HC2.out⟩
  | true =>
    by_cases h0 : 0 ≤ i
    · by_cases h1 : i ≤ 15
      · have h2 : i < 16 := by omega
        go_wp2
        go_ret
        exact ⟨by first | (simp [h0, h1, h2]; done) | (simp [h0]; omega), HC2.out⟩
      · have h2 : ¬ i < 16 := by omega
        go_wp2
        go_ret
        exact ⟨by first | (simp [h0, h1, h2]; done) | (simp [h0]; omega), HC2.out⟩
    · have h2 : ¬ i ≥ 0 := by omega
      go_wp2
      go_ret
      exact ⟨by first | (simp [h0]; done) | (simp; omega), HC2.out⟩
structure RPenNew (w0 w : World) (b : Nat) (g : Option Nat) (l : List UInt8) : Prop where
  pen : PenAt 88 w b g l 0
  chg : Chg [] w0 w
  own : w0.heap.size ≤ b
  ownG : ∀ k, g = some k → w0.heap.size ≤ k
theorem RPenNew.num {w0 w : World} {b : Nat} {g : Option Nat} {l : List UInt8} (h : RPenNew w0 w b g l) (x : Int) (n : Nat) (h1 : 1 ≤ n) (h7 : n ≤ 7) (hx0 : 0 ≤ x) (hx : x < ((256 ^ n : Nat) : Int)) (hl : l.length ≤ 1000) :
    Calls Tryz.prog 49 #[.pointer (some ⟨b, 0, none⟩), .int .i64 x, .int .i64 n] w fun e w' => e = .returned (.tuple #[]) ∧ ∃ g', RPenNew w0 w' b g' (l ++ beBytes n x.toNat) := by
  refine (rpnum_any b g l 0 x n w h.pen (by omega) (by omega)).mono ?_
  rintro e w' ⟨rfl, g', k1, k2, k3⟩
  have e1 : penNum l 0 x n = (l ++ beBytes n x.toNat, 0) := by
    unfold penNum penAdd
    rw [if_neg (by simp), if_neg (by omega), if_neg (by simp), if_neg (by rw [beBytes_len]; omega)]
  rw [Int.toNat_natCast, e1] at k1
  refine ⟨rfl, g', k1, h.chg.trans k3 (fun x hx => .inr ?_), h.own, fun k hk => ?_⟩
  · rcases List.mem_cons.1 hx with rfl | hx
    · exact h.own
    · exact h.ownG x (by simpa using hx)
  · rcases k2 with rfl | ⟨k', rfl, h4⟩
    · exact h.ownG k hk
    · obtain rfl : k' = k := by simpa using hk
      exact Nat.le_trans h.chg.size h4
theorem RPenNew.fresh {w0 w : World} (hc : Chg [] w0 w) : RPenNew w0 (w.alloc (.cells #[.slice none 0 0, .int .i64 0] 88)) w.heap.size none [] :=
  ⟨⟨.slice none 0 0, heap_alloc_new w _, BRow.nil _, rfl, by simp, by simp⟩, hc.alloc _, hc.size, fun k hk => by cases hk⟩
set_option maxHeartbeats 2000000 in
set_option maxRecDepth 100000 in
theorem rkey_any (x : Id) (w : World) : Calls Tryz.prog 13 #[idV x] w (KeyPost x w) := by
  obtain ⟨w1, hw1⟩ : ∃ w1, w1 = w.alloc (.cells (idC x) 25) := ⟨_, rfl⟩
  have CM := Lib.hid (rmayid_any x w1)
  have hc1 : Chg [] w w1 := by rw [hw1]; exact (Chg.refl [] w).alloc _
  have hb1 : w1.heap[w.heap.size]? = some (.cells (idC x) 25 (0, 0)) := by rw [hw1]; exact heap_alloc_new w _
  have HB := Lib.hid hb1
  have HC1 := Lib.hid hc1
  have HW1 := Lib.hid hw1
  unfold KeyPost
  by_cases hm : mayId x = true
  · rw [hm] at CM
    simp only [hm, if_true]
    obtain ⟨⟨a0, a1⟩, ⟨b0, b1⟩, ⟨c0, c1⟩, d0, d1⟩ := may_bounds hm
    obtain ⟨xc, xl, xn, xi⟩ := x
    dsimp only at *
    clear hm hw1 hb1 hc1
    go_enter Tryz.func13, Tryz.ntmps13
    go_wp2_with fail
    rw [← HW1.out]
    refine CM.out.mono ?_
    rintro e w2 ⟨rfl, hc2⟩
    have HC2 := Lib.hid hc2
    clear hc2 CM
    have hp := RPenNew.fresh HC2.out
    obtain ⟨w3, hw3⟩ : ∃ w3, w3 = w2.alloc (.cells #[.slice none 0 0, .int .i64 0] 88) := ⟨_, rfl⟩
    rw [← hw3] at hp
    have HW3 := Lib.hid hw3
    have hl2 : w.heap.size < w2.heap.size := Nat.lt_of_lt_of_le (blk_lt HB.out) HC2.out.size
    have hC3 : Chg [] w1 w3 := by rw [hw3]; exact HC2.out.alloc _
    have k0 := (id_cells (hC3.keep HB.out (by simp))).1
    rw [hw3] at k0
    have CN := Lib.hid (hp.num xc 1 (by omega) (by omega) a0 (by omega) (by simp))
    have HP := Lib.hid hp
    clear hw3 hp hC3
    go_wp2_with fail
    rw [← HW3.out]
    refine CN.out.mono ?_
    rintro e w4 ⟨rfl, g4, hp4⟩
    obtain ⟨k0, k1, k2, k3⟩ := id_cells (hp4.chg.keep HB.out (by simp))
    have CN4 := Lib.hid (hp4.num xl 3 (by omega) (by omega) b0 (by omega) (by simp [beBytes_len]))
    clear hp4 CN
    go_wp2_with fail
    refine CN4.out.mono ?_
    rintro e w5 ⟨rfl, g5, hp5⟩
    obtain ⟨k0, k1, k2, k3⟩ := id_cells (hp5.chg.keep HB.out (by simp))
    have CN5 := Lib.hid (hp5.num xn 4 (by omega) (by omega) c0 (by omega) (by simp [beBytes_len]))
    clear hp5 CN4
    go_wp2_with fail
    refine CN5.out.mono ?_
    rintro e w6 ⟨rfl, g6, hp6⟩
    obtain ⟨k0, k1, k2, k3⟩ := id_cells (hp6.chg.keep HB.out (by simp))
    have CN6 := Lib.hid (hp6.num xi 1 (by omega) (by omega) d0 (by omega) (by simp [beBytes_len]))
    clear hp6 CN5
    go_wp2_with fail
    refine CN6.out.mono ?_
    rintro e w7 ⟨rfl, g7, hp7⟩
    have e9 : [] ++ beBytes 1 xc.toNat ++ beBytes 3 xl.toNat ++ beBytes 4 xn.toNat ++ beBytes 1 xi.toNat = idKey ⟨xc, xl, xn, xi⟩ := by simp [idKey]
    rw [e9] at hp7
    obtain ⟨v, hb, hr, hg, _, _⟩ := hp7.pen
    have p0 := blk_cell hb 0 _ rfl
    have hbl := blk_lt hb
    have HP7 := Lib.hid (And.intro hr (And.intro hg (And.intro hp7.chg hp7.ownG)))
    obtain ⟨av, cv, rfl⟩ := hr.slice
    clear hp7 CN6 hb hr hg
    go_wp2
    go_ret2
    refine ⟨HC1.out.trans HP7.out.2.2.1 (by simp), _, rfl, HP7.out.1, fun k hk => ?_⟩
    have := HP7.out.2.2.2 k (by rw [← HP7.out.2.1]; exact hk)
    have := HC1.out.size
    omega
  · have hm' : mayId x = false := by simpa using hm
    rw [hm'] at CM
    simp only [hm]
    obtain ⟨xc, xl, xn, xi⟩ := x
    clear hm hm' hw1 hb1 hc1
    go_enter Tryz.func13, Tryz.ntmps13
    go_wp2_with fail
    rw [← HW1.out]
    refine CM.out.mono ?_
    rintro e w2 ⟨rfl, hc2⟩
    have HC2 := Lib.hid (HC1.out.trans hc2 (by simp))
    clear hc2 CM
    go_wp2
    go_ret2
    exact ⟨HC2.out, rfl⟩
end Go.Proofs.YtbkajnjboipbhaaGreatDoor.W

/- Blocks that hold no bytes; append that says what the row's block holds. -/
namespace Go.Proofs.YtbkajnjboipbhaaGreatDoor.W
open Go.RowKit
set_option linter.unusedVariables false
set_option linter.unusedSimpArgs false

def No8 (c : Value) : Prop := ∀ z : Int, c ≠ .int .u8 z
/-- No cell of the block is a byte. -/
def NoU8 (w : World) (x : Nat) : Prop := ∀ cs t fr, w.heap[x]? = some (.cells cs t fr) → ∀ (j : Nat) (c : Value), cs[j]? = some c → No8 c
theorem NoU8.keep {w w' : World} {x : Nat} (h : NoU8 w x) (hb : w'.heap[x]? = w.heap[x]?) : NoU8 w' x := fun cs t fr hc => h cs t fr (hb.symm.trans hc)
theorem NoU8.mk {w : World} {x t : Nat} {cs : Array Value} {fr : Nat × Nat} (h : w.heap[x]? = some (.cells cs t fr)) (hc : ∀ (j : Nat) (c : Value), cs[j]? = some c → No8 c) : NoU8 w x := fun cs' t' fr' h' => by
  rw [h] at h'
  cases h'
  exact hc
theorem NoU8.set {w : World} {x j : Nat} {u : Value} (h : NoU8 w x) (hx : x < w.heap.size) (hu : No8 u) : NoU8 (w.setCell ⟨x, j, none⟩ u) x := fun cs t fr hc k c hk => by
  have hx' := Array.getElem?_eq_getElem hx
  unfold World.setCell at hc
  rw [Array.getElem?_modify, if_pos rfl, hx'] at hc
  cases ho : w.heap[x] with
  | cells cs0 t0 fr0 =>
    rw [ho] at hc hx'
    simp at hc
    obtain ⟨rfl, rfl, rfl⟩ := hc
    rw [Array.getElem?_setIfInBounds] at hk
    by_cases hjk : j = k
    · rw [if_pos hjk] at hk
      split at hk
      · rw [← Option.some.inj hk]; exact hu
      · cases hk
    · rw [if_neg hjk] at hk
      exact h cs0 _ _ hx' k c hk
  | _ => rw [ho] at hc; simp at hc
theorem NoU8.not_bytes {w : World} {x : Nat} (h : NoU8 w x) (v : Value) (l : List UInt8) (hb : BytesAt w v l) (hl : l ≠ []) : v.ownBlock ≠ some x := fun e => by
  obtain ⟨a, cap, rfl, h1, h2, h3⟩ := hb
  have hpos : 0 < l.length := by cases l; exact absurd rfl hl; simp
  rcases h3 with ⟨h3, _⟩ | ⟨g', o, rfl, hc⟩
  · exact hl h3
  · obtain rfl : g' = x := by simpa [Value.ownBlock] using e
    have h5 := hc 0 hpos
    rw [Nat.add_zero] at h5
    unfold World.cell? at h5
    cases hx : w.heap[g']? with
    | none => simp [hx] at h5
    | some o' =>
      cases o' with
      | cells cs t fr =>
        simp [hx] at h5
        exact h cs t fr hx o _ h5 _ rfl
      | _ => simp [hx] at h5
theorem no8_slice {a : Option Addr} {n c : Nat} : No8 (.slice a n c) := fun z => by simp
theorem no8_i64 {x : Int} : No8 (.int .i64 x) := fun z => by simp
theorem no8_bool {x : Bool} : No8 (.bool x) := fun z => by simp
theorem no8_ptr {a : Option Addr} : No8 (.pointer a) := fun z => by simp
theorem no8_list {l : List Value} (h : ∀ c ∈ l, No8 c) : ∀ (j : Nat) (c : Value), l.toArray[j]? = some c → No8 c := fun j c hj => by
  rw [List.getElem?_toArray] at hj
  exact h c (List.mem_of_getElem? hj)
theorem BytesAt.no8 {w : World} {v : Value} {l : List UInt8} (h : BytesAt w v l) : No8 v := by
  obtain ⟨a, cap, rfl, _⟩ := h
  exact no8_slice
theorem zero_cells_no8 (z : Array Value) (n : Nat) (hz : ∀ (j : Nat) (c : Value), z[j]? = some c → No8 c) (hz0 : 0 < z.size) : ∀ (j : Nat) (c : Value), (Builtin.zeroCells z n)[j]? = some c → No8 c := fun j c hj => by
  unfold Builtin.zeroCells at hj
  rw [Array.getElem?_map] at hj
  obtain ⟨i, _, rfl⟩ := Option.map_eq_some_iff.1 hj
  have hlt : i % z.size < z.size := Nat.mod_lt _ hz0
  rw [getElem!_pos z _ hlt]
  exact hz _ _ (Array.getElem?_eq_getElem hlt)
theorem app_no8 {a b : Array Value} (ha : ∀ (j : Nat) (c : Value), a[j]? = some c → No8 c) (hb : ∀ (j : Nat) (c : Value), b[j]? = some c → No8 c) : ∀ (j : Nat) (c : Value), (a ++ b)[j]? = some c → No8 c := fun j c hj => by
  rw [Array.getElem?_append] at hj
  split at hj
  · exact ha _ _ hj
  · exact hb _ _ hj
/-- append to a row of the call's own: what it gives, and that no byte has come into it. -/
theorem run_append_no8 {P : Program} (w : World) (t ty e : TypeId) (i : TypeInfo) (z : Value) (size bytes : Nat) (ht : P.underlying t = some (.slice e)) (hi : P.info? e = some i) (hz : i.zero = some z)
    (hsize : i.size = size) (hby : i.bytes = bytes) (hzs : z.cells.size = size) (hsz : 0 < size) (hz8 : ∀ (j : Nat) (c : Value), z.cells[j]? = some c → No8 c)
    (v : Value) (n : Nat) (xs : List Value) (hown : w.ownsRow 0 e size v n xs) (hx8 : ∀ c ∈ xs, No8 c) (hv8 : ∀ x, v.ownBlock = some x → NoU8 w x)
    (ad : Addr) (c : Nat) (news : List Value) (hl : news.length = size) (hnews : ∀ j u, news[j]? = some u → w.cell? (ad.add j) = some u) (h1 : ∀ u ∈ news, u.oneCell' = true) (hn8 : ∀ c ∈ news, No8 c)
    (h63 : n + 1 ≤ maxLen) (hbytes : (n + 1) * bytes ≤ 140737488355328) :
    ∃ g cap w', (Builtin.append_ #[t, t] ty #[v, .slice (some ad) 1 c]).run P w = .ok (.slice (some ⟨g, 0, none⟩) (n + 1) cap) w' ∧
      w'.ownsRow 0 e size (.slice (some ⟨g, 0, none⟩) (n + 1) cap) (n + 1) (xs ++ news) ∧ w.grownBy w' v.ownBlock ∧ (v.ownBlock = some g ∨ g = w.heap.size) ∧ g < w'.heap.size ∧ NoU8 w' g := by
  subst hsize
  subst hby
  obtain ⟨v', w', hr, h2, h3, _, h5⟩ := run_append_own_at (P := P) w 0 t ty e i z i.size i.bytes ht hi hz rfl rfl hzs hsz v n xs hown ad 1 c news (by rw [hl, Nat.one_mul]) hnews h1 h63 hbytes (Nat.zero_le _)
  obtain ⟨g, cap, rfl, _, hlt⟩ := h2.form (by omega)
  have hat : v.ownBlock = some g ∨ g = w.heap.size := by
    rcases h5 with h5 | h5
    · exact .inl (by rw [← h5]; rfl)
    · exact .inr (by simpa [Value.ownBlock] using h5)
  refine ⟨g, cap, w', hr, h2, h3, hat, hlt, ?_⟩
  have hsmall : n + 1 ≤ 9223372036854775807 := by simp only [maxLen] at h63; omega
  have hfit0 : Builtin.nextslicecap (n + 1) 0 * i.bytes ≤ 281474976710656 := by rw [nextslicecap_zero (by omega)]; omega
  have hall : ∀ k, (∀ (j : Nat) (c : Value), (xs.toArray ++ news.toArray ++ Builtin.zeroCells z.cells k)[j]? = some c → No8 c) := fun k =>
    app_no8 (app_no8 (no8_list hx8) (no8_list hn8)) (zero_cells_no8 _ _ hz8 (by omega))
  rcases hown.2 with ⟨rfl, h0⟩ | ⟨g0, cap0, cur, rfl, _, hg0, hnc, hcm, hcs, htake⟩
  · subst h0
    have hxs : xs = [] := List.eq_nil_of_length_eq_zero (by rw [hown.1, Nat.zero_mul])
    subst hxs
    have h := run_append_nil (P := P) (w := w) t ty e i z ht hi hz ad 1 c news (by rw [hl, Nat.one_mul]) hnews (by omega) (by omega) (by omega)
    rw [h] at hr
    simp only [Result.ok.injEq, Value.slice.injEq, Option.some.injEq, Addr.mk.injEq] at hr
    obtain ⟨⟨⟨rfl, -⟩, -⟩, rfl⟩ := hr
    exact NoU8.mk (heap_alloc_new w.drew _) (app_no8 (no8_list hn8) (zero_cells_no8 _ _ hz8 (by omega)))
  · have hg8 := hv8 g0 rfl
    by_cases hroom : n + 1 ≤ cap0
    · have hsz2 : (n + 1) * i.size ≤ cap0 * i.size := Nat.mul_le_mul_right _ hroom
      rw [Nat.add_mul, Nat.one_mul] at hsz2
      have h := run_append_room (P := P) (w := w) t ty e i ht hi g0 n cap0 cur hg0 ad 1 c news (by rw [hl, Nat.one_mul]) hnews h1 hroom (by rw [hl, hcs]; omega)
      rw [h] at hr
      simp only [Result.ok.injEq, Value.slice.injEq, Option.some.injEq, Addr.mk.injEq] at hr
      obtain ⟨⟨⟨rfl, -⟩, -⟩, rfl⟩ := hr
      refine NoU8.mk (setRow_heap w g0 cur _ e _ hg0) (no8_list (fun c hc => ?_))
      have hcur : ∀ c ∈ cur.toList, No8 c := fun c hc => by
        obtain ⟨j, hj⟩ := List.getElem?_of_mem hc
        exact hg8 cur e _ hg0 j c (by simpa using hj)
      rcases List.mem_append.1 hc with hc | hc
      · rcases List.mem_append.1 hc with hc | hc
        · exact hcur c (List.mem_of_mem_take hc)
        · exact hn8 c hc
      · exact hcur c (List.mem_of_mem_drop hc)
    · have holds : ∀ j v, xs[j]? = some v → w.cell? ((⟨g0, 0, none⟩ : Addr).add j) = some v := fun j v hj => hown.cells (g := g0) rfl j v hj
      have h := run_append_grow (P := P) (w := w) t ty e i z ht hi hz ⟨g0, 0, none⟩ n cap0 xs hown.1 holds ad 1 c news (by rw [hl, Nat.one_mul]) hnews (by omega) (by omega) (growslice_fits (by omega) hbytes)
      rw [h] at hr
      simp only [Result.ok.injEq, Value.slice.injEq, Option.some.injEq, Addr.mk.injEq] at hr
      obtain ⟨⟨⟨rfl, -⟩, -⟩, rfl⟩ := hr
      exact NoU8.mk (heap_alloc_new w.drew _) (hall _)
/-- At the operation; the element lies in a block just made. -/
theorem wp_append_no8 {P : Program} {o : Oper} {a : Act} {w : World} {K : Act → World → Prop} {Q : Exit → Act → World → Prop} (s x : Operand) (t : TypeId) (ho : o.op = .call { callee := .builtin .append, args := #[s, x], argTypes := #[t, t] })
    (e : TypeId) (i : TypeInfo) (z : Value) (size bytes : Nat) (ht : P.underlying t = some (.slice e)) (hi : P.info? e = some i) (hz : i.zero = some z)
    (hsize : i.size = size) (hby : i.bytes = bytes) (hzs : z.cells.size = size) (hsz : 0 < size) (hz8 : ∀ (j : Nat) (c : Value), z.cells[j]? = some c → No8 c)
    (v : Value) (n : Nat) (xs : List Value) (hs : a.eval s = v) (hown : w.ownsRow 0 e size v n xs) (hx8 : ∀ c ∈ xs, No8 c) (hv8 : ∀ x, v.ownBlock = some x → NoU8 w x)
    (ad : Addr) (c : Nat) (hx : a.eval x = .slice (some ad) 1 c) (news : List Value) (hl : news.length = size) (hnews : ∀ j u, news[j]? = some u → w.cell? (ad.add j) = some u) (h1 : ∀ u ∈ news, u.oneCell' = true) (hn8 : ∀ c ∈ news, No8 c)
    (h63 : n + 1 ≤ maxLen) (hbytes : (n + 1) * bytes ≤ 140737488355328)
    (h : ∀ g cap w', w'.ownsRow 0 e size (.slice (some ⟨g, 0, none⟩) (n + 1) cap) (n + 1) (xs ++ news) → w.grownBy w' v.ownBlock → (v.ownBlock = some g ∨ g = w.heap.size) → g < w'.heap.size → NoU8 w' g → K (a.put o.dst (.slice (some ⟨g, 0, none⟩) (n + 1) cap)) w') : o.wp P a w K Q := by
  obtain ⟨g, cap, w', hr, h2, h3, h4, h5, h6⟩ := run_append_no8 (P := P) w t o.type e i z size bytes ht hi hz hsize hby hzs hsz hz8 v n xs hown hx8 hv8 ad c news hl hnews h1 hn8 h63 hbytes
  unfold Oper.wp execOp
  simp only [ho, resolve, invoke, builtin, Sem.run_bind, Sem.run_pure, Result.andThen_ok, List.map_toArray, List.map_cons, List.map_nil, hs, hx, hr]
  exact h g cap w' h2 h3 h4 h5 h6
theorem news_one {w : World} {e : TypeId} {u : Value} {N : Nat} (hN : N = w.heap.size) : ∀ j x, [u][j]? = some x → (w.alloc (.cells #[u] e)).cell? ((⟨N, 0, none⟩ : Addr).add j) = some x := fun j x hj => by
  subst hN
  cases j with
  | zero => simp at hj; subst hj; rw [add_none]; exact blk_cell (heap_alloc_new w _) 0 _ rfl
  | succ j => simp at hj
theorem one_z8 {z : Value} (h : z.cells = #[z]) (h8 : No8 z) : ∀ (j : Nat) (c : Value), z.cells[j]? = some c → No8 c := fun j c hj => by
  rw [h] at hj
  cases j with
  | zero => simp at hj; subst hj; exact h8
  | succ j => simp at hj
end Go.Proofs.YtbkajnjboipbhaaGreatDoor.W

/- The reference's disk in memory; op. -/
namespace Go.Proofs.YtbkajnjboipbhaaGreatDoor.W
open Go.RowKit
set_option linter.unusedVariables false
set_option linter.unusedSimpArgs false

def rrows (n : Nat) (nv lv av wv : Value) (NV LV AV WV : List Value) : List RowD := [⟨27, 1, nv, n, NV⟩, ⟨27, 1, lv, n, LV⟩, ⟨3, 1, av, AV.length, AV⟩, ⟨27, 1, wv, WV.length, WV⟩]
def rcs (d : DS) (nv lv av wv : Value) : Array Value := #[nv, lv, av, wv, .int .i64 (d.ops : Int), .int .i64 d.fuse, .bool d.dead]
/-- The reference's disk in block m; V: what may be written; F: all its blocks. -/
structure RDiskOk (w : World) (m : Nat) (V F : List Nat) (d : DS) (nv lv av wv : Value) (NV LV AV WV : List Value) : Prop where
  obj : ObjAt w m 78 (rcs d nv lv av wv) (rrows d.n nv lv av wv NV LV AV WV)
  now : ∀ k, k < d.n → (d.now k).length = 64 ∧ BytesAt w (NV.getD k undef) (d.now k) ∧ ∀ g, (NV.getD k undef).ownBlock = some g → g ∈ F ∧ g ∉ V
  lasts : ∀ c ∈ LV, No8 c
  ats : (∀ c ∈ AV, No8 c) ∧ AV.length ≤ d.since.length
  wrote : (∀ c ∈ WV, No8 c) ∧ WV.length ≤ d.since.length
  few : d.n ≤ 4160
  fuse : -1 ≤ d.fuse ∧ d.fuse ≤ 9223372036854775807
  mem : V = blks m (rrows d.n nv lv av wv NV LV AV WV)
  no8 : ∀ x ∈ V, NoU8 w x
  sub : ∀ x ∈ V, x ∈ F
  lim : ∀ x ∈ F, x < w.heap.size
def RDiskAt (w : World) (m : Nat) (V F : List Nat) (d : DS) : Prop := ∃ nv lv av wv NV LV AV WV, RDiskOk w m V F d nv lv av wv NV LV AV WV
theorem RDiskAt.keep {w w' : World} {m : Nat} {V F T : List Nat} {d : DS} (h : RDiskAt w m V F d) (hc : Chg T w w') (ha : ∀ x ∈ F, x ∉ T) : RDiskAt w' m V F d := by
  obtain ⟨nv, lv, av, wv, NV, LV, AV, WV, h⟩ := h
  refine ⟨nv, lv, av, wv, NV, LV, AV, WV, h.obj.keep hc (fun x hx => ha x (h.sub x (by rw [h.mem]; exact hx))), fun k hk => ?_, h.lasts, h.ats, h.wrote, h.few, h.fuse, h.mem, fun x hx => (h.no8 x hx).keep (hc.block x (h.lim x (h.sub x hx)) (ha x (h.sub x hx))), h.sub, fun x hx => Nat.lt_of_lt_of_le (h.lim x hx) hc.size⟩
  obtain ⟨h1, h2, h3⟩ := h.now k hk
  exact ⟨h1, h2.chg hc (fun g hg => ha g (h3 g hg).1), h3⟩
theorem RDiskOk.keep0 {w w' : World} {m : Nat} {V F : List Nat} {d : DS} {nv lv av wv : Value} {NV LV AV WV : List Value} (h : RDiskOk w m V F d nv lv av wv NV LV AV WV) (hc : Chg [] w w') : RDiskOk w' m V F d nv lv av wv NV LV AV WV := by
  refine ⟨h.obj.keep hc (by simp), fun k hk => ?_, h.lasts, h.ats, h.wrote, h.few, h.fuse, h.mem, fun x hx => (h.no8 x hx).keep (hc.block x (h.lim x (h.sub x hx)) (by simp)), h.sub, fun x hx => Nat.lt_of_lt_of_le (h.lim x hx) hc.size⟩
  obtain ⟨h1, h2, h3⟩ := h.now k hk
  exact ⟨h1, h2.chg hc (by simp), h3⟩
theorem RDiskAt.lim {w : World} {m : Nat} {V F : List Nat} {d : DS} (h : RDiskAt w m V F d) : (∀ x ∈ F, x < w.heap.size) ∧ (∀ x ∈ V, x ∈ F) ∧ ∀ x ∈ V, NoU8 w x := by
  obtain ⟨nv, lv, av, wv, NV, LV, AV, WV, h⟩ := h
  exact ⟨h.lim, h.sub, h.no8⟩
/-- What doing with it leaves. -/
def RDid (w w' : World) (m : Nat) (V F : List Nat) (d : DS) : Prop := ∃ V' F', RDiskAt w' m V' F' d ∧ (∀ x ∈ V', x ∈ V ∨ w.heap.size ≤ x) ∧ (∀ x ∈ F', x ∈ F ∨ w.heap.size ≤ x) ∧ Chg V w w'
theorem RDid.same {w : World} {m : Nat} {V F : List Nat} {d : DS} (h : RDiskAt w m V F d) : RDid w w m V F d := ⟨V, F, h, fun x hx => .inl hx, fun x hx => .inl hx, Chg.refl _ _⟩
theorem RDid.glue {w w1 w2 : World} {m : Nat} {V F V1 F1 : List Nat} {d : DS} (hv : ∀ x ∈ V1, x ∈ V ∨ w.heap.size ≤ x) (hf : ∀ x ∈ F1, x ∈ F ∨ w.heap.size ≤ x) (hc : Chg V w w1) (h : RDid w1 w2 m V1 F1 d) : RDid w w2 m V F d := by
  obtain ⟨V2, F2, b1, b2, b3, b4⟩ := h
  refine ⟨V2, F2, b1, fun x hx => ?_, fun x hx => ?_, hc.trans b4 hv⟩
  · rcases b2 x hx with h | h
    · exact hv x h
    · exact .inr (Nat.le_trans hc.size h)
  · rcases b3 x hx with h | h
    · exact hf x h
    · exact .inr (Nat.le_trans hc.size h)
theorem RDid.pre {w0 w w' : World} {m : Nat} {V F : List Nat} {d : DS} (hc : Chg [] w0 w) (h : RDid w w' m V F d) : RDid w0 w' m V F d := RDid.glue (fun x hx => .inl hx) (fun x hx => .inl hx) (hc.mono (by simp)) h
theorem RDid.trans {w w1 w2 : World} {m : Nat} {V F : List Nat} {d1 d2 : DS} (h1 : RDid w w1 m V F d1) (h2 : ∀ V1 F1, RDiskAt w1 m V1 F1 d1 → RDid w1 w2 m V1 F1 d2) : RDid w w2 m V F d2 := by
  obtain ⟨V1, F1, a1, a2, a3, a4⟩ := h1
  exact RDid.glue a2 a3 a4 (h2 V1 F1 a1)
theorem RDiskOk.head {w : World} {m : Nat} {V F : List Nat} {d : DS} {nv lv av wv : Value} {NV LV AV WV : List Value} (h : RDiskOk w m V F d nv lv av wv NV LV AV WV) : w.heap[m]? = some (.cells #[nv, lv, av, wv, .int .i64 (d.ops : Int), .int .i64 d.fuse, .bool d.dead] 78 (0, 0)) := h.obj.head
/-- A store into a counter. -/
theorem RDiskOk.put {w w' : World} {m : Nat} {V F : List Nat} {d d' : DS} {nv lv av wv : Value} {NV LV AV WV : List Value} (h : RDiskOk w m V F d nv lv av wv NV LV AV WV) (hc : Chg [m] w w') (hn : NoU8 w' m)
    (hh : w'.heap[m]? = some (.cells (rcs d' nv lv av wv) 78 (0, 0))) (e1 : d'.n = d.n) (e2 : d'.now = d.now) (e3 : d'.since = d.since) (e5 : -1 ≤ d'.fuse ∧ d'.fuse ≤ 9223372036854775807) : RDid w w' m V F d' := by
  have hmV : m ∈ V := by rw [h.mem]; exact blks_head
  have hNV : ∀ k, k < d.n → ∀ g, (NV.getD k undef).ownBlock = some g → g ∉ [m] := fun k hk g hg hm => (h.now k hk).2.2 g hg |>.2 (by rw [List.mem_singleton.1 hm]; exact hmV)
  refine ⟨V, F, ⟨nv, lv, av, wv, NV, LV, AV, WV, ⟨hh, fun r hr => ?_, by rw [e1]; exact h.obj.apart⟩, fun k hk => ?_, h.lasts, by rw [e3]; exact h.ats, by rw [e3]; exact h.wrote, by rw [e1]; exact h.few, e5, by rw [e1]; exact h.mem, fun x hx => ?_, h.sub, fun x hx => Nat.lt_of_lt_of_le (h.lim x hx) hc.size⟩, fun x hx => .inl hx, fun x hx => .inl hx, hc.mono (fun x hx => .inl (by rw [List.mem_singleton.1 hx]; exact hmV))⟩
  · rw [e1] at hr
    exact row_keep (h.obj.rows r hr) (fun g hg => hc.block g (World.ownsRow.lt (h.obj.rows r hr) g hg).2 (by
      intro hm
      exact h.obj.row_ne hr hg (List.mem_singleton.1 hm)))
  · rw [e1] at hk
    rw [e2]
    obtain ⟨h1, h2, h3⟩ := h.now k hk
    exact ⟨h1, h2.chg hc (hNV k hk), h3⟩
  · by_cases hxm : x = m
    · rw [hxm]; exact hn
    · exact (h.no8 x hx).keep (hc.block x (h.lim x (h.sub x hx)) (by simp; exact hxm))

end Go.Proofs.YtbkajnjboipbhaaGreatDoor.W

/- The reference's disk: its fields are set. -/
namespace Go.Proofs.YtbkajnjboipbhaaGreatDoor.W
open Go.RowKit
set_option linter.unusedVariables false
set_option linter.unusedSimpArgs false

/-- A field that is a row is another row: grown, or new. -/
theorem ObjAt.field {w w2 : World} {p t : Nat} {cs : Array Value} {a b : List RowD} {r r' : RowD} (h : ObjAt w p t cs (a ++ r :: b)) (j : Nat) (hg : w.grownBy w2 r.v.ownBlock) (hrow : r'.At w2)
    (hat : ∀ k, r'.v.ownBlock = some k → r.v.ownBlock = some k ∨ w.heap.size ≤ k) : ObjAt (w2.setCell ⟨p, j, none⟩ r'.v) p t (cs.setIfInBounds j r'.v) (a ++ r' :: b) ∧ (∀ x ∈ blks p (a ++ r' :: b), x ∈ blks p (a ++ r :: b) ∨ w.heap.size ≤ x) ∧ Chg (blks p (a ++ r :: b)) w (w2.setCell ⟨p, j, none⟩ r'.v) := by
  obtain ⟨g1, g2, g3⟩ := h.grow hg hrow hat
  exact ⟨g1.setHead j r'.v, g2, g3.setCell (p := ⟨p, j, none⟩) (.inl blks_head) _⟩
theorem RDiskOk.turn {w w3 : World} {m : Nat} {V F : List Nat} {d d' : DS} {nv lv av wv av' wv' : Value} {NV LV AV WV AV' WV' : List Value} (h : RDiskOk w m V F d nv lv av wv NV LV AV WV)
    (hobj : ObjAt w3 m 78 (rcs d' nv lv av' wv') (rrows d'.n nv lv av' wv' NV LV AV' WV')) (hb : ∀ x ∈ blks m (rrows d'.n nv lv av' wv' NV LV AV' WV'), x ∈ V ∨ w.heap.size ≤ x) (hc : Chg V w w3)
    (h8 : ∀ x ∈ blks m (rrows d'.n nv lv av' wv' NV LV AV' WV'), NoU8 w3 x) (en : d'.n = d.n) (enow : d'.now = d.now) (ef : d'.fuse = d.fuse) (hA : (∀ c ∈ AV', No8 c) ∧ AV'.length ≤ d'.since.length) (hW : (∀ c ∈ WV', No8 c) ∧ WV'.length ≤ d'.since.length) :
    RDiskOk w3 m (blks m (rrows d'.n nv lv av' wv' NV LV AV' WV')) (F ++ blks m (rrows d'.n nv lv av' wv' NV LV AV' WV')) d' nv lv av' wv' NV LV AV' WV' := by
  refine ⟨hobj, fun k hk => ?_, h.lasts, hA, hW, by rw [en]; exact h.few, by rw [ef]; exact h.fuse, rfl, h8, fun x hx => List.mem_append_right _ hx, fun x hx => ?_⟩
  · rw [en] at hk
    rw [enow]
    obtain ⟨h1, h2, h3⟩ := h.now k hk
    refine ⟨h1, h2.chg hc (fun g hg => (h3 g hg).2), fun g hg => ⟨List.mem_append_left _ (h3 g hg).1, fun hm => ?_⟩⟩
    rcases hb g hm with h4 | h4
    · exact (h3 g hg).2 h4
    · have := h.lim g (h3 g hg).1; omega
  · rcases List.mem_append.1 hx with hx | hx
    · exact Nat.lt_of_lt_of_le (h.lim x hx) hc.size
    · exact hobj.lim x hx
theorem RDiskOk.row {w : World} {m : Nat} {V F : List Nat} {d : DS} {nv lv av wv : Value} {NV LV AV WV : List Value} (h : RDiskOk w m V F d nv lv av wv NV LV AV WV) : w.ownsRow 0 27 1 nv d.n NV ∧ w.ownsRow 0 27 1 lv d.n LV ∧ w.ownsRow 0 3 1 av AV.length AV ∧ w.ownsRow 0 27 1 wv WV.length WV :=
  ⟨h.obj.rows _ (by simp [rrows] : (⟨27, 1, nv, d.n, NV⟩ : RowD) ∈ _), h.obj.rows _ (by simp [rrows] : (⟨27, 1, lv, d.n, LV⟩ : RowD) ∈ _), h.obj.rows _ (by simp [rrows] : (⟨3, 1, av, AV.length, AV⟩ : RowD) ∈ _), h.obj.rows _ (by simp [rrows] : (⟨27, 1, wv, WV.length, WV⟩ : RowD) ∈ _)⟩
theorem RDiskOk.in {w : World} {m : Nat} {V F : List Nat} {d : DS} {nv lv av wv : Value} {NV LV AV WV : List Value} (h : RDiskOk w m V F d nv lv av wv NV LV AV WV) : m ∈ V ∧ (∀ x, nv.ownBlock = some x → x ∈ V) ∧ (∀ x, lv.ownBlock = some x → x ∈ V) ∧ (∀ x, av.ownBlock = some x → x ∈ V) ∧ ∀ x, wv.ownBlock = some x → x ∈ V := by
  rw [h.mem]
  refine ⟨blks_head, fun x hx => ?_, fun x hx => ?_, fun x hx => ?_, fun x hx => ?_⟩
  · exact blks_row (r := ⟨27, 1, nv, d.n, NV⟩) (by simp [rrows]) hx
  · exact blks_row (r := ⟨27, 1, lv, d.n, LV⟩) (by simp [rrows]) hx
  · exact blks_row (r := ⟨3, 1, av, AV.length, AV⟩) (by simp [rrows]) hx
  · exact blks_row (r := ⟨27, 1, wv, WV.length, WV⟩) (by simp [rrows]) hx
theorem ObjAt.other_ne {w : World} {p t : Nat} {cs : Array Value} {a b : List RowD} {r q : RowD} (h : ObjAt w p t cs (a ++ r :: b)) (hq : q ∈ a ∨ q ∈ b) {x : Nat} (hx : q.v.ownBlock = some x) : r.v.ownBlock ≠ some x := fun hr => by
  have hnd := (List.nodup_cons.1 h.apart).2
  rw [List.filterMap_append, List.filterMap_cons, hr] at hnd
  simp only at hnd
  have hd := List.nodup_append.1 hnd
  rcases hq with hq | hq
  · exact hd.2.2 x (List.mem_filterMap.2 ⟨q, hq, hx⟩) x (List.mem_cons_self ..) rfl
  · exact (List.nodup_cons.1 hd.2.1).1 (List.mem_filterMap.2 ⟨q, hq, hx⟩)
/-- No byte comes into an object's blocks. -/
theorem ObjAt.field8 {w w2 : World} {p t : Nat} {cs : Array Value} {a b : List RowD} {r r' : RowD} (h : ObjAt w p t cs (a ++ r :: b)) (h8 : ∀ x ∈ blks p (a ++ r :: b), NoU8 w x) (j : Nat) (hg : w.grownBy w2 r.v.ownBlock)
    (hat : ∀ k, r'.v.ownBlock = some k → r.v.ownBlock = some k ∨ w.heap.size ≤ k) (h8' : ∀ x, r'.v.ownBlock = some x → NoU8 w2 x) (hu : No8 r'.v) : ∀ x ∈ blks p (a ++ r' :: b), NoU8 (w2.setCell ⟨p, j, none⟩ r'.v) x := fun x hx => by
  have hmr : r ∈ a ++ r :: b := List.mem_append_right _ (List.mem_cons_self ..)
  have hpl := blk_lt h.head
  have hp2 : w2.heap[p]? = w.heap[p]? := hg.block p hpl (fun e => h.row_ne hmr e.symm rfl)
  have hset : ∀ x, x ≠ p → (w2.setCell ⟨p, j, none⟩ r'.v).heap[x]? = w2.heap[x]? := fun x hx => Below.heap_setCell w2 ⟨p, j, none⟩ _ x hx
  have hother : ∀ q, q ∈ a ∨ q ∈ b → q ∈ a ++ r :: b → q.v.ownBlock = some x → NoU8 (w2.setCell ⟨p, j, none⟩ r'.v) x := fun q hq hm he => by
    have h1 := h.row_ne hm he
    have h2 := h.other_ne hq he
    have h3 := h.lim x (blks_row hm he)
    exact (h8 x (blks_row hm he)).keep ((hset x h1).trans (hg.block x h3 (fun e => h2 e.symm)))
  rcases mem_blks hx with rfl | ⟨q, hq, he⟩
  · exact ((h8 x blks_head).keep hp2).set (Nat.lt_of_lt_of_le hpl hg.size) hu
  · rcases List.mem_append.1 hq with hq | hq
    · exact hother q (.inl hq) (List.mem_append_left _ hq) he
    · rcases List.mem_cons.1 hq with rfl | hq
      · have hxp : x ≠ p := fun e => by
          rcases hat x he with h1 | h1
          · exact h.row_ne hmr h1 e
          · omega
        exact (h8' x he).keep (hset x hxp)
      · exact hother q (.inr hq) (List.mem_append_right _ (List.mem_cons_of_mem _ hq)) he
/-- At grows. -/
theorem RDiskOk.at {w w2 : World} {m : Nat} {V F : List Nat} {d : DS} {nv lv av wv : Value} {NV LV AV WV : List Value} (h : RDiskOk w m V F d nv lv av wv NV LV AV WV) (x : Nat × List UInt8) (u : Value) (g cap : Nat) (hg : w.grownBy w2 av.ownBlock)
    (hrow : w2.ownsRow 0 3 1 (.slice (some ⟨g, 0, none⟩) (AV.length + 1) cap) (AV.length + 1) (AV ++ [u])) (hat : av.ownBlock = some g ∨ g = w.heap.size) (h8 : NoU8 w2 g) (hu : No8 u) :
    ∃ V' F', RDiskOk (w2.setCell ⟨m, 2, none⟩ (.slice (some ⟨g, 0, none⟩) (AV.length + 1) cap)) m V' F' { d with since := d.since ++ [x] } nv lv (.slice (some ⟨g, 0, none⟩) (AV.length + 1) cap) wv NV LV (AV ++ [u]) WV ∧
      (∀ x ∈ V', x ∈ V ∨ w.heap.size ≤ x) ∧ (∀ x ∈ F', x ∈ F ∨ w.heap.size ≤ x) ∧ Chg V w (w2.setCell ⟨m, 2, none⟩ (.slice (some ⟨g, 0, none⟩) (AV.length + 1) cap)) := by
  have hloc : ∀ k, (Value.slice (some ⟨g, 0, none⟩) (AV.length + 1) cap).ownBlock = some k → av.ownBlock = some k ∨ w.heap.size ≤ k := fun k hk => by
    obtain rfl : g = k := by simpa [Value.ownBlock] using hk
    rcases hat with h4 | h4
    · exact .inl h4
    · exact .inr (by omega)
  have hobj : ObjAt w m 78 (rcs d nv lv av wv) ([⟨27, 1, nv, d.n, NV⟩, ⟨27, 1, lv, d.n, LV⟩] ++ (⟨3, 1, av, AV.length, AV⟩ : RowD) :: [⟨27, 1, wv, WV.length, WV⟩]) := h.obj
  obtain ⟨o1, o2, o3⟩ := hobj.field (r' := ⟨3, 1, .slice (some ⟨g, 0, none⟩) (AV.length + 1) cap, (AV ++ [u]).length, AV ++ [u]⟩) 2 hg (by
    show w2.ownsRow 0 3 1 (.slice (some ⟨g, 0, none⟩) (AV.length + 1) cap) (AV ++ [u]).length (AV ++ [u])
    rw [List.length_append]
    exact hrow) hloc
  have hV : V = blks m (rrows d.n nv lv av wv NV LV AV WV) := h.mem
  have hV' : ∀ x ∈ blks m (rrows d.n nv lv (.slice (some ⟨g, 0, none⟩) (AV.length + 1) cap) wv NV LV (AV ++ [u]) WV), x ∈ V ∨ w.heap.size ≤ x := fun x hx => by rw [hV]; exact o2 x hx
  have hc : Chg V w (w2.setCell ⟨m, 2, none⟩ (.slice (some ⟨g, 0, none⟩) (AV.length + 1) cap)) := by rw [hV]; exact o3
  refine ⟨_, _, h.turn (d' := { d with since := d.since ++ [x] }) o1 hV' hc (hobj.field8 (fun y hy => h.no8 y (by rw [h.mem]; exact hy)) 2 hg (r' := ⟨3, 1, .slice (some ⟨g, 0, none⟩) (AV.length + 1) cap, (AV ++ [u]).length, AV ++ [u]⟩) hloc (fun y hy => by
    obtain rfl : g = y := by simpa [Value.ownBlock] using hy
    exact h8) no8_slice) rfl rfl rfl ⟨fun c hc => ?_, by simp; exact h.ats.2⟩ ⟨h.wrote.1, by simp; exact Nat.le_succ_of_le h.wrote.2⟩, hV', fun y hy => ?_, hc⟩
  · rcases List.mem_append.1 hc with hc | hc
    · exact h.ats.1 c hc
    · rw [List.mem_singleton.1 hc]; exact hu
  · rcases List.mem_append.1 hy with hy | hy
    · exact .inl hy
    · rcases hV' y hy with h4 | h4
      · exact .inl (h.sub y h4)
      · exact .inr h4
/-- Wrote grows, behind At. -/
theorem RDiskOk.more {w w2 : World} {m : Nat} {V F : List Nat} {d : DS} {nv lv av wv : Value} {NV LV AV WV : List Value} (h : RDiskOk w m V F d nv lv av wv NV LV AV WV) (u : Value) (g cap : Nat) (hg : w.grownBy w2 wv.ownBlock)
    (hrow : w2.ownsRow 0 27 1 (.slice (some ⟨g, 0, none⟩) (WV.length + 1) cap) (WV.length + 1) (WV ++ [u])) (hat : wv.ownBlock = some g ∨ g = w.heap.size) (h8 : NoU8 w2 g) (hu : No8 u) (hl : WV.length + 1 ≤ d.since.length) :
    RDid w (w2.setCell ⟨m, 3, none⟩ (.slice (some ⟨g, 0, none⟩) (WV.length + 1) cap)) m V F d := by
  have hloc : ∀ k, (Value.slice (some ⟨g, 0, none⟩) (WV.length + 1) cap).ownBlock = some k → wv.ownBlock = some k ∨ w.heap.size ≤ k := fun k hk => by
    obtain rfl : g = k := by simpa [Value.ownBlock] using hk
    rcases hat with h4 | h4
    · exact .inl h4
    · exact .inr (by omega)
  have hobj : ObjAt w m 78 (rcs d nv lv av wv) ([⟨27, 1, nv, d.n, NV⟩, ⟨27, 1, lv, d.n, LV⟩, ⟨3, 1, av, AV.length, AV⟩] ++ (⟨27, 1, wv, WV.length, WV⟩ : RowD) :: []) := h.obj
  obtain ⟨o1, o2, o3⟩ := hobj.field (r' := ⟨27, 1, .slice (some ⟨g, 0, none⟩) (WV.length + 1) cap, (WV ++ [u]).length, WV ++ [u]⟩) 3 hg (by
    show w2.ownsRow 0 27 1 (.slice (some ⟨g, 0, none⟩) (WV.length + 1) cap) (WV ++ [u]).length (WV ++ [u])
    rw [List.length_append]
    exact hrow) hloc
  have hV : V = blks m (rrows d.n nv lv av wv NV LV AV WV) := h.mem
  have hV' : ∀ x ∈ blks m (rrows d.n nv lv av (.slice (some ⟨g, 0, none⟩) (WV.length + 1) cap) NV LV AV (WV ++ [u])), x ∈ V ∨ w.heap.size ≤ x := fun x hx => by rw [hV]; exact o2 x hx
  have hc : Chg V w (w2.setCell ⟨m, 3, none⟩ (.slice (some ⟨g, 0, none⟩) (WV.length + 1) cap)) := by rw [hV]; exact o3
  refine ⟨_, _, ⟨_, _, _, _, _, _, _, _, h.turn (d' := d) o1 hV' hc (hobj.field8 (fun y hy => h.no8 y (by rw [h.mem]; exact hy)) 3 hg (r' := ⟨27, 1, .slice (some ⟨g, 0, none⟩) (WV.length + 1) cap, (WV ++ [u]).length, WV ++ [u]⟩) hloc (fun y hy => by
    obtain rfl : g = y := by simpa [Value.ownBlock] using hy
    exact h8) no8_slice) rfl rfl rfl h.ats ⟨fun c hc => ?_, by simp; exact hl⟩⟩, hV', fun y hy => ?_, hc⟩
  · rcases List.mem_append.1 hc with hc | hc
    · exact h.wrote.1 c hc
    · rw [List.mem_singleton.1 hc]; exact hu
  · rcases List.mem_append.1 hy with hy | hy
    · exact .inl hy
    · rcases hV' y hy with h4 | h4
      · exact .inl (h.sub y h4)
      · exact .inr h4
/-- A sector is another. -/
theorem RDiskOk.sec {w : World} {m : Nat} {V F : List Nat} {d : DS} {nv lv av wv : Value} {NV LV AV WV : List Value} (h : RDiskOk w m V F d nv lv av wv NV LV AV WV) (k g cap : Nat) (b : List UInt8) (u : Value) (hk : k < d.n) (hnv : nv = .slice (some ⟨g, 0, none⟩) d.n cap) (hb : b.length = 64) (hu : BytesAt w u b)
    (hown : ∀ x, u.ownBlock = some x → x < w.heap.size ∧ x ∉ V) : RDid w (w.setCell ⟨g, k, none⟩ u) m V (F ++ u.ownBlock.toList) { d with now := upd d.now k b } := by
  have hgV : g ∈ V := h.in.2.1 g (by rw [hnv]; rfl)
  have hc : Chg [g] w (w.setCell ⟨g, k, none⟩ u) := (Chg.refl _ w).setCell (p := ⟨g, k, none⟩) (.inl (by simp)) _
  have hcV : Chg V w (w.setCell ⟨g, k, none⟩ u) := hc.mono (fun x hx => .inl (by rw [List.mem_singleton.1 hx]; exact hgV))
  have hrows := h.row
  have hne : ∀ (r : RowD), r ∈ [(⟨27, 1, lv, d.n, LV⟩ : RowD), ⟨3, 1, av, AV.length, AV⟩, ⟨27, 1, wv, WV.length, WV⟩] → r.v.ownBlock ≠ some g := fun r hr he => by
    have hobj : ObjAt w m 78 (rcs d nv lv av wv) ([] ++ (⟨27, 1, nv, d.n, NV⟩ : RowD) :: [⟨27, 1, lv, d.n, LV⟩, ⟨3, 1, av, AV.length, AV⟩, ⟨27, 1, wv, WV.length, WV⟩]) := h.obj
    exact hobj.other_ne (.inr hr) he (by rw [hnv]; rfl)
  have hmg : m ≠ g := fun e => h.obj.row_ne (r := ⟨27, 1, nv, d.n, NV⟩) (by simp [rrows]) (k := g) (by rw [hnv]; rfl) e.symm
  have hlen : NV.length = d.n := by have := hrows.1.1; omega
  refine ⟨V, _, ⟨nv, lv, av, wv, NV.set k u, LV, AV, WV, ⟨hc.keep h.obj.head (by simp; exact hmg), fun r hr => ?_, h.obj.apart⟩, fun j hj => ?_, h.lasts, h.ats, h.wrote, h.few, h.fuse, h.mem, fun x hx => ?_, fun x hx => List.mem_append_left _ (h.sub x hx), fun x hx => ?_⟩, fun x hx => .inl hx, fun x hx => .inl hx, hcV⟩
  · simp only [rrows, List.mem_cons, List.mem_nil_iff, or_false] at hr
    rcases hr with rfl | hr
    · show (w.setCell ⟨g, k, none⟩ u).ownsRow 0 27 1 nv d.n (NV.set k u)
      have h1 := hrows.1
      rw [hnv] at h1 ⊢
      exact row_set h1 k u (by omega)
    · have hmem : r ∈ rrows d.n nv lv av wv NV LV AV WV := by rcases hr with rfl | rfl | rfl <;> simp [rrows]
      have hr' : r ∈ [(⟨27, 1, lv, d.n, LV⟩ : RowD), ⟨3, 1, av, AV.length, AV⟩, ⟨27, 1, wv, WV.length, WV⟩] := by rcases hr with rfl | rfl | rfl <;> simp
      exact row_keep (h.obj.rows r hmem) (fun y hy => hc.block y (World.ownsRow.lt (h.obj.rows r hmem) y hy).2 (by
        intro hm
        rw [List.mem_singleton.1 hm] at hy
        exact hne r hr' hy))
  · show (upd d.now k b j).length = 64 ∧ BytesAt _ ((NV.set k u).getD j undef) (upd d.now k b j) ∧ _
    have hset : (NV.set k u).getD j undef = if j = k then u else NV.getD j undef := by
      rw [List.getD_eq_getElem?_getD, List.getElem?_set, List.getD_eq_getElem?_getD]
      by_cases hjk : k = j
      · subst hjk; simp [hlen, hk]
      · rw [if_neg hjk, if_neg (fun e => hjk e.symm)]
    rw [hset]
    unfold upd
    by_cases hjk : j = k
    · rw [if_pos hjk, if_pos hjk]
      refine ⟨hb, hu.chg hcV (fun x hx => (hown x hx).2), fun x hx => ⟨List.mem_append_right _ (by rw [hx]; simp), (hown x hx).2⟩⟩
    · rw [if_neg hjk, if_neg hjk]
      obtain ⟨h1, h2, h3⟩ := h.now j hj
      exact ⟨h1, h2.chg hcV (fun x hx => (h3 x hx).2), fun x hx => ⟨List.mem_append_left _ (h3 x hx).1, (h3 x hx).2⟩⟩
  · by_cases hxg : x = g
    · rw [hxg]
      exact (h.no8 g hgV).set (h.lim g (h.sub g hgV)) hu.no8
    · exact (h.no8 x hx).keep (hc.block x (h.lim x (h.sub x hx)) (by simp; exact hxg))
  · rcases List.mem_append.1 hx with hx | hx
    · exact Nat.lt_of_lt_of_le (h.lim x hx) hc.size
    · have := (hown x (by simpa using hx)).1
      simpa [World.setCell] using this
/-- A sector that lasts is another. -/
theorem RDiskOk.last {w : World} {m : Nat} {V F : List Nat} {d : DS} {nv lv av wv : Value} {NV LV AV WV : List Value} (h : RDiskOk w m V F d nv lv av wv NV LV AV WV) (k g cap : Nat) (u : Value) (hk : k < d.n) (hlv : lv = .slice (some ⟨g, 0, none⟩) d.n cap) (hu : No8 u) :
    RDiskOk (w.setCell ⟨g, k, none⟩ u) m V F d nv lv av wv NV (LV.set k u) AV WV ∧ Chg V w (w.setCell ⟨g, k, none⟩ u) := by
  have hgV : g ∈ V := h.in.2.2.1 g (by rw [hlv]; rfl)
  have hc : Chg [g] w (w.setCell ⟨g, k, none⟩ u) := (Chg.refl _ w).setCell (p := ⟨g, k, none⟩) (.inl (by simp)) _
  have hcV : Chg V w (w.setCell ⟨g, k, none⟩ u) := hc.mono (fun x hx => .inl (by rw [List.mem_singleton.1 hx]; exact hgV))
  have hrows := h.row
  have hne : ∀ (r : RowD), r ∈ [(⟨27, 1, nv, d.n, NV⟩ : RowD), ⟨3, 1, av, AV.length, AV⟩, ⟨27, 1, wv, WV.length, WV⟩] → r.v.ownBlock ≠ some g := fun r hr he => by
    have hobj : ObjAt w m 78 (rcs d nv lv av wv) ([⟨27, 1, nv, d.n, NV⟩] ++ (⟨27, 1, lv, d.n, LV⟩ : RowD) :: [⟨3, 1, av, AV.length, AV⟩, ⟨27, 1, wv, WV.length, WV⟩]) := h.obj
    refine hobj.other_ne (q := r) ?_ he (by rw [hlv]; rfl)
    simp only [List.mem_cons, List.mem_nil_iff, or_false] at hr ⊢
    exact hr
  have hmg : m ≠ g := fun e => h.obj.row_ne (r := ⟨27, 1, lv, d.n, LV⟩) (by simp [rrows]) (k := g) (by rw [hlv]; rfl) e.symm
  refine ⟨⟨⟨hc.keep h.obj.head (by simp; exact hmg), fun r hr => ?_, h.obj.apart⟩, fun j hj => ?_, fun c hc => ?_, h.ats, h.wrote, h.few, h.fuse, h.mem, fun x hx => ?_, h.sub, fun x hx => Nat.lt_of_lt_of_le (h.lim x hx) hc.size⟩, hcV⟩
  · simp only [rrows, List.mem_cons, List.mem_nil_iff, or_false] at hr
    by_cases hrl : r = ⟨27, 1, lv, d.n, LV.set k u⟩
    · subst hrl
      show (w.setCell ⟨g, k, none⟩ u).ownsRow 0 27 1 lv d.n (LV.set k u)
      have h1 := hrows.2.1
      rw [hlv] at h1 ⊢
      exact row_set h1 k u (by omega)
    · have hmem : r ∈ rrows d.n nv lv av wv NV LV AV WV := by
        rcases hr with rfl | rfl | rfl | rfl
        · simp [rrows]
        · exact absurd rfl hrl
        · simp [rrows]
        · simp [rrows]
      have hr' : r ∈ [(⟨27, 1, nv, d.n, NV⟩ : RowD), ⟨3, 1, av, AV.length, AV⟩, ⟨27, 1, wv, WV.length, WV⟩] := by
        rcases hr with rfl | rfl | rfl | rfl
        · simp
        · exact absurd rfl hrl
        · simp
        · simp
      exact row_keep (h.obj.rows r hmem) (fun y hy => hc.block y (World.ownsRow.lt (h.obj.rows r hmem) y hy).2 (by
        intro hm
        rw [List.mem_singleton.1 hm] at hy
        exact hne r hr' hy))
  · obtain ⟨h1, h2, h3⟩ := h.now j hj
    exact ⟨h1, h2.chg hcV (fun x hx => (h3 x hx).2), h3⟩
  · rcases List.mem_or_eq_of_mem_set hc with hc | hc
    · exact h.lasts c hc
    · rw [hc]; exact hu
  · by_cases hxg : x = g
    · rw [hxg]
      exact (h.no8 g hgV).set (h.lim g (h.sub g hgV)) hu
    · exact (h.no8 x hx).keep (hc.block x (h.lim x (h.sub x hx)) (by simp; exact hxg))
end Go.Proofs.YtbkajnjboipbhaaGreatDoor.W

/- Regions that draw their order: a load under a condition that ends far off: the way from it to its end is told. -/
namespace Go.Proofs.YtbkajnjboipbhaaGreatDoor.W
open Go.RowKit
set_option linter.unusedVariables false
set_option linter.unusedSimpArgs false

section
variable {P : Program} {ops : Array Oper} {Q : Exit → Act → World → Prop} {md : Region.Mode} {cs : List (Nat × (World → Prop))}

/-- Operation d waits for i, by this way. -/
def pathB (md : Region.Mode) (ops : Array Oper) : Nat → List Nat → Nat → Bool
  | d, [], i => match ops[d]? with
    | none => false
    | some o => o.after.any fun e => Region.binds md e && e.on == i
  | d, x :: xs, i => (match ops[d]? with
    | none => false
    | some o => o.after.any fun e => Region.binds md e && e.on == x) && pathB md ops x xs i
theorem step_open {L : Array Bool} (hc : Closed md ops L) {d x : Nat} (hx : L.getD x true = false) (h : (match ops[d]? with
    | none => false
    | some o => o.after.any fun e => Region.binds md e && e.on == x) = true) : L.getD d true = false := by
  cases ho : ops[d]? with
  | none => rw [ho] at h; cases h
  | some o =>
    simp only [ho] at h
    obtain ⟨e, he, h1⟩ := Array.any_eq_true'.1 h
    simp only [Bool.and_eq_true, beq_iff_eq] at h1
    cases hd : L.getD d true with
    | false => rfl
    | true =>
      have h2 := hc d o ho hd e he h1.1
      obtain ⟨_, rfl⟩ := h1
      rw [Array.getD_eq_getD_getElem?] at hx h2
      cases hq : L[e.on]? with
      | none => rw [hq] at h2; cases h2
      | some b => rw [hq] at hx h2; simp at hx h2; rw [hx] at h2; cases h2
theorem path_open {L : Array Bool} (hc : Closed md ops L) {i : Nat} (hi : L.getD i true = false) : ∀ (xs : List Nat) (d : Nat), pathB md ops d xs i = true → L.getD d true = false := by
  intro xs
  induction xs with
  | nil => intro d h; exact step_open hc hi h
  | cons x xs ih =>
    intro d h
    unfold pathB at h
    rw [Bool.and_eq_true] at h
    exact step_open hc (ih x h.2) h.1
theorem wpAnyL_loadP (k : Nat) (xs : List Nat) {i d : Nat} {C : World → Prop} {oi : Oper} {v : Value} {fuel : Nat} {L : Array Bool} {a : Act} {w : World} (hk : cs[k]? = some (d, C)) (hi : ops[i]? = some oi)
    (hs : Region.noSelect ops = true) (hcl : closedB md ops L = true) (hf : Region.free md ops L i = true) (hr : (Region.ready md ops L).contains i = true) (hne : cs.all (fun c => c.1 != i) = true) (hanc : pathB md ops d xs i = true)
    (hQ : ∀ c a w, Q (.panic c) (a.put oi.dst v) w → Q (.panic c) a w) (hy : YieldsIf P ops C oi v a) (hS : HoldC cs L w)
    (h : HoldC cs (L.setIfInBounds i true) w → wpAnyL P md ops Q cs fuel (L.setIfInBounds i true) (a.put oi.dst v) w) : wpAnyL P md ops Q cs (fuel + 1) L a w :=
  wpAnyL_first hi (Region.noSelect_spec hs) hQ (fun L w h1 h2 h3 => h3 _ (List.mem_of_getElem? hk) (path_open h1 h2 _ _ hanc)) (fun c hc => by simpa using List.all_eq_true.1 hne c hc) fuel L a w (closed_of hcl) (Region.free_spec hi hf) (by simpa using hr) hy hS (h (hS.set _))
end
end Go.Proofs.YtbkajnjboipbhaaGreatDoor.W

/- The reference's disk: Write. -/
namespace Go.Proofs.YtbkajnjboipbhaaGreatDoor.W
open Go.RowKit
set_option linter.unusedVariables false
set_option linter.unusedSimpArgs false

theorem facts_bytes : (Tryz.prog.info? 27).map (fun i => (i.zero, i.size, i.bytes)) = some (some (.slice none 0 0), 1, 24) := by kernel_rfl
end Go.Proofs.YtbkajnjboipbhaaGreatDoor.W

/- The reference's disk: Write of whatever disk, Sync, Image. -/
namespace Go.Proofs.YtbkajnjboipbhaaGreatDoor.W
open Go.RowKit
set_option linter.unusedVariables false
set_option linter.unusedSimpArgs false

theorem RDiskOk.form {w : World} {m : Nat} {V F : List Nat} {d : DS} {nv lv av wv : Value} {NV LV AV WV : List Value} (h : RDiskOk w m V F d nv lv av wv NV LV AV WV) (hn : 0 < d.n) :
    (∃ g cap, nv = .slice (some ⟨g, 0, none⟩) d.n cap) ∧ ∃ g cap, lv = .slice (some ⟨g, 0, none⟩) d.n cap := by
  constructor
  · rcases h.row.1.2 with ⟨_, h0⟩ | ⟨g, cap, cur, h1, _⟩
    · omega
    · exact ⟨g, cap, h1⟩
  · rcases h.row.2.1.2 with ⟨_, h0⟩ | ⟨g, cap, cur, h1, _⟩
    · omega
    · exact ⟨g, cap, h1⟩
theorem own_cell {w : World} {base e g n cap : Nat} {xs : List Value} (h : w.ownsRow base e 1 (.slice (some ⟨g, 0, none⟩) n cap) n xs) (k : Nat) (hk : k < n) : xs.length = n ∧ w.cell? ⟨g, k, none⟩ = some (xs.getD k undef) ∧ w.frozen? ⟨g, k, none⟩ = false ∧ g < w.heap.size := by
  have hl : xs.length = n := by have := h.1; omega
  refine ⟨hl, ?_, ?_, (World.ownsRow.lt h g rfl).2⟩
  · have := h.cells (g := g) rfl k xs[k] (List.getElem?_eq_getElem (by omega))
    rw [add_none, Nat.zero_add] at this
    rw [this, List.getD_eq_getElem?_getD, List.getElem?_eq_getElem (by omega)]
    rfl
  · rcases h.2 with ⟨h1, _⟩ | ⟨g', cap', cur, hv, _, hg, _⟩
    · cases h1
    · obtain rfl : g = g' := by simp at hv; exact hv.1
      exact blk_frozen hg k

end Go.Proofs.YtbkajnjboipbhaaGreatDoor.W

/- The reference's slots in memory. -/
namespace Go.Proofs.YtbkajnjboipbhaaGreatDoor.W
open Go.RowKit
set_option linter.unusedVariables false
set_option linter.unusedSimpArgs false

def qcell (x : SRow × Value) : List Value := [.bool x.1.used, x.2, .int .i64 (x.1.n : Int)]
def qcells (R : List (SRow × Value)) : List Value := R.flatMap qcell
theorem qcells_at : ∀ (R : List (SRow × Value)) (i j : Nat) (x : SRow × Value), R[i]? = some x → j < 3 → (qcells R)[i * 3 + j]? = (qcell x)[j]?
  | [], i, j, x, h, _ => by simp at h
  | y :: R, i, j, x, h, hj => by
    have e : qcells (y :: R) = qcell y ++ qcells R := rfl
    have hy : (qcell y).length = 3 := rfl
    rw [e]
    cases i with
    | zero =>
      simp at h; subst h
      rw [Nat.zero_mul, Nat.zero_add, List.getElem?_append_left (by omega)]
    | succ i =>
      rw [List.getElem?_append_right (by omega), hy, show (i + 1) * 3 + j - 3 = i * 3 + j by omega]
      exact qcells_at R i j x (by simpa using h) hj
theorem qcells_app (R : List (SRow × Value)) (x : SRow × Value) : qcells (R ++ [x]) = qcells R ++ qcell x := by simp [qcells]
theorem qcells_set : ∀ (R : List (SRow × Value)) (i : Nat) (x : SRow × Value), i < R.length → qcells (R.set i x) = (((qcells R).set (i * 3) (.bool x.1.used)).set (i * 3 + 1) x.2).set (i * 3 + 2) (.int .i64 (x.1.n : Int))
  | [], i, x, h => by simp at h
  | y :: R, i, x, h => by
    have e : ∀ z, qcells (z :: R) = qcell z ++ qcells R := fun _ => rfl
    cases i with
    | zero => rw [List.set_cons_zero, e, e]; rfl
    | succ i =>
      have ih := qcells_set R i x (by simpa using h)
      have e2 : qcells (y :: R.set i x) = qcell y ++ qcells (R.set i x) := rfl
      rw [List.set_cons_succ, e2, ih, e]
      have h3 : (qcell y).length = 3 := rfl
      rw [List.set_append_right _ _ (by omega), List.set_append_right _ _ (by omega), List.set_append_right _ _ (by omega), h3, show (i + 1) * 3 - 3 = i * 3 by omega, show (i + 1) * 3 + 1 - 3 = i * 3 + 1 by omega, show (i + 1) * 3 + 2 - 3 = i * 3 + 2 by omega]
theorem qcells_no8 {w : World} : ∀ (R : List (SRow × Value)), (∀ x ∈ R, BytesAt w x.2 x.1.key) → ∀ c ∈ qcells R, No8 c := by
  intro R hR c hc
  obtain ⟨x, hx, hc⟩ := List.mem_flatMap.1 hc
  simp only [qcell, List.mem_cons, List.mem_nil_iff, or_false] at hc
  rcases hc with rfl | rfl | rfl
  · exact no8_bool
  · exact (hR x hx).no8
  · exact no8_i64
def rowQ (rv : Value) (R : List (SRow × Value)) : RowD := ⟨125, 3, rv, R.length, qcells R⟩

/-- The reference's slots in block q over its disk in block m; W: what may be written; A: all their blocks. -/
structure RSlotsOk (w : World) (q m : Nat) (V F W A : List Nat) (s : SS) (rv : Value) (R : List (SRow × Value)) : Prop where
  obj : ObjAt w q 123 #[.pointer (some ⟨m, 0, none⟩), .int .i64 (s.first : Int), rv] [rowQ rv R]
  disk : RDiskAt w m V F s.d
  rows : R.map (·.1) = s.rows
  sep : ∀ x ∈ blks q [rowQ rv R], x ∉ F
  keys : ∀ x ∈ R, BytesAt w x.2 x.1.key ∧ ∀ g, x.2.ownBlock = some g → g ∈ A ∧ g ∉ W
  mem : W = V ++ blks q [rowQ rv R]
  no8 : ∀ x ∈ blks q [rowQ rv R], NoU8 w x
  aF : ∀ x ∈ F, x ∈ A
  aB : ∀ x ∈ blks q [rowQ rv R], x ∈ A
  lim : ∀ x ∈ A, x < w.heap.size
  ok : s.Ok
def RSlotsAt (w : World) (q m : Nat) (W A : List Nat) (s : SS) : Prop := ∃ V F rv R, RSlotsOk w q m V F W A s rv R
theorem RSlotsOk.sub {w : World} {q m : Nat} {V F W A : List Nat} {s : SS} {rv : Value} {R : List (SRow × Value)} (h : RSlotsOk w q m V F W A s rv R) : (∀ x ∈ V, x ∈ W) ∧ (∀ x ∈ blks q [rowQ rv R], x ∈ W) ∧ (∀ x ∈ W, x ∈ A) ∧ (∀ x ∈ W, NoU8 w x) ∧ (∀ x ∈ V, x ∈ F) := by
  obtain ⟨hl, hs, h8⟩ := h.disk.lim
  refine ⟨fun x hx => by rw [h.mem]; exact List.mem_append_left _ hx, fun x hx => by rw [h.mem]; exact List.mem_append_right _ hx, fun x hx => ?_, fun x hx => ?_, hs⟩
  · rw [h.mem] at hx
    rcases List.mem_append.1 hx with hx | hx
    · exact h.aF x (hs x hx)
    · exact h.aB x hx
  · rw [h.mem] at hx
    rcases List.mem_append.1 hx with hx | hx
    · exact h8 x hx
    · exact h.no8 x hx
theorem RSlotsOk.keep {w w' : World} {q m : Nat} {V F W A T : List Nat} {s : SS} {rv : Value} {R : List (SRow × Value)} (h : RSlotsOk w q m V F W A s rv R) (hc : Chg T w w') (ha : ∀ x ∈ A, x ∉ T) : RSlotsOk w' q m V F W A s rv R := by
  refine ⟨h.obj.keep hc (fun x hx => ha x (h.aB x hx)), h.disk.keep hc (fun x hx => ha x (h.aF x hx)), h.rows, h.sep, fun x hx => ?_, h.mem, fun x hx => (h.no8 x hx).keep (hc.block x (h.lim x (h.aB x hx)) (ha x (h.aB x hx))), h.aF, h.aB, fun x hx => Nat.lt_of_lt_of_le (h.lim x hx) hc.size, h.ok⟩
  obtain ⟨h1, h2⟩ := h.keys x hx
  exact ⟨h1.chg hc (fun k hk => ha k (h2 k hk).1), h2⟩
theorem RSlotsAt.keep {w w' : World} {q m : Nat} {W A T : List Nat} {s : SS} (h : RSlotsAt w q m W A s) (hc : Chg T w w') (ha : ∀ x ∈ A, x ∉ T) : RSlotsAt w' q m W A s := by
  obtain ⟨V, F, rv, R, h⟩ := h
  exact ⟨V, F, rv, R, h.keep hc ha⟩
theorem RSlotsAt.lim {w : World} {q m : Nat} {W A : List Nat} {s : SS} (h : RSlotsAt w q m W A s) : (∀ x ∈ A, x < w.heap.size) ∧ (∀ x ∈ W, x ∈ A) ∧ ∀ x ∈ W, NoU8 w x := by
  obtain ⟨V, F, rv, R, h⟩ := h
  exact ⟨h.lim, h.sub.2.2.1, h.sub.2.2.2.1⟩
/-- What doing with them leaves. -/
def RSid (w w' : World) (q m : Nat) (W A : List Nat) (s : SS) : Prop := ∃ W' A', RSlotsAt w' q m W' A' s ∧ (∀ x ∈ W', x ∈ W ∨ w.heap.size ≤ x) ∧ (∀ x ∈ A', x ∈ A ∨ w.heap.size ≤ x) ∧ Chg W w w'
theorem RSid.same {w : World} {q m : Nat} {W A : List Nat} {s : SS} (h : RSlotsAt w q m W A s) : RSid w w q m W A s := ⟨W, A, h, fun x hx => .inl hx, fun x hx => .inl hx, Chg.refl _ _⟩
theorem RSid.glue {w w1 w2 : World} {q m : Nat} {W A W1 A1 : List Nat} {s : SS} (hv : ∀ x ∈ W1, x ∈ W ∨ w.heap.size ≤ x) (hf : ∀ x ∈ A1, x ∈ A ∨ w.heap.size ≤ x) (hc : Chg W w w1) (h : RSid w1 w2 q m W1 A1 s) : RSid w w2 q m W A s := by
  obtain ⟨V2, F2, b1, b2, b3, b4⟩ := h
  refine ⟨V2, F2, b1, fun x hx => ?_, fun x hx => ?_, hc.trans b4 hv⟩
  · rcases b2 x hx with h | h
    · exact hv x h
    · exact .inr (Nat.le_trans hc.size h)
  · rcases b3 x hx with h | h
    · exact hf x h
    · exact .inr (Nat.le_trans hc.size h)
theorem RSid.pre {w0 w w' : World} {q m : Nat} {W A : List Nat} {s : SS} (hc : Chg [] w0 w) (h : RSid w w' q m W A s) : RSid w0 w' q m W A s := RSid.glue (fun x hx => .inl hx) (fun x hx => .inl hx) (hc.mono (by simp)) h
theorem RSid.post {w w1 w' : World} {q m : Nat} {W A : List Nat} {s : SS} (h : RSid w w1 q m W A s) (hc : Chg [] w1 w') : RSid w w' q m W A s := by
  obtain ⟨W1, A1, a1, a2, a3, a4⟩ := h
  exact ⟨W1, A1, a1.keep hc (by simp), a2, a3, a4.trans hc (by simp)⟩
theorem RSid.trans {w w1 w2 : World} {q m : Nat} {W A : List Nat} {s1 s2 : SS} (h1 : RSid w w1 q m W A s1) (h2 : ∀ W1 A1, RSlotsAt w1 q m W1 A1 s1 → RSid w1 w2 q m W1 A1 s2) : RSid w w2 q m W A s2 := by
  obtain ⟨V1, F1, a1, a2, a3, a4⟩ := h1
  exact RSid.glue a2 a3 a4 (h2 V1 F1 a1)
/-- The disk has been worked on. -/
theorem RSlotsOk.did {w w' : World} {q m : Nat} {V F W A : List Nat} {s : SS} {rv : Value} {R : List (SRow × Value)} {d : DS} (h : RSlotsOk w q m V F W A s rv R) (hd : RDid w w' m V F d) (hn : d.n = s.d.n) : RSid w w' q m W A { s with d := d } := by
  obtain ⟨V', F', b1, b2, b3, b4⟩ := hd
  obtain ⟨s1, s2, s3, s4, s5⟩ := h.sub
  have hbV : ∀ x ∈ blks q [rowQ rv R], x ∉ V := fun x hx hm => h.sep x hx (s5 x hm)
  have hsz := b4.size
  refine ⟨V' ++ blks q [rowQ rv R], A ++ F', ⟨V', F', rv, R, h.obj.keep b4 hbV, b1, h.rows, fun x hx hm => ?_, fun x hx => ?_, rfl, fun x hx => (h.no8 x hx).keep (b4.block x (h.obj.lim x hx) (hbV x hx)), fun x hx => List.mem_append_right _ hx, fun x hx => List.mem_append_left _ (h.aB x hx), fun x hx => ?_, ⟨by show s.first + 8 * s.rows.length ≤ d.n; rw [hn]; exact h.ok.room, h.ok.rows⟩⟩, fun x hx => ?_, fun x hx => ?_, b4.mono (fun x hx => .inl (s1 x hx))⟩
  · rcases b3 x hm with h1 | h1
    · exact h.sep x hx h1
    · have := h.obj.lim x hx; omega
  · obtain ⟨k1, k2⟩ := h.keys x hx
    refine ⟨k1.chg b4 (fun k hk hm => (k2 k hk).2 (s1 k hm)), fun g hg => ⟨List.mem_append_left _ (k2 g hg).1, fun hm => ?_⟩⟩
    rcases List.mem_append.1 hm with hm | hm
    · rcases b2 g hm with h1 | h1
      · exact (k2 g hg).2 (s1 g h1)
      · have := h.lim g (k2 g hg).1; omega
    · exact (k2 g hg).2 (s2 g hm)
  · rcases List.mem_append.1 hx with hx | hx
    · exact Nat.lt_of_lt_of_le (h.lim x hx) hsz
    · exact b1.lim.1 x hx
  · rcases List.mem_append.1 hx with hx | hx
    · exact (b2 x hx).imp (s1 x) id
    · exact .inl (s2 x hx)
  · rcases List.mem_append.1 hx with hx | hx
    · exact .inl hx
    · exact (b3 x hx).imp (h.aF x) id
theorem RSlotsOk.len {w : World} {q m : Nat} {V F W A : List Nat} {s : SS} {rv : Value} {R : List (SRow × Value)} (h : RSlotsOk w q m V F W A s rv R) : R.length = s.rows.length := by rw [← h.rows, List.length_map]
theorem RSlotsOk.few {w : World} {q m : Nat} {V F W A : List Nat} {s : SS} {rv : Value} {R : List (SRow × Value)} (h : RSlotsOk w q m V F W A s rv R) : s.first + 8 * s.rows.length ≤ s.d.n ∧ s.d.n ≤ 4160 := by
  obtain ⟨_, _, _, _, _, _, _, _, hd⟩ := h.disk
  exact ⟨h.ok.room, hd.few⟩
theorem RSlotsOk.row {w : World} {q m : Nat} {V F W A : List Nat} {s : SS} {rv : Value} {R : List (SRow × Value)} (h : RSlotsOk w q m V F W A s rv R) : w.ownsRow 0 125 3 rv R.length (qcells R) := h.obj.rows _ (List.mem_singleton.2 rfl)
theorem RSlotsOk.form {w : World} {q m : Nat} {V F W A : List Nat} {s : SS} {rv : Value} {R : List (SRow × Value)} (h : RSlotsOk w q m V F W A s rv R) : ∃ a cap, rv = .slice a s.rows.length cap ∧ s.rows.length ≤ cap := by
  rw [← h.len]
  rcases h.row.2 with ⟨h1, h2⟩ | ⟨g, cap, cur, h1, _, _, h3, h4, _⟩
  · exact ⟨none, 0, by rw [h1, h2], by omega⟩
  · exact ⟨_, cap, h1, h3⟩
/-- A row that is there. -/
theorem RSlotsOk.at {w : World} {q m : Nat} {V F W A : List Nat} {s : SS} {rv : Value} {R : List (SRow × Value)} (h : RSlotsOk w q m V F W A s rv R) (i : Nat) (hi : i < s.rows.length) :
    ∃ g cap kv, rv = .slice (some ⟨g, 0, none⟩) s.rows.length cap ∧ s.rows.length ≤ cap ∧ cap ≤ maxLen ∧ w.cell? ⟨g, i * 3, none⟩ = some (.bool (s.rows.getD i noRow).used) ∧
      w.cell? ⟨g, i * 3 + 1, none⟩ = some kv ∧ w.cell? ⟨g, i * 3 + 2, none⟩ = some (.int .i64 ((s.rows.getD i noRow).n : Int)) ∧ BytesAt w kv (s.rows.getD i noRow).key ∧ ∀ k, kv.ownBlock = some k → k ∈ A ∧ k ∉ W := by
  have hl := h.len
  have hr := h.row
  have hiR : i < R.length := by omega
  have hri : s.rows.getD i noRow = (R[i]).1 := by
    rw [← h.rows, List.getD_eq_getElem?_getD, List.getElem?_map, List.getElem?_eq_getElem hiR]; rfl
  rcases hr.2 with ⟨h1, h2⟩ | ⟨g, cap, cur, h1, _, _, h3, h4, _⟩
  · omega
  · subst h1
    have hcell : ∀ j, j < 3 → ∀ u, (qcell R[i])[j]? = some u → w.cell? ⟨g, i * 3 + j, none⟩ = some u := fun j hj u hu => by
      have := hr.cells (g := g) rfl (i * 3 + j) u (by rw [qcells_at R i j R[i] (List.getElem?_eq_getElem hiR) hj]; exact hu)
      rwa [add_none, Nat.zero_add] at this
    refine ⟨g, cap, (R[i]).2, by rw [hl], by omega, h4, ?_, ?_, ?_, ?_⟩
    · rw [hri]; exact hcell 0 (by omega) _ rfl
    · exact hcell 1 (by omega) _ rfl
    · rw [hri]; exact hcell 2 (by omega) _ rfl
    · rw [hri]; exact h.keys _ (List.getElem_mem hiR)
theorem RSlotsOk.there {w : World} {q m : Nat} {V F W A : List Nat} {s : SS} {rv : Value} {R : List (SRow × Value)} (h : RSlotsOk w q m V F W A s rv R) (i : Nat) (hi : i < s.rows.length) (g cap : Nat) (hrv : rv = .slice (some ⟨g, 0, none⟩) s.rows.length cap) : w.there g (i * 3) 3 := by
  have hl := h.len
  rcases h.row.2 with ⟨h1, h2⟩ | ⟨g', cap', cur, h1, _, hb, h3, h4, h5, _⟩
  · omega
  · rw [hrv] at h1
    obtain ⟨rfl, -, rfl⟩ : g = g' ∧ s.rows.length = R.length ∧ cap = cap' := by simpa using h1
    intro j hj
    have hlt : i * 3 + j < cur.size := by
      have : (i + 1) * 3 ≤ cap * 3 := Nat.mul_le_mul_right _ (by omega)
      omega
    exact ⟨by rw [blk_cell hb _ _ (Array.getElem?_eq_getElem hlt)]; rfl, blk_frozen hb _⟩
theorem NoU8.set3 {w : World} {g i : Nat} {a b c : Value} (h : NoU8 w g) (hl : g < w.heap.size) (ha : No8 a) (hb : No8 b) (hc : No8 c) : NoU8 (w.setCells g i [a, b, c]) g := by
  have s1 : (w.setCell ⟨g, i, none⟩ a).heap.size = w.heap.size := by simp [World.setCell]
  have s2 : ((w.setCell ⟨g, i, none⟩ a).setCell ⟨g, i + 1, none⟩ b).heap.size = w.heap.size := by simp [World.setCell]
  exact ((h.set hl ha).set (by rw [s1]; exact hl) hb).set (by rw [s2]; exact hl) hc
/-- A row is set. -/
theorem RSlotsOk.setRow {w : World} {q m : Nat} {V F W A : List Nat} {s : SS} {rv : Value} {R : List (SRow × Value)} {N : Nat} (h : RSlotsOk w q m V F W A s rv R) (i : Nat) (hi : i < s.rows.length) (g cap : Nat) (hrv : rv = .slice (some ⟨g, 0, none⟩) s.rows.length cap)
    (r : SRow) (kv : Value) (hk : BytesAt w kv r.key) (hkU : ∀ k, kv.ownBlock = some k → k < w.heap.size ∧ k ∉ W) (hkA : ∀ k, kv.ownBlock = some k → k ∉ A → N ≤ k) (hN : N ≤ w.heap.size) (hr : r.n ≤ 448 ∧ r.key.length ≤ 40) :
    ∃ A', RSlotsAt (w.setCells g (i * 3) [.bool r.used, kv, .int .i64 (r.n : Int)]) q m W A' { s with rows := s.rows.set i r } ∧ (∀ x ∈ A', x ∈ A ∨ N ≤ x) ∧ Chg W w (w.setCells g (i * 3) [.bool r.used, kv, .int .i64 (r.n : Int)]) := by
  have hl := h.len
  obtain ⟨s1, s2, s3, s4, s5⟩ := h.sub
  have hC : Chg [g] w (w.setCells g (i * 3) [.bool r.used, kv, .int .i64 (r.n : Int)]) := (Chg.refl _ _).setCells (.inl (by simp)) _
  have hob : rv.ownBlock = some g := by rw [hrv]; rfl
  have hgb : g ∈ blks q [rowQ rv R] := blks_row (r := rowQ rv R) (List.mem_singleton.2 rfl) hob
  have hgW := s2 g hgb
  have hrow := h.row
  have hR' : (rowQ rv (R.set i (r, kv))).At (w.setCells g (i * 3) [.bool r.used, kv, .int .i64 (r.n : Int)]) := by
    show (w.setCells g (i * 3) [.bool r.used, kv, .int .i64 (r.n : Int)]).ownsRow 0 125 3 rv (R.set i (r, kv)).length (qcells (R.set i (r, kv)))
    rw [List.length_set, qcells_set R i _ (by omega)]
    rw [hrv, ← hl] at hrow ⊢
    exact row_set (row_set (row_set hrow (i * 3) _ (by omega)) (i * 3 + 1) _ (by omega)) (i * 3 + 2) _ (by omega)
  have hgr := ObjAt.grow (a := []) (b := []) h.obj (r' := rowQ rv (R.set i (r, kv))) (by rw [show (rowQ rv R).v.ownBlock = some g from hob]; exact hC.grownBy) hR' (fun k hk => .inl hk)
  have h8 := (h.no8 g hgb).set3 (i := i * 3) (h.obj.lim g hgb) (no8_bool (x := r.used)) hk.no8 (no8_i64 (x := (r.n : Int)))
  generalize w.setCells g (i * 3) [.bool r.used, kv, .int .i64 (r.n : Int)] = X at *
  have hgu : ∀ x ∈ [g], x ∈ W := fun x hx => (List.mem_singleton.1 hx) ▸ hgW
  have hnot : ∀ k, k ∉ W → k ∉ [g] := fun k hk hm => hk (hgu k hm)
  refine ⟨A ++ kv.ownBlock.toList, ⟨V, F, rv, R.set i (r, kv), hgr.1, h.disk.keep hC (fun x hx hm => ?_), ?_, h.sep, fun x hx => ?_, h.mem, fun x hx => ?_, fun x hx => List.mem_append_left _ (h.aF x hx), fun x hx => List.mem_append_left _ (h.aB x hx), fun x hx => ?_, ⟨?_, fun x hx => ?_⟩⟩, fun x hx => ?_, hC.mono (fun x hx => .inl (hgu x hx))⟩
  · exact h.sep _ hgb (by rw [← List.mem_singleton.1 hm]; exact hx)
  · rw [List.map_set, h.rows]
  · rcases List.mem_or_eq_of_mem_set hx with hx | rfl
    · obtain ⟨k1, k2⟩ := h.keys x hx
      exact ⟨k1.chg hC (fun k hk => hnot k (k2 k hk).2), fun g' hg' => ⟨List.mem_append_left _ (k2 g' hg').1, (k2 g' hg').2⟩⟩
    · exact ⟨hk.chg hC (fun k hk => hnot k (hkU k hk).2), fun g' hg' => ⟨List.mem_append_right _ (by rw [hg']; simp), (hkU g' hg').2⟩⟩
  · by_cases hxg : x = g
    · rw [hxg]; exact h8
    · exact (h.no8 x hx).keep (hC.block x (h.obj.lim x hx) (by simp; exact hxg))
  · rcases List.mem_append.1 hx with hx | hx
    · exact Nat.lt_of_lt_of_le (h.lim x hx) hC.size
    · exact Nat.lt_of_lt_of_le (hkU x (by simpa using hx)).1 hC.size
  · show s.first + 8 * (s.rows.set i r).length ≤ s.d.n
    rw [List.length_set]
    exact h.ok.room
  · rcases List.mem_or_eq_of_mem_set hx with hx | rfl
    · exact h.ok.rows x hx
    · exact hr
  · rcases List.mem_append.1 hx with hx | hx
    · exact .inl hx
    · by_cases hA : x ∈ A
      · exact .inl hA
      · exact .inr (hkA x (by simpa using hx) hA)
end Go.Proofs.YtbkajnjboipbhaaGreatDoor.W

/- The reference's slots: Free, Find. -/
namespace Go.Proofs.YtbkajnjboipbhaaGreatDoor.W
open Go.RowKit
set_option linter.unusedVariables false
set_option linter.unusedSimpArgs false

set_option maxHeartbeats 4000000 in
set_option maxRecDepth 100000 in
theorem rfind_any (q m : Nat) (W A : List Nat) (s : SS) (kv0 : Value) (key : List UInt8) (w : World) (h : RSlotsAt w q m W A s) (hk0 : BytesAt w kv0 key) (hkl : key.length ≤ 1000000) :
    Calls Tryz.prog 85 #[.pointer (some ⟨q, 0, none⟩), kv0] w fun e w' => e = .returned (.int .i64 (s.find key)) ∧ Chg [] w w' := by
  obtain ⟨V, F, rv, R, H⟩ := h
  have HH := Lib.hid H
  obtain ⟨a, cap0, hrv, hcap⟩ := H.form
  have c2 := blk_cell H.obj.head 2 _ rfl
  have hfew := H.few
  have HK0 := Lib.hid hk0
  obtain ⟨n, hn⟩ : ∃ n, n = s.rows.length := ⟨_, rfl⟩
  rw [← hn] at hrv hcap
  have HN := Lib.hid hn
  have HRV := Lib.hid hrv
  subst hrv
  have hnf : n ≤ 1000 := by omega
  have hk40 : Hid (∀ x, ((s.rows.getD x noRow).key).length ≤ 40) := Lib.hid (fun x => by
    rw [List.getD_eq_getElem?_getD]
    cases he : s.rows[x]? with
    | none => decide
    | some r => exact (H.ok.rows r (List.mem_of_getElem? he)).2)
  clear H hfew hn hk0
  go_enter Tryz.func85, Tryz.ntmps85
  go_wp2_with fail
  go_loopg [5] n (fun g' s5 wr => ∃ k : Nat, s5 = .int .i64 (k : Int) ∧ k ≤ n ∧ n ≤ k + g' ∧ Hid (∀ x, x < k → ((s.rows.getD x noRow).used && decide ((s.rows.getD x noRow).key = key)) = false) ∧ Hid (Chg [] w wr))
  case atStart => exact ⟨0, rfl, Nat.zero_le _, by omega, Lib.hid (fun q hq => absurd hq (by omega)), Lib.hid (Chg.refl _ _)⟩
  case round =>
    obtain ⟨k, rfl, hk, hkg, HZ, HC⟩ := hrel
    have d2 := HC.out.cell c2 (by simp)
    by_cases hlt : k < n
    · obtain ⟨g, cap, kv, hrv2, hcap2, hcm, k0, k1, k2, k3, k4⟩ := (HH.out.keep HC.out (by simp)).at k (by rw [← HN.out]; exact hlt)
      have hF := rowFind_drop key s.rows k (by rw [← HN.out]; omega) HZ.out 0
      rw [List.drop_eq_getElem_cons (by rw [← HN.out]; exact hlt)] at hF
      have hge : s.rows.getD k noRow = s.rows[k]'(by rw [← HN.out]; exact hlt) := by rw [List.getD_eq_getElem?_getD, List.getElem?_eq_getElem]; rfl
      rw [← hge] at hF
      rw [← HN.out] at hrv2
      obtain ⟨rfl, rfl⟩ : a = some ⟨g, 0, none⟩ ∧ cap0 = cap := by
        have := Value.slice.inj hrv2
        exact ⟨this.1, this.2.2⟩
      have hkz : (k : Int) < (n : Int) := by omega
      have hkz1 : (k : Int).toNat = k := by omega
      obtain ⟨u, hu⟩ : ∃ u, u = (s.rows.getD k noRow).used := ⟨_, rfl⟩
      rw [← hu] at k0
      have HU := Lib.hid hu
      have HF := Lib.hid hF
      have CE := Lib.hid (same_any kv kv0 _ key wr k3 (HK0.out.chg HC.out (by simp)) (by have := hk40.out k; omega) (by omega))
      obtain ⟨ak, ck, hkv⟩ := k3.slice
      subst hkv
      clear hu hF hge hrv2 k2 k3 k4
      have stepZ : ((s.rows.getD k noRow).used && decide ((s.rows.getD k noRow).key = key)) = false → Hid (∀ x, x < k + 1 → ((s.rows.getD x noRow).used && decide ((s.rows.getD x noRow).key = key)) = false) := fun h9 => Lib.hid (fun x hx => by
        rcases Nat.lt_or_ge x k with h | h
        · exact HZ.out x h
        · obtain rfl : x = k := by omega
          exact h9)
      have HS := Lib.hid stepZ
      clear stepZ
      cases u
      · have HZ1 := HS.out (by rw [← HU.out]; rfl)
        clear CE
        go_wp2
        go_roundg (gk - 1)
        case rel => exact ⟨k + 1, by go_num, by omega, by omega, HZ1, HC⟩
        case measure => omega
      · by_cases he : (s.rows.getD k noRow).key = key
        · rw [decide_eq_true he] at CE
          have HX : Hid (s.find key = (k : Int)) := Lib.hid (by
            unfold SS.find
            rw [HF.out, rowFind_cons, if_pos (by rw [← HU.out, decide_eq_true he]; rfl)]
            simp)
          clear he
          go_wp2_with fail
          refine CE.out.mono ?_
          rintro e w' ⟨rfl, nn, hq⟩
          have HC2 : Hid (Chg [] w w') := Lib.hid (by rw [hq]; exact HC.out.drewN nn)
          clear hq
          go_wp2
          go_ret
          exact ⟨by rw [HX.out]; rfl, HC2.out⟩
        · rw [decide_eq_false he] at CE
          have HZ1 := HS.out (by rw [decide_eq_false he, Bool.and_false])
          clear he
          go_wp2_with fail
          refine CE.out.mono ?_
          rintro e w' ⟨rfl, nn, hq⟩
          have HC2 : Hid (Chg [] w w') := Lib.hid (by rw [hq]; exact HC.out.drewN nn)
          clear hq
          go_wp2
          go_roundg (gk - 1)
          case rel => exact ⟨k + 1, by go_num, by omega, by omega, HZ1, HC2⟩
          case measure => omega
    · have hkn : k = n := by omega
      have HX : Hid (s.find key = -1) := Lib.hid (by
        unfold SS.find
        rw [rowFind_drop key s.rows k (by rw [hkn, HN.out]; exact Nat.le_refl _) HZ.out 0, List.drop_of_length_le (by rw [hkn, HN.out]; exact Nat.le_refl _)]
        rfl)
      have hkz : ¬ (k : Int) < (n : Int) := by omega
      clear hkn
      go_wp2
      go_ret
      exact ⟨by rw [HX.out]; rfl, HC.out⟩
end Go.Proofs.YtbkajnjboipbhaaGreatDoor.W
