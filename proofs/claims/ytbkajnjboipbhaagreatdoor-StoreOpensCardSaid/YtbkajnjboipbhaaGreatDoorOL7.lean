/- Texts laid together. -/
import Derived.Test.YtbkajnjboipbhaaGreatDoorOL6
import Derived.Test.YtbkajnjboipbhaaGreatDoorOL5
import Derived.Test.YtbkajnjboipbhaaGreatDoorOL3
import Derived.Deep.MidRow
import Derived.Test.YtbkajnjboipbhaaGreatDoorOL4
import Derived.Deep.Slices
import Derived.ChangeSlices
import Derived.Test.YtbkajnjboipbhaaGreatDoorOL2
import Derived.Laws.CopyOwn
import Derived.Laws.BitsLemmas
/- SameIds; the law's looks. -/
namespace Go.Proofs.YtbkajnjboipbhaaGreatDoor.W
open Go.RowKit
set_option linter.unusedVariables false
set_option linter.unusedSimpArgs false
variable {G : List Nat}

/-- A slice of ids, to be read. -/
def IdRow (w : World) (v : Value) (l : List Id) : Prop := ∃ a cap, v = .slice a l.length cap ∧ ∀ j, j < l.length → ∃ g x, a = some ⟨g, 0, none⟩ ∧ l[j]? = some x ∧ w.cell? ⟨g, j * 4, none⟩ = some (.int .i64 x.c) ∧ w.cell? ⟨g, j * 4 + 1, none⟩ = some (.int .i64 x.l) ∧ w.cell? ⟨g, j * 4 + 2, none⟩ = some (.int .i64 x.n) ∧ w.cell? ⟨g, j * 4 + 3, none⟩ = some (.int .i64 x.i)
theorem IdRow.of {w : World} {base : Nat} {v : Value} {l : List Id} (h : w.ownsRow base 25 4 v l.length (l.flatMap idE)) : IdRow w v l := by
  rcases h.2 with ⟨h1, h2⟩ | ⟨g, cap, cur, h1, _⟩
  · exact ⟨none, 0, by rw [h1, h2], fun j hj => by omega⟩
  · refine ⟨_, cap, h1, fun j hj => ⟨g, l[j], rfl, List.getElem?_eq_getElem hj, ?_⟩⟩
    rw [h1] at h
    exact id_row h j hj _ (List.getElem?_eq_getElem hj)
theorem IdRow.keep {w w' : World} {v : Value} {l : List Id} (h : IdRow w v l) (hc : Chg [] w w') : IdRow w' v l := by
  obtain ⟨a, cap, h1, h2⟩ := h
  refine ⟨a, cap, h1, fun j hj => ?_⟩
  obtain ⟨g, x, k1, k2, m0, m1, m2, m3⟩ := h2 j hj
  exact ⟨g, x, k1, k2, hc.cell m0 (by simp), hc.cell m1 (by simp), hc.cell m2 (by simp), hc.cell m3 (by simp)⟩

set_option maxHeartbeats 4000000 in
set_option maxRecDepth 100000 in
theorem rsameids_any (u v : Value) (l : List Id) (w : World) (hu : IdRow w u l) (hv : IdRow w v l) (hl : l.length ≤ 1000000) : Calls Tryz.prog 77 #[u, v] w fun e w' => e = .returned (.bool true) ∧ Chg [] w w' := by
  obtain ⟨a, ca, rfl, hA⟩ := hu
  obtain ⟨b, cb, rfl, hB⟩ := hv
  have HA := Lib.hid hA
  have HB := Lib.hid hB
  obtain ⟨n, hn⟩ : ∃ n, n = l.length := ⟨_, rfl⟩
  rw [← hn] at hl ⊢
  have HN := Lib.hid hn
  clear hA hB hn
  go_enter Tryz.func77, Tryz.ntmps77
  go_wp2
  go_loopg [5] n (fun g' s5 wr => ∃ (i : Nat), s5 = .int .i64 (i : Int) ∧ i ≤ n ∧ n ≤ i + g' ∧ Hid (Chg [] w wr))
  case atStart => exact ⟨0, rfl, by omega, by omega, Lib.hid (Chg.refl _ _)⟩
  case round =>
    obtain ⟨i, rfl, hi, hig, HC⟩ := hrel
    by_cases hlt : i < n
    · obtain ⟨g, ⟨xc, xl, xn, xi⟩, rfl, k1, m0, m1, m2, m3⟩ := HA.out i (by rw [← HN.out]; exact hlt)
      obtain ⟨g2, y, rfl, k2, n0, n1, n2, n3⟩ := HB.out i (by rw [← HN.out]; exact hlt)
      rw [k1] at k2
      obtain rfl := Option.some.inj k2
      have m0 := HC.out.cell m0 (by simp)
      have m1 := HC.out.cell m1 (by simp)
      have m2 := HC.out.cell m2 (by simp)
      have m3 := HC.out.cell m3 (by simp)
      have n0 := HC.out.cell n0 (by simp)
      have n1 := HC.out.cell n1 (by simp)
      have n2 := HC.out.cell n2 (by simp)
      have n3 := HC.out.cell n3 (by simp)
      have hiz : (i : Int) < (n : Int) := by omega
      have hiz1 : (i : Int).toNat = i := by omega
      clear k1 k2
      dsimp only at n0 n1 n2 n3 m0 m1 m2 m3
      go_wp2_with fail
      go_quiet (fail)
      have HCn := Lib.hid (HC.out.drewN nq)
      clear m0 m1 m2 m3 n0 n1 n2 n3
      go_wp2_with fail
      go_roundg (gk - 1)
      case measure => omega
      case rel => exact ⟨i + 1, by go_num, by omega, by omega, HCn⟩
    · have hiz : ¬ (i : Int) < (n : Int) := by omega
      go_wp2
      go_ret
      exact ⟨rfl, HC.out⟩

set_option maxHeartbeats 16000000 in
set_option maxRecDepth 100000 in
theorem looks6_any (q p q2 m : Nat) (U U2 B2 : List Nat) (t : Sto) (x : Id) (w : World) (hS : StAt G w q p U t) (hR : RStAt w q2 m U2 B2 t) (hx : okD x) (hl : t.ids.length ≤ 1000) :
    Calls Tryz.prog 30 #[.pointer (some ⟨q, 0, none⟩), .pointer (some ⟨q2, 0, none⟩), idV x] w fun e w' => e = .returned (.bool true) ∧ Chg [] w w' := by
  obtain ⟨w1, hw1⟩ : ∃ w1, w1 = w.alloc (.cells (idC x) 25) := ⟨_, rfl⟩
  have hc1 : Chg [] w w1 := by rw [hw1]; exact (Chg.refl [] w).alloc _
  have hb1 : w1.heap[w.heap.size]? = some (.cells (idC x) 25 (0, 0)) := by rw [hw1]; exact heap_alloc_new w _
  have HS := Lib.hid (hS.keep0 hc1)
  have HR := Lib.hid (hR.keep hc1 (by simp))
  have CG := Lib.hid (stget_any q p U t x w1 HS.out hx)
  have HX := Lib.hid hx
  have HB := Lib.hid hb1
  have HC1 := Lib.hid hc1
  have HW1 := Lib.hid hw1
  have mm := id_cells hb1
  rw [hw1] at mm
  have hgl : (t.get x).1.length ≤ 1000 := by
    obtain ⟨sp, W, A, hok, rfl, rfl⟩ := hR
    unfold Sto.get
    split
    · simp
    · split
      · simp
      · rename_i i r _
        have hk := hok.slots.okk
        unfold SS.get
        split
        · simp
        · split
          · simp
          · split
            · simp
            · unfold SS.data
              rw [List.length_take]
              have : (t.s.row (i : Int)).n ≤ 448 := by
                unfold SS.row
                rw [List.getD_eq_getElem?_getD]
                cases hr : t.s.rows[(i : Int).toNat]? with
                | none => exact (show (0 : Nat) ≤ 448 by omega)
                | some rr => exact (hk.rows _ (List.mem_of_getElem? hr)).1
              omega
  have HGX : Hid (∀ w', RStAt w' q2 m U2 B2 t → Calls Tryz.prog 76 #[.pointer (some ⟨q2, 0, none⟩), idV x] w' (GetPost (t.get x) w')) := Lib.hid (fun w' h => rstget_any q2 m U2 B2 t x w' h hx)
  generalize t.get x = r at *
  obtain ⟨rb, re⟩ := r
  dsimp only at hgl
  unfold GetPost at CG HGX
  dsimp only at CG HGX
  obtain ⟨xc, xl, xn, xi⟩ := x
  obtain ⟨m0, m1, m2, m3⟩ := mm
  clear hw1 hb1 hc1 hS hR
  go_enter Tryz.func30, Tryz.ntmps30
  go_wp2_with fail
  rw [← HW1.out]
  refine CG.out.mono ?_
  rintro e w2 ⟨⟨v1, rfl, hv1, _⟩, hc2⟩
  have HC2 := Lib.hid hc2
  have HV1 := Lib.hid hv1
  obtain ⟨m0, m1, m2, m3⟩ := id_cells (hc2.keep HB.out (by simp))
  have CG2 := Lib.hid (HGX.out w2 (HR.out.keep hc2 (by simp)))
  obtain ⟨a1, k1, he1⟩ := hv1.slice
  subst he1
  clear hc2 hv1 CG
  go_wp2_with fail
  refine CG2.out.mono ?_
  rintro e w3 ⟨⟨v2, rfl, hv2, _⟩, hc3⟩
  have HC3 := Lib.hid (HC2.out.trans hc3 (by simp))
  have HV2 := Lib.hid (And.intro (HV1.out.chg hc3 (by simp)) hv2)
  obtain ⟨a2, k2, he2⟩ := hv2.slice
  subst he2
  clear hc3 hv2 CG2 m0 m1 m2 m3 HV1
  have CL := Lib.hid (fun w' (h : Chg [] w3 w') => stlist_any q p U t w' (HS.out.keep0 (HC3.out.trans h (by simp))))
  have CRL := Lib.hid (fun w' (h : Chg [] w3 w') => rstlist_any q2 m U2 B2 t w' (HR.out.keep (HC3.out.trans h (by simp)) (by simp)))
  have CRM := Lib.hid (fun w' (h : Chg [] w3 w') => stroom_any q p U t w' (HS.out.keep0 (HC3.out.trans h (by simp))))
  have CRRM := Lib.hid (fun w' (h : Chg [] w3 w') => rstroom_any q2 m U2 B2 t w' (HR.out.keep (HC3.out.trans h (by simp)) (by simp)))
  have CWH := Lib.hid (fun w' (h : Chg [] w3 w') => stwhole_any q p U t w' (HS.out.keep0 (HC3.out.trans h (by simp))))
  have cw : w3.cell? ⟨q2, 2, none⟩ = some (.bool t.whole) := by
    obtain ⟨sp, W, A, hok, _, _⟩ := HR.out.keep HC3.out (by simp)
    exact hok.cells.2.2
  have HCW := Lib.hid cw
  unfold ListPost at CL CRL
  generalize t.ids = L at *
  generalize t.room = rm at *
  generalize t.whole = wh at *
  go_wp2_with fail
  refine wp_region_L [(29, fun w' => w'.cell? ⟨q2, 2, none⟩ = some (.bool wh))] (by kernel_rfl) ?_ (fun hHeld => ?_)
  · exact (HoldC.cons (cw) HoldC.nil)
  refine wpAnyL_take (i := 0) (oi := _) (v := ?_) rfl (by kernel_rfl) (by kernel_rfl) (by kernel_rfl) (by kernel_rfl) (by kernel_rfl) (fun _ _ _ h => h) (Or.inl ⟨by rfl, ?_⟩) (by assumption) (fun hNew => ?_)
  rotate_left
  · intro w _
    go_simp
    try with_reducible rfl
  clear hHeld
  have hHeld := hNew
  clear hNew
  try simp only [List.getElem_toArray, List.getElem_cons_succ, List.getElem_cons_zero, Act.put, List.setIfInBounds_toArray, List.set_cons_zero, List.set_cons_succ]
  refine wpAnyL_take (i := 2) (oi := _) (v := ?_) rfl (by kernel_rfl) (by kernel_rfl) (by kernel_rfl) (by kernel_rfl) (by kernel_rfl) (fun _ _ _ h => h) (Or.inl ⟨by rfl, ?_⟩) (by assumption) (fun hNew => ?_)
  rotate_left
  · intro w _
    go_simp
    try with_reducible rfl
  clear hHeld
  have hHeld := hNew
  clear hNew
  try simp only [List.getElem_toArray, List.getElem_cons_succ, List.getElem_cons_zero, Act.put, List.setIfInBounds_toArray, List.set_cons_zero, List.set_cons_succ]
  refine wpAnyL_ready (rs := [1]) (by kernel_rfl) (by simp) ?_
  refine AllReadyL.cons (o := _) rfl (fun K hK => ?_) AllReadyL.nil
  try simp only [List.getElem_toArray, List.getElem_cons_succ, List.getElem_cons_zero]
  go_simp
  refine (CL.out _ ((Chg.refl [] w3).drew)).mono ?_
  rintro e w4 ⟨l1, rfl, hr1, hc4⟩
  have HC4 := Lib.hid (((Chg.refl [] w3).drew).trans hc4 (by simp))
  have HI4 := Lib.hid (IdRow.of hr1)
  have cw := HC4.out.cell HCW.out (by simp)
  clear hr1 hc4 CL
  clear hHeld
  refine hK.out _ _ ?_ (fun hHeld => ?_)
  · exact (HoldC.cons (cw) HoldC.nil)
  clear hK K
  try simp only [List.getElem_toArray, List.getElem_cons_succ, List.getElem_cons_zero, Act.put, List.setIfInBounds_toArray, List.set_cons_zero, List.set_cons_succ]
  refine wpAnyL_ready (rs := [3]) (by kernel_rfl) (by simp) ?_
  refine AllReadyL.cons (o := _) rfl (fun K hK => ?_) AllReadyL.nil
  try simp only [List.getElem_toArray, List.getElem_cons_succ, List.getElem_cons_zero]
  go_simp
  refine (CRL.out _ HC4.out).mono ?_
  rintro e w5 ⟨l2, rfl, hr2, hc5⟩
  have hc45 := hc5
  have HC5 := Lib.hid (HC4.out.trans hc45 (by simp))
  have HI5 := Lib.hid (And.intro (HI4.out.keep hc45) (IdRow.of hr2))
  have cw := HC5.out.cell HCW.out (by simp)
  clear hr2 hc5 CRL HI4 hc45
  clear hHeld
  refine hK.out _ _ ?_ (fun hHeld => ?_)
  · exact (HoldC.cons (cw) HoldC.nil)
  clear hK K
  try simp only [List.getElem_toArray, List.getElem_cons_succ, List.getElem_cons_zero, Act.put, List.setIfInBounds_toArray, List.set_cons_zero, List.set_cons_succ]
  refine wpAnyL_ready (rs := [4]) (by kernel_rfl) (by simp) ?_
  refine AllReadyL.cons (o := _) rfl (fun K hK => ?_) AllReadyL.nil
  try simp only [List.getElem_toArray, List.getElem_cons_succ, List.getElem_cons_zero]
  go_simp
  refine (rsameids_any l1 l2 L w5 HI5.out.1 HI5.out.2 (by omega)).mono ?_
  rintro e w6 ⟨rfl, hc6⟩
  have HC6 := Lib.hid (HC5.out.trans hc6 (by simp))
  have cw := HC6.out.cell HCW.out (by simp)
  clear hc6 HI5
  clear hHeld
  refine hK.out _ _ ?_ (fun hHeld => ?_)
  · exact (HoldC.cons (cw) HoldC.nil)
  clear hK K
  try simp only [List.getElem_toArray, List.getElem_cons_succ, List.getElem_cons_zero, Act.put, List.setIfInBounds_toArray, List.set_cons_zero, List.set_cons_succ]
  refine wpAnyL_take (i := 5) (oi := _) (v := ?_) rfl (by kernel_rfl) (by kernel_rfl) (by kernel_rfl) (by kernel_rfl) (by kernel_rfl) (fun _ _ _ h => h) (Or.inl ⟨by rfl, ?_⟩) (by assumption) (fun hNew => ?_)
  rotate_left
  · intro w _
    go_simp
    try with_reducible rfl
  clear hHeld
  have hHeld := hNew
  clear hNew
  try simp only [List.getElem_toArray, List.getElem_cons_succ, List.getElem_cons_zero, Act.put, List.setIfInBounds_toArray, List.set_cons_zero, List.set_cons_succ]
  refine wpAnyL_take (i := 6) (oi := _) (v := ?_) rfl (by kernel_rfl) (by kernel_rfl) (by kernel_rfl) (by kernel_rfl) (by kernel_rfl) (fun _ _ _ h => h) (Or.inl ⟨by rfl, ?_⟩) (by assumption) (fun hNew => ?_)
  rotate_left
  · intro w _
    go_simp
    try with_reducible rfl
  clear hHeld
  have hHeld := hNew
  clear hNew
  try simp only [List.getElem_toArray, List.getElem_cons_succ, List.getElem_cons_zero, Act.put, List.setIfInBounds_toArray, List.set_cons_zero, List.set_cons_succ]
  refine wpAnyL_take (i := 8) (oi := _) (v := ?_) rfl (by kernel_rfl) (by kernel_rfl) (by kernel_rfl) (by kernel_rfl) (by kernel_rfl) (fun _ _ _ h => h) (Or.inl ⟨by rfl, ?_⟩) (by assumption) (fun hNew => ?_)
  rotate_left
  · intro w _
    go_simp
    try with_reducible rfl
  clear hHeld
  have hHeld := hNew
  clear hNew
  try simp only [List.getElem_toArray, List.getElem_cons_succ, List.getElem_cons_zero, Act.put, List.setIfInBounds_toArray, List.set_cons_zero, List.set_cons_succ]
  refine wpAnyL_ready (rs := [7]) (by kernel_rfl) (by simp) ?_
  refine AllReadyL.cons (o := _) rfl (fun K hK => ?_) AllReadyL.nil
  try simp only [List.getElem_toArray, List.getElem_cons_succ, List.getElem_cons_zero]
  go_simp
  refine (CRM.out _ HC6.out).mono ?_
  rintro e w' ⟨rfl, hq⟩
  subst hq
  clear hHeld
  refine hK.out _ _ ?_ (fun hHeld => ?_)
  · exact (HoldC.cons (cw) HoldC.nil)
  clear hK K
  try simp only [List.getElem_toArray, List.getElem_cons_succ, List.getElem_cons_zero, Act.put, List.setIfInBounds_toArray, List.set_cons_zero, List.set_cons_succ]
  refine wpAnyL_ready (rs := [9]) (by kernel_rfl) (by simp) ?_
  refine AllReadyL.cons (o := _) rfl (fun K hK => ?_) AllReadyL.nil
  try simp only [List.getElem_toArray, List.getElem_cons_succ, List.getElem_cons_zero]
  go_simp
  refine (CRRM.out _ HC6.out).mono ?_
  rintro e w' ⟨rfl, hq⟩
  subst hq
  clear hHeld
  refine hK.out _ _ ?_ (fun hHeld => ?_)
  · exact (HoldC.cons (cw) HoldC.nil)
  clear hK K
  try simp only [List.getElem_toArray, List.getElem_cons_succ, List.getElem_cons_zero, Act.put, List.setIfInBounds_toArray, List.set_cons_zero, List.set_cons_succ]
  refine wpAnyL_take (i := 10) (oi := _) (v := ?_) rfl (by kernel_rfl) (by kernel_rfl) (by kernel_rfl) (by kernel_rfl) (by kernel_rfl) (fun _ _ _ h => h) (Or.inl ⟨by rfl, ?_⟩) (by assumption) (fun hNew => ?_)
  rotate_left
  · intro w _
    go_simp
    try with_reducible rfl
  clear hHeld
  have hHeld := hNew
  clear hNew
  try simp only [List.getElem_toArray, List.getElem_cons_succ, List.getElem_cons_zero, Act.put, List.setIfInBounds_toArray, List.set_cons_zero, List.set_cons_succ]
  refine wpAnyL_take (i := 11) (oi := _) (v := ?_) rfl (by kernel_rfl) (by kernel_rfl) (by kernel_rfl) (by kernel_rfl) (by kernel_rfl) (fun _ _ _ h => h) (Or.inl ⟨by rfl, ?_⟩) (by assumption) (fun hNew => ?_)
  rotate_left
  · intro w _
    go_simp
    try with_reducible rfl
  clear hHeld
  have hHeld := hNew
  clear hNew
  try simp only [List.getElem_toArray, List.getElem_cons_succ, List.getElem_cons_zero, Act.put, List.setIfInBounds_toArray, List.set_cons_zero, List.set_cons_succ]
  refine wpAnyL_take (i := 12) (oi := _) (v := ?_) rfl (by kernel_rfl) (by kernel_rfl) (by kernel_rfl) (by kernel_rfl) (by kernel_rfl) (fun _ _ _ h => h) (Or.inl ⟨by rfl, ?_⟩) (by assumption) (fun hNew => ?_)
  rotate_left
  · intro w _
    go_simp
    try with_reducible rfl
  clear hHeld
  have hHeld := hNew
  clear hNew
  try simp only [List.getElem_toArray, List.getElem_cons_succ, List.getElem_cons_zero, Act.put, List.setIfInBounds_toArray, List.set_cons_zero, List.set_cons_succ]
  refine wpAnyL_take (i := 13) (oi := _) (v := ?_) rfl (by kernel_rfl) (by kernel_rfl) (by kernel_rfl) (by kernel_rfl) (by kernel_rfl) (fun _ _ _ h => h) (Or.inl ⟨by rfl, ?_⟩) (by assumption) (fun hNew => ?_)
  rotate_left
  · intro w _
    go_simp
    try with_reducible rfl
  clear hHeld
  have hHeld := hNew
  clear hNew
  try simp only [List.getElem_toArray, List.getElem_cons_succ, List.getElem_cons_zero, Act.put, List.setIfInBounds_toArray, List.set_cons_zero, List.set_cons_succ]
  refine wpAnyL_take (i := 15) (oi := _) (v := ?_) rfl (by kernel_rfl) (by kernel_rfl) (by kernel_rfl) (by kernel_rfl) (by kernel_rfl) (fun _ _ _ h => h) (Or.inl ⟨by rfl, ?_⟩) (by assumption) (fun hNew => ?_)
  rotate_left
  · intro w _
    go_simp
    try with_reducible rfl
  clear hHeld
  have hHeld := hNew
  clear hNew
  try simp only [List.getElem_toArray, List.getElem_cons_succ, List.getElem_cons_zero, Act.put, List.setIfInBounds_toArray, List.set_cons_zero, List.set_cons_succ]
  refine wpAnyL_take (i := 16) (oi := _) (v := ?_) rfl (by kernel_rfl) (by kernel_rfl) (by kernel_rfl) (by kernel_rfl) (by kernel_rfl) (fun _ _ _ h => h) (Or.inl ⟨by rfl, ?_⟩) (by assumption) (fun hNew => ?_)
  rotate_left
  · intro w _
    go_simp
    try with_reducible rfl
  clear hHeld
  have hHeld := hNew
  clear hNew
  try simp only [List.getElem_toArray, List.getElem_cons_succ, List.getElem_cons_zero, Act.put, List.setIfInBounds_toArray, List.set_cons_zero, List.set_cons_succ]
  refine wpAnyL_take (i := 17) (oi := _) (v := ?_) rfl (by kernel_rfl) (by kernel_rfl) (by kernel_rfl) (by kernel_rfl) (by kernel_rfl) (fun _ _ _ h => h) (Or.inl ⟨by rfl, ?_⟩) (by assumption) (fun hNew => ?_)
  rotate_left
  · intro w _
    go_simp
    try with_reducible rfl
  clear hHeld
  have hHeld := hNew
  clear hNew
  try simp only [List.getElem_toArray, List.getElem_cons_succ, List.getElem_cons_zero, Act.put, List.setIfInBounds_toArray, List.set_cons_zero, List.set_cons_succ]
  refine wpAnyL_loadP 0 [26, 25, 21, 20, 19] (i := 18) (oi := _) (v := ?_) rfl rfl (by kernel_rfl) (by kernel_rfl) (by kernel_rfl) (by kernel_rfl) (by kernel_rfl) (by kernel_rfl) (fun _ _ _ h => h) (Or.inl ⟨by rfl, ?_⟩) (by assumption) (fun hNew => ?_)
  rotate_left
  · intro w hSw
    (try dsimp only at hSw)
    go_simp
    try with_reducible rfl
  clear hHeld
  have hHeld := hNew
  clear hNew
  try simp only [List.getElem_toArray, List.getElem_cons_succ, List.getElem_cons_zero, Act.put, List.setIfInBounds_toArray, List.set_cons_zero, List.set_cons_succ]
  refine wpAnyL_ready (rs := [14]) (by kernel_rfl) (by simp) ?_
  refine AllReadyL.cons (o := _) rfl (fun K hK => ?_) AllReadyL.nil
  try simp only [List.getElem_toArray, List.getElem_cons_succ, List.getElem_cons_zero]
  go_simp
  refine (CWH.out _ HC6.out).mono ?_
  rintro e w' ⟨rfl, hq⟩
  subst hq
  clear hHeld
  refine hK.out _ _ ?_ (fun hHeld => ?_)
  · exact (HoldC.cons (cw) HoldC.nil)
  clear hK K
  try simp only [List.getElem_toArray, List.getElem_cons_succ, List.getElem_cons_zero, Act.put, List.setIfInBounds_toArray, List.set_cons_zero, List.set_cons_succ]
  refine wpAnyL_take (i := 19) (oi := _) (v := ?_) rfl (by kernel_rfl) (by kernel_rfl) (by kernel_rfl) (by kernel_rfl) (by kernel_rfl) (fun _ _ _ h => h) (Or.inl ⟨by rfl, ?_⟩) (by assumption) (fun hNew => ?_)
  rotate_left
  · intro w _
    go_simp
    try with_reducible rfl
  clear hHeld
  have hHeld := hNew
  clear hNew
  try simp only [List.getElem_toArray, List.getElem_cons_succ, List.getElem_cons_zero, Act.put, List.setIfInBounds_toArray, List.set_cons_zero, List.set_cons_succ]
  refine wpAnyL_take (i := 20) (oi := _) (v := ?_) rfl (by kernel_rfl) (by kernel_rfl) (by kernel_rfl) (by kernel_rfl) (by kernel_rfl) (fun _ _ _ h => h) (Or.inl ⟨by rfl, ?_⟩) (by assumption) (fun hNew => ?_)
  rotate_left
  · intro w _
    go_simp
    try with_reducible rfl
  clear hHeld
  have hHeld := hNew
  clear hNew
  try simp only [List.getElem_toArray, List.getElem_cons_succ, List.getElem_cons_zero, Act.put, List.setIfInBounds_toArray, List.set_cons_zero, List.set_cons_succ]
  refine wpAnyL_take (i := 21) (oi := _) (v := ?_) rfl (by kernel_rfl) (by kernel_rfl) (by kernel_rfl) (by kernel_rfl) (by kernel_rfl) (fun _ _ _ h => h) (Or.inl ⟨by rfl, ?_⟩) (by assumption) (fun hNew => ?_)
  rotate_left
  · intro w _
    go_simp
    try with_reducible rfl
  clear hHeld
  have hHeld := hNew
  clear hNew
  try simp only [List.getElem_toArray, List.getElem_cons_succ, List.getElem_cons_zero, Act.put, List.setIfInBounds_toArray, List.set_cons_zero, List.set_cons_succ]
  refine wpAnyL_take (i := 22) (oi := _) (v := ?_) rfl (by kernel_rfl) (by kernel_rfl) (by kernel_rfl) (by kernel_rfl) (by kernel_rfl) (fun _ _ _ h => h) (Or.inl ⟨by rfl, ?_⟩) (by assumption) (fun hNew => ?_)
  rotate_left
  · intro w _
    go_simp
    try with_reducible rfl
  clear hHeld
  have hHeld := hNew
  clear hNew
  try simp only [List.getElem_toArray, List.getElem_cons_succ, List.getElem_cons_zero, Act.put, List.setIfInBounds_toArray, List.set_cons_zero, List.set_cons_succ]
  refine wpAnyL_take (i := 23) (oi := _) (v := ?_) rfl (by kernel_rfl) (by kernel_rfl) (by kernel_rfl) (by kernel_rfl) (by kernel_rfl) (fun _ _ _ h => h) (Or.inl ⟨by rfl, ?_⟩) (by assumption) (fun hNew => ?_)
  rotate_left
  · intro w _
    go_simp
    try with_reducible rfl
  clear hHeld
  have hHeld := hNew
  clear hNew
  try simp only [List.getElem_toArray, List.getElem_cons_succ, List.getElem_cons_zero, Act.put, List.setIfInBounds_toArray, List.set_cons_zero, List.set_cons_succ]
  refine wpAnyL_take (i := 24) (oi := _) (v := ?_) rfl (by kernel_rfl) (by kernel_rfl) (by kernel_rfl) (by kernel_rfl) (by kernel_rfl) (fun _ _ _ h => h) (Or.inl ⟨by rfl, ?_⟩) (by assumption) (fun hNew => ?_)
  rotate_left
  · intro w _
    go_simp
    try with_reducible rfl
  clear hHeld
  have hHeld := hNew
  clear hNew
  try simp only [List.getElem_toArray, List.getElem_cons_succ, List.getElem_cons_zero, Act.put, List.setIfInBounds_toArray, List.set_cons_zero, List.set_cons_succ]
  refine wpAnyL_take (i := 25) (oi := _) (v := ?_) rfl (by kernel_rfl) (by kernel_rfl) (by kernel_rfl) (by kernel_rfl) (by kernel_rfl) (fun _ _ _ h => h) (Or.inl ⟨by rfl, ?_⟩) (by assumption) (fun hNew => ?_)
  rotate_left
  · intro w _
    go_simp
    try with_reducible rfl
  clear hHeld
  have hHeld := hNew
  clear hNew
  try simp only [List.getElem_toArray, List.getElem_cons_succ, List.getElem_cons_zero, Act.put, List.setIfInBounds_toArray, List.set_cons_zero, List.set_cons_succ]
  refine wpAnyL_take (i := 26) (oi := _) (v := ?_) rfl (by kernel_rfl) (by kernel_rfl) (by kernel_rfl) (by kernel_rfl) (by kernel_rfl) (fun _ _ _ h => h) (Or.inl ⟨by rfl, ?_⟩) (by assumption) (fun hNew => ?_)
  rotate_left
  · intro w _
    go_simp
    try with_reducible rfl
  clear hHeld
  have hHeld := hNew
  clear hNew
  try simp only [List.getElem_toArray, List.getElem_cons_succ, List.getElem_cons_zero, Act.put, List.setIfInBounds_toArray, List.set_cons_zero, List.set_cons_succ]
  refine wpAnyL_take (i := 27) (oi := _) (v := ?_) rfl (by kernel_rfl) (by kernel_rfl) (by kernel_rfl) (by kernel_rfl) (by kernel_rfl) (fun _ _ _ h => h) (Or.inl ⟨by rfl, ?_⟩) (by assumption) (fun hNew => ?_)
  rotate_left
  · intro w _
    go_simp
    try with_reducible rfl
  clear hHeld
  have hHeld := hNew
  clear hNew
  try simp only [List.getElem_toArray, List.getElem_cons_succ, List.getElem_cons_zero, Act.put, List.setIfInBounds_toArray, List.set_cons_zero, List.set_cons_succ]
  refine wpAnyL_take (i := 28) (oi := _) (v := ?_) rfl (by kernel_rfl) (by kernel_rfl) (by kernel_rfl) (by kernel_rfl) (by kernel_rfl) (fun _ _ _ h => h) (Or.inl ⟨by rfl, ?_⟩) (by assumption) (fun hNew => ?_)
  rotate_left
  · intro w _
    go_simp
    try with_reducible rfl
  clear hHeld
  have hHeld := hNew
  clear hNew
  try simp only [List.getElem_toArray, List.getElem_cons_succ, List.getElem_cons_zero, Act.put, List.setIfInBounds_toArray, List.set_cons_zero, List.set_cons_succ]
  have hc36 : Chg [] w3 w6 := HC6.out
  have CSM := Lib.hid (same_any _ _ rb rb w6 (HV2.out.1.chg hc36 (by simp)) (HV2.out.2.chg hc36 (by simp)) (by omega) (by omega))
  rw [decide_eq_true rfl] at CSM
  clear hc36
  refine wpAnyL_ready (rs := [29]) (by kernel_rfl) (by simp) ?_
  refine AllReadyL.cons (o := _) rfl (fun K hK => ?_) AllReadyL.nil
  try simp only [List.getElem_toArray, List.getElem_cons_succ, List.getElem_cons_zero]
  go_simp
  refine CSM.out.mono ?_
  rintro e w7 ⟨rfl, nn, hq⟩
  have HF : Hid (Chg [] w w7) := Lib.hid (by rw [hq]; exact ((HC1.out.trans HC3.out (by simp)).trans HC6.out (by simp)).drewN nn)
  clear hq CSM cw
  clear hHeld
  refine hK.out _ _ ?_ (fun hHeld => ?_)
  · exact (HoldC.past (by kernel_rfl) HoldC.nil)
  clear hK K
  try simp only [List.getElem_toArray, List.getElem_cons_succ, List.getElem_cons_zero, Act.put, List.setIfInBounds_toArray, List.set_cons_zero, List.set_cons_succ]
  refine wpAnyL_take (i := 30) (oi := _) (v := ?_) rfl (by kernel_rfl) (by kernel_rfl) (by kernel_rfl) (by kernel_rfl) (by kernel_rfl) (fun _ _ _ h => h) (Or.inl ⟨by rfl, ?_⟩) (by assumption) (fun hNew => ?_)
  rotate_left
  · intro w _
    go_simp
    try with_reducible rfl
  clear hHeld
  have hHeld := hNew
  clear hNew
  try simp only [List.getElem_toArray, List.getElem_cons_succ, List.getElem_cons_zero, Act.put, List.setIfInBounds_toArray, List.set_cons_zero, List.set_cons_succ]
  refine wpAnyL_take (i := 31) (oi := _) (v := ?_) rfl (by kernel_rfl) (by kernel_rfl) (by kernel_rfl) (by kernel_rfl) (by kernel_rfl) (fun _ _ _ h => h) (Or.inl ⟨by rfl, ?_⟩) (by assumption) (fun hNew => ?_)
  rotate_left
  · intro w _
    go_simp
    try with_reducible rfl
  clear hHeld
  have hHeld := hNew
  clear hNew
  try simp only [List.getElem_toArray, List.getElem_cons_succ, List.getElem_cons_zero, Act.put, List.setIfInBounds_toArray, List.set_cons_zero, List.set_cons_succ]
  refine wpAnyL_done (by kernel_rfl) ?_ _
  clear hHeld
  go_wp2_with fail
  go_ret
  exact ⟨rfl, HF.out⟩
end Go.Proofs.YtbkajnjboipbhaaGreatDoor.W

/- The law's latest. -/
namespace Go.Proofs.YtbkajnjboipbhaaGreatDoor.W
open Go.RowKit
set_option linter.unusedVariables false
set_option linter.unusedSimpArgs false
variable {G : List Nat}

end Go.Proofs.YtbkajnjboipbhaaGreatDoor.W

/- The reference's OpenSlots. -/
namespace Go.Proofs.YtbkajnjboipbhaaGreatDoor.W
open Go.RowKit
set_option linter.unusedVariables false
set_option linter.unusedSimpArgs false

/-- What OpenSlots answers. -/
def ROpenPost (m : Nat) (V F : List Nat) (w : World) (r : Int × Option SS) (e : Ending) (w' : World) : Prop := Chg [] w w' ∧ match r with
  | (c, none) => e = .returned (.tuple #[.pointer none, .int .i64 c])
  | (c, some s) => ∃ q W A, e = .returned (.tuple #[.pointer (some ⟨q, 0, none⟩), .int .i64 c]) ∧ RSlotsAt w' q m W A s ∧ (∀ x ∈ W, x ∈ V ∨ w.heap.size ≤ x) ∧ ∀ x ∈ A, x ∈ F ∨ w.heap.size ≤ x
/-- While OpenSlots is at work. -/
structure ROpenAt (w wr : World) (q m : Nat) (first : Nat) (rv : Value) (R : List (SRow × Value)) : Prop where
  chg : Chg [] w wr
  obj : ObjAt wr q 123 #[.pointer (some ⟨m, 0, none⟩), .int .i64 (first : Int), rv] [rowQ rv R]
  new : ∀ x ∈ blks q [rowQ rv R], w.heap.size ≤ x
  no8 : ∀ x ∈ blks q [rowQ rv R], NoU8 wr x
  keys : ∀ x ∈ R, BytesAt wr x.2 x.1.key ∧ ∀ g, x.2.ownBlock = some g → g < wr.heap.size ∧ w.heap.size ≤ g ∧ g ∉ blks q [rowQ rv R]
theorem ROpenAt.keep {w wr w' : World} {q m first : Nat} {rv : Value} {R : List (SRow × Value)} (h : ROpenAt w wr q m first rv R) (hc : Chg [] wr w') : ROpenAt w w' q m first rv R :=
  ⟨h.chg.trans hc (by simp), h.obj.keep hc (by simp), h.new, fun x hx => (h.no8 x hx).keep (hc.block x (h.obj.lim x hx) (by simp)), fun x hx => ⟨(h.keys x hx).1.chg hc (by simp), fun g hg => ⟨Nat.lt_of_lt_of_le ((h.keys x hx).2 g hg).1 hc.size, ((h.keys x hx).2 g hg).2⟩⟩⟩
theorem ROpenAt.row {w wr : World} {q m first : Nat} {rv : Value} {R : List (SRow × Value)} (h : ROpenAt w wr q m first rv R) : wr.ownsRow 0 125 3 rv R.length (qcells R) ∧ (∀ c ∈ qcells R, No8 c) ∧ ∀ x, rv.ownBlock = some x → NoU8 wr x :=
  ⟨h.obj.rows _ (List.mem_singleton.2 rfl), qcells_no8 R (fun x hx => (h.keys x hx).1), fun x hx => h.no8 x (blks_row (r := rowQ rv R) (List.mem_singleton.2 rfl) hx)⟩
theorem ROpenAt.more {w wr w2 : World} {q m first : Nat} {rv : Value} {R : List (SRow × Value)} (h : ROpenAt w wr q m first rv R) (x : SRow × Value) (g cap : Nat) (hg : wr.grownBy w2 rv.ownBlock) (hrow : w2.ownsRow 0 125 3 (.slice (some ⟨g, 0, none⟩) (R.length + 1) cap) (R.length + 1) (qcells R ++ qcell x))
    (hat : rv.ownBlock = some g ∨ g = wr.heap.size) (h8 : NoU8 w2 g) (hx : BytesAt wr x.2 x.1.key) (hxU : ∀ g, x.2.ownBlock = some g → g < wr.heap.size ∧ w.heap.size ≤ g ∧ g ∉ blks q [rowQ rv R]) :
    ROpenAt w (w2.setCell ⟨q, 2, none⟩ (.slice (some ⟨g, 0, none⟩) (R.length + 1) cap)) q m first (.slice (some ⟨g, 0, none⟩) (R.length + 1) cap) (R ++ [x]) := by
  have hloc : ∀ k, (Value.slice (some ⟨g, 0, none⟩) (R.length + 1) cap).ownBlock = some k → rv.ownBlock = some k ∨ wr.heap.size ≤ k := fun k hk => by
    obtain rfl : g = k := by simpa [Value.ownBlock] using hk
    rcases hat with h4 | h4
    · exact .inl h4
    · exact .inr (by omega)
  have hobj : ObjAt wr q 123 #[.pointer (some ⟨m, 0, none⟩), .int .i64 (first : Int), rv] ([] ++ rowQ rv R :: []) := h.obj
  obtain ⟨o1, o2, o3⟩ := hobj.field (r' := rowQ (.slice (some ⟨g, 0, none⟩) (R.length + 1) cap) (R ++ [x])) 2 hg (by
    show w2.ownsRow 0 125 3 (.slice (some ⟨g, 0, none⟩) (R.length + 1) cap) (R ++ [x]).length (qcells (R ++ [x]))
    rw [List.length_append, qcells_app]
    exact hrow) hloc
  have o8 := hobj.field8 h.no8 2 hg (r' := rowQ (.slice (some ⟨g, 0, none⟩) (R.length + 1) cap) (R ++ [x])) hloc (fun y hy => by
    obtain rfl : g = y := by simpa [rowQ, Value.ownBlock] using hy
    exact h8) no8_slice
  refine ⟨h.chg.trans o3 (fun x hx => .inr (h.new x hx)), o1, fun y hy => ?_, o8, fun y hy => ?_⟩
  · rcases o2 y hy with h1 | h1
    · exact h.new y h1
    · exact Nat.le_trans h.chg.size h1
  · have hout : ∀ k, k < wr.heap.size → k ∉ blks q [rowQ rv R] → k ∉ blks q [rowQ (.slice (some ⟨g, 0, none⟩) (R.length + 1) cap) (R ++ [x])] := fun k h1 h2 hm => by
      rcases o2 k hm with h3 | h3
      · exact h2 h3
      · omega
    rcases List.mem_append.1 hy with hy | hy
    · obtain ⟨k1, k2⟩ := h.keys y hy
      exact ⟨k1.chg o3 (fun k hk => (k2 k hk).2.2), fun k hk => ⟨Nat.lt_of_lt_of_le (k2 k hk).1 o3.size, (k2 k hk).2.1, hout k (k2 k hk).1 (k2 k hk).2.2⟩⟩
    · obtain rfl : y = x := by simpa using hy
      exact ⟨hx.chg o3 (fun k hk => (hxU k hk).2.2), fun k hk => ⟨Nat.lt_of_lt_of_le (hxU k hk).1 o3.size, (hxU k hk).2.1, hout k (hxU k hk).1 (hxU k hk).2.2⟩⟩
theorem ROpenAt.done {w wr : World} {q m first : Nat} {V F : List Nat} {d : DS} {rv : Value} {R : List (SRow × Value)} (h : ROpenAt w wr q m first rv R) (hd : RDiskAt w m V F d) (hok : SS.Ok ⟨d, first, R.map (·.1)⟩) :
    ∃ W A, RSlotsAt wr q m W A ⟨d, first, R.map (·.1)⟩ ∧ (∀ x ∈ W, x ∈ V ∨ w.heap.size ≤ x) ∧ ∀ x ∈ A, x ∈ F ∨ w.heap.size ≤ x := by
  obtain ⟨l1, l2, l3⟩ := hd.lim
  refine ⟨V ++ blks q [rowQ rv R], F ++ blks q [rowQ rv R] ++ R.flatMap (fun x => x.2.ownBlock.toList), ⟨V, F, rv, R, h.obj, hd.keep h.chg (by simp), rfl, fun x hx hm => ?_, fun x hx => ?_, rfl, h.no8, fun x hx => List.mem_append_left _ (List.mem_append_left _ hx), fun x hx => List.mem_append_left _ (List.mem_append_right _ hx), fun x hx => ?_, hok⟩, fun x hx => ?_, fun x hx => ?_⟩
  · have a1 := h.new x hx
    have a2 := l1 x hm
    omega
  · obtain ⟨k1, k2⟩ := h.keys x hx
    refine ⟨k1, fun g hg => ⟨List.mem_append_right _ (List.mem_flatMap.2 ⟨x, hx, by rw [hg]; simp⟩), fun hm => ?_⟩⟩
    obtain ⟨b1, b2, b3⟩ := k2 g hg
    rcases List.mem_append.1 hm with hm | hm
    · have := l1 g (l2 g hm); omega
    · exact b3 hm
  · rcases List.mem_append.1 hx with hx | hx
    · rcases List.mem_append.1 hx with hx | hx
      · exact Nat.lt_of_lt_of_le (l1 x hx) h.chg.size
      · exact h.obj.lim x hx
    · obtain ⟨c, hc, hx⟩ := List.mem_flatMap.1 hx
      exact ((h.keys c hc).2 x (by simpa using hx)).1
  · rcases List.mem_append.1 hx with hx | hx
    · exact .inl hx
    · exact .inr (h.new x hx)
  · rcases List.mem_append.1 hx with hx | hx
    · rcases List.mem_append.1 hx with hx | hx
      · exact .inl hx
      · exact .inr (h.new x hx)
    · obtain ⟨c, hc, hx⟩ := List.mem_flatMap.1 hx
      exact .inr ((h.keys c hc).2 x (by simpa using hx)).2.1
theorem ropen_at (m first : Nat) (w : World) : ROpenAt w (w.alloc (.cells #[.pointer (some ⟨m, 0, none⟩), .int .i64 (first : Int), .slice none 0 0] 123)) w.heap.size m first (.slice none 0 0) [] := by
  have hh := heap_alloc_new w (.cells #[.pointer (some ⟨m, 0, none⟩), .int .i64 (first : Int), .slice none 0 0] 123)
  have hb : blks w.heap.size [rowQ (.slice none 0 0) []] = [w.heap.size] := rfl
  refine ⟨(Chg.refl _ _).alloc _, ⟨hh, fun r hr => ?_, by rw [hb]; simp⟩, fun x hx => ?_, fun x hx => ?_, fun x hx => by cases hx⟩
  · obtain rfl : r = rowQ (.slice none 0 0) [] := by simpa using hr
    exact ⟨rfl, .inl ⟨rfl, rfl⟩⟩
  · rw [hb] at hx
    rw [List.mem_singleton.1 hx]
    exact Nat.le_refl _
  · rw [hb] at hx
    rw [List.mem_singleton.1 hx]
    refine NoU8.mk hh (no8_list (l := [_, _, _]) ?_)
    intro c hc
    simp only [List.mem_cons, List.mem_nil_iff, or_false] at hc
    rcases hc with rfl | rfl | rfl <;> (intro z; simp)
theorem facts_held : (Tryz.prog.info? 125).map (fun i => (i.zero, i.size, i.bytes)) = some (some (.agg #[.bool false, .slice none 0 0, .int .i64 0]), 3, 40) := by kernel_rfl

set_option maxHeartbeats 8000000 in
set_option maxRecDepth 100000 in
theorem ropen_any (m : Nat) (V F : List Nat) (d : DS) (first : Int) (w : World) (h : RDiskAt w m V F d) (hn0 : d.n ≠ 0) :
    Calls Tryz.prog 74 #[.pointer (some ⟨m, 0, none⟩), .int .i64 first] w (ROpenPost m V F w (d.slots first)) := by
  have HD := Lib.hid h
  obtain ⟨p6, hnd, a, cap, p0, -⟩ := h.read
  obtain ⟨n, hn⟩ : ∃ n, n = d.n := ⟨_, rfl⟩
  have HN := Lib.hid hn
  rw [← hn] at p0 hnd hn0
  by_cases hneg : first < 0
  · have hg : d.slots first = (1, none) := by unfold DS.slots; rw [if_pos (.inl hneg)]
    rw [hg]
    have q0 : decide (first < 0) = true := decide_eq_true hneg
    clear h hg p6
    go_enter Tryz.func74, Tryz.ntmps74
    go_wp2
    go_ret2
    exact ⟨Chg.refl _ _, rfl⟩
  · obtain ⟨f, rfl⟩ := Int.eq_ofNat_of_zero_le (show 0 ≤ first by omega)
    have q0 : decide ((f : Int) < 0) = false := decide_eq_false hneg
    by_cases hbig : n < f
    · have hg : d.slots (f : Int) = (1, none) := by unfold DS.slots; rw [if_pos (.inr (by omega))]
      rw [hg]
      have q1 : decide ((f : Int) > (n : Int)) = true := decide_eq_true (by omega)
      clear h hg p6
      go_enter Tryz.func74, Tryz.ntmps74
      go_wp2
      go_ret2
      exact ⟨Chg.refl _ _, rfl⟩
    · have q1 : decide ((f : Int) > (n : Int)) = false := decide_eq_false (by omega)
      by_cases hd : d.dead = true
      · have hg : d.slots (f : Int) = (14, none) := by unfold DS.slots; rw [if_neg (by omega), if_pos (.inl hd)]
        rw [hg]
        rw [hd] at p6
        clear h hg hd
        go_enter Tryz.func74, Tryz.ntmps74
        go_wp2
        go_ret2
        exact ⟨Chg.refl _ _, rfl⟩
      · have hg : d.slots (f : Int) = match rowsFrom d f ((d.n - f) / 8) 0 with
            | none => (4, none)
            | some rows => (0, some ⟨d, f, rows⟩) := by
          unfold DS.slots
          rw [if_neg (by omega), if_neg (by rw [← hn]; simp [hd, hn0])]
          rfl
        have hd' : d.dead = false := by simpa using hd
        rw [hd'] at p6
        obtain ⟨Z, hZ⟩ : ∃ Z, Z = d.slots f := ⟨_, rfl⟩
        rw [← hZ] at hg ⊢
        obtain ⟨M, hM⟩ : ∃ M, M = (d.n - f) / 8 := ⟨_, rfl⟩
        rw [← hM] at hg
        have HG := Lib.hid hg
        have hm8 : f + 8 * M ≤ n ∧ n < f + 8 * M + 8 := by omega
        have HSEC := Lib.hid (fun wr (hc : Chg [] w wr) => ((h.keep hc (by simp)).read).2.2)
        obtain ⟨w1, hw1⟩ : ∃ w1, w1 = w.alloc (.cells #[.pointer (some ⟨m, 0, none⟩), .int .i64 (f : Int), .slice none 0 0] 123) := ⟨_, rfl⟩
        have HO1 : Hid (ROpenAt w w1 w.heap.size m f (.slice none 0 0) []) := Lib.hid (by rw [hw1]; exact ropen_at m f w)
        obtain ⟨q, hq⟩ : ∃ q, q = w.heap.size := ⟨_, rfl⟩
        rw [← hq] at HO1
        have HQ := Lib.hid hq
        have HW1 := Lib.hid hw1
        have HP0 := Lib.hid p0
        clear h hg hd hd' hZ hM hw1 hq
        go_enter Tryz.func74, Tryz.ntmps74
        go_wp2_with fail
        rw [← HW1.out, ← HQ.out]
        go_loopg [7, 8, 9] M (fun g' s7 s8 s9 wr => ∃ (k : Nat) (rv : Value) (R : List (SRow × Value)), s7 = .int .i64 ((f + 8 * k : Nat) : Int) ∧ k ≤ M ∧ M ≤ k + g' ∧ Hid (ROpenAt w wr q m f rv R ∧ R.length = k ∧ rowsFrom d f M 0 = (rowsFrom d f (M - k) k).map (R.map (·.1) ++ ·)))
        case atStart => exact ⟨0, .slice none 0 0, [], by simp, by omega, by omega, Lib.hid ⟨HO1.out, rfl, by simp⟩⟩
        case round =>
          obtain ⟨k, rv, R, rfl, hk, hkg, HR⟩ := hrel
          obtain ⟨hO, hRl, hrows⟩ := HR.out
          have HO := Lib.hid hO
          have HROWS := Lib.hid hrows
          have e0 := hO.chg.cell HP0.out (by simp)
          clear hO hrows p0 p6 HR
          by_cases hlt : k < M
          · obtain ⟨a', c', e', hsec⟩ := HSEC.out wr HO.out.chg
            obtain ⟨rfl, hce, rfl⟩ : a = a' ∧ n = d.n ∧ cap = c' := by
              have := e0.symm.trans e'
              simpa using this
            obtain ⟨gn, ax, cx, rfl, e1, b1, l1⟩ := hsec (f + 8 * k) (by rw [← hce]; omega)
            have CH := Lib.hid (rhead_any _ _ wr b1 (by rw [l1]; omega))
            have hle : decide ((f : Int) + 8 * (k : Int) + 8 ≤ (n : Int)) = true := decide_eq_true (by omega)
            have hfk : ((f : Int) + 8 * (k : Int)).toNat = f + 8 * k := by omega
            have hfk0 : (0 : Int) ≤ (f : Int) + 8 * (k : Int) := by omega
            have hfk1 : (f : Int) + 8 * (k : Int) < (n : Int) := by omega
            clear e' hsec b1 l1 hce
            go_wp2_with fail
            refine CH.out.mono ?_
            rintro e w4 ⟨hc4, hh⟩
            have HO4 := Lib.hid (HO.out.keep hc4)
            cases hhd : headOf (d.now (f + 8 * k)) with
            | none =>
              rw [hhd] at hh
              obtain rfl := hh
              have HZ : Hid (Z = (4, none)) := Lib.hid (by
                rw [HG.out, HROWS.out, show M - k = (M - (k + 1)) + 1 by omega]
                unfold rowsFrom
                rw [hhd]
                rfl)
              have HCF := Lib.hid HO4.out.chg
              clear hhd hc4 CH
              go_wp2
              go_ret2
              rw [HZ.out]
              exact ⟨HCF.out.alloc _, rfl⟩
            | some r =>
              rw [hhd] at hh
              obtain ⟨kv, rfl, hr5, ho5⟩ := hh
              obtain ⟨ak, ck, hkv⟩ := hr5.bytes.slice
              have hxU : ∀ g, kv.ownBlock = some g → g < w4.heap.size ∧ w.heap.size ≤ g ∧ g ∉ blks q [rowQ rv R] := fun g hg => by
                have e1 := ho5 g hg
                have e4 := HO.out.chg.size
                refine ⟨hr5.lt g hg, by omega, fun hm => ?_⟩
                have := HO.out.obj.lim g hm
                omega
              obtain ⟨hb, hhb⟩ : ∃ hb, hb = w4.heap.size := ⟨_, rfl⟩
              obtain ⟨w5, hw5⟩ : ∃ w5, w5 = w4.alloc (.cells #[.bool r.used, .slice ak r.key.length ck, .int .i64 (r.n : Int)] 125) := ⟨_, rfl⟩
              have hc5 : Chg [] w4 w5 := by rw [hw5]; exact (Chg.refl _ _).alloc _
              have HO5 := Lib.hid (HO4.out.keep hc5)
              have hB5 : BytesAt w5 kv r.key := hr5.bytes.chg hc5 (by simp)
              have hR5 : w5.rangeAt hb 0 (qcell (r, kv)) := fun j u hj => by
                rw [hw5, hhb]
                have := blk_cell (heap_alloc_new w4 (.cells #[.bool r.used, .slice ak r.key.length ck, .int .i64 (r.n : Int)] 125)) j u (by rw [← hkv]; simpa [qcell] using hj)
                rwa [Nat.zero_add]
              have HB := Lib.hid hhb
              have HW5 := Lib.hid hw5
              have HRC : Hid (rowsFrom d f M 0 = (rowsFrom d f (M - (k + 1)) (k + 1)).map ((R ++ [(r, kv)]).map (·.1) ++ ·)) := Lib.hid (by
                rw [HROWS.out, show M - k = (M - (k + 1)) + 1 by omega]
                conv => lhs; unfold rowsFrom
                rw [hhd]
                dsimp only
                rw [Option.map_map]
                congr 1
                funext t
                simp)
              have hA6 : ∀ x : Array Value, Chg [] w5 (w5.drew.alloc (.cells x 125)) := fun x => (by exact (Chg.refl [] w5).drew : Chg [] w5 w5.drew).alloc _
              have HO6 := Lib.hid (HO5.out.keep (hA6 (qcell (r, kv)).toArray))
              have HB6 := Lib.hid (hB5.chg (hA6 (qcell (r, kv)).toArray) (by simp))
              have HX6 : Hid (∀ g, kv.ownBlock = some g → g < (w5.drew.alloc (.cells (qcell (r, kv)).toArray 125)).heap.size ∧ w.heap.size ≤ g ∧ g ∉ blks q [rowQ rv R]) := Lib.hid (fun g hg => ⟨Nat.lt_of_lt_of_le (hxU g hg).1 (Nat.le_trans hc5.size (hA6 _).size), (hxU g hg).2⟩)
              have HN6 : Hid (∀ j u, (qcell (r, kv))[j]? = some u → (w5.drew.alloc (.cells (qcell (r, kv)).toArray 125)).cell? ((⟨w5.heap.size, 0, none⟩ : Addr).add j) = some u) := Lib.hid (fun j u hj => by
                rw [add_none, Nat.zero_add]
                exact blk_cell (heap_alloc_new w5.drew _) j u (by simpa using hj))
              have c2 : w5.cell? ⟨q, 2, none⟩ = some rv := blk_cell HO5.out.obj.head 2 _ rfl
              have c6 : (w5.drew.alloc (.cells (qcell (r, kv)).toArray 125)).cell? ⟨q, 2, none⟩ = some rv := blk_cell HO6.out.obj.head 2 _ rfl
              have hzh : Hid ((Tryz.prog.info? 125).map (·.size) = some (qcell (r, kv)).length) := Lib.hid (by show _ = some 3; kernel_rfl)
              obtain ⟨i3, hi3, hz3, hs3, hy3⟩ := info_parts facts_held
              have I3 := Lib.hid (And.intro hi3 (And.intro hz3 (And.intro hs3 hy3)))
              have HKV := Lib.hid hkv
              have hkq : qcell (r, kv) = [.bool r.used, .slice ak r.key.length ck, .int .i64 (r.n : Int)] := by rw [hkv]; rfl
              have HKQ := Lib.hid hkq
              subst hkv
              clear hhd hxU hr5 ho5 hc4 hw5 hc5 hB5 hA6 hi3 hz3 hs3 hy3 CH hhb HO4 hkq
              go_wp2_with fail
              rw [← HW5.out, ← HB.out]
              refine wp_region_L [(10, fun w' => w'.cell? ⟨q, 2, none⟩ = some rv), (6, fun w' => w'.rangeAt hb 0 (qcell (r, .slice ak r.key.length ck)))] (by kernel_rfl) ?_ (fun hHeld => ?_)
              · exact (HoldC.cons (c2) (HoldC.cons (hR5) HoldC.nil))
              refine wpAnyL_take (i := 0) (oi := _) (v := ?_) rfl (by kernel_rfl) (by kernel_rfl) (by kernel_rfl) (by kernel_rfl) (by kernel_rfl) (fun _ _ _ h => h) (Or.inl ⟨by rfl, ?_⟩) (by assumption) (fun hNew => ?_)
              rotate_left
              · intro w _
                go_simp
                try with_reducible rfl
              clear hHeld
              have hHeld := hNew
              clear hNew
              try simp only [List.getElem_toArray, List.getElem_cons_succ, List.getElem_cons_zero, Act.put, List.setIfInBounds_toArray, List.set_cons_zero, List.set_cons_succ]
              refine wpAnyL_take (i := 1) (oi := _) (v := ?_) rfl (by kernel_rfl) (by kernel_rfl) (by kernel_rfl) (by kernel_rfl) (by kernel_rfl) (fun _ _ _ h => h) (Or.inl ⟨by rfl, ?_⟩) (by assumption) (fun hNew => ?_)
              rotate_left
              · intro w _
                go_simp
                try with_reducible rfl
              clear hHeld
              have hHeld := hNew
              clear hNew
              try simp only [List.getElem_toArray, List.getElem_cons_succ, List.getElem_cons_zero, Act.put, List.setIfInBounds_toArray, List.set_cons_zero, List.set_cons_succ]
              refine wpAnyL_take (i := 2) (oi := _) (v := ?_) rfl (by kernel_rfl) (by kernel_rfl) (by kernel_rfl) (by kernel_rfl) (by kernel_rfl) (fun _ _ _ h => h) (Or.inl ⟨by rfl, ?_⟩) (by assumption) (fun hNew => ?_)
              rotate_left
              · intro w _
                go_simp
                try with_reducible rfl
              clear hHeld
              have hHeld := hNew
              clear hNew
              try simp only [List.getElem_toArray, List.getElem_cons_succ, List.getElem_cons_zero, Act.put, List.setIfInBounds_toArray, List.set_cons_zero, List.set_cons_succ]
              refine wpAnyL_take (i := 3) (oi := _) (v := ?_) rfl (by kernel_rfl) (by kernel_rfl) (by kernel_rfl) (by kernel_rfl) (by kernel_rfl) (fun _ _ _ h => h) (Or.inl ⟨by rfl, ?_⟩) (by assumption) (fun hNew => ?_)
              rotate_left
              · intro w _
                go_simp
                try with_reducible rfl
              clear hHeld
              have hHeld := hNew
              clear hNew
              try simp only [List.getElem_toArray, List.getElem_cons_succ, List.getElem_cons_zero, Act.put, List.setIfInBounds_toArray, List.set_cons_zero, List.set_cons_succ]
              refine wpAnyL_load 0 (i := 4) (oi := _) (v := ?_) rfl rfl (by kernel_rfl) (by kernel_rfl) (by kernel_rfl) (by kernel_rfl) (by kernel_rfl) (by kernel_rfl) (fun _ _ _ h => h) (Or.inl ⟨by rfl, ?_⟩) (by assumption) (fun hNew => ?_)
              rotate_left
              · intro w hSw
                (try dsimp only at hSw)
                go_simp
                try with_reducible rfl
              clear hHeld
              have hHeld := hNew
              clear hNew
              try simp only [List.getElem_toArray, List.getElem_cons_succ, List.getElem_cons_zero, Act.put, List.setIfInBounds_toArray, List.set_cons_zero, List.set_cons_succ]
              refine wpAnyL_load 1 (i := 5) (oi := _) (v := .agg (qcell (r, .slice ak r.key.length ck)).toArray) rfl rfl (by kernel_rfl) (by kernel_rfl) (by kernel_rfl) (by kernel_rfl) (by kernel_rfl) (by kernel_rfl) (fun _ _ _ h => h) (yieldsIf_load_mid (by rfl) 125 (.tmp 8) (by rfl) (hb) (0) (by rfl) (qcell (r, .slice ak r.key.length ck)) _ (fun w hw => hw) Tryz.underlying125 rfl hzh.out) (by assumption) (fun hNew => ?_)
              clear hHeld
              have hHeld := hNew
              clear hNew
              try simp only [List.getElem_toArray, List.getElem_cons_succ, List.getElem_cons_zero, Act.put, List.setIfInBounds_toArray, List.set_cons_zero, List.set_cons_succ]
              refine wpAnyL_ready (rs := [6]) (by kernel_rfl) (by simp) ?_
              refine AllReadyL.cons (o := _) rfl (fun K hK => ?_) AllReadyL.nil
              try simp only [List.getElem_toArray, List.getElem_cons_succ, List.getElem_cons_zero]
              rw [if_pos (by rfl)]
              refine wp_slice1 121 125 (.tmp 62) (by rfl) (qcell (r, .slice ak r.key.length ck)).toArray (by rfl) i3 _ Tryz.underlying121 I3.out.1 I3.out.2.1 (by rw [I3.out.2.2.1]; rfl) (by show 0 < 3; omega) (by show 3 ≤ 1000; omega) ?_
              clear hHeld
              refine hK.out _ _ ?_ (fun hHeld => ?_)
              · exact (HoldC.cons (c6) (HoldC.past (by kernel_rfl) HoldC.nil))
              clear hK K
              try simp only [List.getElem_toArray, List.getElem_cons_succ, List.getElem_cons_zero, Act.put, List.setIfInBounds_toArray, List.set_cons_zero, List.set_cons_succ]
              refine wpAnyL_ready (rs := [7]) (by kernel_rfl) (by simp) ?_
              refine AllReadyL.cons (o := _) rfl (fun K hK => ?_) AllReadyL.nil
              try simp only [List.getElem_toArray, List.getElem_cons_succ, List.getElem_cons_zero]
              rw [if_pos (by rfl)]
              refine wp_append_no8 (.tmp 61) (.tmp 63) 121 (by rfl) 125 i3 _ 3 40 Tryz.underlying121 I3.out.1 I3.out.2.1 I3.out.2.2.1 I3.out.2.2.2 rfl (by omega) (fun j c hj => by
                have hm : c ∈ [Value.bool false, .slice none 0 0, .int .i64 0] := List.mem_of_getElem? (i := j) (by simpa [Value.cells] using hj)
                simp only [List.mem_cons, List.mem_nil_iff, or_false] at hm
                rcases hm with rfl | rfl | rfl <;> (intro z; simp)) rv R.length (qcells R) (by rfl) HO6.out.row.1 HO6.out.row.2.1 HO6.out.row.2.2 ⟨w5.heap.size, 0, none⟩ 1 (by rfl) (qcell (r, .slice ak r.key.length ck)) rfl HN6.out (fun u hu => by
                simp only [qcell, List.mem_cons, List.mem_nil_iff, or_false] at hu
                rcases hu with rfl | rfl | rfl <;> rfl) (fun u hu => by
                simp only [qcell, List.mem_cons, List.mem_nil_iff, or_false] at hu
                rcases hu with rfl | rfl | rfl <;> (intro z; simp)) (by unfold maxLen; omega) (by omega) ?_
              intro g7 cap7 w7 hrow hg hat hlt7 h8
              have hm7 : w7.heap[q]? = _ := (hg.block q (blk_lt HO6.out.obj.head) (fun e => HO6.out.obj.row_ne (r := rowQ rv R) (List.mem_singleton.2 rfl) e.symm rfl)).trans HO6.out.obj.head
              have p6 := blk_cell hm7 2 _ rfl
              have p7 := blk_frozen hm7 2
              have p8 := blk_lt hm7
              have HO7 := Lib.hid (HO6.out.more (r, .slice ak r.key.length ck) g7 cap7 hg hrow hat h8 HB6.out HX6.out)
              clear hrow hg hat hlt7 h8 hm7
              clear hHeld
              refine hK.out _ _ ?_ (fun hHeld => ?_)
              · exact (HoldC.cons (p6) (HoldC.past (by kernel_rfl) HoldC.nil))
              clear hK K
              try simp only [List.getElem_toArray, List.getElem_cons_succ, List.getElem_cons_zero, Act.put, List.setIfInBounds_toArray, List.set_cons_zero, List.set_cons_succ]
              refine wpAnyL_take (i := 8) (oi := _) (v := ?_) rfl (by kernel_rfl) (by kernel_rfl) (by kernel_rfl) (by kernel_rfl) (by kernel_rfl) (fun _ _ _ h => h) (Or.inl ⟨by rfl, ?_⟩) (by assumption) (fun hNew => ?_)
              rotate_left
              · intro w _
                go_simp
                try with_reducible rfl
              clear hHeld
              have hHeld := hNew
              clear hNew
              try simp only [List.getElem_toArray, List.getElem_cons_succ, List.getElem_cons_zero, Act.put, List.setIfInBounds_toArray, List.set_cons_zero, List.set_cons_succ]
              refine wpAnyL_take (i := 9) (oi := _) (v := ?_) rfl (by kernel_rfl) (by kernel_rfl) (by kernel_rfl) (by kernel_rfl) (by kernel_rfl) (fun _ _ _ h => h) (Or.inl ⟨by rfl, ?_⟩) (by assumption) (fun hNew => ?_)
              rotate_left
              · intro w _
                go_simp
                try with_reducible rfl
              clear hHeld
              have hHeld := hNew
              clear hNew
              try simp only [List.getElem_toArray, List.getElem_cons_succ, List.getElem_cons_zero, Act.put, List.setIfInBounds_toArray, List.set_cons_zero, List.set_cons_succ]
              refine wpAnyL_ready (rs := [10]) (by kernel_rfl) (by simp) ?_
              refine AllReadyL.cons (o := _) rfl (fun K hK => ?_) AllReadyL.nil
              try simp only [List.getElem_toArray, List.getElem_cons_succ, List.getElem_cons_zero]
              go_simp
              clear hHeld
              refine hK.out _ _ ?_ (fun hHeld => ?_)
              · exact (HoldC.past (by kernel_rfl) (HoldC.past (by kernel_rfl) HoldC.nil))
              clear hK K
              try simp only [List.getElem_toArray, List.getElem_cons_succ, List.getElem_cons_zero, Act.put, List.setIfInBounds_toArray, List.set_cons_zero, List.set_cons_succ]
              refine wpAnyL_done (by kernel_rfl) ?_ _
              clear hHeld
              rw [hRl] at HO7
              generalize w7.setCell ⟨q, 2, none⟩ (.slice (some ⟨g7, 0, none⟩) (k + 1) cap7) = w8 at *
              clear p6 p7 p8 c2 c6
              have hw8 : IntKind.i64.wrap ((f : Int) + 8 * (k : Int) + 8) = ((f + 8 * (k + 1) : Nat) : Int) := by rw [IntWalk.i64_in _ ⟨by omega, by omega⟩]; push_cast; omega
              have HW8 := Lib.hid hw8
              clear hw8
              go_wp2
              go_roundg (gk - 1)
              case measure => omega
              case rel => exact ⟨k + 1, _, R ++ [(r, .slice ak r.key.length ck)], by first | rfl | rw [HW8.out] | (push_cast; congr 1; omega), by omega, by omega, Lib.hid ⟨HO7.out, by simp [hRl], HRC.out⟩⟩
          · have hkm : k = M := by omega
            have hle : decide ((f : Int) + 8 * (M : Int) + 8 ≤ (n : Int)) = false := decide_eq_false (by omega)
            obtain rfl := hkm.symm
            have HZ : Hid (Z = (0, some ⟨d, f, R.map (·.1)⟩)) := Lib.hid (by
              rw [HG.out, HROWS.out, Nat.sub_self]
              simp [rowsFrom])
            have HROK : Hid (rowsFrom d f M 0 = some (R.map (·.1))) := Lib.hid (by rw [HROWS.out, Nat.sub_self]; simp [rowsFrom])
            have HD1 := Lib.hid (HO.out.done HD.out ⟨by show f + 8 * (R.map (·.1)).length ≤ d.n; rw [List.length_map, hRl, ← HN.out]; omega, (rowsFrom_len _ _ _ HROK.out).2⟩)
            clear hkm hRl
            go_wp2
            go_ret2
            obtain ⟨W, A, h1, h2, h3⟩ := HD1.out
            rw [HZ.out]
            exact ⟨HO.out.chg, q, W, A, rfl, h1, h2, h3⟩
end Go.Proofs.YtbkajnjboipbhaaGreatDoor.W

/- The reference's store: mark, OpenStore. -/
namespace Go.Proofs.YtbkajnjboipbhaaGreatDoor.W
open Go.RowKit
set_option linter.unusedVariables false
set_option linter.unusedSimpArgs false

def RStOpenPost (m : Nat) (V F : List Nat) (w : World) (r : Int × Option Sto) (e : Ending) (w' : World) : Prop := Chg [] w w' ∧ match r with
  | (c, none) => e = .returned (.tuple #[.pointer none, .int .i64 c])
  | (c, some t) => ∃ q U B, e = .returned (.tuple #[.pointer (some ⟨q, 0, none⟩), .int .i64 c]) ∧ RStAt w' q m U B t ∧ (∀ x ∈ U, x ∈ V ∨ w.heap.size ≤ x) ∧ ∀ x ∈ B, x ∈ F ∨ w.heap.size ≤ x
theorem slots_one {d : DS} (h9 : 9 ≤ d.n) (hd : d.dead = false) : ((d.slots 1) = (4, none)) ∨ ∃ s, d.slots 1 = (0, some s) ∧ s.d = d := by
  unfold DS.slots
  rw [if_neg (by omega), if_neg (by rw [hd]; simp; omega)]
  split
  · exact .inl rfl
  · exact .inr ⟨_, rfl, rfl⟩
set_option maxHeartbeats 2000000 in
set_option maxRecDepth 100000 in
theorem rstopen_small (m : Nat) (V F : List Nat) (d : DS) (w : World) (h : RDiskAt w m V F d) (hn : d.n < 9) : Calls Tryz.prog 29 #[.pointer (some ⟨m, 0, none⟩)] w fun e w' => e = .returned (.tuple #[.pointer none, .int .i64 1]) ∧ Chg [] w w' := by
  obtain ⟨p6, hnd, a, cap, p0, -⟩ := h.read
  have hz : (d.n : Int) < 9 := by omega
  generalize d.n = n at *
  clear h
  go_enter Tryz.func29, Tryz.ntmps29
  go_wp2
  go_ret2
  exact ⟨rfl, Chg.refl _ _⟩
set_option maxHeartbeats 2000000 in
set_option maxRecDepth 100000 in
theorem rstopen_dead (m : Nat) (V F : List Nat) (d : DS) (w : World) (h : RDiskAt w m V F d) (hn : 9 ≤ d.n) (hd : d.dead = true) : Calls Tryz.prog 29 #[.pointer (some ⟨m, 0, none⟩)] w fun e w' => e = .returned (.tuple #[.pointer none, .int .i64 14]) ∧ Chg [] w w' := by
  obtain ⟨p6, hnd, a, cap, p0, -⟩ := h.read
  have hz : ¬ (d.n : Int) < 9 := by omega
  rw [hd] at p6
  generalize d.n = n at *
  clear h
  go_enter Tryz.func29, Tryz.ntmps29
  go_wp2
  go_ret2
  exact ⟨rfl, Chg.refl _ _⟩
theorem RDiskAt.first {w : World} {m : Nat} {V F : List Nat} {d : DS} (h : RDiskAt w m V F d) (h9 : 9 ≤ d.n) : ∃ g cap g2 o2 cap2, w.cell? ⟨m, 0, none⟩ = some (.slice (some ⟨g, 0, none⟩) d.n cap) ∧ w.cell? ⟨g, 0, none⟩ = some (.slice (some ⟨g2, o2, none⟩) 64 cap2) ∧ 64 ≤ cap2 ∧ w.cell? ⟨g2, o2, none⟩ = some (.int .u8 (((d.now 0).getD 0 0).toNat : Int)) ∧
    BytesAt w (.slice (some ⟨g2, o2 + 1, none⟩) 63 (cap2 - 1)) ((d.now 0).drop 1) ∧ (d.now 0).length = 64 := by
  obtain ⟨_, _, a, cap, p0, hk⟩ := h.read
  obtain ⟨g, ax, cx, rfl, k0, hb, hl⟩ := hk 0 (by omega)
  obtain ⟨a', c', he, h1, h2, h3⟩ := hb
  rw [hl] at he
  obtain ⟨rfl, _, rfl⟩ := Value.slice.inj he
  rcases h3 with ⟨h3, _⟩ | ⟨g2, o2, rfl, hc⟩
  · rw [h3] at hl; simp at hl
  · refine ⟨g, cap, g2, o2, cx, p0, k0, by omega, hc 0 (by omega), ⟨_, _, by rw [List.length_drop, hl], by rw [List.length_drop]; omega, by omega, .inr ⟨g2, o2 + 1, rfl, fun i hi => ?_⟩⟩, hl⟩
    rw [List.length_drop] at hi
    have := hc (i + 1) (by omega)
    rw [show o2 + (i + 1) = o2 + 1 + i by omega] at this
    rw [this, List.getD_eq_getElem?_getD, List.getD_eq_getElem?_getD, List.getElem?_drop, Nat.add_comm 1 i]
set_option maxHeartbeats 4000000 in
set_option maxRecDepth 100000 in
theorem rstopen_head (m : Nat) (V F : List Nat) (d : DS) (w : World) (h : RDiskAt w m V F d) (hn : 9 ≤ d.n) (hd : d.dead = false) (hbad : hdBad (d.now 0) = true) : Calls Tryz.prog 29 #[.pointer (some ⟨m, 0, none⟩)] w fun e w' => e = .returned (.tuple #[.pointer none, .int .i64 4]) ∧ Chg [] w w' := by
  obtain ⟨p6, hnd, -⟩ := h.read
  obtain ⟨g, cap, g2, o2, cap2, p0, k0, hcap, b0, hb, hl⟩ := h.first hn
  have hz : ¬ (d.n : Int) < 9 := by omega
  have hn0 : 0 < d.n := by omega
  have CN := Lib.hid (rnought_any _ _ w hb (by rw [List.length_drop]; omega))
  rw [hd] at p6
  unfold hdBad at hbad
  generalize (d.now 0).getD 0 0 = x at *
  generalize allZ ((d.now 0).drop 1) = z at *
  generalize d.n = n at *
  have hx : x.toNat < 256 := x.toNat_lt
  obtain ⟨y, hy⟩ : ∃ y, y = x.toNat := ⟨_, rfl⟩
  rw [← hy] at b0 hx
  have e1 : x = 1 ↔ y = 1 := by rw [hy]; exact ⟨fun h => by rw [h]; rfl, fun h => UInt8.toNat.inj h⟩
  have e2 : x = 2 ↔ y = 2 := by rw [hy]; exact ⟨fun h => by rw [h]; rfl, fun h => UInt8.toNat.inj h⟩
  have hbad' : (y ≠ 1 ∧ y ≠ 2) ∨ z = false := by
    simp only [Bool.or_eq_true, Bool.not_eq_true', Bool.or_eq_false_iff, decide_eq_false_iff_not] at hbad
    rcases hbad with ⟨h1, h2⟩ | h
    · exact .inl ⟨fun h => h1 (e1.2 h), fun h => h2 (e2.2 h)⟩
    · exact .inr h
  clear h hb hl hbad e1 e2 hy
  by_cases hy1 : y = 1
  · subst hy1
    obtain rfl : z = false := by rcases hbad' with h | h; exact absurd rfl h.1; exact h
    clear hbad'
    go_enter Tryz.func29, Tryz.ntmps29
    go_wp2_with (go_at_call 73; refine CN.out.mono ?_; rintro e w' ⟨rfl, hq⟩; subst hq)
    go_ret2
    exact ⟨rfl, (Chg.refl _ _)⟩
  · by_cases hy2 : y = 2
    · subst hy2
      obtain rfl : z = false := by rcases hbad' with h | h; exact absurd rfl h.2; exact h
      clear hbad'
      go_enter Tryz.func29, Tryz.ntmps29
      go_wp2_with (go_at_call 73; refine CN.out.mono ?_; rintro e w' ⟨rfl, hq⟩; subst hq)
      go_ret2
      exact ⟨rfl, (Chg.refl _ _)⟩
    · have q1 : ((y : Int) != 1) = true := by simp; omega
      have q2 : ((y : Int) != 2) = true := by simp; omega
      clear hbad'
      go_enter Tryz.func29, Tryz.ntmps29
      go_wp2
      go_ret2
      exact ⟨rfl, (Chg.refl _ _)⟩
end Go.Proofs.YtbkajnjboipbhaaGreatDoor.W

/- The reference's OpenStore. -/
namespace Go.Proofs.YtbkajnjboipbhaaGreatDoor.W
open Go.RowKit
set_option linter.unusedVariables false
set_option linter.unusedSimpArgs false

set_option maxHeartbeats 16000000 in
set_option maxRecDepth 100000 in
theorem rstopen_live (m : Nat) (V F : List Nat) (d : DS) (w : World) (h : RDiskAt w m V F d) (hn : 9 ≤ d.n) (hd : d.dead = false) (hbad : hdBad (d.now 0) = false) : Calls Tryz.prog 29 #[.pointer (some ⟨m, 0, none⟩)] w (RStOpenPost m V F w d.stOpen) := by
  obtain ⟨p6, hnd, -⟩ := h.read
  obtain ⟨g, cap, g2, o2, cap2, p0, k0, hcap, b0, hb, hl⟩ := h.first hn
  have hz : ¬ (d.n : Int) < 9 := by omega
  have hn0 : 0 < d.n := by omega
  have CN := Lib.hid (rnought_any _ _ w hb (by rw [List.length_drop]; omega))
  have CO := Lib.hid (ropen_any m V F d 1 w h (by omega))
  have HFE := Lib.hid h.lim
  rw [hd] at p6
  have HG : Hid (d.stOpen = match (d.slots 1).2 with
    | none => (4, none)
    | some s => if stKeys s.rows then (0, some ⟨s, (d.now 0).getD 0 0 == 2⟩) else (4, none)) := Lib.hid (by
    have hb' : ¬ (((d.now 0).getD 0 0 ≠ 1 ∧ (d.now 0).getD 0 0 ≠ 2) ∨ allZ ((d.now 0).drop 1) = false) := fun hh => by
      unfold hdBad at hbad
      simp only [Bool.or_eq_false_iff, Bool.not_eq_false', Bool.or_eq_true, decide_eq_true_eq] at hbad
      rcases hh with ⟨h1, h2⟩ | h3
      · rcases hbad.1 with h4 | h4
        · exact h1 h4
        · exact h2 h4
      · rw [hbad.2] at h3; cases h3
    unfold DS.stOpen
    rw [if_neg (by omega), if_neg (by rw [hd]; simp), if_neg hb']
    rcases slots_one hn hd with h1 | ⟨s, h1, _⟩
    · rw [h1]
    · rw [h1])
  obtain ⟨x, hx⟩ : ∃ x, x = (d.now 0).getD 0 0 := ⟨_, rfl⟩
  have hz1 : allZ ((d.now 0).drop 1) = true := by
    unfold hdBad at hbad
    simp only [Bool.or_eq_false_iff, Bool.not_eq_false'] at hbad
    exact hbad.2
  have hx12 : x = 1 ∨ x = 2 := by
    unfold hdBad at hbad
    simp only [Bool.or_eq_false_iff, Bool.not_eq_false', Bool.or_eq_true, decide_eq_true_eq] at hbad
    rw [hx]; exact hbad.1
  rw [← hx] at b0 HG
  rw [hz1] at CN
  have hso := slots_one hn hd
  generalize d.stOpen = r at *
  generalize d.slots 1 = so at *
  unfold ROpenPost at CO
  generalize d.n = n at *
  clear h hb hl hbad hx hz1 hd
  rcases hx12 with rfl | rfl
  all_goals
    have b0' : w.cell? ⟨g2, o2, none⟩ = some (.int .u8 _) := b0
    simp only [show (1 : UInt8).toNat = 1 from rfl, show (2 : UInt8).toNat = 2 from rfl] at b0
    clear b0'
    go_enter Tryz.func29, Tryz.ntmps29
    go_wp2_with (go_at_call 73; refine CN.out.mono ?_; rintro e w' ⟨rfl, hq⟩; subst hq)
    refine CO.out.mono ?_
    rintro e w1 ⟨hc1, hr⟩
    have HC1 := Lib.hid hc1
    rcases hso with rfl | ⟨s, rfl, hsd⟩
    · dsimp only at hr HG
      subst hr
      clear hc1 CO
      go_wp2
      go_ret2
      rw [HG.out]
      exact ⟨HC1.out, rfl⟩
    · obtain ⟨sp, W, A, rfl, hsl, hW, hA⟩ := hr
      dsimp only at HG
      obtain ⟨a, capr, hlk⟩ := hsl.look
      have HLK := Lib.hid hlk
      have HSL := Lib.hid (And.intro hsl (And.intro hW hA))
      have hfew := hlk.few
      have hbig := hlk.big
      obtain ⟨M, hM⟩ : ∃ M, M = s.rows.length := ⟨_, rfl⟩
      rw [← hM] at hfew hbig
      have HM := Lib.hid hM
      clear hc1 CO hsl hW hA hlk CN
      go_wp2
      go_loopg [7] M (fun g' s7 wr => ∃ (i : Nat), s7 = .int .i64 (i : Int) ∧ i ≤ M ∧ M ≤ i + g' ∧ Hid (Chg [] w1 wr ∧ ∀ j, j < i → (s.rows.getD j noRow).used = true → unOk (s.rows.getD j noRow).key = true))
      case atStart => exact ⟨0, rfl, by omega, by omega, Lib.hid ⟨Chg.refl _ _, fun j hj => by omega⟩⟩
      case round =>
        obtain ⟨i, rfl, hi, hig, HJ⟩ := hrel
        have HLr := Lib.hid (HLK.out.keep (m := m) (W := W) (A := A) HJ.out.1)
        have c2 := HLr.out.c2
        rw [← HM.out] at c2
        by_cases hlt : i < M
        · obtain ⟨g3, kv, rfl, r0, r1, hkb, hkl⟩ := HLr.out.row i (by rw [← HM.out]; exact hlt)
          have hiz : (i : Int) < (M : Int) := by omega
          have hiz1 : (i : Int).toNat = i := by omega
          have CU := Lib.hid (runkey_any kv _ wr hkb (by omega))
          have HKEY : Hid (∀ c, c = (s.rows.getD i noRow).key → c = (s.rows.getD i noRow).key) := Lib.hid (fun c hc => hc)
          obtain ⟨key, hkey⟩ : ∃ key, key = (s.rows.getD i noRow).key := ⟨_, rfl⟩
          obtain ⟨u, hu⟩ : ∃ u, u = (s.rows.getD i noRow).used := ⟨_, rfl⟩
          have HKU := Lib.hid (And.intro hkey hu)
          rw [← hkey] at CU
          rw [← hu] at r0
          obtain ⟨ok, hok⟩ : ∃ ok, ok = unOk key := ⟨_, rfl⟩
          have HOK := Lib.hid hok
          rw [← hok] at CU
          generalize unId key = y at *
          obtain ⟨yc, yl, yn, yi⟩ := y
          clear hkey hu hok hkb hkl HKEY
          go_wp2_with fail
          refine CU.out.mono ?_
          rintro e w2 ⟨rfl, hc2⟩
          have HC2 := Lib.hid (HJ.out.1.trans hc2 (by simp))
          have c2 := (hc2.alloc (.cells (idC ⟨yc, yl, yn, yi⟩) 25)).cell c2 (by simp)
          have r0 := (hc2.alloc (.cells (idC ⟨yc, yl, yn, yi⟩) 25)).cell r0 (by simp)
          have c2 : (w2.alloc (.cells #[.int .i64 yc, .int .i64 yl, .int .i64 yn, .int .i64 yi] 25)).cell? ⟨sp, 2, none⟩ = some (.slice (some ⟨g3, 0, none⟩) M capr) := c2
          have r0 : (w2.alloc (.cells #[.int .i64 yc, .int .i64 yl, .int .i64 yn, .int .i64 yi] 25)).cell? ⟨g3, i * 3, none⟩ = some (.bool u) := r0
          clear hc2 CU r1
          cases u with
          | false =>
            go_wp2
            go_roundg (gk - 1)
            case measure => omega
            case rel => exact ⟨i + 1, by go_num, by omega, by omega, Lib.hid ⟨HC2.out.alloc _, fun j hj hu => by
              by_cases hji : j = i
              · subst hji
                rw [← HKU.out.2] at hu
                cases hu
              · exact HJ.out.2 j (by omega) hu⟩⟩
          | true =>
            cases ok with
            | true =>
              go_wp2
              go_roundg (gk - 1)
              case measure => omega
              case rel => exact ⟨i + 1, by go_num, by omega, by omega, Lib.hid ⟨HC2.out.alloc _, fun j hj hu => by
                by_cases hji : j = i
                · subst hji
                  rw [← HKU.out.1, ← HOK.out]
                · exact HJ.out.2 j (by omega) hu⟩⟩
            | false =>
              have HK : Hid (stKeys s.rows = false) := Lib.hid (by
                rw [Bool.eq_false_iff]
                intro hk
                have h1 := stKeys_iff.1 hk (s.rows.getD i noRow) (row_mem (by rw [← HM.out]; exact hlt)) HKU.out.2.symm
                rw [← HKU.out.1, ← HOK.out] at h1
                cases h1)
              rw [HK.out] at HG
              go_wp2
              go_ret2
              rw [HG.out]
              exact ⟨HC1.out.trans (HC2.out.alloc _) (by simp), rfl⟩
        · have him : i = M := by omega
          have hiz : ¬ (i : Int) < (M : Int) := by omega
          have HK : Hid (keysOk s.rows) := Lib.hid (fun rr hrr hu => by
            obtain ⟨j, hj, rfl⟩ := List.mem_iff_getElem.1 hrr
            have e : s.rows.getD j noRow = s.rows[j] := by rw [List.getD_eq_getElem?_getD, List.getElem?_eq_getElem hj]; rfl
            have := HJ.out.2 j (by rw [him, HM.out]; exact hj) (by rw [e]; exact hu)
            rw [e] at this
            exact this)
          rw [stKeys_iff.2 HK.out] at HG
          rw [if_pos rfl] at HG
          have hnew : ∀ b : Bool, RStOk (wr.alloc (.cells #[.pointer (some ⟨m, 0, none⟩), .pointer (some ⟨sp, 0, none⟩), .bool b] 127)) wr.heap.size sp m W A ⟨s, b⟩ := fun b =>
            ⟨heap_alloc_new wr _, HSL.out.1.keep (HJ.out.1.alloc _) (by simp), fun hm => by have := HSL.out.1.lim.1 _ hm; have := HJ.out.1.size; omega, HK.out⟩
          have HNEW := Lib.hid hnew
          have HSZ : Hid (w.heap.size ≤ wr.heap.size) := Lib.hid (Nat.le_trans HC1.out.size HJ.out.1.size)
          clear hnew
          go_wp2
          go_ret2
          rw [HG.out]
          refine ⟨(HC1.out.trans HJ.out.1 (by simp)).alloc _, _, _, _, rfl, ⟨_, _, _, HNEW.out _, rfl, rfl⟩, fun y hy => ?_, fun y hy => ?_⟩
          · rcases List.mem_cons.1 hy with rfl | hy
            · exact .inr HSZ.out
            · exact HSL.out.2.1 y hy
          · rcases List.mem_cons.1 hy with rfl | hy
            · exact .inr HSZ.out
            · exact HSL.out.2.2 y hy
theorem rstopen_any (m : Nat) (V F : List Nat) (d : DS) (w : World) (h : RDiskAt w m V F d) : Calls Tryz.prog 29 #[.pointer (some ⟨m, 0, none⟩)] w (RStOpenPost m V F w d.stOpen) := by
  by_cases hn : d.n < 9
  · have e : d.stOpen = (1, none) := by unfold DS.stOpen; rw [if_pos hn]
    rw [e]
    exact (rstopen_small m V F d w h hn).mono fun e w' h1 => ⟨h1.2, h1.1⟩
  · by_cases hd : d.dead = true
    · have e : d.stOpen = (14, none) := by unfold DS.stOpen; rw [if_neg hn, if_pos hd]
      rw [e]
      exact (rstopen_dead m V F d w h (by omega) hd).mono fun e w' h1 => ⟨h1.2, h1.1⟩
    · cases hb : hdBad (d.now 0) with
      | true =>
        have e : d.stOpen = (4, none) := by
          unfold DS.stOpen
          refine (if_neg hn).trans ((if_neg hd).trans (if_pos ?_))
          unfold hdBad at hb
          simp only [Bool.or_eq_true, Bool.not_eq_true', Bool.or_eq_false_iff, decide_eq_false_iff_not] at hb
          exact hb
        rw [e]
        exact (rstopen_head m V F d w h (by omega) (by simpa using hd) hb).mono fun e w' h1 => ⟨h1.2, h1.1⟩
      | false => exact rstopen_live m V F d w h (by omega) (by simpa using hd) hb
end Go.Proofs.YtbkajnjboipbhaaGreatDoor.W

/- The reference's store: SetWhole, Format of a new disk. -/
namespace Go.Proofs.YtbkajnjboipbhaaGreatDoor.W
open Go.RowKit
set_option linter.unusedVariables false
set_option linter.unusedSimpArgs false

theorem RSlotsAt.disk {w : World} {q m : Nat} {W A : List Nat} {s : SS} (h : RSlotsAt w q m W A s) : ∃ V F, RDiskAt w m V F s.d ∧ (∀ x ∈ V, x ∈ W) ∧ ∀ d w', RDid w w' m V F d → d.n = s.d.n → RSid w w' q m W A { s with d := d } := by
  obtain ⟨V, F, rv, R, H⟩ := h
  exact ⟨V, F, H.disk, H.sub.1, fun d w' hd hn => H.did hd hn⟩

end Go.Proofs.YtbkajnjboipbhaaGreatDoor.W

/- The reference's Format of a new disk. -/
namespace Go.Proofs.YtbkajnjboipbhaaGreatDoor.W
open Go.RowKit
set_option linter.unusedVariables false
set_option linter.unusedSimpArgs false

end Go.Proofs.YtbkajnjboipbhaaGreatDoor.W

/- A store beside others' blocks; its disk: fuse, dead, crash. -/
namespace Go.Proofs.YtbkajnjboipbhaaGreatDoor.W
open Go.RowKit
set_option linter.unusedVariables false
set_option linter.unusedSimpArgs false

theorem StAt.disk {G : List Nat} {w : World} {q p : Nat} {U : List Nat} {t : Sto} (h : StAt G w q p U t) : ∃ S, DiskAt w p S t.s.d := by
  obtain ⟨sp, mb, Us, φ, N, h, rfl⟩ := h
  obtain ⟨S, rv, R, H⟩ := h.slots
  exact ⟨S, H.disk⟩
theorem StAt.fuse {G : List Nat} {w : World} {q p : Nat} {U : List Nat} {t : Sto} (h : StAt G w q p U t) (n : Int) (hn : n ≤ 9223372036854775807) :
    Calls Tryz.prog 36 #[.pointer (some ⟨p, 0, none⟩), .int .i64 n] w fun e w' => e = .returned (.tuple #[]) ∧ Std G w w' q p U ⟨{ t.s with d := t.s.d.setFuse n }, t.whole⟩ := by
  obtain ⟨sp, mb, Us, φ, N, h, rfl⟩ := h
  obtain ⟨S, rv, R, H⟩ := h.slots
  refine (dfuse_any p S t.s.d n w H.disk hn).mono fun e w' ⟨h1, h2⟩ => ⟨h1, ?_⟩
  obtain ⟨Us', g1, g2, g3⟩ := h.slotsDid (SlotsAt.did H h2 rfl) rfl
  exact g1.std g2 (g3.mono (fun y hy => .inl (by simp [hy])))
theorem StAt.dead {G : List Nat} {w : World} {q p : Nat} {U : List Nat} {t : Sto} (h : StAt G w q p U t) : Calls Tryz.prog 37 #[.pointer (some ⟨p, 0, none⟩)] w fun e w' => e = .returned (.bool t.s.d.dead) ∧ w = w' := by
  obtain ⟨S, hd⟩ := h.disk
  exact ddead_any p S t.s.d w hd
end Go.Proofs.YtbkajnjboipbhaaGreatDoor.W

/- StorePlays: ours and the reference's side by side. -/
namespace Go.Proofs.YtbkajnjboipbhaaGreatDoor.W
open Go.RowKit
set_option linter.unusedVariables false
set_option linter.unusedSimpArgs false

theorem RStAt.fuse {w : World} {q m : Nat} {U B : List Nat} {t : Sto} (h : RStAt w q m U B t) (n : Int) (hn : n ≤ 9223372036854775807) :
    (∃ u, w.cell? ⟨m, 5, none⟩ = some u) ∧ w.frozen? ⟨m, 5, none⟩ = false ∧ m < w.heap.size ∧ RStd w (w.setCell ⟨m, 5, none⟩ (.int .i64 (max n (-1)))) q m U B ⟨{ t.s with d := t.s.d.setFuse n }, t.whole⟩ := by
  obtain ⟨sp, W, A, h, rfl, rfl⟩ := h
  obtain ⟨V, F, rv, R, H⟩ := h.slots
  obtain ⟨nv, lv, av, wv, NV, LV, AV, WV, D⟩ := H.disk
  have hlt := blk_lt D.head
  have n0 : NoU8 w m := D.no8 m (by rw [D.mem]; exact blks_head)
  refine ⟨⟨_, blk_cell D.head 5 _ rfl⟩, blk_frozen D.head 5, hlt, h.did (H.did (D.put (d' := t.s.d.setFuse n) ((Chg.refl _ _).setCell (.inl (by simp)) _) (n0.set hlt no8_i64) (set_blk D.head) rfl rfl rfl (by show -1 ≤ max n (-1) ∧ max n (-1) ≤ 9223372036854775807; omega)) rfl) h.ok⟩
theorem RStAt.ops {w : World} {q m : Nat} {U B : List Nat} {t : Sto} (h : RStAt w q m U B t) : w.cell? ⟨m, 4, none⟩ = some (.int .i64 (t.s.d.ops : Int)) := by
  obtain ⟨sp, W, A, h, rfl, rfl⟩ := h
  obtain ⟨V, F, rv, R, H⟩ := h.slots
  obtain ⟨nv, lv, av, wv, NV, LV, AV, WV, D⟩ := H.disk
  exact blk_cell D.head 4 _ rfl
theorem RStAt.disk {w : World} {q m : Nat} {U B : List Nat} {t : Sto} (h : RStAt w q m U B t) : ∃ V F, RDiskAt w m V F t.s.d := by
  obtain ⟨sp, W, A, h, rfl, rfl⟩ := h
  obtain ⟨V, F, rv, R, H⟩ := h.slots
  exact ⟨V, F, H.disk⟩
theorem RStAt.few {w : World} {q m : Nat} {U B : List Nat} {t : Sto} (h : RStAt w q m U B t) : t.s.first + 8 * t.s.rows.length ≤ t.s.d.n ∧ t.s.d.n ≤ 4160 ∧ t.ids.length ≤ 1000 := by
  obtain ⟨sp, W, A, h, rfl, rfl⟩ := h
  obtain ⟨h1, h2⟩ := h.slots.fewR
  have := t.ids_len
  exact ⟨h1, h2, by omega⟩

/-- Ours and the reference's, each new since w. -/
structure Two6 (w wr : World) (q p q2 m : Nat) (U U2 B2 : List Nat) (t r : Sto) : Prop where
  ours : StAt B2 wr q p U t
  refs : RStAt wr q2 m U2 B2 r
  newU : ∀ x ∈ U, w.heap.size ≤ x
  newB : ∀ x ∈ B2, w.heap.size ≤ x
  apart : ∀ x ∈ U, x ∉ B2
  chg : Chg [] w wr
variable {w wr w' : World} {q p q2 m : Nat} {U U2 B2 : List Nat} {t r t' r' : Sto}
theorem Two6.keep (h : Two6 w wr q p q2 m U U2 B2 t r) (hc : Chg [] wr w') : Two6 w w' q p q2 m U U2 B2 t r :=
  ⟨h.ours.keep0 hc, h.refs.keep hc (by simp), h.newU, h.newB, h.apart, h.chg.trans hc (by simp)⟩
theorem Two6.our (h : Two6 w wr q p q2 m U U2 B2 t r) (hs : Std B2 wr w' q p U t') : ∃ U', Two6 w w' q p q2 m U' U2 B2 t' r := by
  obtain ⟨U', h1, h2, h3⟩ := hs
  have hl := h.refs.lim.1
  refine ⟨U', h1, h.refs.keep h3 (fun x hx hm => h.apart x hm hx), fun x hx => ?_, h.newB, fun x hx hm => ?_, h.chg.trans h3 (fun x hx => .inr (h.newU x hx))⟩
  · rcases h2 x hx with h4 | h4
    · exact h.newU x h4
    · exact Nat.le_trans h.chg.size h4
  · rcases h2 x hx with h4 | h4
    · exact h.apart x h4 hm
    · have := hl x hm; omega
theorem stOpen_code (d : DS) (h9 : 9 ≤ d.n) : (∃ c, d.stOpen = (c, none) ∧ c ≠ 0) ∨ ∃ t, d.stOpen = (0, some t) := by
  unfold DS.stOpen
  rw [if_neg (by omega)]
  split
  · exact .inl ⟨14, rfl, by omega⟩
  · rename_i hd
    split
    · exact .inl ⟨4, rfl, by omega⟩
    · rcases slots_one h9 (by simpa using hd) with h1 | ⟨s, h1, _⟩
      · rw [h1]; exact .inl ⟨4, rfl, by omega⟩
      · rw [h1]
        dsimp only
        split
        · exact .inr ⟨_, rfl⟩
        · exact .inl ⟨4, rfl, by omega⟩
end Go.Proofs.YtbkajnjboipbhaaGreatDoor.W

/- Bytes that came in. -/
namespace Go.Proofs.YtbkajnjboipbhaaGreatDoor.W
open Go.RowKit Go.ChangeShapes Go.WideShapes
set_option linter.unusedVariables false
set_option linter.unusedSimpArgs false

/-- Bytes that came in. -/
def Came (w : World) (v : Value) (l : List UInt8) : Prop := BytesAt w v l ∧ (l ≠ [] → ∀ k, v.ownBlock = some k → k < w.heap.size)
theorem Came.chg {w w' : World} {v : Value} {l : List UInt8} (h : Came w v l) (hc : Chg [] w w') : Came w' v l := ⟨h.1.chg hc (by simp), fun hl k hk => Nat.lt_of_lt_of_le (h.2 hl k hk) hc.size⟩
theorem toU8 (z : Int) (h : (Lit.int .u8 z).wf = true) : .int .u8 z = bv (UInt8.ofNat z.toNat) := by
  simp [Lit.wf, IntKind.min, IntKind.max, IntKind.signed, IntKind.bits] at h
  unfold bv
  rw [UInt8.toNat_ofNat']
  congr 1
  omega

section
variable {H : Type} {enc : TypeId × Value → H} {w : World} {base : Nat} {held : Bool}
/-- A slice of bytes that came in. -/
theorem open_came {fuel : Nat} {cs : List Value} {x : DataW H × List MemPlace} (h : DataW.trod enc Tryz.prog w base (fun _ => true) held fuel 27 cs = some x) : ∃ v l, cs = [v] ∧ Came w v l ∧ l.length ≤ maxLen := by
  rcases open_ints Tryz.underlying27 Tryz.underlying5 (by kernel_rfl) h with ⟨rfl, _⟩ | ⟨a, len, cap, zs, rfl, _, hl, hm, hz, _, hcell, hwf⟩
  · exact ⟨_, [], rfl, ⟨BytesAt.nil _, by simp⟩, by unfold maxLen; simp⟩
  · replace hz : zs.length = cap := by simpa using hz
    have hlen : ((zs.take len).map (fun z => UInt8.ofNat z.toNat)).length = len := by rw [List.length_map, List.length_take]; omega
    have hg : ∀ i, i < len → ((zs.take len).map (fun z => UInt8.ofNat z.toNat)).getD i 0 = UInt8.ofNat (zs.getD i 0).toNat := by
      intro i hi
      rw [List.getD_eq_getElem?_getD, List.getElem?_map, List.getElem?_take, if_pos hi, List.getD_eq_getElem?_getD, List.getElem?_eq_getElem (by omega)]
      rfl
    have hw : ∀ i, i < zs.length → (Lit.int .u8 (zs.getD i 0)).wf = true := fun i hi => hwf _ (by
      rw [List.getD_eq_getElem?_getD, List.getElem?_eq_getElem hi]
      exact List.getElem_mem hi)
    refine ⟨_, (zs.take len).map (fun z => UInt8.ofNat z.toNat), rfl, ?_, by rw [hlen]; omega⟩
    by_cases hc0 : cap = 0
    · have h0 : len = 0 := by omega
      subst hc0; subst h0
      have hnil : (zs.take 0).map (fun z => UInt8.ofNat z.toNat) = [] := by simp
      rw [hnil]
      exact ⟨⟨some a, 0, rfl, Nat.le_refl _, by unfold maxLen; omega, .inl ⟨rfl, rfl⟩⟩, fun h => absurd rfl h⟩
    · obtain ⟨g, o, spot⟩ := a
      have hc := hcell 0 (by omega)
      have hspot : spot = none := by simpa [Addr.add] using World.cell?_spot hc
      subst hspot
      have hlt : g < w.heap.size := by
        have := World.block_lt_of_cell? w _ hc
        simpa [Addr.add] using this
      refine ⟨⟨some ⟨g, o, none⟩, cap, by rw [hlen], by omega, hm, .inr ⟨g, o, rfl, fun i hi => ?_⟩⟩, fun _ k hk => ?_⟩
      · rw [hlen] at hi
        have := hcell i (by omega)
        rw [add_none] at this
        rw [this, hg i hi, ← toU8 _ (hw i (by omega))]
      · obtain rfl : g = k := by simpa [Value.ownBlock] using hk
        exact hlt
end
theorem IsRow.came {w : World} {a : Option Addr} {len cap : Nat} {zs : List Int} (h : IsRow .u8 w a len cap zs) : ∃ l, l.length = len ∧ len ≤ maxLen ∧ Came w (.slice a len cap) l := by
  rcases h with ⟨rfl, rfl, rfl, rfl⟩ | ⟨x, rfl, h1, h2, h3, h4, h5⟩
  · exact ⟨[], rfl, by unfold maxLen; omega, BytesAt.nil w, by simp⟩
  · have hlen : ((zs.take len).map (fun z => UInt8.ofNat z.toNat)).length = len := by rw [List.length_map, List.length_take]; omega
    have hg : ∀ i, i < len → ((zs.take len).map (fun z => UInt8.ofNat z.toNat)).getD i 0 = UInt8.ofNat (zs.getD i 0).toNat := by
      intro i hi
      rw [List.getD_eq_getElem?_getD, List.getElem?_map, List.getElem?_take, if_pos hi, List.getD_eq_getElem?_getD, List.getElem?_eq_getElem (by omega)]
      rfl
    have hw : ∀ i, i < zs.length → (Lit.int .u8 (zs.getD i 0)).wf = true := fun i hi => h5 _ (by
      rw [List.getD_eq_getElem?_getD, List.getElem?_eq_getElem hi]
      exact List.getElem_mem hi)
    refine ⟨_, hlen, by omega, ?_⟩
    by_cases hl0 : len = 0
    · subst hl0
      have hnil : (zs.take 0).map (fun z => UInt8.ofNat z.toNat) = [] := by simp
      rw [hnil]
      by_cases hc0 : cap = 0
      · subst hc0
        exact ⟨⟨some x, 0, rfl, Nat.le_refl _, by unfold maxLen; omega, .inl ⟨rfl, rfl⟩⟩, by simp⟩
      · obtain ⟨g, o, spot⟩ := x
        have hc := h4 0 (by omega)
        have hspot : spot = none := by simpa [Addr.add] using World.cell?_spot hc
        subst hspot
        exact ⟨⟨some ⟨g, o, none⟩, cap, rfl, by simp, h2, .inr ⟨g, o, rfl, by simp⟩⟩, by simp⟩
    · obtain ⟨g, o, spot⟩ := x
      have hc := h4 0 (by omega)
      have hspot : spot = none := by simpa [Addr.add] using World.cell?_spot hc
      subst hspot
      have hlt : g < w.heap.size := by
        have := World.block_lt_of_cell? w _ hc
        simpa [Addr.add] using this
      refine ⟨⟨some ⟨g, o, none⟩, cap, by rw [hlen], by omega, h2, .inr ⟨g, o, rfl, fun i hi => ?_⟩⟩, fun _ k hk => ?_⟩
      · rw [hlen] at hi
        have := h4 i (by omega)
        rw [add_none] at this
        rw [this, hg i hi, ← toU8 _ (hw i (by omega))]
      · obtain rfl : g = k := by simpa [Value.ownBlock] using hk
        exact hlt
end Go.Proofs.YtbkajnjboipbhaaGreatDoor.W

/- A slice of deeds that came in: rows of seven cells, an id among them, the last a slice of bytes. -/
namespace Go.Proofs.YtbkajnjboipbhaaGreatDoor.W
open Go.RowKit Go.ChangeShapes Go.WideShapes
set_option linter.unusedVariables false
set_option linter.unusedSimpArgs false

structure Dd where
  k : Int
  n : Int
  x : Id
  bv : Value
  b : List UInt8
instance : Inhabited Dd := ⟨⟨0, 0, ⟨0, 0, 0, 0⟩, .slice none 0 0, []⟩⟩
structure DdAt (w : World) (g p : Nat) (r : Dd) : Prop where
  c0 : w.cell? ⟨g, p, none⟩ = some (.int .i64 r.k)
  c1 : w.cell? ⟨g, p + 1, none⟩ = some (.int .i64 r.n)
  c2 : w.cell? ⟨g, p + 2, none⟩ = some (.int .i64 r.x.c)
  c3 : w.cell? ⟨g, p + 3, none⟩ = some (.int .i64 r.x.l)
  c4 : w.cell? ⟨g, p + 4, none⟩ = some (.int .i64 r.x.n)
  c5 : w.cell? ⟨g, p + 5, none⟩ = some (.int .i64 r.x.i)
  c6 : w.cell? ⟨g, p + 6, none⟩ = some r.bv
  came : Came w r.bv r.b
  long : r.b.length ≤ maxLen
  wk : (Lit.int .i64 r.k).wf = true
  wn : (Lit.int .i64 r.n).wf = true
  wx : okD r.x
def DeedsAt (w : World) (a : Option Addr) (n : Nat) (f : Nat → Dd) : Prop := n = 0 ∨ ∃ g o, a = some ⟨g, o, none⟩ ∧ ∀ i, i < n → DdAt w g (o + i * 7) (f i)
theorem DdAt.keep {w w' : World} {g p : Nat} {r : Dd} (h : DdAt w g p r) (hc : Chg [] w w') : DdAt w' g p r :=
  ⟨hc.cell h.c0 (by simp), hc.cell h.c1 (by simp), hc.cell h.c2 (by simp), hc.cell h.c3 (by simp), hc.cell h.c4 (by simp), hc.cell h.c5 (by simp), hc.cell h.c6 (by simp), h.came.chg hc, h.long, h.wk, h.wn, h.wx⟩
theorem DeedsAt.keep {w w' : World} {a : Option Addr} {n : Nat} {f : Nat → Dd} (h : DeedsAt w a n f) (hc : Chg [] w w') : DeedsAt w' a n f := by
  rcases h with h | ⟨g, o, rfl, h⟩
  · exact .inl h
  · exact .inr ⟨g, o, rfl, fun i hi => (h i hi).keep hc⟩
section
variable {H : Type} {enc : TypeId × Value → H} {w : World} {base : Nat} {held : Bool}
theorem fieldsD : ∃ f0 f1 f2 f3 : Field, Tryz.prog.underlying 52 = some (.struct #[f0, f1, f2, f3]) ∧ f0.offset = 0 ∧ f1.offset = 1 ∧ f2.offset = 2 ∧ f3.offset = 6 ∧
    Tryz.prog.underlying f0.type = some (.int .i64) ∧ Tryz.prog.underlying f1.type = some (.int .i64) ∧ f2.type = 25 ∧ f3.type = 27 ∧
    Tryz.prog.cellsOf f0.type = 1 ∧ Tryz.prog.cellsOf f1.type = 1 ∧ Tryz.prog.cellsOf f3.type = 1 :=
  ⟨_, _, _, _, Tryz.underlying52, rfl, rfl, rfl, rfl, by kernel_rfl, by kernel_rfl, rfl, rfl, by kernel_rfl, by kernel_rfl, by kernel_rfl⟩
theorem cellsD : Tryz.prog.cellsOf 52 = 7 := by kernel_rfl
set_option maxRecDepth 100000 in
theorem open_deeds {fuel : Nat} {cs : List Value} {x : DataW H × List MemPlace} (h : DataW.trod enc Tryz.prog w base (fun _ => true) held fuel 48 cs = some x) :
    (cs = [.slice none 0 0]) ∨ ∃ (a : Addr) (len cap : Nat) (f : Nat → Dd), cs = [.slice (some a) len cap] ∧ len ≤ cap ∧ cap ≤ maxLen ∧ DeedsAt w (some a) len f := by
  rcases Go.Deep.open_slice Tryz.underlying48 h with ⟨h0, _⟩ | ⟨a, len, cap, m, n, D, Pl, rfl, hb, hl, hm, hmm, hx, hel⟩
  · exact .inl h0
  · right
    have hlm : len ≤ m := by rw [hmm]; split <;> omega
    obtain ⟨f0, f1, f2, f3, hs, o0, o1, o2, o3, t0, t1, t2, t3, c0, c1, c3⟩ := fieldsD
    have each : ∀ i, i < len → ∃ r : Dd, w.cell? (a.add (i * 7)) = some (.int .i64 r.k) ∧ w.cell? (a.add (i * 7 + 1)) = some (.int .i64 r.n) ∧ w.cell? (a.add (i * 7 + 2)) = some (.int .i64 r.x.c) ∧ w.cell? (a.add (i * 7 + 3)) = some (.int .i64 r.x.l) ∧ w.cell? (a.add (i * 7 + 4)) = some (.int .i64 r.x.n) ∧
        w.cell? (a.add (i * 7 + 5)) = some (.int .i64 r.x.i) ∧ w.cell? (a.add (i * 7 + 6)) = some r.bv ∧ Came w r.bv r.b ∧ r.b.length ≤ maxLen ∧ (Lit.int .i64 r.k).wf = true ∧ (Lit.int .i64 r.n).wf = true ∧ okD r.x := by
      intro i hi
      obtain ⟨cs', h1, h2⟩ := hel i (by omega)
      rw [cellsD] at h1
      obtain ⟨_, hlen, hcell⟩ := World.cells?_some h1
      obtain ⟨xs, k, hk, hxy, _, hxl, hf⟩ := DataW.trod_struct hs h2
      match xs, hxl, cs', hlen with
      | [y0, y1, y2, y3], _, [v0, v1, v2, v3, v4, v5, v6], _ =>
        have g0 := hf 0 f0 rfl
        have g1 := hf 1 f1 rfl
        have g2 := hf 2 f2 rfl
        have g3 := hf 3 f3 rfl
        rw [t2] at g2
        simp [o0, o1, o2, o3, c0, c1, c3, cells_id] at g0 g1 g2 g3
        rw [t3] at g3
        have e0 := hcell 0 (by omega)
        have e1 := hcell 1 (by omega)
        have e2 := hcell 2 (by omega)
        have e3 := hcell 3 (by omega)
        have e4 := hcell 4 (by omega)
        have e5 := hcell 5 (by omega)
        have e6 := hcell 6 (by omega)
        rw [Go.Deep.add_add] at e0 e1 e2 e3 e4 e5 e6
        obtain ⟨z0, q0, _, z0w⟩ := DataW.trod_int t0 g0
        obtain ⟨z1, q1, _, z1w⟩ := DataW.trod_int t1 g1
        obtain ⟨y, hy, rfl, rfl, rfl, rfl⟩ := open_idc g2
        obtain ⟨z3, l3, q3, m3, ml⟩ := open_came g3
        simp at q0 q1 q3
        subst q0; subst q1; subst q3
        refine ⟨⟨z0, z1, y, v6, l3⟩, by simpa using e0, by simpa using e1, by simpa using e2, by simpa using e3, by simpa using e4, by simpa using e5, by simpa using e6, m3, ml, ?_, ?_, hy⟩
        · first | exact z0w | exact z0w.1
        · first | exact z1w | exact z1w.1
    obtain ⟨f, hf⟩ := Go.Deep.choose_lt each
    refine ⟨a, len, cap, f, rfl, hl, hm, ?_⟩
    by_cases h0 : len = 0
    · exact .inl h0
    · right
      obtain ⟨g, o, spot⟩ := a
      have hc := (hf 0 (by omega)).1
      have hspot : spot = none := by simpa [Addr.add] using World.cell?_spot hc
      subst hspot
      refine ⟨g, o, rfl, fun i hi => ?_⟩
      obtain ⟨c0, c1, c2, c3, c4, c5, c6, c7, c8, c9, ca, cb⟩ := hf i hi
      rw [add_none] at c0 c1 c2 c3 c4 c5 c6
      exact ⟨c0, by simpa [Nat.add_assoc] using c1, by simpa [Nat.add_assoc] using c2, by simpa [Nat.add_assoc] using c3, by simpa [Nat.add_assoc] using c4, by simpa [Nat.add_assoc] using c5, by simpa [Nat.add_assoc] using c6, c7, c8, c9, ca, cb⟩
end
end Go.Proofs.YtbkajnjboipbhaaGreatDoor.W

/- The laws' Room; Ops; plain steps. -/
namespace Go.Proofs.YtbkajnjboipbhaaGreatDoor.W
open Go.RowKit
set_option linter.unusedVariables false
set_option linter.unusedSimpArgs false

def Few (n most : Nat) (f : Nat → Dd) : Prop := n ≤ most ∧ ∀ i, i < n → (f i).b.length ≤ 600
set_option maxHeartbeats 8000000 in
set_option maxRecDepth 100000 in
theorem room6_any (a : Option Addr) (n cap most : Nat) (f : Nat → Dd) (w : World) (h : DeedsAt w a n f) (hm : most ≤ 1000) :
    Calls Tryz.prog 24 #[.slice a n cap, .int .i64 (most : Int)] w fun e w' => (e = .returned (.bool true) ∧ Few n most f ∨ e = .returned (.bool false)) ∧ w = w' := by
  by_cases hn : n ≤ most
  · have hz : ¬ (most : Int) < (n : Int) := by omega
    have HD := Lib.hid h
    clear h
    go_enter Tryz.func24, Tryz.ntmps24
    go_wp2
    go_loopg [5] n (fun g' s5 wr => ∃ k : Nat, s5 = .int .i64 k ∧ k ≤ n ∧ n ≤ k + g' ∧ w = wr ∧ Hid (∀ i, i < k → (f i).b.length ≤ 600))
    case atStart => exact ⟨0, rfl, by omega, by omega, rfl, Lib.hid (fun i hi => by omega)⟩
    case round =>
      obtain ⟨k, rfl, hk, hkg, rfl, HF⟩ := hrel
      by_cases hlt : k < n
      · obtain ⟨g, o, rfl, hc⟩ : ∃ g o, a = some ⟨g, o, none⟩ ∧ ∀ i, i < n → DdAt w g (o + i * 7) (f i) := by
          rcases HD.out with h | h
          · omega
          · exact h
        have hd := hc k hlt
        have c6 := hd.c6
        obtain ⟨a4, q4, e4⟩ := hd.came.1.slice
        have hll := hd.long
        rw [e4] at c6
        clear hc hd e4
        have hkz : (k : Int) < (n : Int) := by omega
        have hkz1 : (k : Int).toNat = k := by omega
        obtain ⟨l4, h4⟩ : ∃ l4, l4 = (f k).b.length := ⟨_, rfl⟩
        rw [← h4] at c6 hll
        have H4 := Lib.hid h4
        have hl5 : l4 ≤ 9223372036854775807 := by unfold maxLen at hll; omega
        clear h4
        by_cases hsb : l4 ≤ 600
        · have hz4 : ¬ (600 : Int) < (l4 : Int) := by omega
          go_wp2
          go_roundg (gk - 1)
          case measure => omega
          case rel => exact ⟨k + 1, by go_num, by omega, by omega, rfl, Lib.hid (fun i hi => by
            by_cases hik : i = k
            · subst hik; rw [← H4.out]; exact hsb
            · exact HF.out i (by omega))⟩
        · have hz4 : (600 : Int) < (l4 : Int) := by omega
          go_wp2
          go_ret
          exact ⟨.inr rfl, rfl⟩
      · have hkn : k = n := by omega
        go_wp2
        go_ret
        exact ⟨.inl ⟨rfl, hn, fun i hi => HF.out i (by omega)⟩, rfl⟩
  · have hz : (most : Int) < (n : Int) := by omega
    clear h
    go_enter Tryz.func24, Tryz.ntmps24
    go_wp2
    go_ret
    exact ⟨.inr rfl, rfl⟩

/-- A store of known fragments, after any Put. -/
theorem Kept.put_any {t : Sto} {F : Frag} (h : Kept t F) (x : Id) (b : List UInt8) : (∃ F', Kept (t.put x b).2 F') ∧ ((t.put x b).1 = 0 → (t.put x b).2.put x b = (0, (t.put x b).2)) := by
  by_cases hbad : mayId x = false ∨ 448 < b.length
  · obtain ⟨h1, h2⟩ := h.put_bad hbad
    exact ⟨⟨F, by rw [h2]; exact h⟩, fun h0 => absurd h0 h1⟩
  · have hm : mayId x = true := by
      cases hh : mayId x with
      | true => rfl
      | false => exact absurd (.inl hh) hbad
    have hl : b.length ≤ 448 := by
      rcases Nat.lt_or_ge 448 b.length with h1 | h1
      · exact absurd (.inr h1) hbad
      · exact h1
    cases hF : F x with
    | some c =>
      have e := h.put_there hF b hl
      rw [e]
      refine ⟨⟨F, h⟩, fun h0 => ?_⟩
      dsimp only at h0 ⊢
      rw [e]
      by_cases hc : c = b
      · rw [if_pos hc]
      · rw [if_neg hc] at h0; simp at h0
    | none =>
      by_cases hr : 0 < t.room
      · obtain ⟨p1, p2, p3⟩ := h.put_new hm hF hl hr
        refine ⟨⟨_, p2⟩, fun _ => ?_⟩
        rw [p2.put_there (setF_self _ _ _) b hl, if_pos rfl]
      · have e := h.put_full hm hF hl (by omega)
        rw [e]
        exact ⟨⟨F, h⟩, fun h0 => by simp at h0⟩
theorem Kept.del_any {t : Sto} {F : Frag} (h : Kept t F) (x : Id) : (∃ F', Kept (t.del x).2 F') ∧ ((t.del x).1 = 0 → (t.del x).2.del x = (0, (t.del x).2)) := by
  cases hm : mayId x with
  | false =>
    have e := Kept.del_bad (t := t) hm
    rw [e]
    exact ⟨⟨F, h⟩, fun h0 => by simp at h0⟩
  | true =>
    obtain ⟨d1, d2, _, _, _, _⟩ := h.del hm
    refine ⟨⟨_, d2⟩, fun _ => ?_⟩
    obtain ⟨e1, e2, e3, e4, _, _⟩ := d2.del hm
    exact Prod.ext e1 (e4 (setF_self _ _ _))
theorem Sto.del_rows (t : Sto) (x : Id) {F : Frag} (h : Kept t F) : (t.del x).2.s.rows.length = t.s.rows.length := by
  cases hm : mayId x with
  | false => rw [Kept.del_bad hm]
  | true => exact (h.del hm).2.2.2.2.2
structure AgainAt (t : Sto) (i : Nat) : Prop where
  kept : ∃ F, Kept t F
  rows : t.s.rows.length = 8
  small : t.s.d.ops ≤ 100 + 60 * i
theorem AgainAt.zero {t : Sto} {i : Nat} (h : AgainAt t i) : t.s.d.since.length = 0 := by obtain ⟨F, hF⟩ := h.kept; rw [hF.since]; rfl
theorem AgainAt.new : ∃ t d, (DS.new 65).format = ((0, some t), d) ∧ AgainAt t 0 := by
  obtain ⟨t, d, h1, h2, h3, h4, h5, h6, _⟩ := Kept.new 65 (by omega)
  exact ⟨t, d, h1, ⟨_, h2⟩, by rw [h4, List.length_replicate], by rw [h3]; omega⟩
theorem AgainAt.put {t : Sto} {i : Nat} (h : AgainAt t i) (x : Id) (b : List UInt8) : AgainAt (t.put x b).2 (i + 1) ∧ ((t.put x b).1 = 0 → (t.put x b).2.put x b = (0, (t.put x b).2)) := by
  obtain ⟨F, hF⟩ := h.kept
  obtain ⟨h1, h2⟩ := hF.put_any x b
  obtain ⟨o1, _, _, o4, _⟩ := t.put_ok x b
  have := h.small
  exact ⟨⟨h1, by rw [o4, h.rows], by omega⟩, h2⟩
theorem AgainAt.del {t : Sto} {i : Nat} (h : AgainAt t i) (x : Id) : AgainAt (t.del x).2 (i + 1) ∧ ((t.del x).1 = 0 → (t.del x).2.del x = (0, (t.del x).2)) := by
  obtain ⟨F, hF⟩ := h.kept
  obtain ⟨h1, h2⟩ := hF.del_any x
  obtain ⟨o1, _⟩ := t.del_ok x
  have hr := h.rows
  have := h.small
  exact ⟨⟨h1, by rw [t.del_rows x hF, hr], by omega⟩, h2⟩
theorem AgainAt.next {t : Sto} {i : Nat} (h : AgainAt t i) : AgainAt t (i + 1) := ⟨h.kept, h.rows, by have := h.small; omega⟩
end Go.Proofs.YtbkajnjboipbhaaGreatDoor.W

/- A disk behind a crash, plainly; copies of all its sectors. -/
namespace Go.Proofs.YtbkajnjboipbhaaGreatDoor.W
open Go.RowKit
set_option linter.unusedVariables false
set_option linter.unusedSimpArgs false

/-- Is number i left? -/
def leftAt (ch : List UInt8) (i : Nat) : Bool := decide (ch.length ≤ i) || decide ((ch.getD i 0) &&& 1 = 1)
/-- Those of what waited that are left. -/
def chosen (ch : List UInt8) : List (Nat × List UInt8) → Nat → List (Nat × List UInt8)
  | [], _ => []
  | x :: l, i => if leftAt ch i then x :: chosen ch l (i + 1) else chosen ch l (i + 1)
def DS.crash (d : DS) (ch : List UInt8) : DS :=
  { n := d.n, now := applied (chosen ch d.since 0) d.lasts, lasts := applied (chosen ch d.since 0) d.lasts, since := [], fuse := -1, ops := 0, dead := false }

theorem flat_at (n : Nat) (f : Nat → List UInt8) (h : ∀ i, i < n → (f i).length = 64) (k i : Nat) (hk : k < n) (hi : i < 64) : (flat n f)[k * 64 + i]? = (f k)[i]? := by
  induction n with
  | zero => omega
  | succ n ih =>
    rw [flat_succ]
    have hl := flat_len n f (fun i hi => h i (by omega))
    by_cases hkn : k = n
    · subst hkn
      rw [List.getElem?_append_right (by omega), hl, show k * 64 + i - k * 64 = i by omega]
    · rw [List.getElem?_append_left (by omega), ih (fun i hi => h i (by omega)) (by omega)]
theorem SecsAt.whole {w : World} {g n : Nat} {f : Nat → List UInt8} (h : SecsAt w g n f) : (flat n f).length = n * 64 ∧ w.rangeAt g 0 (bvs (flat n f)) := by
  have hl := flat_len n f (fun i hi => h.len i hi)
  refine ⟨hl, fun j v hv => ?_⟩
  have hj : j < n * 64 := by
    have := (List.getElem?_eq_some_iff.1 hv).1
    rwa [bvs_len, hl] at this
  have hk : j / 64 < n := by omega
  have he : j = j / 64 * 64 + j % 64 := by omega
  have h1 := h.range (j / 64) hk (j % 64) v (by
    have e1 : (bvs (flat n f))[j]? = ((flat n f)[j]?).map bv := by simp [bvs]
    rw [e1, he, flat_at n f (fun i hi => h.len i hi) _ _ hk (by omega)] at hv
    have e2 : (bvs (f (j / 64)))[j % 64]? = ((f (j / 64))[j % 64]?).map bv := by simp [bvs]
    rw [e2]
    have e3 : (j / 64 * 64 + j % 64) / 64 = j / 64 := by omega
    first | exact hv | (simpa [e3] using hv))
  rw [Nat.zero_add]
  rw [show j = j / 64 * 64 + j % 64 from he]
  exact h1
theorem secs_of_cells {w : World} {g n t : Nat} {f : Nat → List UInt8} {cs : Array Value} (hg : w.heap[g]? = some (.cells cs 109 (0, 0))) (hf : ∀ k, k < n → (f k).length = 64) (hc : cs.toList.take (n * 64) = bvs (flat n f)) : SecsAt w g n f := by
  have hl := flat_len n f hf
  have hlen : n * 64 ≤ cs.size := by
    have h1 : (cs.toList.take (n * 64)).length = n * 64 := by rw [hc, bvs_len, hl]
    rw [List.length_take] at h1
    simp at h1
    omega
  refine ⟨cs, hg, hlen, fun k hk => ⟨hf k hk, fun i hi => ?_⟩⟩
  have h1 : (cs.toList.take (n * 64))[k * 64 + i]? = cs[k * 64 + i]? := by
    rw [List.getElem?_take, if_pos (by omega)]
    simp
  rw [← h1, hc]
  have e1 : (bvs (flat n f))[k * 64 + i]? = ((flat n f)[k * 64 + i]?).map bv := by simp [bvs]
  rw [e1, flat_at n f hf k i hk hi, List.getD_eq_getElem?_getD, List.getElem?_eq_getElem (by rw [hf k hk]; exact hi)]
  rfl
theorem run_copy_n {P : Program} (w : World) (dT sT ty elem : TypeId) (size g o dLen dCap : Nat) (a : Addr) (sLen sCap : Nat) (cur : Array Value) (t : TypeId) (cs : List Value) (m : Nat)
    (hu : P.underlying dT = some (.slice elem)) (hs : (P.info? elem).map (·.size) = some size)
    (hg : w.heap[g]? = some (.cells cur t (0, 0))) (hm : m = Nat.min sLen dLen) (hn : cs.length = m * size)
    (hsrc : ∀ j v, cs[j]? = some v → w.cell? (a.add j) = some v) (hfit : o + cs.length ≤ cur.size) (h1 : ∀ v ∈ cs, v.oneCell' = true) :
    (Builtin.copy_ #[dT, sT] ty #[.slice (some ⟨g, o, none⟩) dLen dCap, .slice (some a) sLen sCap]).run P w =
      .ok (goInt m) (w.setRow g (cur.toList.take o ++ cs ++ cur.toList.drop (o + cs.length)).toArray) := by
  have hl := run_loadCells_list (P := P) w a cs hsrc
  have hst := run_storeCells_at P g o t cs 0 cur w hg (by simpa using hfit) h1
  cases hq : P.info? elem with
  | none => simp [hq] at hs
  | some i =>
    have hi : i.size = size := by simpa [hq] using hs
    simp [Builtin.copy_, run_underlying hu, Builtin.lenOf, Builtin.firstCells, sizeOf, typeInfo, hq, hi, ← hm, ← hn, hl, hst]
end Go.Proofs.YtbkajnjboipbhaaGreatDoor.W

/- Regions in a fence at whatever exit: none but the plain one is met. -/
namespace Go.Proofs.YtbkajnjboipbhaaGreatDoor.W
open Go.RowKit
set_option linter.unusedVariables false
set_option linter.unusedSimpArgs false

section
variable {F : Fence} {n : Nat} {P : Program} {ops : Array Oper} {Q : Exit → Act → World → Prop} {a : Act} {w : World}
end
end Go.Proofs.YtbkajnjboipbhaaGreatDoor.W

/- Package disk: Crash. -/
namespace Go.Proofs.YtbkajnjboipbhaaGreatDoor.W
open Go.RowKit Go.Shelf
set_option linter.unusedVariables false
set_option linter.unusedSimpArgs false
attribute [local go_sem] Oper.semAt_some

theorem size_sec : (Tryz.prog.info? 109).map (·.size) = some 64 := by kernel_rfl
theorem setRow_size (w : World) (g : Nat) (cs : Array Value) : (w.setRow g cs).heap.size = w.heap.size := by
  unfold World.setRow
  simp
theorem wp_copy {P : Program} {o : Oper} {a : Act} {w : World} {K : Act → World → Prop} {Q : Exit → Act → World → Prop} (x y : Operand) {t1 t2 : TypeId} (ho : o.op = .call { callee := .builtin .copy, args := #[x, y], argTypes := #[t1, t2] }) {v1 v2 : Value} (hx : a.eval x = v1) (hy : a.eval y = v2)
    {r : Value} {w' : World} (hr : (Builtin.copy_ #[t1, t2] o.type #[v1, v2]).run P w = .ok r w') (h : K (a.put o.dst r) w') : Oper.wp P o a w K Q := by
  unfold Oper.wp execOp
  simp only [ho, resolve, invoke, builtin, Sem.run_bind, Sem.run_pure, Result.andThen_ok, List.map_toArray, List.map_cons, List.map_nil, hx, hy, hr]
  exact h
structure CrashAt (w W : World) (n Bi Bh pc Bc gl : Nat) (k : Nat) (cv : Value) (f : Nat → List UInt8) : Prop where
  ci : W.heap[Bi]? = some (.cells #[.int .i64 (k : Int)] 3 (0, 0))
  ch : W.heap[Bh]? = some (.cells #[cv] 27 (0, 0))
  cc : W.heap[Bc]? = some (.cells #[.pointer (some ⟨pc, 0, none⟩)] 37 (0, 0))
  obj : W.heap[pc]? = some (.cells #[.slice none 0 0, .slice (some ⟨gl, 0, none⟩) n n, .slice none 0 0, .int .i64 (-1), .int .i64 0, .bool false] 94 (0, 0))
  secs : SecsAt W gl n f
  chg : Chg [] w W
  lo : w.heap.size ≤ Bi ∧ w.heap.size ≤ Bh ∧ w.heap.size ≤ Bc ∧ w.heap.size ≤ pc ∧ w.heap.size ≤ gl
  ne : Bi ≠ Bh ∧ Bi ≠ Bc ∧ Bi ≠ pc ∧ Bi ≠ gl ∧ Bh ≠ gl ∧ Bc ≠ gl ∧ pc ≠ gl

theorem CrashAt.keep {w W W' : World} {n Bi Bh pc Bc gl k : Nat} {cv : Value} {f : Nat → List UInt8} (h : CrashAt w W n Bi Bh pc Bc gl k cv f) (hc : Chg [] W W') : CrashAt w W' n Bi Bh pc Bc gl k cv f :=
  ⟨hc.keep h.ci (by simp), hc.keep h.ch (by simp), hc.keep h.cc (by simp), hc.keep h.obj (by simp), h.secs.keep (hc.block _ h.secs.lt (by simp)), h.chg.trans hc (by simp), h.lo, h.ne⟩
theorem CrashAt.turn {w W W' : World} {row : Option Nat} {n Bi Bh pc Bc gl k : Nat} {cv : Value} {f : Nat → List UInt8} (h : CrashAt w W n Bi Bh pc Bc gl k cv f) (hg : W.grownBy W' row)
    (hr : ∀ r, row = some r → w.heap.size ≤ r ∧ ∃ o : Obj, W.heap[r]? = some o ∧ o.isCells = false) : CrashAt w W' n Bi Bh pc Bc gl k cv f := by
  have hr2 := fun r e => (hr r e).2
  obtain ⟨cs, h1, h2⟩ := h.secs
  exact ⟨(blk_turn h.ci hg hr2).trans h.ci, (blk_turn h.ch hg hr2).trans h.ch, (blk_turn h.cc hg hr2).trans h.cc, (blk_turn h.obj hg hr2).trans h.obj, h.secs.keep (blk_turn h1 hg hr2), chg_turn h.chg hg (fun r e => (hr r e).1), h.lo, h.ne⟩

end Go.Proofs.YtbkajnjboipbhaaGreatDoor.W

/- disk.Load. -/
namespace Go.Proofs.YtbkajnjboipbhaaGreatDoor.W
open Go.RowKit
set_option linter.unusedVariables false
set_option linter.unusedSimpArgs false

/-- The sector k of an image. -/
def secOf (l : List UInt8) (k : Nat) : List UInt8 := (l.drop (k * 64)).take 64
def DS.load (n : Nat) (l : List UInt8) : DS := { DS.new n with now := secOf l, lasts := secOf l }
theorem secOf_len {l : List UInt8} {n k : Nat} (hl : l.length = n * 64) (hk : k < n) : (secOf l k).length = 64 := by
  unfold secOf
  rw [List.length_take, List.length_drop]
  omega
theorem secOf_at {l : List UInt8} {n k : Nat} (hl : l.length = n * 64) (hk : k < n) (i : Nat) (hi : i < 64) : (secOf l k).getD i 0 = l.getD (k * 64 + i) 0 := by
  unfold secOf
  rw [getD_take _ _ _ hi, getD_drop]
/-- The first i sectors are those of the image. -/
def partSec (l : List UInt8) (i : Nat) : Nat → List UInt8 := fun j => if j < i then secOf l j else zeros 64
theorem SecsAt.congr {w : World} {g n : Nat} {f f' : Nat → List UInt8} (h : SecsAt w g n f) (e : ∀ k, k < n → f' k = f k) : SecsAt w g n f' := by
  obtain ⟨cs, h1, h2, h3⟩ := h
  exact ⟨cs, h1, h2, fun k hk => by rw [e k hk]; exact h3 k hk⟩
theorem partSec_upd (l : List UInt8) (i : Nat) : ∀ k, partSec l (i + 1) k = upd (partSec l i) i (secOf l i) k := fun k => by
  show (if k < i + 1 then secOf l k else zeros 64) = if k = i then secOf l i else if k < i then secOf l k else zeros 64
  by_cases e : k = i
  · subst e; rw [if_pos (by omega), if_pos rfl]
  · rw [if_neg e]
    by_cases h : k < i
    · rw [if_pos h, if_pos (by omega)]
    · rw [if_neg h, if_neg (by omega)]
set_option maxRecDepth 100000 in
/-- One sector is copied over. -/
theorem copy_sec {w : World} {g n : Nat} {f : Nat → List UInt8} (h : SecsAt w g n f) (k : Nat) (hk : k < n) (s : List UInt8) (hs : s.length = 64) (a : Addr) (sLen sCap : Nat) (hl : 64 ≤ sLen) (hsrc : ∀ j v, (bvs s)[j]? = some v → w.cell? (a.add j) = some v)
    (hu8 : (Tryz.prog.info? 5).map (·.size) = some 1) :
    ∃ w', (∀ ty, (Builtin.copy_ #[27, 27] ty #[.slice (some ⟨g, k * 64, none⟩) 64 64, .slice (some a) sLen sCap]).run Tryz.prog w = .ok (goInt 64) w') ∧ SecsAt w' g n (upd f k s) ∧ Chg [g] w w' := by
  obtain ⟨cs, h1, h2, h3⟩ := h
  have hkn : k * 64 + 64 ≤ n * 64 := by omega
  have hr := fun ty => run_copy_n (P := Tryz.prog) w 27 27 ty 5 1 g (k * 64) 64 64 a sLen sCap cs 109 (bvs s) 64 Tryz.underlying27 hu8 h1 (by show 64 = min sLen 64; omega) (by rw [bvs_len, hs]) hsrc (by rw [bvs_len, hs]; omega) (bvs_one _)
  have hlen : (bvs s).length = 64 := by rw [bvs_len, hs]
  obtain ⟨C, hC⟩ : ∃ C, C = (cs.toList.take (k * 64) ++ bvs s ++ cs.toList.drop (k * 64 + (bvs s).length)).toArray := ⟨_, rfl⟩
  rw [← hC] at hr
  have hsz : C.size = cs.size := by
    rw [hC]
    simp only [List.size_toArray, List.length_append, List.length_take, List.length_drop, Array.length_toList, hlen]
    omega
  have hat : ∀ j, j < n * 64 → C[j]? = if k * 64 ≤ j ∧ j < k * 64 + 64 then (bvs s)[j - k * 64]? else cs[j]? := fun j hj => by
    rw [hC, List.getElem?_toArray, hlen]
    have htk : (cs.toList.take (k * 64)).length = k * 64 := by rw [List.length_take, Array.length_toList]; omega
    by_cases h0 : j < k * 64
    · rw [if_neg (by omega), List.append_assoc, List.getElem?_append_left (by omega), List.getElem?_take_of_lt h0, Array.getElem?_toList]
    · by_cases h4 : j < k * 64 + 64
      · rw [if_pos (by omega), List.append_assoc, List.getElem?_append_right (by omega), htk, List.getElem?_append_left (by omega)]
      · rw [if_neg (by omega), List.getElem?_append_right (by rw [List.length_append, htk, hlen]; omega), List.length_append, htk, hlen, List.getElem?_drop, Array.getElem?_toList]
        congr 1
        omega
  refine ⟨_, hr, ⟨C, setRow_heap w g cs C 109 _ h1, by omega, fun j hj => ?_⟩, ⟨rfl, rfl, rfl, by rw [setRow_size]; exact Nat.le_refl _, fun q hq hn => setRow_other w _ q _ (fun e => hn (by simp [e]))⟩⟩
  unfold upd
  by_cases e : j = k
  · subst e
    rw [if_pos rfl]
    refine ⟨hs, fun i hi => ?_⟩
    rw [hat _ (by omega), if_pos (by omega)]
    have : j * 64 + i - j * 64 = i := by omega
    rw [this]
    exact bvs_at s i (by omega)
  · rw [if_neg e]
    refine ⟨(h3 j hj).1, fun i hi => ?_⟩
    rw [hat _ (by omega), if_neg (by omega)]
    exact (h3 j hj).2 i hi
set_option maxRecDepth 100000 in
/-- 'copy(d.lasts, d.now)'. -/
theorem copy_all {w : World} {gl gs n cl cn : Nat} {f f0 : Nat → List UInt8} (hs : SecsAt w gs n f) (hd : SecsAt w gl n f0) :
    ∃ w', (∀ ty, (Builtin.copy_ #[91, 91] ty #[.slice (some ⟨gl, 0, none⟩) n cl, .slice (some ⟨gs, 0, none⟩) n cn]).run Tryz.prog w = .ok (goInt n) w') ∧ SecsAt w' gl n f ∧ Chg [gl] w w' := by
  obtain ⟨hl, hr⟩ := hs.whole
  obtain ⟨cs, h1, h2, _⟩ := hd
  have h := fun ty => run_copy_n (P := Tryz.prog) w 91 91 ty 109 64 gl 0 n cl ⟨gs, 0, none⟩ n cn cs 109 (bvs (flat n f)) n Tryz.underlying91 size_sec h1 (by simp) (by rw [bvs_len, hl])
    (fun j v hv => by rw [add_none]; exact hr j v hv) (by rw [bvs_len, hl]; omega) (bvs_one _)
  refine ⟨_, h, secs_of_cells (t := 0) (setRow_heap w gl cs _ 109 _ h1) (fun k hk => hs.len k hk) ?_, ⟨rfl, rfl, rfl, by rw [setRow_size]; exact Nat.le_refl _, fun q hq hn => setRow_other w _ q _ (fun e => hn (by simp [e]))⟩⟩
  rw [List.take_zero, List.nil_append, List.take_left' (by rw [bvs_len, hl])]

set_option maxHeartbeats 4000000 in
set_option maxRecDepth 100000 in
theorem dload_any (v : Value) (l : List UInt8) (n : Nat) (w : World) (hv : BytesAt w v l) (hl : l.length = n * 64) (h2 : 2 ≤ n) (hm : n ≤ 4160) :
    Calls Tryz.prog 26 #[v] w fun e w' => ∃ p S, e = .returned (.tuple #[.pointer (some ⟨p, 0, none⟩), .int .i64 0]) ∧ Newly w w' p S (DS.load n l) := by
  have CN := Lib.hid (dnew_any n w h2 hm)
  have HL := Lib.hid hl
  obtain ⟨a, cap, rfl, hlc, hcm, hv3⟩ := hv
  obtain ⟨g, o, rfl, hcell⟩ := hv3.resolve_left (fun h => by have := h.1; rw [this] at hl; simp at hl; omega)
  have HCELL := Lib.hid hcell
  have hcm' : cap ≤ 9223372036854775807 := by unfold maxLen at hcm; omega
  obtain ⟨L, hL⟩ : ∃ L, L = l.length := ⟨_, rfl⟩
  have HLL := Lib.hid hL
  rw [← hL] at hl hlc
  have HLn := Lib.hid hl
  rw [← hL]
  have hdiv : (L : Int) / 64 = (n : Int) := by omega
  have hmod : (L : Int) % 64 = 0 := by omega
  clear hcell hv3 hcm hL hl
  go_enter Tryz.func26, Tryz.ntmps26
  go_wp2_with fail
  refine CN.out.mono ?_
  rintro e w1 ⟨p, S, rfl, ⟨gn, gl, cn, cl, v, hd1⟩, hS1, hc1⟩
  have HD := Lib.hid hd1
  have HS := Lib.hid hS1
  have HC := Lib.hid hc1
  have c0 : w1.cell? ⟨p, 0, none⟩ = some (.slice (some ⟨gn, 0, none⟩) n cn) := blk_cell hd1.head 0 _ rfl
  have c1 : w1.cell? ⟨p, 1, none⟩ = some (.slice (some ⟨gl, 0, none⟩) n cl) := blk_cell hd1.head 1 _ rfl
  have hcn : n ≤ cn := hd1.capn.1
  have hcl : n ≤ cl := hd1.capl.1
  clear hd1 hS1 hc1 CN hdiv
  go_wp2_with fail
  clear hmod
  go_loopg [27] n (fun g' s27 wr => ∃ i : Nat, s27 = .int .i64 (i : Int) ∧ i ≤ n ∧ n ≤ i + g' ∧ Hid (SecsAt wr gn n (partSec l i) ∧ Chg [gn] w1 wr))
  case atStart => exact ⟨0, rfl, by omega, by omega, Lib.hid ⟨HD.out.now.congr (fun k _ => by unfold partSec; rw [if_neg (by omega)]; rfl), Chg.refl _ _⟩⟩
  case round =>
    obtain ⟨i, rfl, hi, hig, HR⟩ := hrel
    have ap := HD.out.ap
    have e0 := HR.out.2.cell c0 (by simp; exact ap.1)
    have e1 := HR.out.2.cell c1 (by simp; exact ap.1)
    by_cases hlt : i < n
    · have hiz : (i : Int) < (n : Int) := by omega
      have hi0 : (0 : Int) ≤ (i : Int) := by omega
      have hi1 : (i : Int).toNat = i := by omega
      have hcj : i * 64 < cap := by have := HLn.out; omega
      have hcj2 : ¬ cap = i * 64 := by omega
      have hLi : i * 64 < L := by have := HLn.out; omega
      have hLi2 : 64 ≤ L - i * 64 := by have := HLn.out; omega
      have hgw : g < w.heap.size := by
        have := World.block_lt_of_cell? w _ (HCELL.out 0 (by rw [← HLL.out]; omega))
        exact this
      obtain ⟨w2, hcp, hs2, hc2⟩ := copy_sec (w := wr.drew) (HR.out.1.keep rfl) i hlt (secOf l i) (secOf_len (HLL.out.symm.trans HLn.out) hlt) ⟨g, o + i * 64, none⟩ (L - i * 64) (cap - i * 64) hLi2 (fun j u hu => by
        have hj : j < 64 := by
          have := (List.getElem?_eq_some_iff.1 hu).1
          rw [bvs_len, secOf_len (HLL.out.symm.trans HLn.out) hlt] at this; exact this
        rw [bvs_at _ _ (by rw [secOf_len (HLL.out.symm.trans HLn.out) hlt]; exact hj), secOf_at (HLL.out.symm.trans HLn.out) hlt j hj] at hu
        rw [add_none, ← hu]
        have h1 := HCELL.out (i * 64 + j) (by rw [← HLL.out, HLn.out]; omega)
        have h2 := (HC.out.cell h1 (by simp))
        have h3 := HR.out.2.cell h2 (by
          simp
          have := HS.out gn HD.out.mem.2.1
          omega)
        rw [Nat.add_assoc]
        exact h3) (by kernel_rfl)
      have HCP := Lib.hid hcp
      have H2 : Hid (SecsAt w2 gn n (partSec l (i + 1)) ∧ Chg [gn] w1 w2) := Lib.hid ⟨hs2.congr (fun k _ => partSec_upd l i k), (HR.out.2.drew).trans hc2 (fun x hx => .inl hx)⟩
      have hw1 : IntKind.i64.wrap ((i : Int) * 64) = (i : Int) * 64 := by rw [IntKind.wrap_i64]; omega
      have h64 : (0 : Int) ≤ (i : Int) * 64 := by omega
      have h64n : ((i : Int) * 64).toNat = i * 64 := by omega
      have h64c : ¬ (L : Int) < (i : Int) * 64 := by omega
      clear hcp hs2 hc2
      go_wp2_with fail
      refine wp_region_L [(12, fun w' => w'.cell? ⟨p, 0, none⟩ = some (.slice (some ⟨gn, 0, none⟩) n cn))] (by kernel_rfl) ?_ (fun hHeld => ?_)
      · exact (HoldC.cons (e0) HoldC.nil)
      refine wpAnyL_take (i := 0) (oi := _) (v := ?_) rfl (by kernel_rfl) (by kernel_rfl) (by kernel_rfl) (by kernel_rfl) (by kernel_rfl) (fun _ _ _ h => h) (Or.inl ⟨by rfl, ?_⟩) (by assumption) (fun hNew => ?_)
      rotate_left
      · intro w _
        go_simp
        try with_reducible rfl
      clear hHeld
      have hHeld := hNew
      clear hNew
      try simp only [List.getElem_toArray, List.getElem_cons_succ, List.getElem_cons_zero, Act.put, List.setIfInBounds_toArray, List.set_cons_zero, List.set_cons_succ]
      refine wpAnyL_take (i := 1) (oi := _) (v := ?_) rfl (by kernel_rfl) (by kernel_rfl) (by kernel_rfl) (by kernel_rfl) (by kernel_rfl) (fun _ _ _ h => h) (Or.inl ⟨by rfl, ?_⟩) (by assumption) (fun hNew => ?_)
      rotate_left
      · intro w _
        go_simp
        try with_reducible rfl
      clear hHeld
      have hHeld := hNew
      clear hNew
      try simp only [List.getElem_toArray, List.getElem_cons_succ, List.getElem_cons_zero, Act.put, List.setIfInBounds_toArray, List.set_cons_zero, List.set_cons_succ]
      refine wpAnyL_take (i := 2) (oi := _) (v := ?_) rfl (by kernel_rfl) (by kernel_rfl) (by kernel_rfl) (by kernel_rfl) (by kernel_rfl) (fun _ _ _ h => h) (Or.inl ⟨by rfl, ?_⟩) (by assumption) (fun hNew => ?_)
      rotate_left
      · intro w _
        go_simp
        try with_reducible rfl
      clear hHeld
      have hHeld := hNew
      clear hNew
      try simp only [List.getElem_toArray, List.getElem_cons_succ, List.getElem_cons_zero, Act.put, List.setIfInBounds_toArray, List.set_cons_zero, List.set_cons_succ]
      refine wpAnyL_take (i := 4) (oi := _) (v := ?_) rfl (by kernel_rfl) (by kernel_rfl) (by kernel_rfl) (by kernel_rfl) (by kernel_rfl) (fun _ _ _ h => h) (Or.inl ⟨by rfl, ?_⟩) (by assumption) (fun hNew => ?_)
      rotate_left
      · intro w _
        go_simp
        try with_reducible rfl
      clear hHeld
      have hHeld := hNew
      clear hNew
      try simp only [List.getElem_toArray, List.getElem_cons_succ, List.getElem_cons_zero, Act.put, List.setIfInBounds_toArray, List.set_cons_zero, List.set_cons_succ]
      refine wpAnyL_take (i := 8) (oi := _) (v := ?_) rfl (by kernel_rfl) (by kernel_rfl) (by kernel_rfl) (by kernel_rfl) (by kernel_rfl) (fun _ _ _ h => h) (Or.inl ⟨by rfl, ?_⟩) (by assumption) (fun hNew => ?_)
      rotate_left
      · intro w _
        go_simp
        try with_reducible rfl
      clear hHeld
      have hHeld := hNew
      clear hNew
      try simp only [List.getElem_toArray, List.getElem_cons_succ, List.getElem_cons_zero, Act.put, List.setIfInBounds_toArray, List.set_cons_zero, List.set_cons_succ]
      refine wpAnyL_take (i := 9) (oi := _) (v := ?_) rfl (by kernel_rfl) (by kernel_rfl) (by kernel_rfl) (by kernel_rfl) (by kernel_rfl) (fun _ _ _ h => h) (Or.inl ⟨by rfl, ?_⟩) (by assumption) (fun hNew => ?_)
      rotate_left
      · intro w _
        go_simp
        try with_reducible rfl
      clear hHeld
      have hHeld := hNew
      clear hNew
      try simp only [List.getElem_toArray, List.getElem_cons_succ, List.getElem_cons_zero, Act.put, List.setIfInBounds_toArray, List.set_cons_zero, List.set_cons_succ]
      refine wpAnyL_take (i := 10) (oi := _) (v := ?_) rfl (by kernel_rfl) (by kernel_rfl) (by kernel_rfl) (by kernel_rfl) (by kernel_rfl) (fun _ _ _ h => h) (Or.inl ⟨by rfl, ?_⟩) (by assumption) (fun hNew => ?_)
      rotate_left
      · intro w _
        go_simp
        try with_reducible rfl
      clear hHeld
      have hHeld := hNew
      clear hNew
      try simp only [List.getElem_toArray, List.getElem_cons_succ, List.getElem_cons_zero, Act.put, List.setIfInBounds_toArray, List.set_cons_zero, List.set_cons_succ]
      refine wpAnyL_take (i := 11) (oi := _) (v := ?_) rfl (by kernel_rfl) (by kernel_rfl) (by kernel_rfl) (by kernel_rfl) (by kernel_rfl) (fun _ _ _ h => h) (Or.inl ⟨by rfl, ?_⟩) (by assumption) (fun hNew => ?_)
      rotate_left
      · intro w _
        go_simp
        try with_reducible rfl
      clear hHeld
      have hHeld := hNew
      clear hNew
      try simp only [List.getElem_toArray, List.getElem_cons_succ, List.getElem_cons_zero, Act.put, List.setIfInBounds_toArray, List.set_cons_zero, List.set_cons_succ]
      refine wpAnyL_load 0 (i := 3) (oi := _) (v := ?_) rfl rfl (by kernel_rfl) (by kernel_rfl) (by kernel_rfl) (by kernel_rfl) (by kernel_rfl) (by kernel_rfl) (fun _ _ _ h => h) (Or.inl ⟨by rfl, ?_⟩) (by assumption) (fun hNew => ?_)
      rotate_left
      · intro w hSw
        (try dsimp only at hSw)
        go_simp
        try with_reducible rfl
      clear hHeld
      have hHeld := hNew
      clear hNew
      try simp only [List.getElem_toArray, List.getElem_cons_succ, List.getElem_cons_zero, Act.put, List.setIfInBounds_toArray, List.set_cons_zero, List.set_cons_succ]
      refine wpAnyL_take (i := 5) (oi := _) (v := ?_) rfl (by kernel_rfl) (by kernel_rfl) (by kernel_rfl) (by kernel_rfl) (by kernel_rfl) (fun _ _ _ h => h) (Or.inl ⟨by rfl, ?_⟩) (by assumption) (fun hNew => ?_)
      rotate_left
      · intro w _
        go_simp
        try with_reducible rfl
      clear hHeld
      have hHeld := hNew
      clear hNew
      try simp only [List.getElem_toArray, List.getElem_cons_succ, List.getElem_cons_zero, Act.put, List.setIfInBounds_toArray, List.set_cons_zero, List.set_cons_succ]
      refine wpAnyL_take (i := 6) (oi := _) (v := ?_) rfl (by kernel_rfl) (by kernel_rfl) (by kernel_rfl) (by kernel_rfl) (by kernel_rfl) (fun _ _ _ h => h) (Or.inl ⟨by rfl, ?_⟩) (by assumption) (fun hNew => ?_)
      rotate_left
      · intro w _
        go_simp
        try with_reducible rfl
      clear hHeld
      have hHeld := hNew
      clear hNew
      try simp only [List.getElem_toArray, List.getElem_cons_succ, List.getElem_cons_zero, Act.put, List.setIfInBounds_toArray, List.set_cons_zero, List.set_cons_succ]
      refine wpAnyL_take (i := 7) (oi := _) (v := ?_) rfl (by kernel_rfl) (by kernel_rfl) (by kernel_rfl) (by kernel_rfl) (by kernel_rfl) (fun _ _ _ h => h) (Or.inl ⟨by rfl, ?_⟩) (by assumption) (fun hNew => ?_)
      rotate_left
      · intro w _
        go_simp
        try with_reducible rfl
      clear hHeld
      have hHeld := hNew
      clear hNew
      try simp only [List.getElem_toArray, List.getElem_cons_succ, List.getElem_cons_zero, Act.put, List.setIfInBounds_toArray, List.set_cons_zero, List.set_cons_succ]
      refine wpAnyL_ready (rs := [12]) (by kernel_rfl) (by simp) ?_
      refine AllReadyL.cons (o := _) rfl (fun K hK => ?_) AllReadyL.nil
      try simp only [List.getElem_toArray, List.getElem_cons_succ, List.getElem_cons_zero]
      rw [if_pos (by rfl)]
      refine wp_copy (.tmp 37) (.tmp 41) (by rfl) (by rfl) (by rfl) (HCP.out _) ?_
      clear hHeld
      refine hK.out _ _ ?_ (fun hHeld => ?_)
      · exact (HoldC.past (by kernel_rfl) HoldC.nil)
      clear hK K
      try simp only [List.getElem_toArray, List.getElem_cons_succ, List.getElem_cons_zero, Act.put, List.setIfInBounds_toArray, List.set_cons_zero, List.set_cons_succ]
      refine wpAnyL_done (by kernel_rfl) ?_ _
      clear hHeld
      clear e0 e1
      go_wp2
      go_roundg (gk - 1)
      case measure => omega
      case rel => exact ⟨i + 1, by go_num, by omega, by omega, H2⟩
    · have hiz : ¬ (i : Int) < (n : Int) := by omega
      have hin : i = n := by omega
      obtain ⟨hsr, hcr⟩ := HR.out
      have hll : SecsAt wr.drew gl n (DS.new n).lasts := (HD.out.lasts.keep (hcr.block _ HD.out.lasts.lt (by simp; exact fun e => ap.2.2 e.symm))).keep rfl
      obtain ⟨w2, hcp, hs2, hc2⟩ := copy_all (cl := cl) (cn := cn) (hsr.keep (w' := wr.drew) rfl) hll
      have HCP := Lib.hid hcp
      have HFIN : Hid (Newly w w2 p S (DS.load n l)) := Lib.hid (by
        have hcw : Chg [gn, gl] w1 w2 := (hcr.drew.mono (T := [gn, gl]) (fun x hx => .inl (by simp at hx; simp [hx]))).trans hc2 (fun x hx => .inl (by simp at hx; simp [hx]))
        have H := HD.out
        obtain ⟨m1, m2, m3, m4⟩ := H.mem
        have hpn : p ∉ [gn, gl] := by simp; exact ⟨ap.1, ap.2.1⟩
        have hall : ∀ k, k < n → (DS.load n l).now k = partSec l i k := fun k hk => by
          unfold partSec
          rw [if_pos (by omega)]
          rfl
        refine ⟨⟨gn, gl, cn, cl, v, ⟨hcw.keep H.head hpn, ?_, ?_, ?_, H.waits, H.few, H.capn, H.capl, H.fuse, H.ap, H.av, H.mem, fun x hx => Nat.lt_of_lt_of_le (H.lim x hx) hcw.size⟩⟩, HS.out, HC.out.trans hcw (fun x hx => .inr ?_)⟩
        · exact ((hsr.keep (w' := wr.drew) rfl).keep (hc2.block _ hsr.lt (by simp; exact ap.2.2))).congr hall
        · exact hs2.congr hall
        · exact row_keep H.since (fun k hk => hcw.block k (World.ownsRow.lt H.since k hk).2 (by
            have := H.av k hk
            simp
            exact ⟨this.2.1, this.2.2⟩))
        · simp at hx
          rcases hx with rfl | rfl
          · exact HS.out _ m2
          · exact HS.out _ m3)
      clear hcp hs2 hc2 hsr hcr hll hin
      go_wp2_with fail
      refine wp_region_L [(8, fun w' => w'.cell? ⟨p, 0, none⟩ = some (.slice (some ⟨gn, 0, none⟩) n cn)), (8, fun w' => w'.cell? ⟨p, 1, none⟩ = some (.slice (some ⟨gl, 0, none⟩) n cl))] (by kernel_rfl) ?_ (fun hHeld => ?_)
      · exact (HoldC.cons (e0) (HoldC.cons (e1) HoldC.nil))
      refine wpAnyL_take (i := 0) (oi := _) (v := ?_) rfl (by kernel_rfl) (by kernel_rfl) (by kernel_rfl) (by kernel_rfl) (by kernel_rfl) (fun _ _ _ h => h) (Or.inl ⟨by rfl, ?_⟩) (by assumption) (fun hNew => ?_)
      rotate_left
      · intro w _
        go_simp
        try with_reducible rfl
      clear hHeld
      have hHeld := hNew
      clear hNew
      try simp only [List.getElem_toArray, List.getElem_cons_succ, List.getElem_cons_zero, Act.put, List.setIfInBounds_toArray, List.set_cons_zero, List.set_cons_succ]
      refine wpAnyL_take (i := 1) (oi := _) (v := ?_) rfl (by kernel_rfl) (by kernel_rfl) (by kernel_rfl) (by kernel_rfl) (by kernel_rfl) (fun _ _ _ h => h) (Or.inl ⟨by rfl, ?_⟩) (by assumption) (fun hNew => ?_)
      rotate_left
      · intro w _
        go_simp
        try with_reducible rfl
      clear hHeld
      have hHeld := hNew
      clear hNew
      try simp only [List.getElem_toArray, List.getElem_cons_succ, List.getElem_cons_zero, Act.put, List.setIfInBounds_toArray, List.set_cons_zero, List.set_cons_succ]
      refine wpAnyL_take (i := 2) (oi := _) (v := ?_) rfl (by kernel_rfl) (by kernel_rfl) (by kernel_rfl) (by kernel_rfl) (by kernel_rfl) (fun _ _ _ h => h) (Or.inl ⟨by rfl, ?_⟩) (by assumption) (fun hNew => ?_)
      rotate_left
      · intro w _
        go_simp
        try with_reducible rfl
      clear hHeld
      have hHeld := hNew
      clear hNew
      try simp only [List.getElem_toArray, List.getElem_cons_succ, List.getElem_cons_zero, Act.put, List.setIfInBounds_toArray, List.set_cons_zero, List.set_cons_succ]
      refine wpAnyL_take (i := 4) (oi := _) (v := ?_) rfl (by kernel_rfl) (by kernel_rfl) (by kernel_rfl) (by kernel_rfl) (by kernel_rfl) (fun _ _ _ h => h) (Or.inl ⟨by rfl, ?_⟩) (by assumption) (fun hNew => ?_)
      rotate_left
      · intro w _
        go_simp
        try with_reducible rfl
      clear hHeld
      have hHeld := hNew
      clear hNew
      try simp only [List.getElem_toArray, List.getElem_cons_succ, List.getElem_cons_zero, Act.put, List.setIfInBounds_toArray, List.set_cons_zero, List.set_cons_succ]
      refine wpAnyL_take (i := 5) (oi := _) (v := ?_) rfl (by kernel_rfl) (by kernel_rfl) (by kernel_rfl) (by kernel_rfl) (by kernel_rfl) (fun _ _ _ h => h) (Or.inl ⟨by rfl, ?_⟩) (by assumption) (fun hNew => ?_)
      rotate_left
      · intro w _
        go_simp
        try with_reducible rfl
      clear hHeld
      have hHeld := hNew
      clear hNew
      try simp only [List.getElem_toArray, List.getElem_cons_succ, List.getElem_cons_zero, Act.put, List.setIfInBounds_toArray, List.set_cons_zero, List.set_cons_succ]
      refine wpAnyL_take (i := 6) (oi := _) (v := ?_) rfl (by kernel_rfl) (by kernel_rfl) (by kernel_rfl) (by kernel_rfl) (by kernel_rfl) (fun _ _ _ h => h) (Or.inl ⟨by rfl, ?_⟩) (by assumption) (fun hNew => ?_)
      rotate_left
      · intro w _
        go_simp
        try with_reducible rfl
      clear hHeld
      have hHeld := hNew
      clear hNew
      try simp only [List.getElem_toArray, List.getElem_cons_succ, List.getElem_cons_zero, Act.put, List.setIfInBounds_toArray, List.set_cons_zero, List.set_cons_succ]
      refine wpAnyL_load 1 (i := 3) (oi := _) (v := ?_) rfl rfl (by kernel_rfl) (by kernel_rfl) (by kernel_rfl) (by kernel_rfl) (by kernel_rfl) (by kernel_rfl) (fun _ _ _ h => h) (Or.inl ⟨by rfl, ?_⟩) (by assumption) (fun hNew => ?_)
      rotate_left
      · intro w hSw
        (try dsimp only at hSw)
        go_simp
        try with_reducible rfl
      clear hHeld
      have hHeld := hNew
      clear hNew
      try simp only [List.getElem_toArray, List.getElem_cons_succ, List.getElem_cons_zero, Act.put, List.setIfInBounds_toArray, List.set_cons_zero, List.set_cons_succ]
      refine wpAnyL_load 0 (i := 7) (oi := _) (v := ?_) rfl rfl (by kernel_rfl) (by kernel_rfl) (by kernel_rfl) (by kernel_rfl) (by kernel_rfl) (by kernel_rfl) (fun _ _ _ h => h) (Or.inl ⟨by rfl, ?_⟩) (by assumption) (fun hNew => ?_)
      rotate_left
      · intro w hSw
        (try dsimp only at hSw)
        go_simp
        try with_reducible rfl
      clear hHeld
      have hHeld := hNew
      clear hNew
      try simp only [List.getElem_toArray, List.getElem_cons_succ, List.getElem_cons_zero, Act.put, List.setIfInBounds_toArray, List.set_cons_zero, List.set_cons_succ]
      refine wpAnyL_ready (rs := [8]) (by kernel_rfl) (by simp) ?_
      refine AllReadyL.cons (o := _) rfl (fun K hK => ?_) AllReadyL.nil
      try simp only [List.getElem_toArray, List.getElem_cons_succ, List.getElem_cons_zero]
      rw [if_pos (by rfl)]
      refine wp_copy (.tmp 47) (.tmp 51) (by rfl) (by rfl) (by rfl) (HCP.out _) ?_
      clear hHeld
      refine hK.out _ _ ?_ (fun hHeld => ?_)
      · exact (HoldC.past (by kernel_rfl) (HoldC.past (by kernel_rfl) HoldC.nil))
      clear hK K
      try simp only [List.getElem_toArray, List.getElem_cons_succ, List.getElem_cons_zero, Act.put, List.setIfInBounds_toArray, List.set_cons_zero, List.set_cons_succ]
      refine wpAnyL_done (by kernel_rfl) ?_ _
      clear hHeld
      go_wp2
      go_ret2
      exact ⟨p, S, rfl, HFIN.out⟩
end Go.Proofs.YtbkajnjboipbhaaGreatDoor.W

/- The reference's NewDisk. -/
namespace Go.Proofs.YtbkajnjboipbhaaGreatDoor.W
open Go.RowKit
set_option linter.unusedVariables false
set_option linter.unusedSimpArgs false

def ncs (nv lv : Value) : Array Value := #[nv, lv, .slice none 0 0, .slice none 0 0, .int .i64 0, .int .i64 (-1), .bool false]
def nrows (nv lv : Value) (NV LV : List Value) : List RowD := [⟨27, 1, nv, NV.length, NV⟩, ⟨27, 1, lv, LV.length, LV⟩, ⟨3, 1, .slice none 0 0, 0, []⟩, ⟨27, 1, .slice none 0 0, 0, []⟩]
/-- A disk that grows. -/
structure NewAt (w0 w : World) (m : Nat) (nv lv : Value) (NV LV : List Value) : Prop where
  obj : ObjAt w m 78 (ncs nv lv) (nrows nv lv NV LV)
  now : ∀ c ∈ NV, BytesAt w c (zeros 64) ∧ ∀ g, c.ownBlock = some g → w0.heap.size ≤ g
  lasts : ∀ c ∈ LV, No8 c
  no8 : ∀ x ∈ blks m (nrows nv lv NV LV), NoU8 w x
  new : ∀ x ∈ blks m (nrows nv lv NV LV), w0.heap.size ≤ x
  chg : Chg [] w0 w
theorem zeros_ne : zeros 64 ≠ [] := by simp [zeros]
theorem NewAt.row {w0 w : World} {m : Nat} {nv lv : Value} {NV LV : List Value} (h : NewAt w0 w m nv lv NV LV) : w.ownsRow 0 27 1 nv NV.length NV ∧ w.ownsRow 0 27 1 lv LV.length LV :=
  ⟨h.obj.rows ⟨27, 1, nv, NV.length, NV⟩ (by simp [nrows]), h.obj.rows ⟨27, 1, lv, LV.length, LV⟩ (by simp [nrows])⟩
theorem NewAt.row8 {w0 w : World} {m : Nat} {nv lv : Value} {NV LV : List Value} (h : NewAt w0 w m nv lv NV LV) : (∀ x, nv.ownBlock = some x → NoU8 w x) ∧ (∀ x, lv.ownBlock = some x → NoU8 w x) ∧ (∀ c ∈ NV, No8 c) :=
  ⟨fun x hx => h.no8 x (blks_row (r := ⟨27, 1, nv, NV.length, NV⟩) (by simp [nrows]) hx), fun x hx => h.no8 x (blks_row (r := ⟨27, 1, lv, LV.length, LV⟩) (by simp [nrows]) hx), fun c hc => (h.now c hc).1.no8⟩
theorem NewAt.keep {w0 w w' : World} {m : Nat} {nv lv : Value} {NV LV : List Value} (h : NewAt w0 w m nv lv NV LV) (hc : Chg [] w w') : NewAt w0 w' m nv lv NV LV :=
  ⟨h.obj.keep hc (by simp), fun c hm => ⟨(h.now c hm).1.chg hc (by simp), (h.now c hm).2⟩, h.lasts, fun x hx => (h.no8 x hx).keep (hc.block x (h.obj.lim x hx) (by simp)), h.new, h.chg.trans hc (by simp)⟩
theorem NewAt.put {w0 w w3 : World} {m : Nat} {nv lv nv' lv' : Value} {NV LV NV' LV' : List Value} (h : NewAt w0 w m nv lv NV LV) (ho : ObjAt w3 m 78 (ncs nv' lv') (nrows nv' lv' NV' LV'))
    (hb : ∀ x ∈ blks m (nrows nv' lv' NV' LV'), x ∈ blks m (nrows nv lv NV LV) ∨ w.heap.size ≤ x) (hc : Chg (blks m (nrows nv lv NV LV)) w w3) (h8 : ∀ x ∈ blks m (nrows nv' lv' NV' LV'), NoU8 w3 x)
    (hN : ∀ c ∈ NV', c ∈ NV ∨ (BytesAt w c (zeros 64) ∧ ∀ g, c.ownBlock = some g → w0.heap.size ≤ g)) (hL : ∀ c ∈ LV', No8 c) : NewAt w0 w3 m nv' lv' NV' LV' := by
  refine ⟨ho, fun c hm => ?_, hL, h8, fun x hx => ?_, h.chg.trans hc (fun x hx => .inr (h.new x hx))⟩
  · have h1 : BytesAt w c (zeros 64) ∧ ∀ g, c.ownBlock = some g → w0.heap.size ≤ g := by
      rcases hN c hm with h1 | h1
      · exact h.now c h1
      · exact h1
    exact ⟨h1.1.chg hc (fun g hg hgm => (h.no8 g hgm).not_bytes c _ h1.1 zeros_ne hg), h1.2⟩
  · rcases hb x hx with h1 | h1
    · exact h.new x h1
    · exact Nat.le_trans h.chg.size h1
theorem NewAt.put0 {w0 w w2 : World} {m : Nat} {nv lv : Value} {NV LV : List Value} (h : NewAt w0 w m nv lv NV LV) (u : Value) (g cap : Nat) (hg : w.grownBy w2 nv.ownBlock)
    (hrow : w2.ownsRow 0 27 1 (.slice (some ⟨g, 0, none⟩) (NV.length + 1) cap) (NV.length + 1) (NV ++ [u])) (hat : nv.ownBlock = some g ∨ g = w.heap.size) (h8 : NoU8 w2 g)
    (hu : BytesAt w u (zeros 64)) (hun : ∀ g, u.ownBlock = some g → w0.heap.size ≤ g) : NewAt w0 (w2.setCell ⟨m, 0, none⟩ (.slice (some ⟨g, 0, none⟩) (NV.length + 1) cap)) m (.slice (some ⟨g, 0, none⟩) (NV.length + 1) cap) lv (NV ++ [u]) LV := by
  have hloc : ∀ k, (Value.slice (some ⟨g, 0, none⟩) (NV.length + 1) cap).ownBlock = some k → nv.ownBlock = some k ∨ w.heap.size ≤ k := fun k hk => by
    obtain rfl : g = k := by simpa [Value.ownBlock] using hk
    rcases hat with h4 | h4
    · exact .inl h4
    · exact .inr (by omega)
  have hobj : ObjAt w m 78 (ncs nv lv) ([] ++ (⟨27, 1, nv, NV.length, NV⟩ : RowD) :: [⟨27, 1, lv, LV.length, LV⟩, ⟨3, 1, .slice none 0 0, 0, []⟩, ⟨27, 1, .slice none 0 0, 0, []⟩]) := h.obj
  obtain ⟨o1, o2, o3⟩ := hobj.field (r' := ⟨27, 1, .slice (some ⟨g, 0, none⟩) (NV.length + 1) cap, (NV ++ [u]).length, NV ++ [u]⟩) 0 hg (by
    show w2.ownsRow 0 27 1 (.slice (some ⟨g, 0, none⟩) (NV.length + 1) cap) (NV ++ [u]).length (NV ++ [u])
    rw [List.length_append]
    exact hrow) hloc
  have o8 := hobj.field8 h.no8 0 hg (r' := ⟨27, 1, .slice (some ⟨g, 0, none⟩) (NV.length + 1) cap, (NV ++ [u]).length, NV ++ [u]⟩) hloc (fun y hy => by
    obtain rfl : g = y := by simpa [Value.ownBlock] using hy
    exact h8) no8_slice
  exact h.put o1 o2 o3 o8 (fun c hc => by
    rcases List.mem_append.1 hc with hc | hc
    · exact .inl hc
    · rw [List.mem_singleton.1 hc]; exact .inr ⟨hu, hun⟩) h.lasts
theorem NewAt.put1 {w0 w w2 : World} {m : Nat} {nv lv : Value} {NV LV : List Value} (h : NewAt w0 w m nv lv NV LV) (u : Value) (g cap : Nat) (hg : w.grownBy w2 lv.ownBlock)
    (hrow : w2.ownsRow 0 27 1 (.slice (some ⟨g, 0, none⟩) (LV.length + 1) cap) (LV.length + 1) (LV ++ [u])) (hat : lv.ownBlock = some g ∨ g = w.heap.size) (h8 : NoU8 w2 g)
    (hu : No8 u) : NewAt w0 (w2.setCell ⟨m, 1, none⟩ (.slice (some ⟨g, 0, none⟩) (LV.length + 1) cap)) m nv (.slice (some ⟨g, 0, none⟩) (LV.length + 1) cap) NV (LV ++ [u]) := by
  have hloc : ∀ k, (Value.slice (some ⟨g, 0, none⟩) (LV.length + 1) cap).ownBlock = some k → lv.ownBlock = some k ∨ w.heap.size ≤ k := fun k hk => by
    obtain rfl : g = k := by simpa [Value.ownBlock] using hk
    rcases hat with h4 | h4
    · exact .inl h4
    · exact .inr (by omega)
  have hobj : ObjAt w m 78 (ncs nv lv) ([⟨27, 1, nv, NV.length, NV⟩] ++ (⟨27, 1, lv, LV.length, LV⟩ : RowD) :: [⟨3, 1, .slice none 0 0, 0, []⟩, ⟨27, 1, .slice none 0 0, 0, []⟩]) := h.obj
  obtain ⟨o1, o2, o3⟩ := hobj.field (r' := ⟨27, 1, .slice (some ⟨g, 0, none⟩) (LV.length + 1) cap, (LV ++ [u]).length, LV ++ [u]⟩) 1 hg (by
    show w2.ownsRow 0 27 1 (.slice (some ⟨g, 0, none⟩) (LV.length + 1) cap) (LV ++ [u]).length (LV ++ [u])
    rw [List.length_append]
    exact hrow) hloc
  have o8 := hobj.field8 h.no8 1 hg (r' := ⟨27, 1, .slice (some ⟨g, 0, none⟩) (LV.length + 1) cap, (LV ++ [u]).length, LV ++ [u]⟩) hloc (fun y hy => by
    obtain rfl : g = y := by simpa [Value.ownBlock] using hy
    exact h8) no8_slice
  exact h.put o1 o2 o3 o8 (fun c hc => .inl hc) (fun c hc => by
    rcases List.mem_append.1 hc with hc | hc
    · exact h.lasts c hc
    · rw [List.mem_singleton.1 hc]; exact hu)
/-- What NewDisk leaves. -/
def RNewly (w w' : World) (m : Nat) (V F : List Nat) (d : DS) : Prop := RDiskAt w' m V F d ∧ (∀ x ∈ F, w.heap.size ≤ x) ∧ Chg [] w w'
theorem NewAt.done {w0 w : World} {m n : Nat} {nv lv : Value} {NV LV : List Value} (h : NewAt w0 w m nv lv NV LV) (hN : NV.length = n) (hL : LV.length = n) (hn : n ≤ 4160) : ∃ V F, RNewly w0 w m V F (DS.new n) := by
  have hrows : nrows nv lv NV LV = rrows n nv lv (.slice none 0 0) (.slice none 0 0) NV LV [] [] := by unfold nrows rrows; rw [hN, hL]; rfl
  refine ⟨blks m (nrows nv lv NV LV), blks m (nrows nv lv NV LV) ++ NV.flatMap (fun c => c.ownBlock.toList), ⟨nv, lv, .slice none 0 0, .slice none 0 0, NV, LV, [], [], ?_⟩, fun x hx => ?_, h.chg⟩
  · refine ⟨?_, fun k hk => ?_, h.lasts, ⟨by simp, by simp⟩, ⟨by simp, by simp⟩, hn, ⟨by simp [DS.new], by simp [DS.new]⟩, by rw [hrows]; rfl, h.no8, fun x hx => List.mem_append_left _ hx, fun x hx => ?_⟩
    · have := h.obj
      rw [hrows] at this
      exact this
    · have hk : k < n := hk
      have hm : NV.getD k undef ∈ NV := by rw [List.getD_eq_getElem?_getD, List.getElem?_eq_getElem (by omega)]; exact List.getElem_mem _
      obtain ⟨b1, b2⟩ := h.now _ hm
      refine ⟨by simp [DS.new, zeros], b1, fun g hg => ⟨List.mem_append_right _ (List.mem_flatMap.2 ⟨_, hm, by rw [hg]; simp⟩), fun hgm => (h.no8 g hgm).not_bytes _ _ b1 zeros_ne hg⟩⟩
    · rcases List.mem_append.1 hx with hx | hx
      · exact h.obj.lim x hx
      · obtain ⟨c, hc, hx⟩ := List.mem_flatMap.1 hx
        exact (h.now c hc).1.lt zeros_ne x (by simpa using hx)
  · rcases List.mem_append.1 hx with hx | hx
    · exact h.new x hx
    · obtain ⟨c, hc, hx⟩ := List.mem_flatMap.1 hx
      exact (h.now c hc).2 x (by simpa using hx)
theorem new_at (w : World) : NewAt w (w.alloc (.cells (ncs (.slice none 0 0) (.slice none 0 0)) 78)) w.heap.size (.slice none 0 0) (.slice none 0 0) [] [] := by
  have hh := heap_alloc_new w (.cells (ncs (.slice none 0 0) (.slice none 0 0)) 78)
  have hb : blks w.heap.size (nrows (.slice none 0 0) (.slice none 0 0) [] []) = [w.heap.size] := rfl
  refine ⟨⟨hh, fun r hr => ?_, by rw [hb]; simp⟩, by simp, by simp, fun x hx => ?_, fun x hx => ?_, (Chg.refl _ _).alloc _⟩
  · simp only [nrows, List.mem_cons, List.mem_nil_iff, or_false] at hr
    rcases hr with rfl | rfl | rfl | rfl <;> exact World.ownsRow_nil _ _ _ _
  · rw [hb] at hx
    rw [List.mem_singleton.1 hx]
    refine NoU8.mk hh (no8_list (l := [_, _, _, _, _, _, _]) ?_)
    intro c hc
    simp only [List.mem_cons, List.mem_nil_iff, or_false] at hc
    rcases hc with rfl | rfl | rfl | rfl | rfl | rfl | rfl <;> (intro z; simp)
  · rw [hb] at hx
    rw [List.mem_singleton.1 hx]
    exact Nat.le_refl _
def NewPost (w : World) (n : Nat) (e : Ending) (w' : World) : Prop := ∃ m V F, e = .returned (.tuple #[.pointer (some ⟨m, 0, none⟩), .int .i64 0]) ∧ RNewly w w' m V F (DS.new n)

set_option maxHeartbeats 8000000 in
set_option maxRecDepth 100000 in
theorem rnewdisk_any (n : Nat) (wA : World) (h2 : 2 ≤ n) (hm : n ≤ 4160) : Calls Tryz.prog 39 #[.int .i64 (n : Int)] wA (NewPost wA n) := by
  have q1 : decide ((n : Int) < 2) = false := decide_eq_false (by omega)
  have q2 : decide ((n : Int) > 4160) = false := decide_eq_false (by omega)
  have hmk := make_64
  obtain ⟨i3, hi3, hz3, hs3, hy3⟩ := info_parts facts_bytes
  have I3 := Lib.hid (And.intro hi3 (And.intro hz3 (And.intro hs3 hy3)))
  obtain ⟨m, hmm⟩ : ∃ m, m = wA.heap.size := ⟨_, rfl⟩
  have HM := Lib.hid hmm
  have HN0 := Lib.hid (new_at wA)
  clear hi3 hz3 hs3 hy3 hmm
  go_enter Tryz.func39, Tryz.ntmps39
  go_wp2_with fail
  rw [← HM.out]
  go_loopg [5] n (fun g' s5 wr => ∃ (i : Nat), s5 = .int .i64 (i : Int) ∧ i ≤ n ∧ n ≤ i + g' ∧ Hid (∃ nv lv NV LV, NewAt wA wr m nv lv NV LV ∧ NV.length = i ∧ LV.length = i))
  case atStart => exact ⟨0, rfl, by omega, by omega, Lib.hid ⟨_, _, _, _, by rw [HM.out]; exact HN0.out, rfl, rfl⟩⟩
  case round =>
    obtain ⟨i, rfl, hi, hig, HR⟩ := hrel
    by_cases hlt : i < n
    · have hiz : (i : Int) < (n : Int) := by omega
      obtain ⟨nv, lv, NV, LV, H, hNl, hLl⟩ := HR.out
      have e0 : wr.cell? ⟨m, 0, none⟩ = some nv := blk_cell H.obj.head 0 _ rfl
      have HH := Lib.hid H
      have HL := Lib.hid (And.intro hNl hLl)
      clear H hNl hLl
      go_wp2_with fail
      refine wp_region_L [(10, fun w' => w'.cell? ⟨m, 0, none⟩ = some nv)] (by kernel_rfl) ?_ (fun hHeld => ?_)
      · exact (HoldC.cons (e0) HoldC.nil)
      refine wpAnyL_take (i := 0) (oi := _) (v := ?_) rfl (by kernel_rfl) (by kernel_rfl) (by kernel_rfl) (by kernel_rfl) (by kernel_rfl) (fun _ _ _ h => h) (Or.inl ⟨by rfl, ?_⟩) (by assumption) (fun hNew => ?_)
      rotate_left
      · intro w _
        go_simp
        try with_reducible rfl
      clear hHeld
      have hHeld := hNew
      clear hNew
      try simp only [List.getElem_toArray, List.getElem_cons_succ, List.getElem_cons_zero, Act.put, List.setIfInBounds_toArray, List.set_cons_zero, List.set_cons_succ]
      refine wpAnyL_take (i := 1) (oi := _) (v := ?_) rfl (by kernel_rfl) (by kernel_rfl) (by kernel_rfl) (by kernel_rfl) (by kernel_rfl) (fun _ _ _ h => h) (Or.inl ⟨by rfl, ?_⟩) (by assumption) (fun hNew => ?_)
      rotate_left
      · intro w _
        go_simp
        try with_reducible rfl
      clear hHeld
      have hHeld := hNew
      clear hNew
      try simp only [List.getElem_toArray, List.getElem_cons_succ, List.getElem_cons_zero, Act.put, List.setIfInBounds_toArray, List.set_cons_zero, List.set_cons_succ]
      refine wpAnyL_take (i := 2) (oi := _) (v := ?_) rfl (by kernel_rfl) (by kernel_rfl) (by kernel_rfl) (by kernel_rfl) (by kernel_rfl) (fun _ _ _ h => h) (Or.inl ⟨by rfl, ?_⟩) (by assumption) (fun hNew => ?_)
      rotate_left
      · intro w _
        go_simp
        try with_reducible rfl
      clear hHeld
      have hHeld := hNew
      clear hNew
      try simp only [List.getElem_toArray, List.getElem_cons_succ, List.getElem_cons_zero, Act.put, List.setIfInBounds_toArray, List.set_cons_zero, List.set_cons_succ]
      refine wpAnyL_take (i := 3) (oi := _) (v := ?_) rfl (by kernel_rfl) (by kernel_rfl) (by kernel_rfl) (by kernel_rfl) (by kernel_rfl) (fun _ _ _ h => h) (Or.inl ⟨by rfl, ?_⟩) (by assumption) (fun hNew => ?_)
      rotate_left
      · intro w _
        go_simp
        try with_reducible rfl
      clear hHeld
      have hHeld := hNew
      clear hNew
      try simp only [List.getElem_toArray, List.getElem_cons_succ, List.getElem_cons_zero, Act.put, List.setIfInBounds_toArray, List.set_cons_zero, List.set_cons_succ]
      refine wpAnyL_load 0 (i := 4) (oi := _) (v := ?_) rfl rfl (by kernel_rfl) (by kernel_rfl) (by kernel_rfl) (by kernel_rfl) (by kernel_rfl) (by kernel_rfl) (fun _ _ _ h => h) (Or.inl ⟨by rfl, ?_⟩) (by assumption) (fun hNew => ?_)
      rotate_left
      · intro w hSw
        (try dsimp only at hSw)
        go_simp
        try with_reducible rfl
      clear hHeld
      have hHeld := hNew
      clear hNew
      try simp only [List.getElem_toArray, List.getElem_cons_succ, List.getElem_cons_zero, Act.put, List.setIfInBounds_toArray, List.set_cons_zero, List.set_cons_succ]
      refine wpAnyL_ready (rs := [5]) (by kernel_rfl) (by simp) ?_
      refine AllReadyL.cons (o := _) rfl (fun K hK => ?_) AllReadyL.nil
      try simp only [List.getElem_toArray, List.getElem_cons_succ, List.getElem_cons_zero]
      go_simp
      obtain ⟨z, hz⟩ : ∃ z, z = wr.heap.size := ⟨_, rfl⟩
      have HZ := Lib.hid hz
      try rw [← hz]
      obtain ⟨w1, hw1⟩ : ∃ w1, w1 = (wr.alloc (.cells Z64 5)).drew := ⟨_, rfl⟩
      rw [← hw1]
      have hc1 : Chg [] wr w1 := by rw [hw1]; exact ((Chg.refl [] wr).alloc _).drew
      have hB1 : BytesAt w1 (.slice (some ⟨z, 0, none⟩) 64 64) (zeros 64) := (row_of_block (w := w1) (N := z) (l := zeros 64) (by rw [hw1, hz]; exact heap_alloc_new wr _) (by simp [zeros, maxLen])).bytes
      have HB1 := Lib.hid hB1
      have HC1 := Lib.hid hc1
      have e1 := hc1.cell e0 (by simp)
      have hcA : Chg [] w1 (w1.alloc (.cells #[.slice (some ⟨z, 0, none⟩) 64 64] 27)) := (Chg.refl _ _).alloc _
      have H2 := Lib.hid ((HH.out.keep hc1).keep hcA)
      have HB2 := Lib.hid (hB1.chg hcA (by simp))
      have e2 := hcA.cell e1 (by simp)
      have HNW := Lib.hid (news_one (w := w1) (e := 27) (u := .slice (some ⟨z, 0, none⟩) 64 64) rfl)
      have hil : NV.length + 1 ≤ 4161 := by have := HL.out.1; omega
      have hzz : (zeros 64).length = 64 := by simp [zeros]
      have HZ0 : Hid (wA.heap.size ≤ z) := Lib.hid (by rw [hz]; exact HH.out.chg.size)
      clear hB1 hc1 hcA hz hw1
      clear hHeld
      refine hK.out _ _ ?_ (fun hHeld => ?_)
      · exact (HoldC.cons (e1) HoldC.nil)
      clear hK K
      try simp only [List.getElem_toArray, List.getElem_cons_succ, List.getElem_cons_zero, Act.put, List.setIfInBounds_toArray, List.set_cons_zero, List.set_cons_succ]
      refine wpAnyL_ready (rs := [6]) (by kernel_rfl) (by simp) ?_
      refine AllReadyL.cons (o := _) rfl (fun K hK => ?_) AllReadyL.nil
      try simp only [List.getElem_toArray, List.getElem_cons_succ, List.getElem_cons_zero]
      go_simp
      clear hHeld
      refine hK.out _ _ ?_ (fun hHeld => ?_)
      · exact (HoldC.cons (e2) HoldC.nil)
      clear hK K
      try simp only [List.getElem_toArray, List.getElem_cons_succ, List.getElem_cons_zero, Act.put, List.setIfInBounds_toArray, List.set_cons_zero, List.set_cons_succ]
      refine wpAnyL_ready (rs := [7]) (by kernel_rfl) (by simp) ?_
      refine AllReadyL.cons (o := _) rfl (fun K hK => ?_) AllReadyL.nil
      try simp only [List.getElem_toArray, List.getElem_cons_succ, List.getElem_cons_zero]
      try rw [if_pos (by rfl)]
      refine wp_append_no8 (.tmp 23) (.tmp 25) 76 (by rfl) 27 i3 (.slice none 0 0) 1 24 Tryz.underlying76 I3.out.1 I3.out.2.1 I3.out.2.2.1 I3.out.2.2.2 rfl (by omega) (one_z8 rfl no8_slice) nv NV.length NV (by rfl) H2.out.row.1 H2.out.row8.2.2 H2.out.row8.1 ⟨w1.heap.size, 0, none⟩ 1 (by rfl) [.slice (some ⟨z, 0, none⟩) 64 64] rfl HNW.out (fun u hu => by rw [List.mem_singleton.1 hu]; rfl) (fun u hu => by rw [List.mem_singleton.1 hu]; exact no8_slice) (by unfold maxLen; omega) (by omega) ?_
      intro g5 cap5 w5 hrow hg hat hlt5 h8
      have hm5 : w5.heap[m]? = _ := (hg.block m (blk_lt H2.out.obj.head) (fun e => H2.out.obj.row_ne (r := ⟨27, 1, nv, NV.length, NV⟩) (by simp [nrows]) e.symm rfl)).trans H2.out.obj.head
      have p6 := blk_cell hm5 0 _ rfl
      have p7 := blk_frozen hm5 0
      have p8 := blk_lt hm5
      have H3 := Lib.hid (H2.out.put0 (.slice (some ⟨z, 0, none⟩) 64 64) g5 cap5 hg hrow hat h8 HB2.out (fun g hg => by
        obtain rfl : z = g := by simpa [Value.ownBlock] using hg
        exact HZ0.out))
      clear hrow hg hat hlt5 h8 hm5
      clear hHeld
      refine hK.out _ _ ?_ (fun hHeld => ?_)
      · exact (HoldC.cons (p6) HoldC.nil)
      clear hK K
      try simp only [List.getElem_toArray, List.getElem_cons_succ, List.getElem_cons_zero, Act.put, List.setIfInBounds_toArray, List.set_cons_zero, List.set_cons_succ]
      refine wpAnyL_take (i := 8) (oi := _) (v := ?_) rfl (by kernel_rfl) (by kernel_rfl) (by kernel_rfl) (by kernel_rfl) (by kernel_rfl) (fun _ _ _ h => h) (Or.inl ⟨by rfl, ?_⟩) (by assumption) (fun hNew => ?_)
      rotate_left
      · intro w _
        go_simp
        try with_reducible rfl
      clear hHeld
      have hHeld := hNew
      clear hNew
      try simp only [List.getElem_toArray, List.getElem_cons_succ, List.getElem_cons_zero, Act.put, List.setIfInBounds_toArray, List.set_cons_zero, List.set_cons_succ]
      refine wpAnyL_take (i := 9) (oi := _) (v := ?_) rfl (by kernel_rfl) (by kernel_rfl) (by kernel_rfl) (by kernel_rfl) (by kernel_rfl) (fun _ _ _ h => h) (Or.inl ⟨by rfl, ?_⟩) (by assumption) (fun hNew => ?_)
      rotate_left
      · intro w _
        go_simp
        try with_reducible rfl
      clear hHeld
      have hHeld := hNew
      clear hNew
      try simp only [List.getElem_toArray, List.getElem_cons_succ, List.getElem_cons_zero, Act.put, List.setIfInBounds_toArray, List.set_cons_zero, List.set_cons_succ]
      refine wpAnyL_ready (rs := [10]) (by kernel_rfl) (by simp) ?_
      refine AllReadyL.cons (o := _) rfl (fun K hK => ?_) AllReadyL.nil
      try simp only [List.getElem_toArray, List.getElem_cons_succ, List.getElem_cons_zero]
      go_simp
      clear hHeld
      refine hK.out _ _ ?_ (fun hHeld => ?_)
      · exact (HoldC.past (by kernel_rfl) HoldC.nil)
      clear hK K
      try simp only [List.getElem_toArray, List.getElem_cons_succ, List.getElem_cons_zero, Act.put, List.setIfInBounds_toArray, List.set_cons_zero, List.set_cons_succ]
      refine wpAnyL_done (by kernel_rfl) ?_ _
      clear hHeld
      generalize w5.setCell ⟨m, 0, none⟩ (.slice (some ⟨g5, 0, none⟩) (NV.length + 1) cap5) = w6 at *
      clear p6 p7 p8 e0 e1 e2
      have H4 : Hid (∃ nv2 NV2, NewAt wA w6 m nv2 lv NV2 LV ∧ NV2.length = i + 1) := Lib.hid ⟨_, _, H3.out, by have := HL.out.1; simp; exact this⟩
      have HL2 := Lib.hid HL.out.2
      clear HH H2 H3 HB1 HC1 HB2 HNW HZ0 hil
      obtain ⟨nv2, NV2, H5, hN2⟩ := H4.out
      have e0 : w6.cell? ⟨m, 1, none⟩ = some lv := blk_cell H5.obj.head 1 _ rfl
      have HN2 := Lib.hid hN2
      clear H4
      have H4 := Lib.hid H5
      clear H5 hN2
      go_wp2_with fail
      refine wp_region_L [(10, fun w' => w'.cell? ⟨m, 1, none⟩ = some lv)] (by kernel_rfl) ?_ (fun hHeld => ?_)
      · exact (HoldC.cons (e0) HoldC.nil)
      refine wpAnyL_take (i := 0) (oi := _) (v := ?_) rfl (by kernel_rfl) (by kernel_rfl) (by kernel_rfl) (by kernel_rfl) (by kernel_rfl) (fun _ _ _ h => h) (Or.inl ⟨by rfl, ?_⟩) (by assumption) (fun hNew => ?_)
      rotate_left
      · intro w _
        go_simp
        try with_reducible rfl
      clear hHeld
      have hHeld := hNew
      clear hNew
      try simp only [List.getElem_toArray, List.getElem_cons_succ, List.getElem_cons_zero, Act.put, List.setIfInBounds_toArray, List.set_cons_zero, List.set_cons_succ]
      refine wpAnyL_take (i := 1) (oi := _) (v := ?_) rfl (by kernel_rfl) (by kernel_rfl) (by kernel_rfl) (by kernel_rfl) (by kernel_rfl) (fun _ _ _ h => h) (Or.inl ⟨by rfl, ?_⟩) (by assumption) (fun hNew => ?_)
      rotate_left
      · intro w _
        go_simp
        try with_reducible rfl
      clear hHeld
      have hHeld := hNew
      clear hNew
      try simp only [List.getElem_toArray, List.getElem_cons_succ, List.getElem_cons_zero, Act.put, List.setIfInBounds_toArray, List.set_cons_zero, List.set_cons_succ]
      refine wpAnyL_take (i := 2) (oi := _) (v := ?_) rfl (by kernel_rfl) (by kernel_rfl) (by kernel_rfl) (by kernel_rfl) (by kernel_rfl) (fun _ _ _ h => h) (Or.inl ⟨by rfl, ?_⟩) (by assumption) (fun hNew => ?_)
      rotate_left
      · intro w _
        go_simp
        try with_reducible rfl
      clear hHeld
      have hHeld := hNew
      clear hNew
      try simp only [List.getElem_toArray, List.getElem_cons_succ, List.getElem_cons_zero, Act.put, List.setIfInBounds_toArray, List.set_cons_zero, List.set_cons_succ]
      refine wpAnyL_take (i := 3) (oi := _) (v := ?_) rfl (by kernel_rfl) (by kernel_rfl) (by kernel_rfl) (by kernel_rfl) (by kernel_rfl) (fun _ _ _ h => h) (Or.inl ⟨by rfl, ?_⟩) (by assumption) (fun hNew => ?_)
      rotate_left
      · intro w _
        go_simp
        try with_reducible rfl
      clear hHeld
      have hHeld := hNew
      clear hNew
      try simp only [List.getElem_toArray, List.getElem_cons_succ, List.getElem_cons_zero, Act.put, List.setIfInBounds_toArray, List.set_cons_zero, List.set_cons_succ]
      refine wpAnyL_load 0 (i := 4) (oi := _) (v := ?_) rfl rfl (by kernel_rfl) (by kernel_rfl) (by kernel_rfl) (by kernel_rfl) (by kernel_rfl) (by kernel_rfl) (fun _ _ _ h => h) (Or.inl ⟨by rfl, ?_⟩) (by assumption) (fun hNew => ?_)
      rotate_left
      · intro w hSw
        (try dsimp only at hSw)
        go_simp
        try with_reducible rfl
      clear hHeld
      have hHeld := hNew
      clear hNew
      try simp only [List.getElem_toArray, List.getElem_cons_succ, List.getElem_cons_zero, Act.put, List.setIfInBounds_toArray, List.set_cons_zero, List.set_cons_succ]
      refine wpAnyL_ready (rs := [5]) (by kernel_rfl) (by simp) ?_
      refine AllReadyL.cons (o := _) rfl (fun K hK => ?_) AllReadyL.nil
      try simp only [List.getElem_toArray, List.getElem_cons_succ, List.getElem_cons_zero]
      go_simp
      obtain ⟨zb, hz⟩ : ∃ zb, zb = w6.heap.size := ⟨_, rfl⟩
      have HZ := Lib.hid hz
      try rw [← hz]
      obtain ⟨w1b, hw1⟩ : ∃ w1b, w1b = (w6.alloc (.cells Z64 5)).drew := ⟨_, rfl⟩
      rw [← hw1]
      have hc1 : Chg [] w6 w1b := by rw [hw1]; exact ((Chg.refl [] w6).alloc _).drew
      have hB1 : BytesAt w1b (.slice (some ⟨zb, 0, none⟩) 64 64) (zeros 64) := (row_of_block (w := w1b) (N := zb) (l := zeros 64) (by rw [hw1, hz]; exact heap_alloc_new w6 _) (by simp [zeros, maxLen])).bytes
      have HB1 := Lib.hid hB1
      have HC1 := Lib.hid hc1
      have e1 := hc1.cell e0 (by simp)
      have hcA : Chg [] w1b (w1b.alloc (.cells #[.slice (some ⟨zb, 0, none⟩) 64 64] 27)) := (Chg.refl _ _).alloc _
      have H2 := Lib.hid ((H4.out.keep hc1).keep hcA)
      have HB2 := Lib.hid (hB1.chg hcA (by simp))
      have e2 := hcA.cell e1 (by simp)
      have HNW := Lib.hid (news_one (w := w1b) (e := 27) (u := .slice (some ⟨zb, 0, none⟩) 64 64) rfl)
      have hil : LV.length + 1 ≤ 4161 := by have := HL.out.2; omega
      have hzz : (zeros 64).length = 64 := by simp [zeros]
      have HZ0 : Hid (wA.heap.size ≤ zb) := Lib.hid (by rw [hz]; exact H4.out.chg.size)
      clear hB1 hc1 hcA hz hw1
      clear hHeld
      refine hK.out _ _ ?_ (fun hHeld => ?_)
      · exact (HoldC.cons (e1) HoldC.nil)
      clear hK K
      try simp only [List.getElem_toArray, List.getElem_cons_succ, List.getElem_cons_zero, Act.put, List.setIfInBounds_toArray, List.set_cons_zero, List.set_cons_succ]
      refine wpAnyL_ready (rs := [6]) (by kernel_rfl) (by simp) ?_
      refine AllReadyL.cons (o := _) rfl (fun K hK => ?_) AllReadyL.nil
      try simp only [List.getElem_toArray, List.getElem_cons_succ, List.getElem_cons_zero]
      go_simp
      clear hHeld
      refine hK.out _ _ ?_ (fun hHeld => ?_)
      · exact (HoldC.cons (e2) HoldC.nil)
      clear hK K
      try simp only [List.getElem_toArray, List.getElem_cons_succ, List.getElem_cons_zero, Act.put, List.setIfInBounds_toArray, List.set_cons_zero, List.set_cons_succ]
      refine wpAnyL_ready (rs := [7]) (by kernel_rfl) (by simp) ?_
      refine AllReadyL.cons (o := _) rfl (fun K hK => ?_) AllReadyL.nil
      try simp only [List.getElem_toArray, List.getElem_cons_succ, List.getElem_cons_zero]
      try rw [if_pos (by rfl)]
      refine wp_append_no8 (.tmp 33) (.tmp 35) 76 (by rfl) 27 i3 (.slice none 0 0) 1 24 Tryz.underlying76 I3.out.1 I3.out.2.1 I3.out.2.2.1 I3.out.2.2.2 rfl (by omega) (one_z8 rfl no8_slice) lv LV.length LV (by rfl) H2.out.row.2 H2.out.lasts H2.out.row8.2.1 ⟨w1b.heap.size, 0, none⟩ 1 (by rfl) [.slice (some ⟨zb, 0, none⟩) 64 64] rfl HNW.out (fun u hu => by rw [List.mem_singleton.1 hu]; rfl) (fun u hu => by rw [List.mem_singleton.1 hu]; exact no8_slice) (by unfold maxLen; omega) (by omega) ?_
      intro g5b cap5b w5b hrow hg hat hlt5 h8
      have hm5 : w5b.heap[m]? = _ := (hg.block m (blk_lt H2.out.obj.head) (fun e => H2.out.obj.row_ne (r := ⟨27, 1, lv, LV.length, LV⟩) (by simp [nrows]) e.symm rfl)).trans H2.out.obj.head
      have p6 := blk_cell hm5 1 _ rfl
      have p7 := blk_frozen hm5 1
      have p8 := blk_lt hm5
      have H3 := Lib.hid (H2.out.put1 (.slice (some ⟨zb, 0, none⟩) 64 64) g5b cap5b hg hrow hat h8 no8_slice)
      clear hrow hg hat hlt5 h8 hm5
      clear hHeld
      refine hK.out _ _ ?_ (fun hHeld => ?_)
      · exact (HoldC.cons (p6) HoldC.nil)
      clear hK K
      try simp only [List.getElem_toArray, List.getElem_cons_succ, List.getElem_cons_zero, Act.put, List.setIfInBounds_toArray, List.set_cons_zero, List.set_cons_succ]
      refine wpAnyL_take (i := 8) (oi := _) (v := ?_) rfl (by kernel_rfl) (by kernel_rfl) (by kernel_rfl) (by kernel_rfl) (by kernel_rfl) (fun _ _ _ h => h) (Or.inl ⟨by rfl, ?_⟩) (by assumption) (fun hNew => ?_)
      rotate_left
      · intro w _
        go_simp
        try with_reducible rfl
      clear hHeld
      have hHeld := hNew
      clear hNew
      try simp only [List.getElem_toArray, List.getElem_cons_succ, List.getElem_cons_zero, Act.put, List.setIfInBounds_toArray, List.set_cons_zero, List.set_cons_succ]
      refine wpAnyL_take (i := 9) (oi := _) (v := ?_) rfl (by kernel_rfl) (by kernel_rfl) (by kernel_rfl) (by kernel_rfl) (by kernel_rfl) (fun _ _ _ h => h) (Or.inl ⟨by rfl, ?_⟩) (by assumption) (fun hNew => ?_)
      rotate_left
      · intro w _
        go_simp
        try with_reducible rfl
      clear hHeld
      have hHeld := hNew
      clear hNew
      try simp only [List.getElem_toArray, List.getElem_cons_succ, List.getElem_cons_zero, Act.put, List.setIfInBounds_toArray, List.set_cons_zero, List.set_cons_succ]
      refine wpAnyL_ready (rs := [10]) (by kernel_rfl) (by simp) ?_
      refine AllReadyL.cons (o := _) rfl (fun K hK => ?_) AllReadyL.nil
      try simp only [List.getElem_toArray, List.getElem_cons_succ, List.getElem_cons_zero]
      go_simp
      clear hHeld
      refine hK.out _ _ ?_ (fun hHeld => ?_)
      · exact (HoldC.past (by kernel_rfl) HoldC.nil)
      clear hK K
      try simp only [List.getElem_toArray, List.getElem_cons_succ, List.getElem_cons_zero, Act.put, List.setIfInBounds_toArray, List.set_cons_zero, List.set_cons_succ]
      refine wpAnyL_done (by kernel_rfl) ?_ _
      clear hHeld
      generalize w5b.setCell ⟨m, 1, none⟩ (.slice (some ⟨g5b, 0, none⟩) (LV.length + 1) cap5b) = w6b at *
      clear p6 p7 p8 e0 e1 e2
      have HF : Hid (∃ nv lv NV LV, NewAt wA w6b m nv lv NV LV ∧ NV.length = i + 1 ∧ LV.length = i + 1) := Lib.hid ⟨_, _, _, _, H3.out, HN2.out, by have := HL2.out; simp; exact this⟩
      go_wp2
      go_roundg (gk - 1)
      case measure => omega
      case rel => exact ⟨i + 1, by go_num, by omega, by omega, HF⟩
    · have hiz : ¬ (i : Int) < (n : Int) := by omega
      go_wp2
      go_ret2
      obtain ⟨nv, lv, NV, LV, H, hNl, hLl⟩ := HR.out
      obtain ⟨V, F, hd⟩ := H.done (n := n) (by omega) (by omega) hm
      exact ⟨m, V, F, rfl, hd⟩
end Go.Proofs.YtbkajnjboipbhaaGreatDoor.W

/- The reference's LoadDisk. -/
namespace Go.Proofs.YtbkajnjboipbhaaGreatDoor.W
open Go.RowKit
set_option linter.unusedVariables false
set_option linter.unusedSimpArgs false

theorem RDiskAt.congr {w : World} {m : Nat} {V F : List Nat} {d d' : DS} (h : RDiskAt w m V F d) (e1 : d'.n = d.n) (e2 : ∀ k, k < d.n → d'.now k = d.now k) (e3 : d'.since = d.since) (e4 : d'.fuse = d.fuse) (e5 : d'.ops = d.ops) (e6 : d'.dead = d.dead) : RDiskAt w m V F d' := by
  obtain ⟨nv, lv, av, wv, NV, LV, AV, WV, h⟩ := h
  have hr : rcs d' nv lv av wv = rcs d nv lv av wv := by unfold rcs; rw [e4, e5, e6]
  refine ⟨nv, lv, av, wv, NV, LV, AV, WV, by rw [hr, e1]; exact h.obj, fun k hk => ?_, h.lasts, by rw [e3]; exact h.ats, by rw [e3]; exact h.wrote, by rw [e1]; exact h.few, by rw [e4]; exact h.fuse, by rw [e1]; exact h.mem, h.no8, h.sub, h.lim⟩
  rw [e1] at hk
  rw [e2 k hk]
  exact h.now k hk
def DS.part (n i : Nat) (l : List UInt8) : DS := { DS.new n with now := partSec l i }
/-- The reference's disk under way. -/
def RPart (w0 w : World) (m n i : Nat) (l : List UInt8) : Prop := ∃ V F, RDiskAt w m V F (DS.part n i l) ∧ (∀ x ∈ F, w0.heap.size ≤ x) ∧ Chg [] w0 w
theorem RDid.part {w0 w w' : World} {m : Nat} {V F : List Nat} {d : DS} (h : RDid w w' m V F d) (hF : ∀ x ∈ F, w0.heap.size ≤ x) (hV : ∀ x ∈ V, x ∈ F) (hc : Chg [] w0 w) : ∃ V' F', RDiskAt w' m V' F' d ∧ (∀ x ∈ F', w0.heap.size ≤ x) ∧ Chg [] w0 w' := by
  obtain ⟨V', F', a1, a2, a3, a4⟩ := h
  have hs := hc.size
  refine ⟨V', F', a1, fun x hx => ?_, hc.trans a4 (fun x hx => .inr (hF x (hV x hx)))⟩
  rcases a3 x hx with h | h
  · exact hF x h
  · omega

def LoadPost (w : World) (n : Nat) (l : List UInt8) (e : Ending) (w' : World) : Prop := ∃ m V F, e = .returned (.tuple #[.pointer (some ⟨m, 0, none⟩), .int .i64 0]) ∧ RNewly w w' m V F (DS.load n l)
set_option maxHeartbeats 4000000 in
set_option maxRecDepth 100000 in
theorem rload_any (v : Value) (l : List UInt8) (n : Nat) (w : World) (hv : BytesAt w v l) (hl : l.length = n * 64) (h2 : 2 ≤ n) (hm : n ≤ 4160) :
    Calls Tryz.prog 27 #[v] w (LoadPost w n l) := by
  have CN := Lib.hid (rnewdisk_any n w h2 hm)
  have HV := Lib.hid hv
  have HL := Lib.hid hl
  obtain ⟨a, cap, rfl, hlc, hcm, hv3⟩ := hv
  obtain ⟨g, o, rfl, -⟩ := hv3.resolve_left (fun h => by have := h.1; rw [this] at hl; simp at hl; omega)
  have hcm' : cap ≤ 9223372036854775807 := by unfold maxLen at hcm; omega
  obtain ⟨L, hL⟩ : ∃ L, L = l.length := ⟨_, rfl⟩
  have HLL := Lib.hid hL
  rw [← hL] at hl hlc HV
  have HLn := Lib.hid hl
  rw [← hL]
  have hdiv : (L : Int) / 64 = (n : Int) := by omega
  have hmod : (L : Int) % 64 = 0 := by omega
  clear hcm hL hl hv3
  go_enter Tryz.func27, Tryz.ntmps27
  go_wp2_with fail
  refine CN.out.mono ?_
  rintro e w1 ⟨m, V, F, rfl, hd1, hF1, hc1⟩
  have H0 : Hid (RPart w w1 m n 0 l) := Lib.hid ⟨V, F, hd1.congr rfl (fun k _ => by show partSec l 0 k = _; unfold partSec; rw [if_neg (by omega)]; rfl) rfl rfl rfl rfl, hF1, hc1⟩
  clear hd1 hF1 hc1 CN hdiv hmod
  go_wp2_with fail
  go_loopg [6] n (fun g' s6 wr => ∃ i : Nat, s6 = .int .i64 (i : Int) ∧ i ≤ n ∧ n ≤ i + g' ∧ Hid (RPart w wr m n i l))
  case atStart => exact ⟨0, rfl, by omega, by omega, H0⟩
  case round =>
    obtain ⟨i, rfl, hi, hig, HR⟩ := hrel
    clear H0
    obtain ⟨V, F, ⟨nv, lv, av, wv, NV, LV, AV, WV, H⟩, hF, hc⟩ := HR.out
    obtain ⟨⟨gn, cn, rfl⟩, ⟨gl, cl, rfl⟩⟩ := H.form (by show 0 < n; omega)
    have e0 : wr.cell? ⟨m, 0, none⟩ = some (.slice (some ⟨gn, 0, none⟩) n cn) := blk_cell H.head 0 _ rfl
    by_cases hlt : i < n
    · have hiz : (i : Int) < (n : Int) := by omega
      have hi0 : (0 : Int) ≤ (i : Int) := by omega
      have hi1 : (i : Int).toNat = i := by omega
      have hcj : i * 64 < cap := by have := HLn.out; omega
      have hcj2 : ¬ cap = i * 64 := by omega
      have hsl : (secOf l i).length = 64 := secOf_len (HLL.out.symm.trans HLn.out) hlt
      have HSL := Lib.hid hsl
      have hbs : BytesAt wr.drew (.slice (some ⟨g, o + i * 64, none⟩) 64 (cap - i * 64)) (secOf l i) := by
        have h1 : BytesAt wr (.slice (some ⟨g, o, none⟩) L cap) l := HV.out.chg hc (by simp)
        obtain ⟨a', c', he, q1, q2, q3⟩ := h1
        obtain ⟨rfl, _, rfl⟩ := Value.slice.inj he
        have hLl := HLn.out
        refine ⟨_, cap - i * 64, by rw [hsl], by omega, by omega, .inr ⟨g, o + i * 64, rfl, fun j hj => ?_⟩⟩
        rcases q3 with ⟨q3, _⟩ | ⟨g', o', hg', hcell⟩
        · rw [q3] at hsl; simp [secOf] at hsl
        · obtain ⟨rfl, rfl⟩ : g = g' ∧ o = o' := by simpa using hg'
          rw [hsl] at hj
          have h2 := hcell (i * 64 + j) (by rw [← HLL.out]; omega)
          rw [secOf_at (HLL.out.symm.trans HLn.out) hlt j hj, Nat.add_assoc]
          exact h2
      have CC := Lib.hid (rcopy_any (.slice (some ⟨g, o + i * 64, none⟩) 64 (cap - i * 64)) (secOf l i) wr.drew hbs (by omega))
      have hw1 : IntKind.i64.wrap ((i : Int) * 64) = (i : Int) * 64 := by rw [IntKind.wrap_i64]; omega
      have hw2 : IntKind.i64.wrap ((i : Int) + 1) = (i : Int) + 1 := by rw [IntKind.wrap_i64]; omega
      have hw3 : IntKind.i64.wrap (((i : Int) + 1) * 64) = ((i : Int) + 1) * 64 := by rw [IntKind.wrap_i64]; omega
      have h64 : (0 : Int) ≤ (i : Int) * 64 := by omega
      have h64n : ((i : Int) * 64).toNat = i * 64 := by omega
      have h65 : (i : Int) * 64 ≤ ((i : Int) + 1) * 64 := by omega
      have h65n : (((i : Int) + 1) * 64).toNat = i * 64 + 64 := by omega
      have h65c : ((i : Int) + 1) * 64 ≤ (cap : Int) := by have := HLn.out; omega
      have hsub : i * 64 + 64 - i * 64 = 64 := by omega
      have h66 : (0 : Int) ≤ ((i : Int) + 1) * 64 := by omega
      have h67 : (i : Int) * 64 ≤ (i : Int) * 64 + 64 := by omega
      have HH := Lib.hid H
      have HX := Lib.hid (And.intro hF hc)
      clear H hF hc hsl hbs HR
      go_wp2_with fail
      refine wp_region_L [(14, fun w' => w'.cell? ⟨m, 0, none⟩ = some (.slice (some ⟨gn, 0, none⟩) n cn))] (by kernel_rfl) ?_ (fun hHeld => ?_)
      · exact (HoldC.cons (e0) HoldC.nil)
      refine wpAnyL_take (i := 0) (oi := _) (v := ?_) rfl (by kernel_rfl) (by kernel_rfl) (by kernel_rfl) (by kernel_rfl) (by kernel_rfl) (fun _ _ _ h => h) (Or.inl ⟨by rfl, ?_⟩) (by assumption) (fun hNew => ?_)
      rotate_left
      · intro w _
        go_simp
        try with_reducible rfl
      clear hHeld
      have hHeld := hNew
      clear hNew
      try simp only [List.getElem_toArray, List.getElem_cons_succ, List.getElem_cons_zero, Act.put, List.setIfInBounds_toArray, List.set_cons_zero, List.set_cons_succ]
      refine wpAnyL_take (i := 1) (oi := _) (v := ?_) rfl (by kernel_rfl) (by kernel_rfl) (by kernel_rfl) (by kernel_rfl) (by kernel_rfl) (fun _ _ _ h => h) (Or.inl ⟨by rfl, ?_⟩) (by assumption) (fun hNew => ?_)
      rotate_left
      · intro w _
        go_simp
        try with_reducible rfl
      clear hHeld
      have hHeld := hNew
      clear hNew
      try simp only [List.getElem_toArray, List.getElem_cons_succ, List.getElem_cons_zero, Act.put, List.setIfInBounds_toArray, List.set_cons_zero, List.set_cons_succ]
      refine wpAnyL_take (i := 2) (oi := _) (v := ?_) rfl (by kernel_rfl) (by kernel_rfl) (by kernel_rfl) (by kernel_rfl) (by kernel_rfl) (fun _ _ _ h => h) (Or.inl ⟨by rfl, ?_⟩) (by assumption) (fun hNew => ?_)
      rotate_left
      · intro w _
        go_simp
        try with_reducible rfl
      clear hHeld
      have hHeld := hNew
      clear hNew
      try simp only [List.getElem_toArray, List.getElem_cons_succ, List.getElem_cons_zero, Act.put, List.setIfInBounds_toArray, List.set_cons_zero, List.set_cons_succ]
      refine wpAnyL_take (i := 4) (oi := _) (v := ?_) rfl (by kernel_rfl) (by kernel_rfl) (by kernel_rfl) (by kernel_rfl) (by kernel_rfl) (fun _ _ _ h => h) (Or.inl ⟨by rfl, ?_⟩) (by assumption) (fun hNew => ?_)
      rotate_left
      · intro w _
        go_simp
        try with_reducible rfl
      clear hHeld
      have hHeld := hNew
      clear hNew
      try simp only [List.getElem_toArray, List.getElem_cons_succ, List.getElem_cons_zero, Act.put, List.setIfInBounds_toArray, List.set_cons_zero, List.set_cons_succ]
      refine wpAnyL_take (i := 5) (oi := _) (v := ?_) rfl (by kernel_rfl) (by kernel_rfl) (by kernel_rfl) (by kernel_rfl) (by kernel_rfl) (fun _ _ _ h => h) (Or.inl ⟨by rfl, ?_⟩) (by assumption) (fun hNew => ?_)
      rotate_left
      · intro w _
        go_simp
        try with_reducible rfl
      clear hHeld
      have hHeld := hNew
      clear hNew
      try simp only [List.getElem_toArray, List.getElem_cons_succ, List.getElem_cons_zero, Act.put, List.setIfInBounds_toArray, List.set_cons_zero, List.set_cons_succ]
      refine wpAnyL_take (i := 6) (oi := _) (v := ?_) rfl (by kernel_rfl) (by kernel_rfl) (by kernel_rfl) (by kernel_rfl) (by kernel_rfl) (fun _ _ _ h => h) (Or.inl ⟨by rfl, ?_⟩) (by assumption) (fun hNew => ?_)
      rotate_left
      · intro w _
        go_simp
        try with_reducible rfl
      clear hHeld
      have hHeld := hNew
      clear hNew
      try simp only [List.getElem_toArray, List.getElem_cons_succ, List.getElem_cons_zero, Act.put, List.setIfInBounds_toArray, List.set_cons_zero, List.set_cons_succ]
      refine wpAnyL_take (i := 7) (oi := _) (v := ?_) rfl (by kernel_rfl) (by kernel_rfl) (by kernel_rfl) (by kernel_rfl) (by kernel_rfl) (fun _ _ _ h => h) (Or.inl ⟨by rfl, ?_⟩) (by assumption) (fun hNew => ?_)
      rotate_left
      · intro w _
        go_simp
        try with_reducible rfl
      clear hHeld
      have hHeld := hNew
      clear hNew
      try simp only [List.getElem_toArray, List.getElem_cons_succ, List.getElem_cons_zero, Act.put, List.setIfInBounds_toArray, List.set_cons_zero, List.set_cons_succ]
      refine wpAnyL_take (i := 8) (oi := _) (v := ?_) rfl (by kernel_rfl) (by kernel_rfl) (by kernel_rfl) (by kernel_rfl) (by kernel_rfl) (fun _ _ _ h => h) (Or.inl ⟨by rfl, ?_⟩) (by assumption) (fun hNew => ?_)
      rotate_left
      · intro w _
        go_simp
        try with_reducible rfl
      clear hHeld
      have hHeld := hNew
      clear hNew
      try simp only [List.getElem_toArray, List.getElem_cons_succ, List.getElem_cons_zero, Act.put, List.setIfInBounds_toArray, List.set_cons_zero, List.set_cons_succ]
      refine wpAnyL_take (i := 9) (oi := _) (v := ?_) rfl (by kernel_rfl) (by kernel_rfl) (by kernel_rfl) (by kernel_rfl) (by kernel_rfl) (fun _ _ _ h => h) (Or.inl ⟨by rfl, ?_⟩) (by assumption) (fun hNew => ?_)
      rotate_left
      · intro w _
        go_simp
        try with_reducible rfl
      clear hHeld
      have hHeld := hNew
      clear hNew
      try simp only [List.getElem_toArray, List.getElem_cons_succ, List.getElem_cons_zero, Act.put, List.setIfInBounds_toArray, List.set_cons_zero, List.set_cons_succ]
      refine wpAnyL_take (i := 10) (oi := _) (v := ?_) rfl (by kernel_rfl) (by kernel_rfl) (by kernel_rfl) (by kernel_rfl) (by kernel_rfl) (fun _ _ _ h => h) (Or.inl ⟨by rfl, ?_⟩) (by assumption) (fun hNew => ?_)
      rotate_left
      · intro w _
        go_simp
        try with_reducible rfl
      clear hHeld
      have hHeld := hNew
      clear hNew
      try simp only [List.getElem_toArray, List.getElem_cons_succ, List.getElem_cons_zero, Act.put, List.setIfInBounds_toArray, List.set_cons_zero, List.set_cons_succ]
      refine wpAnyL_take (i := 11) (oi := _) (v := ?_) rfl (by kernel_rfl) (by kernel_rfl) (by kernel_rfl) (by kernel_rfl) (by kernel_rfl) (fun _ _ _ h => h) (Or.inl ⟨by rfl, ?_⟩) (by assumption) (fun hNew => ?_)
      rotate_left
      · intro w _
        go_simp
        try with_reducible rfl
      clear hHeld
      have hHeld := hNew
      clear hNew
      try simp only [List.getElem_toArray, List.getElem_cons_succ, List.getElem_cons_zero, Act.put, List.setIfInBounds_toArray, List.set_cons_zero, List.set_cons_succ]
      refine wpAnyL_load 0 (i := 3) (oi := _) (v := ?_) rfl rfl (by kernel_rfl) (by kernel_rfl) (by kernel_rfl) (by kernel_rfl) (by kernel_rfl) (by kernel_rfl) (fun _ _ _ h => h) (Or.inl ⟨by rfl, ?_⟩) (by assumption) (fun hNew => ?_)
      rotate_left
      · intro w hSw
        (try dsimp only at hSw)
        go_simp
        try with_reducible rfl
      clear hHeld
      have hHeld := hNew
      clear hNew
      try simp only [List.getElem_toArray, List.getElem_cons_succ, List.getElem_cons_zero, Act.put, List.setIfInBounds_toArray, List.set_cons_zero, List.set_cons_succ]
      refine wpAnyL_ready (rs := [12]) (by kernel_rfl) (by simp) ?_
      refine AllReadyL.cons (o := _) rfl (fun K hK => ?_) AllReadyL.nil
      try simp only [List.getElem_toArray, List.getElem_cons_succ, List.getElem_cons_zero]
      go_simp
      refine CC.out.mono ?_
      rintro e w2 ⟨v2, rfl, hb2, ho2, hc2⟩
      have hc2 : Chg [] wr w2 := ((Chg.refl [] wr).drew).trans hc2 (by simp)
      have H2 := Lib.hid (HH.out.keep0 hc2)
      have e1 := hc2.cell e0 (by simp)
      have hb2' := hb2.bytes
      have hd2 := H2.out.sec i gn cn (secOf l i) v2 hlt rfl HSL.out hb2' (fun x hx => ⟨hb2'.lt (by intro e; have := HSL.out; rw [e] at this; simp at this) x hx, fun hm => by
        have h1 := ho2 x hx
        have h2 := HH.out.lim x (HH.out.sub x hm)
        have h3 : wr.drew.heap.size = wr.heap.size := rfl
        omega⟩)
      have HD2 : Hid (∃ V' F', RDiskAt (w2.setCell ⟨gn, i, none⟩ v2) m V' F' (DS.part n (i + 1) l) ∧ (∀ x ∈ F', w.heap.size ≤ x) ∧ Chg [] w (w2.setCell ⟨gn, i, none⟩ v2)) := Lib.hid (by
        have hs := HX.out.2.size
        obtain ⟨V', F', a1, a2, a3⟩ := RDid.part hd2 (w0 := w) (fun x hx => by
          rcases List.mem_append.1 hx with hx | hx
          · exact HX.out.1 x hx
          · have h1 := ho2 x (by simpa using hx)
            have h3 : wr.drew.heap.size = wr.heap.size := rfl
            omega) (fun x hx => List.mem_append_left _ (HH.out.sub x hx)) (HX.out.2.trans hc2 (by simp))
        exact ⟨V', F', a1.congr rfl (fun k _ => partSec_upd l i k) rfl rfl rfl rfl, a2, a3⟩)
      have hn1 := H2.out.row.1
      obtain ⟨-, gc, gf, glt⟩ := own_cell hn1 i hlt
      obtain ⟨a2, c2, hv2⟩ := hb2'.slice
      subst hv2
      clear hb2 ho2 hc2 hb2' hd2 hn1 CC
      try go_wp2_with fail
      clear hHeld
      refine hK.out _ _ ?_ (fun hHeld => ?_)
      · exact (HoldC.cons (e1) HoldC.nil)
      clear hK K
      try simp only [List.getElem_toArray, List.getElem_cons_succ, List.getElem_cons_zero, Act.put, List.setIfInBounds_toArray, List.set_cons_zero, List.set_cons_succ]
      refine wpAnyL_take (i := 13) (oi := _) (v := ?_) rfl (by kernel_rfl) (by kernel_rfl) (by kernel_rfl) (by kernel_rfl) (by kernel_rfl) (fun _ _ _ h => h) (Or.inl ⟨by rfl, ?_⟩) (by assumption) (fun hNew => ?_)
      rotate_left
      · intro w _
        go_simp
        try with_reducible rfl
      clear hHeld
      have hHeld := hNew
      clear hNew
      try simp only [List.getElem_toArray, List.getElem_cons_succ, List.getElem_cons_zero, Act.put, List.setIfInBounds_toArray, List.set_cons_zero, List.set_cons_succ]
      refine wpAnyL_ready (rs := [14]) (by kernel_rfl) (by simp) ?_
      refine AllReadyL.cons (o := _) rfl (fun K hK => ?_) AllReadyL.nil
      try simp only [List.getElem_toArray, List.getElem_cons_succ, List.getElem_cons_zero]
      go_simp
      clear hHeld
      refine hK.out _ _ ?_ (fun hHeld => ?_)
      · exact (HoldC.past (by kernel_rfl) HoldC.nil)
      clear hK K
      try simp only [List.getElem_toArray, List.getElem_cons_succ, List.getElem_cons_zero, Act.put, List.setIfInBounds_toArray, List.set_cons_zero, List.set_cons_succ]
      refine wpAnyL_done (by kernel_rfl) ?_ _
      clear hHeld
      generalize w2.setCell ⟨gn, i, none⟩ (.slice a2 (secOf l i).length c2) = w3 at *
      clear gc gf glt e0 e1 H2 HH HX
      obtain ⟨V3, F3, ⟨nv, lv, av, wv, NV, LV, AV, WV, H⟩, hF, hc⟩ := HD2.out
      obtain ⟨⟨gn, cn, rfl⟩, ⟨gl, cl, rfl⟩⟩ := H.form (by show 0 < n; omega)
      have e0 : w3.cell? ⟨m, 0, none⟩ = some (.slice (some ⟨gn, 0, none⟩) n cn) := blk_cell H.head 0 _ rfl
      have e2 : w3.cell? ⟨m, 1, none⟩ = some (.slice (some ⟨gl, 0, none⟩) n cl) := blk_cell H.head 1 _ rfl
      obtain ⟨-, e3, -, -⟩ := own_cell H.row.1 i hlt
      obtain ⟨b1, b2, b3⟩ := H.now i hlt
      obtain ⟨ax, cx, hx⟩ := b2.slice
      rw [hx] at e3 b2
      have CC := Lib.hid (rcopy_any _ _ w3.drew (b2.chg (Chg.drew (Chg.refl [] w3)) (by simp)) (by rw [b1]; omega))
      generalize (DS.part n (i + 1) l).now i = s5 at *
      have HH := Lib.hid H
      have HX := Lib.hid (And.intro hF hc)
      clear H hF hc b1 b2 b3 hx HD2
      go_wp2_with fail
      refine wp_region_L [(14, fun w' => w'.cell? ⟨m, 0, none⟩ = some (.slice (some ⟨gn, 0, none⟩) n cn)), (14, fun w' => w'.cell? ⟨m, 1, none⟩ = some (.slice (some ⟨gl, 0, none⟩) n cl)), (14, fun w' => w'.cell? ⟨gn, i, none⟩ = some (.slice ax s5.length cx))] (by kernel_rfl) ?_ (fun hHeld => ?_)
      · exact (HoldC.cons (e0) (HoldC.cons (e2) (HoldC.cons (e3) HoldC.nil)))
      refine wpAnyL_take (i := 0) (oi := _) (v := ?_) rfl (by kernel_rfl) (by kernel_rfl) (by kernel_rfl) (by kernel_rfl) (by kernel_rfl) (fun _ _ _ h => h) (Or.inl ⟨by rfl, ?_⟩) (by assumption) (fun hNew => ?_)
      rotate_left
      · intro w _
        go_simp
        try with_reducible rfl
      clear hHeld
      have hHeld := hNew
      clear hNew
      try simp only [List.getElem_toArray, List.getElem_cons_succ, List.getElem_cons_zero, Act.put, List.setIfInBounds_toArray, List.set_cons_zero, List.set_cons_succ]
      refine wpAnyL_take (i := 1) (oi := _) (v := ?_) rfl (by kernel_rfl) (by kernel_rfl) (by kernel_rfl) (by kernel_rfl) (by kernel_rfl) (fun _ _ _ h => h) (Or.inl ⟨by rfl, ?_⟩) (by assumption) (fun hNew => ?_)
      rotate_left
      · intro w _
        go_simp
        try with_reducible rfl
      clear hHeld
      have hHeld := hNew
      clear hNew
      try simp only [List.getElem_toArray, List.getElem_cons_succ, List.getElem_cons_zero, Act.put, List.setIfInBounds_toArray, List.set_cons_zero, List.set_cons_succ]
      refine wpAnyL_take (i := 2) (oi := _) (v := ?_) rfl (by kernel_rfl) (by kernel_rfl) (by kernel_rfl) (by kernel_rfl) (by kernel_rfl) (fun _ _ _ h => h) (Or.inl ⟨by rfl, ?_⟩) (by assumption) (fun hNew => ?_)
      rotate_left
      · intro w _
        go_simp
        try with_reducible rfl
      clear hHeld
      have hHeld := hNew
      clear hNew
      try simp only [List.getElem_toArray, List.getElem_cons_succ, List.getElem_cons_zero, Act.put, List.setIfInBounds_toArray, List.set_cons_zero, List.set_cons_succ]
      refine wpAnyL_take (i := 4) (oi := _) (v := ?_) rfl (by kernel_rfl) (by kernel_rfl) (by kernel_rfl) (by kernel_rfl) (by kernel_rfl) (fun _ _ _ h => h) (Or.inl ⟨by rfl, ?_⟩) (by assumption) (fun hNew => ?_)
      rotate_left
      · intro w _
        go_simp
        try with_reducible rfl
      clear hHeld
      have hHeld := hNew
      clear hNew
      try simp only [List.getElem_toArray, List.getElem_cons_succ, List.getElem_cons_zero, Act.put, List.setIfInBounds_toArray, List.set_cons_zero, List.set_cons_succ]
      refine wpAnyL_take (i := 5) (oi := _) (v := ?_) rfl (by kernel_rfl) (by kernel_rfl) (by kernel_rfl) (by kernel_rfl) (by kernel_rfl) (fun _ _ _ h => h) (Or.inl ⟨by rfl, ?_⟩) (by assumption) (fun hNew => ?_)
      rotate_left
      · intro w _
        go_simp
        try with_reducible rfl
      clear hHeld
      have hHeld := hNew
      clear hNew
      try simp only [List.getElem_toArray, List.getElem_cons_succ, List.getElem_cons_zero, Act.put, List.setIfInBounds_toArray, List.set_cons_zero, List.set_cons_succ]
      refine wpAnyL_take (i := 6) (oi := _) (v := ?_) rfl (by kernel_rfl) (by kernel_rfl) (by kernel_rfl) (by kernel_rfl) (by kernel_rfl) (fun _ _ _ h => h) (Or.inl ⟨by rfl, ?_⟩) (by assumption) (fun hNew => ?_)
      rotate_left
      · intro w _
        go_simp
        try with_reducible rfl
      clear hHeld
      have hHeld := hNew
      clear hNew
      try simp only [List.getElem_toArray, List.getElem_cons_succ, List.getElem_cons_zero, Act.put, List.setIfInBounds_toArray, List.set_cons_zero, List.set_cons_succ]
      refine wpAnyL_take (i := 7) (oi := _) (v := ?_) rfl (by kernel_rfl) (by kernel_rfl) (by kernel_rfl) (by kernel_rfl) (by kernel_rfl) (fun _ _ _ h => h) (Or.inl ⟨by rfl, ?_⟩) (by assumption) (fun hNew => ?_)
      rotate_left
      · intro w _
        go_simp
        try with_reducible rfl
      clear hHeld
      have hHeld := hNew
      clear hNew
      try simp only [List.getElem_toArray, List.getElem_cons_succ, List.getElem_cons_zero, Act.put, List.setIfInBounds_toArray, List.set_cons_zero, List.set_cons_succ]
      refine wpAnyL_take (i := 9) (oi := _) (v := ?_) rfl (by kernel_rfl) (by kernel_rfl) (by kernel_rfl) (by kernel_rfl) (by kernel_rfl) (fun _ _ _ h => h) (Or.inl ⟨by rfl, ?_⟩) (by assumption) (fun hNew => ?_)
      rotate_left
      · intro w _
        go_simp
        try with_reducible rfl
      clear hHeld
      have hHeld := hNew
      clear hNew
      try simp only [List.getElem_toArray, List.getElem_cons_succ, List.getElem_cons_zero, Act.put, List.setIfInBounds_toArray, List.set_cons_zero, List.set_cons_succ]
      refine wpAnyL_load 1 (i := 3) (oi := _) (v := ?_) rfl rfl (by kernel_rfl) (by kernel_rfl) (by kernel_rfl) (by kernel_rfl) (by kernel_rfl) (by kernel_rfl) (fun _ _ _ h => h) (Or.inl ⟨by rfl, ?_⟩) (by assumption) (fun hNew => ?_)
      rotate_left
      · intro w hSw
        (try dsimp only at hSw)
        go_simp
        try with_reducible rfl
      clear hHeld
      have hHeld := hNew
      clear hNew
      try simp only [List.getElem_toArray, List.getElem_cons_succ, List.getElem_cons_zero, Act.put, List.setIfInBounds_toArray, List.set_cons_zero, List.set_cons_succ]
      refine wpAnyL_load 0 (i := 8) (oi := _) (v := ?_) rfl rfl (by kernel_rfl) (by kernel_rfl) (by kernel_rfl) (by kernel_rfl) (by kernel_rfl) (by kernel_rfl) (fun _ _ _ h => h) (Or.inl ⟨by rfl, ?_⟩) (by assumption) (fun hNew => ?_)
      rotate_left
      · intro w hSw
        (try dsimp only at hSw)
        go_simp
        try with_reducible rfl
      clear hHeld
      have hHeld := hNew
      clear hNew
      try simp only [List.getElem_toArray, List.getElem_cons_succ, List.getElem_cons_zero, Act.put, List.setIfInBounds_toArray, List.set_cons_zero, List.set_cons_succ]
      refine wpAnyL_take (i := 10) (oi := _) (v := ?_) rfl (by kernel_rfl) (by kernel_rfl) (by kernel_rfl) (by kernel_rfl) (by kernel_rfl) (fun _ _ _ h => h) (Or.inl ⟨by rfl, ?_⟩) (by assumption) (fun hNew => ?_)
      rotate_left
      · intro w _
        go_simp
        try with_reducible rfl
      clear hHeld
      have hHeld := hNew
      clear hNew
      try simp only [List.getElem_toArray, List.getElem_cons_succ, List.getElem_cons_zero, Act.put, List.setIfInBounds_toArray, List.set_cons_zero, List.set_cons_succ]
      refine wpAnyL_load 2 (i := 11) (oi := _) (v := ?_) rfl rfl (by kernel_rfl) (by kernel_rfl) (by kernel_rfl) (by kernel_rfl) (by kernel_rfl) (by kernel_rfl) (fun _ _ _ h => h) (Or.inl ⟨by rfl, ?_⟩) (by assumption) (fun hNew => ?_)
      rotate_left
      · intro w hSw
        (try dsimp only at hSw)
        go_simp
        try with_reducible rfl
      clear hHeld
      have hHeld := hNew
      clear hNew
      try simp only [List.getElem_toArray, List.getElem_cons_succ, List.getElem_cons_zero, Act.put, List.setIfInBounds_toArray, List.set_cons_zero, List.set_cons_succ]
      refine wpAnyL_ready (rs := [12]) (by kernel_rfl) (by simp) ?_
      refine AllReadyL.cons (o := _) rfl (fun K hK => ?_) AllReadyL.nil
      try simp only [List.getElem_toArray, List.getElem_cons_succ, List.getElem_cons_zero]
      go_simp
      refine CC.out.mono ?_
      rintro e w5 ⟨v5, rfl, hb5, ho5, hc5⟩
      have hc5 : Chg [] w3 w5 := ((Chg.refl [] w3).drew).trans hc5 (by simp)
      have H5 := Lib.hid (HH.out.keep0 hc5)
      have p0 := hc5.cell e0 (by simp)
      have p2 := hc5.cell e2 (by simp)
      have p3 := hc5.cell e3 (by simp)
      have h85 := hb5.bytes.no8
      have hd5 := H5.out.last i gl cl v5 hlt rfl h85
      have HD5 : Hid (RPart w (w5.setCell ⟨gl, i, none⟩ v5) m n (i + 1) l) := Lib.hid ⟨_, _, ⟨_, _, _, _, _, _, _, _, hd5.1⟩, HX.out.1, (HX.out.2.trans hc5 (by simp)).trans hd5.2 (fun x hx => .inr (HX.out.1 x (HH.out.sub x hx)))⟩
      obtain ⟨-, gc, gf, glt⟩ := own_cell H5.out.row.2.1 i hlt
      obtain ⟨a5, c5, hv5⟩ := hb5.bytes.slice
      subst hv5
      clear hb5 ho5 hc5 h85 hd5 CC
      try go_wp2_with fail
      clear hHeld
      refine hK.out _ _ ?_ (fun hHeld => ?_)
      · exact (HoldC.cons (p0) (HoldC.cons (p2) (HoldC.cons (p3) HoldC.nil)))
      clear hK K
      try simp only [List.getElem_toArray, List.getElem_cons_succ, List.getElem_cons_zero, Act.put, List.setIfInBounds_toArray, List.set_cons_zero, List.set_cons_succ]
      refine wpAnyL_take (i := 13) (oi := _) (v := ?_) rfl (by kernel_rfl) (by kernel_rfl) (by kernel_rfl) (by kernel_rfl) (by kernel_rfl) (fun _ _ _ h => h) (Or.inl ⟨by rfl, ?_⟩) (by assumption) (fun hNew => ?_)
      rotate_left
      · intro w _
        go_simp
        try with_reducible rfl
      clear hHeld
      have hHeld := hNew
      clear hNew
      try simp only [List.getElem_toArray, List.getElem_cons_succ, List.getElem_cons_zero, Act.put, List.setIfInBounds_toArray, List.set_cons_zero, List.set_cons_succ]
      refine wpAnyL_ready (rs := [14]) (by kernel_rfl) (by simp) ?_
      refine AllReadyL.cons (o := _) rfl (fun K hK => ?_) AllReadyL.nil
      try simp only [List.getElem_toArray, List.getElem_cons_succ, List.getElem_cons_zero]
      go_simp
      clear hHeld
      refine hK.out _ _ ?_ (fun hHeld => ?_)
      · exact (HoldC.past (by kernel_rfl) (HoldC.past (by kernel_rfl) (HoldC.past (by kernel_rfl) HoldC.nil)))
      clear hK K
      try simp only [List.getElem_toArray, List.getElem_cons_succ, List.getElem_cons_zero, Act.put, List.setIfInBounds_toArray, List.set_cons_zero, List.set_cons_succ]
      refine wpAnyL_done (by kernel_rfl) ?_ _
      clear hHeld
      go_wp2
      go_roundg (gk - 1)
      case measure => omega
      case rel => exact ⟨i + 1, by go_num, by omega, by omega, HD5⟩
    · have hiz : ¬ (i : Int) < (n : Int) := by omega
      have hin : i = n := by omega
      have HFIN : Hid (∃ V F, RNewly w wr m V F (DS.load n l)) := Lib.hid (by
        refine ⟨V, F, RDiskAt.congr ⟨_, _, _, _, _, _, _, _, H⟩ rfl (fun k hk => ?_) rfl rfl rfl rfl, hF, hc⟩
        show secOf l k = partSec l i k
        unfold partSec
        have hk : k < n := hk
        rw [if_pos (by omega)])
      clear H hF hc HR hin
      go_wp2
      go_ret2
      obtain ⟨V, F, h⟩ := HFIN.out
      exact ⟨m, V, F, rfl, h⟩
end Go.Proofs.YtbkajnjboipbhaaGreatDoor.W
