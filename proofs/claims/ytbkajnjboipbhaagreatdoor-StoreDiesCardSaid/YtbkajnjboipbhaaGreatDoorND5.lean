/- Texts laid together. -/
import Derived.Test.YtbkajnjboipbhaaGreatDoorND4
import Derived.Test.YtbkajnjboipbhaaGreatDoorND1
import Derived.Shelf.SlSortCmp.NoneTotal
import Derived.Lib.Bytealg
import Derived.Ground.SlsfProg
import Derived.Shelf.Small.Utf8
import Derived.Shelf.Small.Bits
import Derived.Shelf.Strconv.Itoa0
import Derived.Test.YtbkajnjboipbhaaGreatDoorProg
import Derived.Sort.OwnSorted
import Derived.Test.YtbkajnjboipbhaaGreatDoorND3
import Derived.Test.YtbkajnjboipbhaaGreatDoorND2
import Derived.Deep.AppendLies
import Derived.Laws.CopyOwn
/- Package store: Delete. -/
namespace Go.Proofs.YtbkajnjboipbhaaGreatDoor.W
open Go.RowKit
set_option linter.unusedVariables false
set_option linter.unusedSimpArgs false
variable {G : List Nat}

theorem clears_cons (s : SS) (i : Nat) (r : List Nat) : s.clears (i :: r) = if (s.clear i).1 ≠ 0 then s.clear i else (s.clear i).2.clears r := rfl
set_option maxHeartbeats 8000000 in
set_option maxRecDepth 100000 in
theorem stdel_any (q p : Nat) (U : List Nat) (t : Sto) (x : Id) (w : World) (h : StAt G w q p U t) (hxo : okD x) (ho : t.s.d.ops ≤ 800000000) (hw : t.s.d.since.length ≤ 800000) :
    Calls Tryz.prog 33 #[.pointer (some ⟨q, 0, none⟩), idV x] w fun e w' => e = .returned (.int .i64 (t.del x).1) ∧ Std G w w' q p U (t.del x).2 := by
  obtain ⟨sp, mb, Us, φ, N, h, rfl⟩ := h
  obtain ⟨w1, hw1⟩ : ∃ w1, w1 = w.alloc (.cells (idC x) 25) := ⟨_, rfl⟩
  have hc1 : Chg [] w w1 := by rw [hw1]; exact (Chg.refl [] w).alloc _
  have hb1 : w1.heap[w.heap.size]? = some (.cells (idC x) 25 (0, 0)) := by rw [hw1]; exact heap_alloc_new w _
  have H1 := h.keep0 hc1
  obtain ⟨k0, _, _, _⟩ := H1.cells
  have CM := Lib.hid (stmade_any q p w1 k0)
  have CY := Lib.hid (mayid_any x w1)
  have HB := Lib.hid hb1
  have HC1 := Lib.hid hc1
  have HW1 := Lib.hid hw1
  have HH1 := Lib.hid H1
  have HX := Lib.hid hxo
  have HUL := Lib.hid h.slots.uL
  have hql := blk_lt h.head
  have hml := h.map.lt
  have HST : Hid (∀ w', Chg [] w1 w' → Std G w w' q p (q :: mb :: Us) t) := Lib.hid (fun w' hc => ⟨q :: mb :: Us, ⟨sp, mb, Us, φ, N, H1.keep0 hc, rfl⟩, fun y hy => .inl hy, (hc1.trans hc (by simp)).mono (by simp)⟩)
  clear hw1 hb1 hc1 h hxo H1
  by_cases hm : mayId x = true
  · have HG : Hid (t.del x = ((t.s.clears (t.at x)).1, { t with s := (t.s.clears (t.at x)).2 })) := Lib.hid (by unfold Sto.del; rw [if_neg (by simp [hm])])
    have HM := Lib.hid hm
    rw [hm] at CY
    generalize t.del x = r at *
    clear hm
    obtain ⟨xc, xl, xn, xi⟩ := x
    go_enter Tryz.func33, Tryz.ntmps33
    go_wp2_with fail
    rw [← HW1.out]
    refine CM.out.mono ?_
    rintro e w' ⟨rfl, hq⟩
    subst hq
    obtain ⟨m0, m1, m2, m3⟩ := id_cells HB.out
    go_wp2_with fail
    refine CY.out.mono ?_
    rintro e w2 ⟨rfl, hc2⟩
    have HB2 := Lib.hid (hc2.keep HB.out (by simp))
    have HM2 := Lib.hid ((HH1.out.keep0 hc2).mid HX.out)
    have HC2 := Lib.hid (HC1.out.trans hc2 (by simp))
    clear hc2 m0 m1 m2 m3 k0 CM CY HB
    obtain ⟨v, hlk, hlook⟩ := HM2.out.look HX.out
    obtain ⟨k0, k1, k2, _⟩ := HM2.out.cells
    obtain ⟨m0, m1, m2, m3⟩ := id_cells HB2.out
    obtain ⟨a, cap, hv, hl1, hl2, _⟩ := hlook.ints
    have HLK := Lib.hid hlook
    clear hlook
    have hvn : v = .slice a (t.at ⟨xc, xl, xn, xi⟩).length cap := hv
    rw [hvn] at HLK
    subst hv
    go_wp2_with fail
    go_quiet (fail)
    have hcn : Chg [] w2 (w2.drewN nq) := (Chg.refl [] w2).drewN nq
    have HMn := Lib.hid (HM2.out.keep0 hcn)
    have HLn := Lib.hid (HLK.out.keep hcn (by simp) (fun y hy => .inl hy))
    have HCn := Lib.hid (HC2.out.trans hcn (by simp))
    have HBn := Lib.hid (hcn.keep HB2.out (by simp))
    have hatl : (t.at ⟨xc, xl, xn, xi⟩).length ≤ 1000 := by
      rw [Sto.at_may HM.out]
      have h1 := upto_len t.s.rows t.s.rows.length (idKey ⟨xc, xl, xn, xi⟩)
      obtain ⟨S0, rv0, R0, H0⟩ := HM2.out.slots
      have := H0.few
      omega
    clear hlk k0 k1 k2 m0 m1 m2 m3 hcn hl1 hl2 HM2 HLK HB2
    generalize w2.drewN nq = w3 at *
    generalize hal : t.at ⟨xc, xl, xn, xi⟩ = l0 at *
    have HAL := Lib.hid hal
    clear hal
    go_wp2_with fail
    go_loopg [5] l0.length (fun g' s5 wr => ∃ (sk : SS) (l : List Nat) (Uk : List Nat) (φk : Id → Option Value) (Nk : Nat) (a : Option Addr) (cap : Nat), s5 = .slice a l.length cap ∧ l.length ≤ g' ∧ l.length ≤ l0.length ∧ Hid (StMid G wr q p sp mb Uk φk Nk ⟨sk, t.whole⟩ ⟨xc, xl, xn, xi⟩ ∧
      Sto.at ⟨sk, t.whole⟩ ⟨xc, xl, xn, xi⟩ = l ∧ MidLook G wr (q :: mb :: Uk) (.slice a l.length cap) l ∧ t.s.clears l0 = sk.clears l ∧ (∀ y ∈ Uk, y ∈ Us ∨ w.heap.size ≤ y) ∧ Chg (q :: mb :: Us) w wr ∧ wr.heap[w.heap.size]? = some (.cells (idC ⟨xc, xl, xn, xi⟩) 25 (0, 0)) ∧ (∀ y ∈ q :: mb :: Uk, y ≠ w.heap.size) ∧
      sk.d.ops + 2 * l.length ≤ t.s.d.ops + 2 * l0.length ∧ sk.d.since.length + l.length ≤ t.s.d.since.length + l0.length))
    case atStart =>
      refine ⟨t.s, l0, Us, φ, N, a, cap, rfl, Nat.le_refl _, Nat.le_refl _, Lib.hid ⟨HMn.out, HAL.out, HLn.out, rfl, fun y hy => .inl hy, HCn.out.mono (by simp), HBn.out, fun y hy => ?_, by omega, by omega⟩⟩
      rcases List.mem_cons.1 hy with rfl | hy
      · omega
      · rcases List.mem_cons.1 hy with rfl | hy
        · omega
        · have := HUL.out y hy; omega
    case round =>
      obtain ⟨sk, l, Uk, φk, Nk, a, cap, rfl, hlg, hll, HR⟩ := hrel
      obtain ⟨hmid, hat, hlook, hcl, hUk, hck, hbk, hne, hop, hsi⟩ := HR.out
      have HMK := Lib.hid hmid
      have HAT := Lib.hid hat
      have HLK := Lib.hid hlook
      have HCL := Lib.hid hcl
      have HUK := Lib.hid (And.intro hUk (And.intro hck hne))
      have HBK := Lib.hid hbk
      clear HR hmid hat hlook hcl hUk hck hbk hne
      cases l with
      | nil =>
        obtain ⟨k0, k1, k2, _⟩ := HMK.out.cells
        have mm := id_cells HBK.out
        have HR : Hid (r = (0, ⟨sk, t.whole⟩)) := Lib.hid (by rw [HG.out, HCL.out]; rfl)
        clear HG hlg hll
        go_wp2_with fail
        have HMD := Lib.hid (HMK.out.keep0 (Chg.drew (Chg.refl [] wr)))
        refine wp_region_L [(5, fun w' => w'.cell? ⟨q, 2, none⟩ = some (.map (some mb))), (5, fun w' => (w'.cell? ⟨w.heap.size, 0, none⟩ = some (.int .i64 xc) ∧ w'.cell? ⟨w.heap.size, 1, none⟩ = some (.int .i64 xl) ∧ w'.cell? ⟨w.heap.size, 2, none⟩ = some (.int .i64 xn) ∧ w'.cell? ⟨w.heap.size, 3, none⟩ = some (.int .i64 xi)))] (by kernel_rfl) ?_ (fun hHeld => ?_)
        · exact (HoldC.cons (k2) (HoldC.cons (mm) HoldC.nil))
        refine wpAnyL_take (i := 0) (oi := _) (v := ?_) rfl (by kernel_rfl) (by kernel_rfl) (by kernel_rfl) (by kernel_rfl) (by kernel_rfl) (fun _ _ _ h => h) (Or.inl ⟨by rfl, ?_⟩) (by assumption) (fun hNew => ?_)
        rotate_left
        · intro w _
          go_simp
          try with_reducible rfl
        clear hHeld
        have hHeld := hNew
        clear hNew
        try simp only [List.getElem_toArray, List.getElem_cons_succ, List.getElem_cons_zero, Act.put, List.setIfInBounds_toArray, List.set_cons_zero, List.set_cons_succ]
        refine wpAnyL_take (i := 1) (oi := _) (v := ?_) rfl (by kernel_rfl) (by kernel_rfl) (by kernel_rfl) (by kernel_rfl) (by kernel_rfl) (fun _ _ _ h => h) (Or.inl ⟨by rfl, ?_⟩) (by assumption) (fun hNew => ?_)
        rotate_left
        · intro w _
          go_simp
          try with_reducible rfl
        clear hHeld
        have hHeld := hNew
        clear hNew
        try simp only [List.getElem_toArray, List.getElem_cons_succ, List.getElem_cons_zero, Act.put, List.setIfInBounds_toArray, List.set_cons_zero, List.set_cons_succ]
        refine wpAnyL_take (i := 2) (oi := _) (v := ?_) rfl (by kernel_rfl) (by kernel_rfl) (by kernel_rfl) (by kernel_rfl) (by kernel_rfl) (fun _ _ _ h => h) (Or.inl ⟨by rfl, ?_⟩) (by assumption) (fun hNew => ?_)
        rotate_left
        · intro w _
          go_simp
          try with_reducible rfl
        clear hHeld
        have hHeld := hNew
        clear hNew
        try simp only [List.getElem_toArray, List.getElem_cons_succ, List.getElem_cons_zero, Act.put, List.setIfInBounds_toArray, List.set_cons_zero, List.set_cons_succ]
        refine wpAnyL_load 0 (i := 3) (oi := _) (v := ?_) rfl rfl (by kernel_rfl) (by kernel_rfl) (by kernel_rfl) (by kernel_rfl) (by kernel_rfl) (by kernel_rfl) (fun _ _ _ h => h) (Or.inl ⟨by rfl, ?_⟩) (by assumption) (fun hNew => ?_)
        rotate_left
        · intro w hSw
          (try dsimp only at hSw)
          go_simp
          try with_reducible rfl
        clear hHeld
        have hHeld := hNew
        clear hNew
        try simp only [List.getElem_toArray, List.getElem_cons_succ, List.getElem_cons_zero, Act.put, List.setIfInBounds_toArray, List.set_cons_zero, List.set_cons_succ]
        refine wpAnyL_load 1 (i := 4) (oi := _) (v := ?_) rfl rfl (by kernel_rfl) (by kernel_rfl) (by kernel_rfl) (by kernel_rfl) (by kernel_rfl) (by kernel_rfl) (fun _ _ _ h => h) (Or.inl ⟨by rfl, ?_⟩) (by assumption) (fun hNew => ?_)
        rotate_left
        · intro w hSw
          (try dsimp only at hSw)
          go_simp
          try with_reducible rfl
        clear hHeld
        have hHeld := hNew
        clear hNew
        try simp only [List.getElem_toArray, List.getElem_cons_succ, List.getElem_cons_zero, Act.put, List.setIfInBounds_toArray, List.set_cons_zero, List.set_cons_succ]
        refine wpAnyL_ready (rs := [5]) (by kernel_rfl) (by simp) ?_
        refine AllReadyL.cons (o := _) rfl (fun K hK => ?_) AllReadyL.nil
        try simp only [List.getElem_toArray, List.getElem_cons_succ, List.getElem_cons_zero]
        refine wp_del keId wr.drew (.tmp 51) (.tmp 52) 98 (by rfl) 49 Tryz.underlying98 mb Nk φk (by rfl) HMD.out.map ⟨xc, xl, xn, xi⟩ (by rfl) HX.out ?_
        intro w6 hm6 hc6 hs6
        have HF : Hid (Std G w w6 q p (q :: mb :: Us) ⟨sk, t.whole⟩) := Lib.hid (by
          have h1 := HMD.out.gone HAT.out hc6 hm6
          exact h1.std HUK.out.1 ((HUK.out.2.1.drew).trans hc6 (fun y hy => .inl (by rw [List.mem_singleton.1 hy]; simp))))
        clear hm6 hc6 hs6
        clear hHeld
        refine hK.out _ _ ?_ (fun hHeld => ?_)
        · exact (HoldC.past (by kernel_rfl) (HoldC.past (by kernel_rfl) HoldC.nil))
        clear hK K
        try simp only [List.getElem_toArray, List.getElem_cons_succ, List.getElem_cons_zero, Act.put, List.setIfInBounds_toArray, List.set_cons_zero, List.set_cons_succ]
        refine wpAnyL_done (by kernel_rfl) ?_ _
        clear hHeld
        go_wp2_with fail
        go_ret
        rw [HR.out]
        exact ⟨rfl, HF.out⟩
      | cons i rest =>
        obtain ⟨g, o, cap', hv, hl1, hl2, hc0, hmk⟩ := HLK.out.first
        obtain ⟨rfl, _, rfl⟩ := Value.slice.inj hv
        have HMK2 := Lib.hid hmk
        obtain ⟨k0, k1, k2, _⟩ := HMK.out.cells
        have hlen : ((i :: rest).length : Int) = (rest.length : Int) + 1 := by simp
        have hrl : rest.length + 1 ≤ l0.length := hll
        have hgk : rest.length + 1 ≤ gk := hlg
        have hbig : rest.length + 1 ≤ 9223372036854775807 := by omega
        have HMD := Lib.hid (HMK.out.keep0 (Chg.drew (Chg.refl [] wr)))
        have CC := Lib.hid (sclear_any sp p Uk sk (i : Int) wr.drew HMD.out.slots (by simp at hop; omega) (by simp at hsi; omega))
        have HCL2 : Hid (t.s.clears l0 = if (sk.clear (i : Int)).1 ≠ 0 then sk.clear (i : Int) else (sk.clear (i : Int)).2.clears rest) := Lib.hid (by rw [HCL.out, clears_cons])
        obtain ⟨z1, z2, z3⟩ := sk.clear_ok (i : Int)
        have hcn := @SS.clear_not sk (i : Int)
        have hcd := @SS.clear_done sk (i : Int)
        generalize sk.clear (i : Int) = z at *
        obtain ⟨ze, zs⟩ := z
        dsimp only at HCL2 z1 z2 z3 hcn hcd
        have HCN := Lib.hid (And.intro hcn hcd)
        unfold SidPost at CC
        clear hv hmk hlg hll hcn hcd HCL
        rw [show (i :: rest).length = rest.length + 1 from rfl]
        simp only [List.length_cons] at hop hsi
        go_wp2_with fail
        refine wp_region_L [(7, fun w' => w'.cell? ⟨q, 1, none⟩ = some (.pointer (some ⟨sp, 0, none⟩))), (7, fun w' => w'.cell? ⟨g, o, none⟩ = some (.int .i64 (i : Int)))] (by kernel_rfl) ?_ (fun hHeld => ?_)
        · exact (HoldC.cons (k1) (HoldC.cons (hc0) HoldC.nil))
        refine wpAnyL_take (i := 0) (oi := _) (v := ?_) rfl (by kernel_rfl) (by kernel_rfl) (by kernel_rfl) (by kernel_rfl) (by kernel_rfl) (fun _ _ _ h => h) (Or.inl ⟨by rfl, ?_⟩) (by assumption) (fun hNew => ?_)
        rotate_left
        · intro w _
          go_simp
          try with_reducible rfl
        clear hHeld
        have hHeld := hNew
        clear hNew
        try simp only [List.getElem_toArray, List.getElem_cons_succ, List.getElem_cons_zero, Act.put, List.setIfInBounds_toArray, List.set_cons_zero, List.set_cons_succ]
        refine wpAnyL_take (i := 1) (oi := _) (v := ?_) rfl (by kernel_rfl) (by kernel_rfl) (by kernel_rfl) (by kernel_rfl) (by kernel_rfl) (fun _ _ _ h => h) (Or.inl ⟨by rfl, ?_⟩) (by assumption) (fun hNew => ?_)
        rotate_left
        · intro w _
          go_simp
          try with_reducible rfl
        clear hHeld
        have hHeld := hNew
        clear hNew
        try simp only [List.getElem_toArray, List.getElem_cons_succ, List.getElem_cons_zero, Act.put, List.setIfInBounds_toArray, List.set_cons_zero, List.set_cons_succ]
        refine wpAnyL_take (i := 2) (oi := _) (v := ?_) rfl (by kernel_rfl) (by kernel_rfl) (by kernel_rfl) (by kernel_rfl) (by kernel_rfl) (fun _ _ _ h => h) (Or.inl ⟨by rfl, ?_⟩) (by assumption) (fun hNew => ?_)
        rotate_left
        · intro w _
          go_simp
          try with_reducible rfl
        clear hHeld
        have hHeld := hNew
        clear hNew
        try simp only [List.getElem_toArray, List.getElem_cons_succ, List.getElem_cons_zero, Act.put, List.setIfInBounds_toArray, List.set_cons_zero, List.set_cons_succ]
        refine wpAnyL_load 0 (i := 3) (oi := _) (v := ?_) rfl rfl (by kernel_rfl) (by kernel_rfl) (by kernel_rfl) (by kernel_rfl) (by kernel_rfl) (by kernel_rfl) (fun _ _ _ h => h) (Or.inl ⟨by rfl, ?_⟩) (by assumption) (fun hNew => ?_)
        rotate_left
        · intro w hSw
          (try dsimp only at hSw)
          go_simp
          try with_reducible rfl
        clear hHeld
        have hHeld := hNew
        clear hNew
        try simp only [List.getElem_toArray, List.getElem_cons_succ, List.getElem_cons_zero, Act.put, List.setIfInBounds_toArray, List.set_cons_zero, List.set_cons_succ]
        refine wpAnyL_take (i := 4) (oi := _) (v := ?_) rfl (by kernel_rfl) (by kernel_rfl) (by kernel_rfl) (by kernel_rfl) (by kernel_rfl) (fun _ _ _ h => h) (Or.inl ⟨by rfl, ?_⟩) (by assumption) (fun hNew => ?_)
        rotate_left
        · intro w _
          go_simp
          try with_reducible rfl
        clear hHeld
        have hHeld := hNew
        clear hNew
        try simp only [List.getElem_toArray, List.getElem_cons_succ, List.getElem_cons_zero, Act.put, List.setIfInBounds_toArray, List.set_cons_zero, List.set_cons_succ]
        refine wpAnyL_take (i := 5) (oi := _) (v := ?_) rfl (by kernel_rfl) (by kernel_rfl) (by kernel_rfl) (by kernel_rfl) (by kernel_rfl) (fun _ _ _ h => h) (Or.inl ⟨by rfl, ?_⟩) (by assumption) (fun hNew => ?_)
        rotate_left
        · intro w _
          go_simp
          try with_reducible rfl
        clear hHeld
        have hHeld := hNew
        clear hNew
        try simp only [List.getElem_toArray, List.getElem_cons_succ, List.getElem_cons_zero, Act.put, List.setIfInBounds_toArray, List.set_cons_zero, List.set_cons_succ]
        refine wpAnyL_load 1 (i := 6) (oi := _) (v := ?_) rfl rfl (by kernel_rfl) (by kernel_rfl) (by kernel_rfl) (by kernel_rfl) (by kernel_rfl) (by kernel_rfl) (fun _ _ _ h => h) (Or.inl ⟨by rfl, ?_⟩) (by assumption) (fun hNew => ?_)
        rotate_left
        · intro w hSw
          (try dsimp only at hSw)
          go_simp
          try with_reducible rfl
        clear hHeld
        have hHeld := hNew
        clear hNew
        try simp only [List.getElem_toArray, List.getElem_cons_succ, List.getElem_cons_zero, Act.put, List.setIfInBounds_toArray, List.set_cons_zero, List.set_cons_succ]
        refine wpAnyL_ready (rs := [7]) (by kernel_rfl) (by simp) ?_
        refine AllReadyL.cons (o := _) rfl (fun K hK => ?_) AllReadyL.nil
        try simp only [List.getElem_toArray, List.getElem_cons_succ, List.getElem_cons_zero]
        go_simp
        refine CC.out.mono ?_
        rintro e w5 ⟨rfl, hs5⟩
        have HS5 := Lib.hid hs5
        clear hs5 CC
        clear hHeld
        refine hK.out _ _ ?_ (fun hHeld => ?_)
        · exact (HoldC.past (by kernel_rfl) (HoldC.past (by kernel_rfl) HoldC.nil))
        clear hK K
        try simp only [List.getElem_toArray, List.getElem_cons_succ, List.getElem_cons_zero, Act.put, List.setIfInBounds_toArray, List.set_cons_zero, List.set_cons_succ]
        refine wpAnyL_ready (rs := [8]) (by kernel_rfl) (by simp) ?_
        refine AllReadyL.cons (o := _) rfl (fun K hK => ?_) AllReadyL.nil
        try simp only [List.getElem_toArray, List.getElem_cons_succ, List.getElem_cons_zero]
        go_simp
        clear hHeld
        refine hK.out _ _ ?_ (fun hHeld => ?_)
        · exact (HoldC.past (by kernel_rfl) (HoldC.past (by kernel_rfl) HoldC.nil))
        clear hK K
        try simp only [List.getElem_toArray, List.getElem_cons_succ, List.getElem_cons_zero, Act.put, List.setIfInBounds_toArray, List.set_cons_zero, List.set_cons_succ]
        refine wpAnyL_done (by kernel_rfl) ?_ _
        clear hHeld
        have hdw : Chg [] wr wr.drew := Chg.drew (Chg.refl [] wr)
        by_cases he : ze = 0
        · subst he
          rw [if_neg (by simp)] at HCL2
          obtain ⟨hhas, hus, hrows⟩ := HCN.out.2 rfl
          obtain ⟨U5, g1, g2, g3⟩ := HS5.out
          have hid5 : w5.heap[w.heap.size]? = some (.cells (idC ⟨xc, xl, xn, xi⟩) 25 (0, 0)) := g3.keep (hdw.keep HBK.out (by simp)) (fun hm => HUK.out.2.2 _ (by simp [hm]) rfl)
          have c5 := g3.cell (hdw.cell k2 (by simp)) HMD.out.apart.1
          have HM5 := Lib.hid (HMD.out.map.chg g3 HMD.out.apart.2)
          have mm5 := id_cells hid5
          have HI5 := Lib.hid hid5
          have hNN := HMD.out.few
          have HRW := Lib.hid hrows
          have HLK5 := Lib.hid (HMK2.out.keep hdw (by simp) (fun y hy => .inl hy))
          have hc1 : 1 ≤ cap := by omega
          clear hid5 g1 g2 g3 hhas hus hrows k0 k1 k2 hc0
          have h1r : (1 : Int) ≤ (rest.length : Int) + 1 := by omega
          have hcapC : cap = 1 ∨ ¬ cap = 1 := by omega
          rcases hcapC with hcap | hcap
          all_goals
            go_wp2_with fail
            refine wp_region_L [(7, fun w' => w'.cell? ⟨q, 2, none⟩ = some (.map (some mb))), (7, fun w' => (w'.cell? ⟨w.heap.size, 0, none⟩ = some (.int .i64 xc) ∧ w'.cell? ⟨w.heap.size, 1, none⟩ = some (.int .i64 xl) ∧ w'.cell? ⟨w.heap.size, 2, none⟩ = some (.int .i64 xn) ∧ w'.cell? ⟨w.heap.size, 3, none⟩ = some (.int .i64 xi)))] (by kernel_rfl) ?_ (fun hHeld => ?_)
            · exact (HoldC.cons (c5) (HoldC.cons (mm5) HoldC.nil))
            refine wpAnyL_take (i := 0) (oi := _) (v := ?_) rfl (by kernel_rfl) (by kernel_rfl) (by kernel_rfl) (by kernel_rfl) (by kernel_rfl) (fun _ _ _ h => h) (Or.inl ⟨by rfl, ?_⟩) (by assumption) (fun hNew => ?_)
            rotate_left
            · intro w _
              go_simp
              try with_reducible rfl
            clear hHeld
            have hHeld := hNew
            clear hNew
            try simp only [List.getElem_toArray, List.getElem_cons_succ, List.getElem_cons_zero, Act.put, List.setIfInBounds_toArray, List.set_cons_zero, List.set_cons_succ]
            refine wpAnyL_take (i := 1) (oi := _) (v := ?_) rfl (by kernel_rfl) (by kernel_rfl) (by kernel_rfl) (by kernel_rfl) (by kernel_rfl) (fun _ _ _ h => h) (Or.inl ⟨by rfl, ?_⟩) (by assumption) (fun hNew => ?_)
            rotate_left
            · intro w _
              go_simp
              try with_reducible rfl
            clear hHeld
            have hHeld := hNew
            clear hNew
            try simp only [List.getElem_toArray, List.getElem_cons_succ, List.getElem_cons_zero, Act.put, List.setIfInBounds_toArray, List.set_cons_zero, List.set_cons_succ]
            refine wpAnyL_take (i := 2) (oi := _) (v := ?_) rfl (by kernel_rfl) (by kernel_rfl) (by kernel_rfl) (by kernel_rfl) (by kernel_rfl) (fun _ _ _ h => h) (Or.inl ⟨by rfl, ?_⟩) (by assumption) (fun hNew => ?_)
            rotate_left
            · intro w _
              go_simp
              try with_reducible rfl
            clear hHeld
            have hHeld := hNew
            clear hNew
            try simp only [List.getElem_toArray, List.getElem_cons_succ, List.getElem_cons_zero, Act.put, List.setIfInBounds_toArray, List.set_cons_zero, List.set_cons_succ]
            refine wpAnyL_load 0 (i := 3) (oi := _) (v := ?_) rfl rfl (by kernel_rfl) (by kernel_rfl) (by kernel_rfl) (by kernel_rfl) (by kernel_rfl) (by kernel_rfl) (fun _ _ _ h => h) (Or.inl ⟨by rfl, ?_⟩) (by assumption) (fun hNew => ?_)
            rotate_left
            · intro w hSw
              (try dsimp only at hSw)
              go_simp
              try with_reducible rfl
            clear hHeld
            have hHeld := hNew
            clear hNew
            try simp only [List.getElem_toArray, List.getElem_cons_succ, List.getElem_cons_zero, Act.put, List.setIfInBounds_toArray, List.set_cons_zero, List.set_cons_succ]
            refine wpAnyL_load 1 (i := 4) (oi := _) (v := ?_) rfl rfl (by kernel_rfl) (by kernel_rfl) (by kernel_rfl) (by kernel_rfl) (by kernel_rfl) (by kernel_rfl) (fun _ _ _ h => h) (Or.inl ⟨by rfl, ?_⟩) (by assumption) (fun hNew => ?_)
            rotate_left
            · intro w hSw
              (try dsimp only at hSw)
              go_simp
              try with_reducible rfl
            clear hHeld
            have hHeld := hNew
            clear hNew
            try simp only [List.getElem_toArray, List.getElem_cons_succ, List.getElem_cons_zero, Act.put, List.setIfInBounds_toArray, List.set_cons_zero, List.set_cons_succ]
            refine wpAnyL_take (i := 5) (oi := _) (v := ?_) rfl (by kernel_rfl) (by kernel_rfl) (by kernel_rfl) (by kernel_rfl) (by kernel_rfl) (fun _ _ _ h => h) (Or.inl ⟨by rfl, ?_⟩) (by assumption) (fun hNew => ?_)
            rotate_left
            · intro w _
              go_simp
              try with_reducible rfl
            clear hHeld
            have hHeld := hNew
            clear hNew
            try simp only [List.getElem_toArray, List.getElem_cons_succ, List.getElem_cons_zero, Act.put, List.setIfInBounds_toArray, List.set_cons_zero, List.set_cons_succ]
            refine wpAnyL_take (i := 6) (oi := _) (v := ?_) rfl (by kernel_rfl) (by kernel_rfl) (by kernel_rfl) (by kernel_rfl) (by kernel_rfl) (fun _ _ _ h => h) (Or.inl ⟨by rfl, ?_⟩) (by assumption) (fun hNew => ?_)
            rotate_left
            · intro w _
              go_simp
              try with_reducible rfl
            clear hHeld
            have hHeld := hNew
            clear hNew
            try simp only [List.getElem_toArray, List.getElem_cons_succ, List.getElem_cons_zero, Act.put, List.setIfInBounds_toArray, List.set_cons_zero, List.set_cons_succ]
            refine wpAnyL_ready (rs := [7]) (by kernel_rfl) (by simp) ?_
            refine AllReadyL.cons (o := _) rfl (fun K hK => ?_) AllReadyL.nil
            try simp only [List.getElem_toArray, List.getElem_cons_succ, List.getElem_cons_zero]
            have HMW := Lib.hid (HM5.out.chg (Chg.drew (Chg.refl [] w5)) (by simp))
            refine wp_upd keId w5.drew (.tmp 44) (.tmp 45) (.tmp 47) 98 (by rfl) 49 Tryz.underlying98 mb Nk φk (by rfl) HMW.out hNN ⟨xc, xl, xn, xi⟩ (by rfl) HX.out (.slice (some ⟨g, if cap = 1 then o else o + 1, none⟩) rest.length (cap - 1)) (by first | (rw [if_neg hcap]; rfl) | (rw [if_pos hcap, hcap]; rfl)) ?_
            intro w6 hm6 hc6 hs6
            have hF := HMD.out.cleared HM.out HAT.out HS5.out HRW.out ((Chg.drew (Chg.refl [mb] w5)).trans hc6 (fun y hy => .inl hy)) hm6 HLK5.out
            have hid6 : w6.heap[w.heap.size]? = some (.cells (idC ⟨xc, xl, xn, xi⟩) 25 (0, 0)) := hc6.keep (show w5.drew.heap[w.heap.size]? = _ from HI5.out) (by simp; omega)
            have HI6 := Lib.hid hid6
            have HF := Lib.hid hF
            clear hF hm6 hc6 hs6 hid6
            clear hHeld
            refine hK.out _ _ ?_ (fun hHeld => ?_)
            · exact (HoldC.past (by kernel_rfl) (HoldC.past (by kernel_rfl) HoldC.nil))
            clear hK K
            try simp only [List.getElem_toArray, List.getElem_cons_succ, List.getElem_cons_zero, Act.put, List.setIfInBounds_toArray, List.set_cons_zero, List.set_cons_succ]
            refine wpAnyL_done (by kernel_rfl) ?_ _
            clear hHeld
            obtain ⟨U6, f1, f2, f3, f4⟩ := HF.out
            obtain ⟨v6, hlk6, hlook6⟩ := f1.look HX.out
            obtain ⟨k0, k1, k2, _⟩ := f1.cells
            obtain ⟨m0, m1, m2, m3⟩ := id_cells HI6.out
            rw [f2] at hlook6
            obtain ⟨a6, cap6, hv6, _, _, _⟩ := hlook6.ints
            subst hv6
            have HL6 := Lib.hid hlook6
            have HF1 := Lib.hid f1
            have HF2 := Lib.hid f2
            have HF3 := Lib.hid (And.intro f3 f4)
            clear f1 f2 f3 f4 hlook6
            go_wp2_with fail
            go_quiet (fail)
            have hcn : Chg [] w6 (w6.drewN nq) := (Chg.refl [] w6).drewN nq
            have hwr := HUK.out.2.1.size
            have HREL : Hid (StMid G (w6.drewN nq) q p sp mb U6 (updF φk ⟨xc, xl, xn, xi⟩ (.slice (some ⟨g, if cap = 1 then o else o + 1, none⟩) rest.length (cap - 1))) (if (φk ⟨xc, xl, xn, xi⟩).isSome = true then Nk else Nk + 1) ⟨zs, t.whole⟩ ⟨xc, xl, xn, xi⟩ ∧
                Sto.at ⟨zs, t.whole⟩ ⟨xc, xl, xn, xi⟩ = rest ∧ MidLook G (w6.drewN nq) (q :: mb :: U6) (.slice a6 rest.length cap6) rest ∧ t.s.clears l0 = zs.clears rest ∧ (∀ y ∈ U6, y ∈ Us ∨ w.heap.size ≤ y) ∧ Chg (q :: mb :: Us) w (w6.drewN nq) ∧ (w6.drewN nq).heap[w.heap.size]? = some (.cells (idC ⟨xc, xl, xn, xi⟩) 25 (0, 0)) ∧ (∀ y ∈ q :: mb :: U6, y ≠ w.heap.size) ∧
                zs.d.ops + 2 * rest.length ≤ t.s.d.ops + 2 * l0.length ∧ zs.d.since.length + rest.length ≤ t.s.d.since.length + l0.length) := Lib.hid (by
              have hid := blk_lt HBK.out
              refine ⟨HF1.out.keep0 hcn, HF2.out, HL6.out.keep hcn (by simp) (fun y hy => .inl hy), HCL2.out, fun y hy => ?_, ((HUK.out.2.1.drew).trans HF3.out.2 (fun y hy => ?_)).trans hcn (by simp), HI6.out, fun y hy => ?_, by omega, by omega⟩
              · rcases HF3.out.1 y hy with h | h
                · exact HUK.out.1 y h
                · have h' : wr.heap.size ≤ y := h
                  exact .inr (by omega)
              · rcases List.mem_cons.1 hy with rfl | hy
                · exact .inl (by simp)
                · rcases HUK.out.1 y hy with h | h
                  · exact .inl (by simp [h])
                  · exact .inr h
              · rcases List.mem_cons.1 hy with rfl | hy
                · omega
                · rcases List.mem_cons.1 hy with rfl | hy
                  · omega
                  · rcases HF3.out.1 y hy with h | h
                    · exact HUK.out.2.2 y (by simp [h])
                    · have h' : wr.heap.size ≤ y := h
                      omega)
            go_wp2_with fail
            go_roundg rest.length
            case measure => omega
            case rel => exact ⟨zs, rest, U6, _, _, a6, cap6, rfl, Nat.le_refl _, by omega, HREL⟩
        · have HR : Hid (r = (ze, ⟨zs, t.whole⟩)) := Lib.hid (by
            have h1 := HCL2.out
            rw [if_pos he] at h1
            rw [HG.out, h1])
          have HF : Hid (Std G w w5 q p (q :: mb :: Us) ⟨zs, t.whole⟩) := Lib.hid (by
            obtain ⟨U5, h1, h2, h3⟩ := HMD.out.slotsDid HS5.out (HCN.out.1 he)
            have hne : Sto.at ⟨zs, t.whole⟩ ⟨xc, xl, xn, xi⟩ ≠ [] := by
              have h4 := HAT.out
              unfold Sto.at at h4 ⊢
              rw [HCN.out.1 he]
              rw [h4]; simp
            have hd := hdw.size
            refine (h1.full hne).std (fun y hy => ?_) ((HUK.out.2.1.drew).trans h3 (fun y hy => ?_))
            · rcases h2 y hy with h | h
              · exact HUK.out.1 y h
              · have := HUK.out.2.1.size; exact .inr (by omega)
            · rcases HUK.out.1 y hy with h | h
              · exact .inl (by simp [h])
              · exact .inr h)
          have q0 : (ze != 0) = true := by simp [he]
          clear he HG HCL2
          go_wp2
          go_ret
          rw [HR.out]
          exact ⟨rfl, HF.out⟩
  · have hm' : mayId x = false := by simpa using hm
    have HG : Hid (t.del x = (1, t)) := Lib.hid (by unfold Sto.del; rw [if_pos hm'])
    rw [HG.out]
    rw [hm'] at CY
    clear hm hm'
    obtain ⟨xc, xl, xn, xi⟩ := x
    go_enter Tryz.func33, Tryz.ntmps33
    go_wp2_with fail
    rw [← HW1.out]
    refine CM.out.mono ?_
    rintro e w' ⟨rfl, hq⟩
    subst hq
    obtain ⟨m0, m1, m2, m3⟩ := id_cells HB.out
    go_wp2_with fail
    refine CY.out.mono ?_
    rintro e w2 ⟨rfl, hc2⟩
    have HC2 := Lib.hid hc2
    clear hc2
    go_wp2
    go_ret
    exact ⟨rfl, HST.out _ HC2.out⟩
end Go.Proofs.YtbkajnjboipbhaaGreatDoor.W

/- A row of elements of several cells, sorted by slices.SortFunc: what it owns behind it. -/
namespace Go.Proofs.YtbkajnjboipbhaaGreatDoor.W
open Go.RowKit Go.Sort Go.Lib
set_option linter.unusedVariables false
set_option linter.unusedSimpArgs false

theorem flatMap_len {α : Type} (enc : α → List Value) {k : Nat} (hk : ∀ x, (enc x).length = k) : ∀ l : List α, (l.flatMap enc).length = l.length * k
  | [] => by simp
  | x :: r => by rw [List.flatMap_cons, List.length_append, hk, flatMap_len enc hk r, List.length_cons, Nat.add_mul]; omega
theorem flatMap_at {α : Type} [Inhabited α] (enc : α → List Value) {k : Nat} (hk : ∀ x, (enc x).length = k) : ∀ (l : List α) (i j : Nat), i < l.length → j < k → (l.flatMap enc)[i * k + j]? = (enc l[i]!)[j]?
  | [], i, j, h, _ => by simp at h
  | x :: r, 0, j, h, hj => by
    rw [List.flatMap_cons, Nat.zero_mul, Nat.zero_add, List.getElem?_append_left (by rw [hk]; exact hj)]; rfl
  | x :: r, i + 1, j, h, hj => by
    rw [List.flatMap_cons, List.getElem?_append_right (by rw [hk, Nat.add_mul]; omega), hk, show (i + 1) * k + j - k = i * k + j by rw [Nat.add_mul]; omega]
    exact flatMap_at enc hk r i j (by simpa using h) hj
theorem flat_eq {α : Type} [Inhabited α] (enc : α → List Value) {k : Nat} (hk : ∀ x, (enc x).length = k) (l : List α) : (flatK enc k l.toArray).toList = l.flatMap enc := by
  apply List.ext_getElem?
  intro t
  by_cases ht : t < l.length * k
  · have k0 : 0 < k := by
      rcases Nat.eq_zero_or_pos k with h | h
      · subst h; simp at ht
      · exact h
    have hi : t / k < l.length := (Nat.div_lt_iff_lt_mul k0).2 ht
    have hj : t % k < k := Nat.mod_lt _ k0
    have e : t = t / k * k + t % k := by rw [Nat.mul_comm]; exact (Nat.div_add_mod t k).symm
    rw [Array.getElem?_toList, Array.getElem?_eq_getElem (by simpa using ht)]
    have h1 := get_flatK enc k l.toArray t (by simpa using ht)
    rw [getElem!_pos _ t (by simpa using ht)] at h1
    rw [h1]
    conv => rhs; rw [e]
    rw [flatMap_at enc hk l _ _ hi hj]
    have h2 : l.toArray[t / k]! = l[t / k]! := by simp
    rw [h2, getElem!_pos _ (t % k) (by rw [hk]; exact hj), List.getElem?_eq_getElem]
  · rw [List.getElem?_eq_none (by simp; omega), List.getElem?_eq_none (by rw [flatMap_len enc hk]; omega)]

theorem holds_row {α : Type} [Inhabited α] (enc : α → List Value) {k : Nat} (hk : ∀ x, (enc x).length = k) {w : World} {g : Nat} {cur : Array Value} {e : TypeId} {ss : List α} (hb : w.heap[g]? = some (.cells cur e (0, 0))) (ht : cur.toList.take (ss.length * k) = ss.flatMap enc) : HoldsK enc k w g 0 ss.toArray := by
  intro j hj
  have hj' : j < ss.length * k := by simpa using hj
  rw [Nat.zero_add]
  have h1 : (flatK enc k ss.toArray)[j]! = (ss.flatMap enc)[j]'(by rw [flatMap_len enc hk]; exact hj') := by
    rw [getElem!_pos _ j hj]
    have := flat_eq enc hk ss
    rw [← Array.getElem_toList]
    simp only [this]
  have h2 : cur[j]? = some ((ss.flatMap enc)[j]'(by rw [flatMap_len enc hk]; exact hj')) := by
    rw [← Array.getElem?_toList, ← List.getElem?_take_of_lt hj', ht, List.getElem?_eq_getElem]
  refine ⟨?_, blk_frozen hb j⟩
  rw [blk_cell hb j _ h2, h1]; rfl
theorem heap_sortedK {w : World} {g n : Nat} {os : Array Obj} {cur : Array Value} {e : TypeId} {fr : Nat × Nat} (d : Array Value) (hb : w.heap[g]? = some (.cells cur e fr)) :
    (grow (putRow id (Sort.ahead w n) g 0 d) os).heap[g]? = some (.cells (putCells id 0 d cur) e fr) := by
  have hg : g < w.heap.size := (Array.getElem?_eq_some_iff.1 hb).1
  rw [heap_grow_old _ _ (by simpa using hg)]
  simp [putRow, mapBlock, Sort.ahead, Array.getElem?_modify, hb, onCells]
theorem chg_sortedK {α : Type} [Inhabited α] (enc : α → List Value) (k : Nat) {w : World} {g n : Nat} {os : Array Obj} (d : Array α) : Chg [g] w (sortWorldK enc k w g 0 n d os) := by
  refine ⟨rfl, rfl, rfl, by simp [sortWorldK, putRowK], fun j hj hne => ?_⟩
  unfold sortWorldK putRowK
  rw [heap_grow_old _ _ (by simpa using hj)]
  have : g ≠ j := fun e => hne (by simp [e])
  simp [putRow, mapBlock, Sort.ahead, Array.getElem?_modify, this]
theorem take_putK (cur : Array Value) (F : Array Value) (h : F.size ≤ cur.size) : (putCells id 0 F cur).toList.take F.size = F.toList := by
  apply List.ext_getElem?
  intro j
  by_cases hj : j < F.size
  · rw [List.getElem?_take_of_lt hj, Array.getElem?_toList, Array.getElem?_toList]
    simp [putCells, hj, show j < cur.size by omega]
  · rw [List.getElem?_take_eq_none (by omega), List.getElem?_eq_none (by simp; omega)]
theorem ownsRow_sortedK {α : Type} [Inhabited α] (enc : α → List Value) {k : Nat} (hk : ∀ x, (enc x).length = k) {w : World} {base g cap n : Nat} {e : TypeId} {os : Array Obj} {cur : Array Value} {m : Nat} {ts : List α} (hl : ts.length = m) (hbase : base ≤ g) (hb : w.heap[g]? = some (.cells cur e (0, 0)))
    (h1 : m ≤ cap) (h2 : cap ≤ maxLen) (h3 : cur.size = cap * k) :
    (sortWorldK enc k w g 0 n ts.toArray os).ownsRow base e k (.slice (some ⟨g, 0, none⟩) m cap) m (ts.flatMap enc) := by
  refine ⟨by rw [flatMap_len enc hk, hl], .inr ⟨g, cap, _, rfl, hbase, heap_sortedK _ hb, h1, h2, by simp [putCells, h3], ?_⟩⟩
  have hs : (flatK enc k ts.toArray).size = m * k := by simp [hl]
  rw [← hs, take_putK _ _ (by rw [hs, h3]; exact Nat.mul_le_mul_right k h1), flat_eq enc hk]

/-! ### Bytes in their order -/
end Go.Proofs.YtbkajnjboipbhaaGreatDoor.W

/- Ids in their order: plainly. -/
namespace Go.Proofs.YtbkajnjboipbhaaGreatDoor.W
open Go.RowKit Go.Sort
set_option linter.unusedVariables false
set_option linter.unusedSimpArgs false

def cmpI (x y : Int) : Int := if x < y then -1 else if y < x then 1 else 0
def firstNZ : List Int → Int
  | [] => 0
  | x :: r => if x ≠ 0 then x else firstNZ r
def cmpId (x y : Id) : Int := firstNZ [cmpI x.c y.c, cmpI x.l y.l, cmpI x.n y.n, cmpI x.i y.i]
def idLt (a b : Id) : Prop := a.c < b.c ∨ (a.c = b.c ∧ (a.l < b.l ∨ (a.l = b.l ∧ (a.n < b.n ∨ (a.n = b.n ∧ a.i < b.i)))))
instance (a b : Id) : Decidable (idLt a b) := inferInstanceAs (Decidable (_ ∨ _))
theorem cmpI_spec (x y : Int) : (x < y ∧ cmpI x y = -1) ∨ (y < x ∧ cmpI x y = 1) ∨ (x = y ∧ cmpI x y = 0) := by
  unfold cmpI
  by_cases h : x < y
  · exact .inl ⟨h, if_pos h⟩
  · rw [if_neg h]
    by_cases h2 : y < x
    · exact .inr (.inl ⟨h2, if_pos h2⟩)
    · exact .inr (.inr ⟨by omega, if_neg h2⟩)
theorem cmpId_lt (a b : Id) : cmpId a b < 0 ↔ idLt a b := by
  unfold cmpId idLt firstNZ firstNZ firstNZ firstNZ firstNZ
  rcases cmpI_spec a.c b.c with ⟨h1, e1⟩ | ⟨h1, e1⟩ | ⟨h1, e1⟩ <;> rcases cmpI_spec a.l b.l with ⟨h2, e2⟩ | ⟨h2, e2⟩ | ⟨h2, e2⟩ <;> rcases cmpI_spec a.n b.n with ⟨h3, e3⟩ | ⟨h3, e3⟩ | ⟨h3, e3⟩ <;>
    rcases cmpI_spec a.i b.i with ⟨h4, e4⟩ | ⟨h4, e4⟩ | ⟨h4, e4⟩ <;> rw [e1, e2, e3, e4] <;> simp <;> omega
theorem ltI (x y : Id) : ltOf cmpId x y = decide (idLt x y) := by
  unfold ltOf
  rw [Bool.eq_iff_iff]; simp [cmpId_lt]
theorem idLt_irrefl (a : Id) : ¬ idLt a a := by unfold idLt; omega
theorem idLt_trans {a b c : Id} (h1 : idLt a b) (h2 : idLt b c) : idLt a c := by unfold idLt at *; omega
theorem idLt_or (a b : Id) : idLt a b ∨ a = b ∨ idLt b a := by
  obtain ⟨a1, a2, a3, a4⟩ := a
  obtain ⟨b1, b2, b3, b4⟩ := b
  unfold idLt
  simp only [Id.mk.injEq]
  omega
theorem swoI : SWO (ltOf cmpId) where
  irrefl x := by rw [ltI]; simp [idLt_irrefl]
  trans x y z h1 h2 := by
    rw [ltI, decide_eq_true_eq] at *
    exact idLt_trans h1 h2
  ntrans x y z h1 h2 := by
    rw [ltI, decide_eq_false_iff_not] at *
    unfold idLt at *
    omega
theorem totI (x y : Id) (h1 : ltOf cmpId x y = false) (h2 : ltOf cmpId y x = false) : x = y := by
  rw [ltI, decide_eq_false_iff_not] at *
  rcases idLt_or x y with h | h | h
  · exact absurd h h1
  · exact h
  · exact absurd h h2
abbrev leI (x y : Id) : Bool := !ltOf cmpId y x
theorem leI_iff (x y : Id) : leI x y = true ↔ idLt x y ∨ x = y := by
  unfold leI
  rw [ltI]
  simp only [Bool.not_eq_true', decide_eq_false_iff_not]
  rcases idLt_or x y with h | h | h
  · exact ⟨fun _ => .inl h, fun _ h2 => idLt_irrefl _ (idLt_trans h h2)⟩
  · subst h; exact ⟨fun _ => .inr rfl, fun _ => idLt_irrefl _⟩
  · exact ⟨fun h2 => absurd h h2, fun h2 => by
      rcases h2 with h2 | h2
      · exact absurd (idLt_trans h h2) (idLt_irrefl _)
      · subst h2; exact absurd h (idLt_irrefl _)⟩
theorem leI_trans (a b c : Id) (h1 : leI a b = true) (h2 : leI b c = true) : leI a c = true := by
  rw [leI_iff] at *
  rcases h1 with h1 | rfl
  · rcases h2 with h2 | rfl
    · exact .inl (idLt_trans h1 h2)
    · exact .inl h1
  · exact h2
theorem leI_total (a b : Id) : (leI a b || leI b a) = true := by
  rw [Bool.or_eq_true, leI_iff, leI_iff]
  rcases idLt_or a b with h | h | h
  · exact .inl (.inl h)
  · exact .inl (.inr h)
  · exact .inr (.inl h)
/-- Sorted rows of the same ids are one. -/
theorem sortedI_eq {l m : List Id} (hl : l.Nodup) (hm : m.Nodup) (h : ∀ x, x ∈ l ↔ x ∈ m) : l.mergeSort leI = m.mergeSort leI := by
  have hp : l.Perm m := (List.perm_ext_iff_of_nodup hl hm).2 h
  have hs : ∀ l : List Id, (l.mergeSort leI).Pairwise (fun x y => leI x y = true) := fun l => List.pairwise_mergeSort leI_trans leI_total l
  refine List.Perm.eq_of_pairwise (le := fun x y => leI x y = true) (fun a b _ _ h1 h2 => ?_) (hs _) (hs _) ((List.mergeSort_perm _ _).trans (hp.trans (List.mergeSort_perm _ _).symm))
  rw [leI_iff] at h1 h2
  rcases h1 with h1 | h1
  · rcases h2 with h2 | h2
    · exact absurd (idLt_trans h1 h2) (idLt_irrefl _)
    · exact h2.symm
  · exact h1

/-! ### The ids of a store -/
def isFirst (rows : List SRow) (j : Nat) : Bool := (rows.getD j noRow).used && (upto rows j (rows.getD j noRow).key).isEmpty
def firsts (rows : List SRow) : List Id := ((List.range rows.length).filter (isFirst rows)).map (fun j => unId (rows.getD j noRow).key)
def Sto.ids (t : Sto) : List Id := (firsts t.s.rows).mergeSort leI
theorem row_mem {rows : List SRow} {j : Nat} (h : j < rows.length) : rows.getD j noRow ∈ rows := by
  rw [List.getD_eq_getElem?_getD, List.getElem?_eq_getElem h]
  exact List.getElem_mem _
theorem mem_isFirst {rows : List SRow} {j : Nat} : isFirst rows j = true ↔ (rows.getD j noRow).used = true ∧ ∀ k, k < j → ¬ ((rows.getD k noRow).used = true ∧ (rows.getD k noRow).key = (rows.getD j noRow).key) := by
  unfold isFirst
  rw [Bool.and_eq_true, List.isEmpty_iff]
  constructor
  · rintro ⟨h1, h2⟩
    refine ⟨h1, fun k hk hh => ?_⟩
    have : k ∈ upto rows j (rows.getD j noRow).key := upto_mem.2 ⟨hk, hh.1, hh.2⟩
    rw [h2] at this
    cases this
  · rintro ⟨h1, h2⟩
    refine ⟨h1, ?_⟩
    cases hu : upto rows j (rows.getD j noRow).key with
    | nil => rfl
    | cons k r =>
      have : k ∈ upto rows j (rows.getD j noRow).key := by rw [hu]; simp
      obtain ⟨a, b, c⟩ := upto_mem.1 this
      exact absurd ⟨b, c⟩ (h2 k a)
theorem mem_firsts {t : Sto} (hk : keysOk t.s.rows) (x : Id) : x ∈ firsts t.s.rows ↔ t.at x ≠ [] := by
  unfold firsts
  rw [List.mem_map]
  constructor
  · rintro ⟨j, hj, rfl⟩
    obtain ⟨h1, h2⟩ := List.mem_filter.1 hj
    have hjl := List.mem_range.1 h1
    obtain ⟨hu, _⟩ := mem_isFirst.1 h2
    obtain ⟨hm, he⟩ := un_back (hk _ (row_mem hjl) hu)
    rw [Sto.at_may hm]
    intro h0
    have : j ∈ upto t.s.rows t.s.rows.length (idKey (unId (t.s.rows.getD j noRow).key)) := upto_mem.2 ⟨hjl, hu, he⟩
    rw [h0] at this
    cases this
  · intro h
    by_cases hm : mayId x = true
    · rw [Sto.at_may hm] at h
      cases hu : upto t.s.rows t.s.rows.length (idKey x) with
      | nil => exact absurd hu h
      | cons j r =>
        have hj : j ∈ upto t.s.rows t.s.rows.length (idKey x) := by rw [hu]; simp
        obtain ⟨a, b, c⟩ := upto_mem.1 hj
        refine ⟨j, List.mem_filter.2 ⟨List.mem_range.2 a, mem_isFirst.2 ⟨b, fun k hkj hh => ?_⟩⟩, by rw [c, (un_key hm).1]⟩
        rw [c] at hh
        have hk2 : k ∈ upto t.s.rows t.s.rows.length (idKey x) := upto_mem.2 ⟨by omega, hh.1, hh.2⟩
        have hpw : (upto t.s.rows t.s.rows.length (idKey x)).Pairwise (· < ·) := List.pairwise_lt_range.filter _
        rw [hu] at hpw hk2
        rcases List.mem_cons.1 hk2 with h3 | h3
        · omega
        · have := (List.pairwise_cons.1 hpw).1 k h3
          omega
    · rw [Sto.at_not (by simpa using hm)] at h
      exact absurd rfl h
theorem firsts_nodup {t : Sto} (hk : keysOk t.s.rows) : (firsts t.s.rows).Nodup := by
  unfold firsts List.Nodup
  rw [List.pairwise_map]
  refine List.Pairwise.imp_of_mem ?_ (List.pairwise_lt_range.filter (isFirst t.s.rows))
  intro a b ha hb hab e
  obtain ⟨ha1, ha2⟩ := List.mem_filter.1 ha
  obtain ⟨hb1, hb2⟩ := List.mem_filter.1 hb
  obtain ⟨hau, _⟩ := mem_isFirst.1 ha2
  obtain ⟨hbu, hb3⟩ := mem_isFirst.1 hb2
  have h1 := (un_back (hk _ (row_mem (List.mem_range.1 ha1)) hau)).2
  have h2 := (un_back (hk _ (row_mem (List.mem_range.1 hb1)) hbu)).2
  exact hb3 a hab ⟨hau, by rw [h1, h2, e]⟩
theorem Sto.mem_ids {t : Sto} (hk : keysOk t.s.rows) (x : Id) : x ∈ t.ids ↔ t.at x ≠ [] := by
  unfold Sto.ids
  rw [List.mem_mergeSort, mem_firsts hk]
theorem Sto.ids_rise {t : Sto} (hk : keysOk t.s.rows) : t.ids.Pairwise idLt := by
  have h1 : t.ids.Pairwise (fun x y => leI x y = true) := List.pairwise_mergeSort leI_trans leI_total _
  have h2 : t.ids.Nodup := ((List.mergeSort_perm _ _).nodup_iff).2 (firsts_nodup hk)
  refine List.Pairwise.imp₂ (fun {a b} h3 h4 => ?_) h1 h2
  rw [leI_iff] at h3
  rcases h3 with h3 | h3
  · exact h3
  · exact absurd h3 h4
theorem Sto.ids_len (t : Sto) : t.ids.length ≤ t.s.rows.length := by
  unfold Sto.ids firsts
  rw [List.length_mergeSort, List.length_map]
  have := List.length_filter_le (isFirst t.s.rows) (List.range t.s.rows.length)
  rwa [List.length_range] at this
end Go.Proofs.YtbkajnjboipbhaaGreatDoor.W

/-
  DERIVED: THE SHELF's CONTRACTS AT THIS DUMP, IN PLAIN WORDS (tools/lay-plain.mjs out of 'TryzShelf.lean', which tools/lay-shelf.mjs wrote): THE SAME DECLARATIONS UNDER THE SAME NAMES: 'import', 'namespace', 'open', 'def', 'theorem' AND NOTHING ELSE: no command of the shelf's: FOR A HAND-IN. Each laying: the table of numbers ('.._ren') and one theorem, a field a fact of the dump's own or the kernel's comparison; each contract: ONE APPLICATION.
-/
namespace Go.Proofs
open Go.Shelf
def Tryz.laysSortE_ren : Go.Shelf.Ren := ⟨fun | 6 => 61 | 15 => 103 | 14 => 102 | 28 => 133 | 29 => 134 | 20 => 125 | 21 => 126 | 22 => 127 | 23 => 128 | 24 => 129 | 25 => 130 | 26 => 131 | 27 => 132 | 46 => 147 | 47 => 148 | 48 => 149 | 49 => 150 | 50 => 151 | 57 => 157 | n => n, fun | 22 => 36 | 24 => 25 | 25 => 106 | 3 => 3 | 39 => 54 | 0 => 0 | 53 => 178 | 55 => 180 | 4 => 4 | 46 => 171 | 45 => 170 | 50 => 175 | 5 => 5 | 9 => 9 | 66 => 190 | 70 => 194 | 76 => 197 | 77 => 198 | n => n, fun | n => n⟩
theorem Tryz.laysSortE : Go.Proofs.SlLaysF0.n6 Tryz.prog Tryz.laysSortE_ren := {
  mixed := by kernel_rfl
  f6 := ⟨Tryz.f61.name, by decide, Tryz.func61.trans (congrArg some (by kernel_rfl))⟩
  f14 := ⟨Tryz.f102.name, by decide, Tryz.func102.trans (congrArg some (by kernel_rfl))⟩
  f15 := Tryz.func103.trans (congrArg some (by kernel_rfl))
  f20 := ⟨Tryz.f125.name, by decide, Tryz.func125.trans (congrArg some (by kernel_rfl))⟩
  f21 := ⟨Tryz.f126.name, by decide, Tryz.func126.trans (congrArg some (by kernel_rfl))⟩
  f22 := ⟨Tryz.f127.name, by decide, Tryz.func127.trans (congrArg some (by kernel_rfl))⟩
  f23 := ⟨Tryz.f128.name, by decide, Tryz.func128.trans (congrArg some (by kernel_rfl))⟩
  f24 := ⟨Tryz.f129.name, by decide, Tryz.func129.trans (congrArg some (by kernel_rfl))⟩
  f25 := ⟨Tryz.f130.name, by decide, Tryz.func130.trans (congrArg some (by kernel_rfl))⟩
  f26 := ⟨Tryz.f131.name, by decide, Tryz.func131.trans (congrArg some (by kernel_rfl))⟩
  f27 := ⟨Tryz.f132.name, by decide, Tryz.func132.trans (congrArg some (by kernel_rfl))⟩
  f28 := Tryz.func133.trans (congrArg some (by kernel_rfl))
  f29 := Tryz.func134.trans (congrArg some (by kernel_rfl))
  f46 := ⟨Tryz.f147.name, by decide, Tryz.func147.trans (congrArg some (by kernel_rfl))⟩
  f47 := Tryz.func148.trans (congrArg some (by kernel_rfl))
  f48 := Tryz.func149.trans (congrArg some (by kernel_rfl))
  f49 := ⟨Tryz.f150.name, by decide, Tryz.func150.trans (congrArg some (by kernel_rfl))⟩
  f50 := ⟨Tryz.f151.name, by decide, Tryz.func151.trans (congrArg some (by kernel_rfl))⟩
  f57 := ⟨Tryz.f157.name, by decide, Tryz.func157.trans (congrArg some (by kernel_rfl))⟩
  t0 := Tryz.underlying0
  a0 := Tryz.isAgg0
  z0 := Tryz.sizeOf0
  v0 := Tryz.zeroValue0
  t3 := Tryz.underlying3
  a3 := Tryz.isAgg3
  z3 := Tryz.sizeOf3
  v3 := Tryz.zeroValue3
  t4 := Tryz.underlying4
  a4 := Tryz.isAgg4
  z4 := Tryz.sizeOf4
  v4 := Tryz.zeroValue4
  t5 := Tryz.underlying5
  a5 := Tryz.isAgg5
  z5 := Tryz.sizeOf5
  v5 := Tryz.zeroValue5
  t9 := Tryz.underlying9
  a9 := Tryz.isAgg9
  z9 := Tryz.sizeOf9
  v9 := Tryz.zeroValue9
  t22 := Tryz.underlying36
  a22 := Tryz.isAgg36
  z22 := Tryz.sizeOf36
  v22 := Tryz.zeroValue36
  t25 := Tryz.underlying106
  a25 := Tryz.isAgg106
  z25 := Tryz.sizeOf106
  v25 := Tryz.zeroValue106
  t39 := Tryz.underlying54
  a39 := Tryz.isAgg54
  z39 := Tryz.sizeOf54
  v39 := Tryz.zeroValue54
  t45 := Tryz.underlying170
  a45 := Tryz.isAgg170
  z45 := Tryz.sizeOf170
  v45 := Tryz.zeroValue170
  t46 := Tryz.underlying171
  a46 := Tryz.isAgg171
  z46 := Tryz.sizeOf171
  v46 := Tryz.zeroValue171
  t50 := Tryz.underlying175
  a50 := Tryz.isAgg175
  z50 := Tryz.sizeOf175
  v50 := Tryz.zeroValue175
  t53 := Tryz.underlying178
  a53 := Tryz.isAgg178
  z53 := Tryz.sizeOf178
  v53 := Tryz.zeroValue178
  t55 := Tryz.underlying180
  a55 := Tryz.isAgg180
  z55 := Tryz.sizeOf180
  v55 := Tryz.zeroValue180
  t66 := Tryz.underlying190
  a66 := Tryz.isAgg190
  z66 := Tryz.sizeOf190
  v66 := Tryz.zeroValue190
  t70 := Tryz.underlying194
  a70 := Tryz.isAgg194
  z70 := Tryz.sizeOf194
  v70 := Tryz.zeroValue194
  t76 := Tryz.underlying197
  a76 := Tryz.isAgg197
  z76 := Tryz.sizeOf197
  v76 := Tryz.zeroValue197
  t77 := Tryz.underlying198
  a77 := Tryz.isAgg198
  z77 := Tryz.sizeOf198
  v77 := Tryz.zeroValue198 }
end Go.Proofs

/- Package store: the order that List sorts by. -/
namespace Go.Proofs.YtbkajnjboipbhaaGreatDoor.W
open Go.RowKit Go.Sort
set_option linter.unusedVariables false
set_option linter.unusedSimpArgs false

theorem isnan_any (x : Int) (w : World) : Calls Tryz.prog 104 #[.int .i64 x] w fun e w' => e = .returned (.bool false) ∧ w = w' := by
  go_enter Tryz.func104, Tryz.ntmps104
  go_wp2
  go_ret
  exact ⟨by simp, rfl⟩
set_option maxHeartbeats 2000000 in
theorem ccmp_any (x y : Int) (w : World) : Calls Tryz.prog 64 #[.int .i64 x, .int .i64 y] w fun e w' => e = .returned (.int .i64 (cmpI x y)) ∧ w = w' := by
  unfold cmpI
  by_cases h : x < y
  · rw [if_pos h]
    go_enter Tryz.func64, Tryz.ntmps64
    go_wp2_with (go_at_call 104; refine (isnan_any _ _).mono ?_; rintro e w' ⟨rfl, hq⟩; subst hq)
    go_ret
    exact ⟨rfl, rfl⟩
  · rw [if_neg h]
    by_cases h2 : y < x
    · rw [if_pos h2]
      go_enter Tryz.func64, Tryz.ntmps64
      go_wp2_with (go_at_call 104; refine (isnan_any _ _).mono ?_; rintro e w' ⟨rfl, hq⟩; subst hq)
      go_ret
      exact ⟨rfl, rfl⟩
    · rw [if_neg h2]
      go_enter Tryz.func64, Tryz.ntmps64
      go_wp2_with (go_at_call 104; refine (isnan_any _ _).mono ?_; rintro e w' ⟨rfl, hq⟩; subst hq)
      go_ret
      exact ⟨rfl, rfl⟩
theorem firstNZ_zero : ∀ (l : List Int), (∀ x ∈ l, x = 0) → firstNZ l = 0
  | [], _ => rfl
  | x :: r, h => by
    unfold firstNZ
    rw [if_neg (by simpa using h x (by simp))]
    exact firstNZ_zero r (fun y hy => h y (List.mem_cons_of_mem _ hy))
theorem firstNZ_at : ∀ (l : List Int) (j : Nat), (∀ k, k < j → l.getD k 0 = 0) → l.getD j 0 ≠ 0 → firstNZ l = l.getD j 0
  | [], j, _, h => by simp at h
  | x :: r, 0, _, h => by
    unfold firstNZ
    simp at h ⊢
    intro h0
    exact absurd h0 h
  | x :: r, j + 1, h0, h => by
    have hx := h0 0 (by omega)
    simp at hx
    unfold firstNZ
    rw [if_neg (by simp [hx])]
    simp only [List.getD_cons_succ] at h ⊢
    exact firstNZ_at r j (fun k hk => by have := h0 (k + 1) (by omega); simpa using this) h
set_option maxHeartbeats 2000000 in
set_option maxRecDepth 100000 in
theorem cor_any (l : List Int) (hl : l.length = 4) (g : Nat) (w : World) (hc : ∀ j, j < 4 → w.cell? ⟨g, j, none⟩ = some (.int .i64 (l.getD j 0))) : Calls Tryz.prog 63 #[.slice (some ⟨g, 0, none⟩) 4 4] w fun e w' => e = .returned (.int .i64 (firstNZ l)) ∧ w = w' := by
  have HC := Lib.hid hc
  clear hc
  go_enter Tryz.func63, Tryz.ntmps63
  go_wp2_with fail
  go_loopg [8] 4 (fun g' s8 wr => ∃ j : Nat, s8 = .int .i64 (j : Int) ∧ j ≤ 4 ∧ 4 ≤ j + g' ∧ Hid (wr = w ∧ ∀ k, k < j → l.getD k 0 = 0))
  case atStart => exact ⟨0, rfl, by omega, by omega, Lib.hid ⟨rfl, fun k hk => by omega⟩⟩
  case round =>
    obtain ⟨j, rfl, hj, hjg, HJ⟩ := hrel
    obtain ⟨rfl, hz⟩ := HJ.out
    have HZ := Lib.hid hz
    clear hz HJ
    by_cases hlt : j < 4
    · have c0 := HC.out j hlt
      have hjz : (j : Int) < 4 := by omega
      have HV : Hid (l.getD j 0 ≠ 0 → firstNZ l = l.getD j 0) := Lib.hid (fun h => firstNZ_at l j HZ.out h)
      have HN : Hid (l.getD j 0 = 0 → ∀ k, k < j + 1 → l.getD k 0 = 0) := Lib.hid (fun h k hk => by
        rcases Nat.lt_or_ge k j with h1 | h1
        · exact HZ.out k h1
        · obtain rfl : k = j := by omega
          exact h)
      generalize l.getD j 0 = v at *
      by_cases hv : v = 0
      · subst hv
        go_wp2_with fail
        go_roundg (gk - 1)
        case measure => omega
        case rel => exact ⟨j + 1, by go_num, by omega, by omega, Lib.hid ⟨rfl, HN.out (by simp)⟩⟩
      · have q0 : (v != 0) = true := by simp [hv]
        have HW := Lib.hid (HV.out hv)
        clear hv
        go_wp2_with fail
        go_ret
        rw [HW.out]
        exact ⟨rfl, rfl⟩
    · have hj4 : j = 4 := by omega
      subst hj4
      have HW : Hid (firstNZ l = 0) := Lib.hid (firstNZ_zero l (fun x hx => by
        obtain ⟨k, hk, rfl⟩ := List.getElem_of_mem hx
        have := HZ.out k (by omega)
        rwa [List.getD_eq_getElem?_getD, List.getElem?_eq_getElem hk] at this))
      go_wp2
      go_ret
      rw [HW.out]
      exact ⟨rfl, rfl⟩
end Go.Proofs.YtbkajnjboipbhaaGreatDoor.W

/- Package store: the order that List sorts by; the sort. -/
namespace Go.Proofs.YtbkajnjboipbhaaGreatDoor.W
open Go.RowKit Go.Sort
set_option linter.unusedVariables false
set_option linter.unusedSimpArgs false

set_option maxHeartbeats 4000000 in
set_option maxRecDepth 100000 in
theorem closureI (x y : Id) (W : World) : Calls Tryz.prog 62 #[idV x, idV y] W fun e w' => e = .returned (.int .i64 (cmpId x y)) ∧ ∃ q os', w' = Go.Sort.grow (W.drewN q) os' := by
  obtain ⟨xc, xl, xn, xi⟩ := x
  obtain ⟨yc, yl, yn, yi⟩ := y
  obtain ⟨w1, hw1⟩ : ∃ w1, w1 = (W.alloc (.cells (idC ⟨xc, xl, xn, xi⟩) 25)).alloc (.cells (idC ⟨yc, yl, yn, yi⟩) 25) := ⟨_, rfl⟩
  have hx1 : w1.heap[W.heap.size]? = some (.cells (idC ⟨xc, xl, xn, xi⟩) 25 (0, 0)) := by rw [hw1]; exact blk_alloc (heap_alloc_new W _)
  have hy1 : w1.heap[W.heap.size + 1]? = some (.cells (idC ⟨yc, yl, yn, yi⟩) 25 (0, 0)) := by
    rw [hw1]
    have := heap_alloc_new (W.alloc (.cells (idC ⟨xc, xl, xn, xi⟩) 25)) (.cells (idC ⟨yc, yl, yn, yi⟩) 25)
    simpa using this
  obtain ⟨a0, a1, a2, a3⟩ := id_cells hx1
  obtain ⟨b0, b1, b2, b3⟩ := id_cells hy1
  have HW1 := Lib.hid hw1
  have C1 := Lib.hid (fun w => ccmp_any xc yc w)
  have C2 := Lib.hid (fun w => ccmp_any xl yl w)
  have C3 := Lib.hid (fun w => ccmp_any xn yn w)
  have C4 := Lib.hid (fun w => ccmp_any xi yi w)
  have HF : Hid (cmpId ⟨xc, xl, xn, xi⟩ ⟨yc, yl, yn, yi⟩ = firstNZ [cmpI xc yc, cmpI xl yl, cmpI xn yn, cmpI xi yi]) := Lib.hid rfl
  generalize cmpId ⟨xc, xl, xn, xi⟩ ⟨yc, yl, yn, yi⟩ = r at *
  generalize cmpI xc yc = v1 at *
  generalize cmpI xl yl = v2 at *
  generalize cmpI xn yn = v3 at *
  generalize cmpI xi yi = v4 at *
  clear hw1 hx1 hy1
  go_enter Tryz.func62, Tryz.ntmps62
  go_wp2_with fail
  rw [← HW1.out]
  refine wp_region_L [(6, fun w' => (w'.cell? ⟨W.heap.size, 0, none⟩ = some (.int .i64 xc) ∧ w'.cell? ⟨W.heap.size + 1, 0, none⟩ = some (.int .i64 yc))), (13, fun w' => (w'.cell? ⟨W.heap.size, 1, none⟩ = some (.int .i64 xl) ∧ w'.cell? ⟨W.heap.size + 1, 1, none⟩ = some (.int .i64 yl))), (20, fun w' => (w'.cell? ⟨W.heap.size, 2, none⟩ = some (.int .i64 xn) ∧ w'.cell? ⟨W.heap.size + 1, 2, none⟩ = some (.int .i64 yn))), (25, fun w' => (w'.cell? ⟨W.heap.size, 3, none⟩ = some (.int .i64 xi) ∧ w'.cell? ⟨W.heap.size + 1, 3, none⟩ = some (.int .i64 yi)))] (by kernel_rfl) ?_ (fun hHeld => ?_)
  · exact (HoldC.cons (⟨a0, b0⟩) (HoldC.cons (⟨a1, b1⟩) (HoldC.cons (⟨a2, b2⟩) (HoldC.cons (⟨a3, b3⟩) HoldC.nil))))
  refine wpAnyL_take (i := 0) (oi := _) (v := ?_) rfl (by kernel_rfl) (by kernel_rfl) (by kernel_rfl) (by kernel_rfl) (by kernel_rfl) (fun _ _ _ h => h) (Or.inl ⟨by rfl, ?_⟩) (by assumption) (fun hNew => ?_)
  rotate_left
  · intro w _
    go_simp
    try with_reducible rfl
  clear hHeld
  have hHeld := hNew
  clear hNew
  try simp only [List.getElem_toArray, List.getElem_cons_succ, List.getElem_cons_zero, Act.put, List.setIfInBounds_toArray, List.set_cons_zero, List.set_cons_succ]
  refine wpAnyL_take (i := 1) (oi := _) (v := ?_) rfl (by kernel_rfl) (by kernel_rfl) (by kernel_rfl) (by kernel_rfl) (by kernel_rfl) (fun _ _ _ h => h) (Or.inl ⟨by rfl, ?_⟩) (by assumption) (fun hNew => ?_)
  rotate_left
  · intro w _
    go_simp
    try with_reducible rfl
  clear hHeld
  have hHeld := hNew
  clear hNew
  try simp only [List.getElem_toArray, List.getElem_cons_succ, List.getElem_cons_zero, Act.put, List.setIfInBounds_toArray, List.set_cons_zero, List.set_cons_succ]
  refine wpAnyL_load 0 (i := 2) (oi := _) (v := ?_) rfl rfl (by kernel_rfl) (by kernel_rfl) (by kernel_rfl) (by kernel_rfl) (by kernel_rfl) (by kernel_rfl) (fun _ _ _ h => h) (Or.inl ⟨by rfl, ?_⟩) (by assumption) (fun hNew => ?_)
  rotate_left
  · intro w hSw
    (try dsimp only at hSw)
    go_simp
    try with_reducible rfl
  clear hHeld
  have hHeld := hNew
  clear hNew
  try simp only [List.getElem_toArray, List.getElem_cons_succ, List.getElem_cons_zero, Act.put, List.setIfInBounds_toArray, List.set_cons_zero, List.set_cons_succ]
  refine wpAnyL_take (i := 3) (oi := _) (v := ?_) rfl (by kernel_rfl) (by kernel_rfl) (by kernel_rfl) (by kernel_rfl) (by kernel_rfl) (fun _ _ _ h => h) (Or.inl ⟨by rfl, ?_⟩) (by assumption) (fun hNew => ?_)
  rotate_left
  · intro w _
    go_simp
    try with_reducible rfl
  clear hHeld
  have hHeld := hNew
  clear hNew
  try simp only [List.getElem_toArray, List.getElem_cons_succ, List.getElem_cons_zero, Act.put, List.setIfInBounds_toArray, List.set_cons_zero, List.set_cons_succ]
  refine wpAnyL_take (i := 4) (oi := _) (v := ?_) rfl (by kernel_rfl) (by kernel_rfl) (by kernel_rfl) (by kernel_rfl) (by kernel_rfl) (fun _ _ _ h => h) (Or.inl ⟨by rfl, ?_⟩) (by assumption) (fun hNew => ?_)
  rotate_left
  · intro w _
    go_simp
    try with_reducible rfl
  clear hHeld
  have hHeld := hNew
  clear hNew
  try simp only [List.getElem_toArray, List.getElem_cons_succ, List.getElem_cons_zero, Act.put, List.setIfInBounds_toArray, List.set_cons_zero, List.set_cons_succ]
  refine wpAnyL_load 0 (i := 5) (oi := _) (v := ?_) rfl rfl (by kernel_rfl) (by kernel_rfl) (by kernel_rfl) (by kernel_rfl) (by kernel_rfl) (by kernel_rfl) (fun _ _ _ h => h) (Or.inl ⟨by rfl, ?_⟩) (by assumption) (fun hNew => ?_)
  rotate_left
  · intro w hSw
    (try dsimp only at hSw)
    go_simp
    try with_reducible rfl
  clear hHeld
  have hHeld := hNew
  clear hNew
  try simp only [List.getElem_toArray, List.getElem_cons_succ, List.getElem_cons_zero, Act.put, List.setIfInBounds_toArray, List.set_cons_zero, List.set_cons_succ]
  refine wpAnyL_take (i := 7) (oi := _) (v := ?_) rfl (by kernel_rfl) (by kernel_rfl) (by kernel_rfl) (by kernel_rfl) (by kernel_rfl) (fun _ _ _ h => h) (Or.inl ⟨by rfl, ?_⟩) (by assumption) (fun hNew => ?_)
  rotate_left
  · intro w _
    go_simp
    try with_reducible rfl
  clear hHeld
  have hHeld := hNew
  clear hNew
  try simp only [List.getElem_toArray, List.getElem_cons_succ, List.getElem_cons_zero, Act.put, List.setIfInBounds_toArray, List.set_cons_zero, List.set_cons_succ]
  refine wpAnyL_take (i := 8) (oi := _) (v := ?_) rfl (by kernel_rfl) (by kernel_rfl) (by kernel_rfl) (by kernel_rfl) (by kernel_rfl) (fun _ _ _ h => h) (Or.inl ⟨by rfl, ?_⟩) (by assumption) (fun hNew => ?_)
  rotate_left
  · intro w _
    go_simp
    try with_reducible rfl
  clear hHeld
  have hHeld := hNew
  clear hNew
  try simp only [List.getElem_toArray, List.getElem_cons_succ, List.getElem_cons_zero, Act.put, List.setIfInBounds_toArray, List.set_cons_zero, List.set_cons_succ]
  refine wpAnyL_load 1 (i := 9) (oi := _) (v := ?_) rfl rfl (by kernel_rfl) (by kernel_rfl) (by kernel_rfl) (by kernel_rfl) (by kernel_rfl) (by kernel_rfl) (fun _ _ _ h => h) (Or.inl ⟨by rfl, ?_⟩) (by assumption) (fun hNew => ?_)
  rotate_left
  · intro w hSw
    (try dsimp only at hSw)
    go_simp
    try with_reducible rfl
  clear hHeld
  have hHeld := hNew
  clear hNew
  try simp only [List.getElem_toArray, List.getElem_cons_succ, List.getElem_cons_zero, Act.put, List.setIfInBounds_toArray, List.set_cons_zero, List.set_cons_succ]
  refine wpAnyL_take (i := 10) (oi := _) (v := ?_) rfl (by kernel_rfl) (by kernel_rfl) (by kernel_rfl) (by kernel_rfl) (by kernel_rfl) (fun _ _ _ h => h) (Or.inl ⟨by rfl, ?_⟩) (by assumption) (fun hNew => ?_)
  rotate_left
  · intro w _
    go_simp
    try with_reducible rfl
  clear hHeld
  have hHeld := hNew
  clear hNew
  try simp only [List.getElem_toArray, List.getElem_cons_succ, List.getElem_cons_zero, Act.put, List.setIfInBounds_toArray, List.set_cons_zero, List.set_cons_succ]
  refine wpAnyL_take (i := 11) (oi := _) (v := ?_) rfl (by kernel_rfl) (by kernel_rfl) (by kernel_rfl) (by kernel_rfl) (by kernel_rfl) (fun _ _ _ h => h) (Or.inl ⟨by rfl, ?_⟩) (by assumption) (fun hNew => ?_)
  rotate_left
  · intro w _
    go_simp
    try with_reducible rfl
  clear hHeld
  have hHeld := hNew
  clear hNew
  try simp only [List.getElem_toArray, List.getElem_cons_succ, List.getElem_cons_zero, Act.put, List.setIfInBounds_toArray, List.set_cons_zero, List.set_cons_succ]
  refine wpAnyL_load 1 (i := 12) (oi := _) (v := ?_) rfl rfl (by kernel_rfl) (by kernel_rfl) (by kernel_rfl) (by kernel_rfl) (by kernel_rfl) (by kernel_rfl) (fun _ _ _ h => h) (Or.inl ⟨by rfl, ?_⟩) (by assumption) (fun hNew => ?_)
  rotate_left
  · intro w hSw
    (try dsimp only at hSw)
    go_simp
    try with_reducible rfl
  clear hHeld
  have hHeld := hNew
  clear hNew
  try simp only [List.getElem_toArray, List.getElem_cons_succ, List.getElem_cons_zero, Act.put, List.setIfInBounds_toArray, List.set_cons_zero, List.set_cons_succ]
  refine wpAnyL_take (i := 14) (oi := _) (v := ?_) rfl (by kernel_rfl) (by kernel_rfl) (by kernel_rfl) (by kernel_rfl) (by kernel_rfl) (fun _ _ _ h => h) (Or.inl ⟨by rfl, ?_⟩) (by assumption) (fun hNew => ?_)
  rotate_left
  · intro w _
    go_simp
    try with_reducible rfl
  clear hHeld
  have hHeld := hNew
  clear hNew
  try simp only [List.getElem_toArray, List.getElem_cons_succ, List.getElem_cons_zero, Act.put, List.setIfInBounds_toArray, List.set_cons_zero, List.set_cons_succ]
  refine wpAnyL_take (i := 15) (oi := _) (v := ?_) rfl (by kernel_rfl) (by kernel_rfl) (by kernel_rfl) (by kernel_rfl) (by kernel_rfl) (fun _ _ _ h => h) (Or.inl ⟨by rfl, ?_⟩) (by assumption) (fun hNew => ?_)
  rotate_left
  · intro w _
    go_simp
    try with_reducible rfl
  clear hHeld
  have hHeld := hNew
  clear hNew
  try simp only [List.getElem_toArray, List.getElem_cons_succ, List.getElem_cons_zero, Act.put, List.setIfInBounds_toArray, List.set_cons_zero, List.set_cons_succ]
  refine wpAnyL_load 2 (i := 16) (oi := _) (v := ?_) rfl rfl (by kernel_rfl) (by kernel_rfl) (by kernel_rfl) (by kernel_rfl) (by kernel_rfl) (by kernel_rfl) (fun _ _ _ h => h) (Or.inl ⟨by rfl, ?_⟩) (by assumption) (fun hNew => ?_)
  rotate_left
  · intro w hSw
    (try dsimp only at hSw)
    go_simp
    try with_reducible rfl
  clear hHeld
  have hHeld := hNew
  clear hNew
  try simp only [List.getElem_toArray, List.getElem_cons_succ, List.getElem_cons_zero, Act.put, List.setIfInBounds_toArray, List.set_cons_zero, List.set_cons_succ]
  refine wpAnyL_take (i := 17) (oi := _) (v := ?_) rfl (by kernel_rfl) (by kernel_rfl) (by kernel_rfl) (by kernel_rfl) (by kernel_rfl) (fun _ _ _ h => h) (Or.inl ⟨by rfl, ?_⟩) (by assumption) (fun hNew => ?_)
  rotate_left
  · intro w _
    go_simp
    try with_reducible rfl
  clear hHeld
  have hHeld := hNew
  clear hNew
  try simp only [List.getElem_toArray, List.getElem_cons_succ, List.getElem_cons_zero, Act.put, List.setIfInBounds_toArray, List.set_cons_zero, List.set_cons_succ]
  refine wpAnyL_take (i := 18) (oi := _) (v := ?_) rfl (by kernel_rfl) (by kernel_rfl) (by kernel_rfl) (by kernel_rfl) (by kernel_rfl) (fun _ _ _ h => h) (Or.inl ⟨by rfl, ?_⟩) (by assumption) (fun hNew => ?_)
  rotate_left
  · intro w _
    go_simp
    try with_reducible rfl
  clear hHeld
  have hHeld := hNew
  clear hNew
  try simp only [List.getElem_toArray, List.getElem_cons_succ, List.getElem_cons_zero, Act.put, List.setIfInBounds_toArray, List.set_cons_zero, List.set_cons_succ]
  refine wpAnyL_load 2 (i := 19) (oi := _) (v := ?_) rfl rfl (by kernel_rfl) (by kernel_rfl) (by kernel_rfl) (by kernel_rfl) (by kernel_rfl) (by kernel_rfl) (fun _ _ _ h => h) (Or.inl ⟨by rfl, ?_⟩) (by assumption) (fun hNew => ?_)
  rotate_left
  · intro w hSw
    (try dsimp only at hSw)
    go_simp
    try with_reducible rfl
  clear hHeld
  have hHeld := hNew
  clear hNew
  try simp only [List.getElem_toArray, List.getElem_cons_succ, List.getElem_cons_zero, Act.put, List.setIfInBounds_toArray, List.set_cons_zero, List.set_cons_succ]
  refine wpAnyL_take (i := 21) (oi := _) (v := ?_) rfl (by kernel_rfl) (by kernel_rfl) (by kernel_rfl) (by kernel_rfl) (by kernel_rfl) (fun _ _ _ h => h) (Or.inl ⟨by rfl, ?_⟩) (by assumption) (fun hNew => ?_)
  rotate_left
  · intro w _
    go_simp
    try with_reducible rfl
  clear hHeld
  have hHeld := hNew
  clear hNew
  try simp only [List.getElem_toArray, List.getElem_cons_succ, List.getElem_cons_zero, Act.put, List.setIfInBounds_toArray, List.set_cons_zero, List.set_cons_succ]
  refine wpAnyL_load 3 (i := 22) (oi := _) (v := ?_) rfl rfl (by kernel_rfl) (by kernel_rfl) (by kernel_rfl) (by kernel_rfl) (by kernel_rfl) (by kernel_rfl) (fun _ _ _ h => h) (Or.inl ⟨by rfl, ?_⟩) (by assumption) (fun hNew => ?_)
  rotate_left
  · intro w hSw
    (try dsimp only at hSw)
    go_simp
    try with_reducible rfl
  clear hHeld
  have hHeld := hNew
  clear hNew
  try simp only [List.getElem_toArray, List.getElem_cons_succ, List.getElem_cons_zero, Act.put, List.setIfInBounds_toArray, List.set_cons_zero, List.set_cons_succ]
  refine wpAnyL_take (i := 23) (oi := _) (v := ?_) rfl (by kernel_rfl) (by kernel_rfl) (by kernel_rfl) (by kernel_rfl) (by kernel_rfl) (fun _ _ _ h => h) (Or.inl ⟨by rfl, ?_⟩) (by assumption) (fun hNew => ?_)
  rotate_left
  · intro w _
    go_simp
    try with_reducible rfl
  clear hHeld
  have hHeld := hNew
  clear hNew
  try simp only [List.getElem_toArray, List.getElem_cons_succ, List.getElem_cons_zero, Act.put, List.setIfInBounds_toArray, List.set_cons_zero, List.set_cons_succ]
  refine wpAnyL_load 3 (i := 24) (oi := _) (v := ?_) rfl rfl (by kernel_rfl) (by kernel_rfl) (by kernel_rfl) (by kernel_rfl) (by kernel_rfl) (by kernel_rfl) (fun _ _ _ h => h) (Or.inl ⟨by rfl, ?_⟩) (by assumption) (fun hNew => ?_)
  rotate_left
  · intro w hSw
    (try dsimp only at hSw)
    go_simp
    try with_reducible rfl
  clear hHeld
  have hHeld := hNew
  clear hNew
  try simp only [List.getElem_toArray, List.getElem_cons_succ, List.getElem_cons_zero, Act.put, List.setIfInBounds_toArray, List.set_cons_zero, List.set_cons_succ]
  refine wpAnyL_ready (rs := [6]) (by kernel_rfl) (by simp) ?_
  refine AllReadyL.cons (o := _) rfl (fun K hK => ?_) AllReadyL.nil
  try simp only [List.getElem_toArray, List.getElem_cons_succ, List.getElem_cons_zero]
  go_simp
  refine (C1.out _).mono ?_
  rintro e w' ⟨rfl, hq⟩
  subst hq
  clear hHeld
  refine hK.out _ _ ?_ (fun hHeld => ?_)
  · exact (HoldC.past (by kernel_rfl) (HoldC.cons (⟨a1, b1⟩) (HoldC.cons (⟨a2, b2⟩) (HoldC.cons (⟨a3, b3⟩) HoldC.nil))))
  clear hK K
  try simp only [List.getElem_toArray, List.getElem_cons_succ, List.getElem_cons_zero, Act.put, List.setIfInBounds_toArray, List.set_cons_zero, List.set_cons_succ]
  refine wpAnyL_ready (rs := [13]) (by kernel_rfl) (by simp) ?_
  refine AllReadyL.cons (o := _) rfl (fun K hK => ?_) AllReadyL.nil
  try simp only [List.getElem_toArray, List.getElem_cons_succ, List.getElem_cons_zero]
  go_simp
  refine (C2.out _).mono ?_
  rintro e w' ⟨rfl, hq⟩
  subst hq
  clear hHeld
  refine hK.out _ _ ?_ (fun hHeld => ?_)
  · exact (HoldC.past (by kernel_rfl) (HoldC.past (by kernel_rfl) (HoldC.cons (⟨a2, b2⟩) (HoldC.cons (⟨a3, b3⟩) HoldC.nil))))
  clear hK K
  try simp only [List.getElem_toArray, List.getElem_cons_succ, List.getElem_cons_zero, Act.put, List.setIfInBounds_toArray, List.set_cons_zero, List.set_cons_succ]
  refine wpAnyL_ready (rs := [20]) (by kernel_rfl) (by simp) ?_
  refine AllReadyL.cons (o := _) rfl (fun K hK => ?_) AllReadyL.nil
  try simp only [List.getElem_toArray, List.getElem_cons_succ, List.getElem_cons_zero]
  go_simp
  refine (C3.out _).mono ?_
  rintro e w' ⟨rfl, hq⟩
  subst hq
  clear hHeld
  refine hK.out _ _ ?_ (fun hHeld => ?_)
  · exact (HoldC.past (by kernel_rfl) (HoldC.past (by kernel_rfl) (HoldC.past (by kernel_rfl) (HoldC.cons (⟨a3, b3⟩) HoldC.nil))))
  clear hK K
  try simp only [List.getElem_toArray, List.getElem_cons_succ, List.getElem_cons_zero, Act.put, List.setIfInBounds_toArray, List.set_cons_zero, List.set_cons_succ]
  refine wpAnyL_ready (rs := [25]) (by kernel_rfl) (by simp) ?_
  refine AllReadyL.cons (o := _) rfl (fun K hK => ?_) AllReadyL.nil
  try simp only [List.getElem_toArray, List.getElem_cons_succ, List.getElem_cons_zero]
  go_simp
  refine (C4.out _).mono ?_
  rintro e w' ⟨rfl, hq⟩
  subst hq
  clear hHeld
  refine hK.out _ _ ?_ (fun hHeld => ?_)
  · exact (HoldC.past (by kernel_rfl) (HoldC.past (by kernel_rfl) (HoldC.past (by kernel_rfl) (HoldC.past (by kernel_rfl) HoldC.nil))))
  clear hK K
  try simp only [List.getElem_toArray, List.getElem_cons_succ, List.getElem_cons_zero, Act.put, List.setIfInBounds_toArray, List.set_cons_zero, List.set_cons_succ]
  refine wpAnyL_ready (rs := [26]) (by kernel_rfl) (by simp) ?_
  refine AllReadyL.cons (o := _) rfl (fun K hK => ?_) AllReadyL.nil
  try simp only [List.getElem_toArray, List.getElem_cons_succ, List.getElem_cons_zero]
  go_simp
  have hbZ : (w1.alloc (.cells #[.int .i64 v1, .int .i64 v2, .int .i64 v3, .int .i64 v4] 3)).drew.heap[w1.heap.size]? = some (.cells #[.int .i64 v1, .int .i64 v2, .int .i64 v3, .int .i64 v4] 3 (0, 0)) := heap_alloc_new w1 _
  have CO := Lib.hid (cor_any [v1, v2, v3, v4] rfl w1.heap.size _ (fun j hj => by
    match j, hj with
    | 0, _ => exact blk_cell hbZ 0 _ rfl
    | 1, _ => exact blk_cell hbZ 1 _ rfl
    | 2, _ => exact blk_cell hbZ 2 _ rfl
    | 3, _ => exact blk_cell hbZ 3 _ rfl))
  clear hHeld
  refine hK.out _ _ ?_ (fun hHeld => ?_)
  · exact (HoldC.past (by kernel_rfl) (HoldC.past (by kernel_rfl) (HoldC.past (by kernel_rfl) (HoldC.past (by kernel_rfl) HoldC.nil))))
  clear hK K
  try simp only [List.getElem_toArray, List.getElem_cons_succ, List.getElem_cons_zero, Act.put, List.setIfInBounds_toArray, List.set_cons_zero, List.set_cons_succ]
  refine wpAnyL_ready (rs := [27]) (by kernel_rfl) (by simp) ?_
  refine AllReadyL.cons (o := _) rfl (fun K hK => ?_) AllReadyL.nil
  try simp only [List.getElem_toArray, List.getElem_cons_succ, List.getElem_cons_zero]
  go_simp
  refine CO.out.mono ?_
  rintro e w' ⟨rfl, hq⟩
  subst hq
  clear hHeld
  refine hK.out _ _ ?_ (fun hHeld => ?_)
  · exact (HoldC.past (by kernel_rfl) (HoldC.past (by kernel_rfl) (HoldC.past (by kernel_rfl) (HoldC.past (by kernel_rfl) HoldC.nil))))
  clear hK K
  try simp only [List.getElem_toArray, List.getElem_cons_succ, List.getElem_cons_zero, Act.put, List.setIfInBounds_toArray, List.set_cons_zero, List.set_cons_succ]
  refine wpAnyL_take (i := 28) (oi := _) (v := ?_) rfl (by kernel_rfl) (by kernel_rfl) (by kernel_rfl) (by kernel_rfl) (by kernel_rfl) (fun _ _ _ h => h) (Or.inl ⟨by rfl, ?_⟩) (by assumption) (fun hNew => ?_)
  rotate_left
  · intro w _
    go_simp
    try with_reducible rfl
  clear hHeld
  have hHeld := hNew
  clear hNew
  try simp only [List.getElem_toArray, List.getElem_cons_succ, List.getElem_cons_zero, Act.put, List.setIfInBounds_toArray, List.set_cons_zero, List.set_cons_succ]
  refine wpAnyL_done (by kernel_rfl) ?_ _
  clear hHeld
  go_wp2_with fail
  go_ret
  rw [HF.out]
  exact ⟨rfl, 1, _, by rw [HW1.out, Go.Sort.alloc_eq_grow, Go.Sort.alloc_eq_grow, Go.Sort.alloc_eq_grow, Go.Sort.grow_grow, Go.Sort.grow_grow]; rfl⟩

def idE (x : Id) : List Value := [.int .i64 x.c, .int .i64 x.l, .int .i64 x.n, .int .i64 x.i]
theorem idE_len (x : Id) : (idE x).length = 4 := rfl
theorem idE_one (x : Id) : ∀ v ∈ idE x, v.oneCell' = true := by
  intro v hv
  simp [idE] at hv
  rcases hv with rfl | rfl | rfl | rfl <;> rfl
theorem cmpLaysI (blk off size : Nat) (w : World) : CmpLays Tryz.prog 62 #[] idE 4 cmpId blk off size w :=
  fun _ _ _ _ x y => closureI x y _
/-- The sort, at a row of ids of the call's own. -/
theorem sortI_any {w : World} {base : Nat} {v : Value} {ss : List Id} (hown : w.ownsRow base 25 4 v ss.length (ss.flatMap idE)) (hl : ss.length ≤ 1000000) :
    Calls Tryz.prog 61 #[v, .func (.func 62) #[] #[]] w fun e w' => e = .returned (.tuple #[]) ∧ w'.ownsRow base 25 4 v ss.length ((ss.mergeSort leI).flatMap idE) ∧ ∀ S : List Nat, (∀ k, v.ownBlock = some k → k ∈ S) → Chg S w w' := by
  obtain ⟨hlen, hrow⟩ := hown
  rcases hrow with ⟨rfl, h0⟩ | ⟨gb, cap, cur, rfl, hbg, hgb, hnc, hcm, hcs, htake⟩
  · have hnil : ss = [] := List.eq_nil_of_length_eq_zero h0
    subst hnil
    have hS := AnyF.slices_SortFunc_none (P := Tryz.prog) (ρ := Tryz.laysSortE_ren) { Tryz.laysSortE with } none 0 (.func (.func 62) #[] #[]) w
    change Calls Tryz.prog 61 _ _ _ at hS
    refine hS.mono fun e w' ⟨h1, h2⟩ => ⟨h1, ?_, ?_⟩
    · rw [h2]; simpa using World.ownsRow_nil w base 25 4
    · rw [h2]; exact fun S _ => Chg.refl _ _
  · have hH := holds_row idE idE_len hgb htake
    have eg : ∀ args w, (callFunc 62 args).run Tryz.prog w = .ok (.enter 62 args) w := enters_of Tryz.func62 (by kernel_rfl) rfl
    have hS := AnyQ.slices_SortFunc_total Tryz.laysSortE 4 Tryz.isAgg25 Tryz.sizeOf25 idE idE_len idE_one cmpId swoI 62 #[] gb 0 cap ss.toArray w eg (cmpLaysI gb 0 _ w) hH (blk_lt hgb) (by simp; omega) totI
    change Calls Tryz.prog 61 _ _ _ at hS
    have hsz : ss.toArray.size = ss.length := by simp
    rw [hsz] at hS
    refine hS.mono fun e w' ⟨h1, n, os, h2⟩ => ⟨h1, ?_, fun S hS => ?_⟩
    · rw [h2]
      exact ownsRow_sortedK idE idE_len (by rw [List.length_mergeSort]) hbg hgb hnc hcm hcs
    · rw [h2]
      exact (chg_sortedK _ _ _).mono (fun x hx => .inl (by rw [List.mem_singleton.1 hx]; exact hS gb rfl))
end Go.Proofs.YtbkajnjboipbhaaGreatDoor.W

/- Package store: List. -/
namespace Go.Proofs.YtbkajnjboipbhaaGreatDoor.W
open Go.RowKit Go.Sort
set_option linter.unusedVariables false
set_option linter.unusedSimpArgs false
variable {G : List Nat}

theorem wpList_nxtD (w : World) {ops : Array Oper} {rest : List Oper} {o : Oper} {a : Act} {Q : Exit → Act → World → Prop} (hg : o.guard = none) (it : Operand) (hop : o.op = Op.next it false) (b r N : Nat) (φ : Id → Option Value) (left : Id → Bool) (cnt : Nat)
    (hit : a.eval it = .pointer (some ⟨r, 0, none⟩)) (h : Rng 25 klD okD w b r φ N left cnt)
    (hDone : cnt = 0 → (∀ x, okD x → left x = false) → wpList Tryz.prog ops Q rest (a.put o.dst (.tuple #[.bool false])) w)
    (hMore : ∀ (c l n i : Int) (v : Value) (w' : World) (cnt' : Nat), okD ⟨c, l, n, i⟩ → left ⟨c, l, n, i⟩ = true → φ ⟨c, l, n, i⟩ = some v → Rng 25 klD okD w' b r φ N (fun y => !decide (y = ⟨c, l, n, i⟩) && left y) cnt' → cnt' < cnt → Chg [r] w w' → w'.heap.size = w.heap.size →
      (Instr.entry (.pointer (some ⟨r, 0, none⟩))).run Tryz.prog w' = .ok (.tuple #[.agg #[.int .i64 c, .int .i64 l, .int .i64 n, .int .i64 i], v]) w' → wpList Tryz.prog ops Q rest (a.put o.dst (.tuple #[.bool true, .agg #[.int .i64 c, .int .i64 l, .int .i64 n, .int .i64 i], v])) w') :
    wpList Tryz.prog ops Q (o :: rest) a w :=
  wpList_nxt keId w hg it hop b r N φ left cnt hit h hDone fun x v w' cnt' h1 h2 h3 h4 h5 h6 h7 h8 => hMore x.c x.l x.n x.i v w' cnt' h1 h2 h3 (h4 _ fun y _ => ⟨fun e => by simp [e], fun e => by
    have e' : ¬ y = ⟨x.c, x.l, x.n, x.i⟩ := e
    simp [e']⟩) h5 h6 h7 h8
theorem elIds : El Tryz.prog 36 25 (.agg #[.int .i64 0, .int .i64 0, .int .i64 0, .int .i64 0]) 4 32 := El.mk Tryz.underlying36 (by kernel_rfl) rfl (by decide)
def ListPost (w : World) (l : List Id) (e : Ending) (w' : World) : Prop := ∃ v, e = .returned v ∧ w'.ownsRow w.heap.size 25 4 v l.length (l.flatMap idE) ∧ Chg [] w w'

set_option maxHeartbeats 8000000 in
set_option maxRecDepth 100000 in
theorem stlist_any (q p : Nat) (U : List Nat) (t : Sto) (w : World) (h : StAt G w q p U t) : Calls Tryz.prog 20 #[.pointer (some ⟨q, 0, none⟩)] w (ListPost w t.ids) := by
  obtain ⟨sp, mb, Us, φ, N, h, rfl⟩ := h
  obtain ⟨k0, _, k2, _⟩ := h.cells
  have CM := Lib.hid (stmade_any q p w k0)
  have HM := Lib.hid h.map
  have HI : Hid (∀ x, okD x → (x ∈ firsts t.s.rows ↔ (φ x).isSome = true)) := Lib.hid (fun x hx => by
    rw [mem_firsts h.ok]
    rcases h.vals x hx with ⟨h1, h2⟩ | ⟨h1, v, h2, _⟩
    · rw [h1, h2]; simp
    · rw [h2]; simp [h1])
  have HFM : Hid (∀ x ∈ firsts t.s.rows, okD x) := Lib.hid (fun x hx => by
    rw [mem_firsts h.ok] at hx
    by_cases hm : mayId x = true
    · exact may_okD hm
    · rw [Sto.at_not (by simpa using hm)] at hx
      exact absurd rfl hx)
  have HND := Lib.hid (firsts_nodup h.ok)
  have hNl : N ≤ 1000 := by
    have h1 := h.map.card keId (firsts t.s.rows) (fun y hy hs => (HI.out y hy).2 hs)
    have h2 := t.ids_len
    unfold Sto.ids at h2
    rw [List.length_mergeSort] at h2
    obtain ⟨S0, rv0, R0, H0⟩ := h.slots
    have := H0.few
    omega
  have HID : Hid (t.ids = (firsts t.s.rows).mergeSort leI) := Lib.hid rfl
  generalize t.ids = L at *
  generalize firsts t.s.rows = F at *
  have hml := h.map.lt
  clear h
  go_enter Tryz.func20, Tryz.ntmps20
  go_wp2_with fail
  refine CM.out.mono ?_
  rintro e w' ⟨rfl, hq⟩
  subst hq
  go_wp2_with (refine wpList_rng keId _ rfl _ _ rfl 49 Tryz.underlying98 mb N φ rfl HM.out ?_; intro w1 hr1 hc1 hs1; have HR1 := Lib.hid (And.intro hr1 (And.intro hc1 hs1)); clear hr1 hc1 hs1)
  go_frame
  go_loopg [3] N (fun gh v3 wr => ∃ (v : Value) (ss : List Id) (left : Id → Bool) (cnt : Nat), v = v3 ∧ cnt ≤ gh ∧ ss.length + cnt ≤ N ∧ wr.ownsRow w.heap.size 25 4 v ss.length (ss.flatMap idE) ∧ Hid (Rng 25 klD okD wr mb w.heap.size φ N left cnt) ∧
    Hid (ss.Nodup ∧ ∀ k, okD k → (k ∈ ss ↔ (φ k).isSome = true ∧ left k = false)) ∧ Hid (∀ k ∈ ss, okD k) ∧ Hid (Chg [] w wr))
  case atStart =>
    refine ⟨_, [], _, _, rfl, Nat.le_refl _, by simp, World.ownsRow_nil _ _ _ _, Lib.hid HR1.out.1, Lib.hid ⟨List.nodup_nil, fun k hk => ?_⟩, Lib.hid (by simp), Lib.hid HR1.out.2.1⟩
    constructor
    · intro h; cases h
    · rintro ⟨h1, h2⟩
      rw [h1] at h2; cases h2
  case round =>
    obtain ⟨v3, ss, left, cnt, rfl, hcg, hkc, hown, HR, HK, HO, HC⟩ := hrel
    have hrne : some w.heap.size ≠ v3.ownBlock := by
      obtain ⟨D, lf, hr, _⟩ := HR.out
      exact row_ne_iter hown hr
    have HOWN := Lib.hid hown
    clear hown
    go_wp2_with (refine wpList_nxtD _ rfl _ rfl mb w.heap.size N φ left cnt rfl HR.out ?_ ?_)
    · intro hc0 hl0
      have HALL : Hid (∀ k, k ∈ ss ↔ k ∈ F) := Lib.hid (fun k => by
        constructor
        · intro hk
          have hko := HO.out k hk
          exact (HI.out k hko).2 ((HK.out.2 k hko).1 hk).1
        · intro hk
          have hko := HFM.out k hk
          exact (HK.out.2 k hko).2 ⟨(HI.out k hko).1 hk, hl0 k hko⟩)
      have HS : Hid (ss.mergeSort leI = L) := Lib.hid (by rw [HID.out]; exact sortedI_eq HK.out.1 HND.out HALL.out)
      have HL : Hid (ss.length = L.length) := Lib.hid (by
        have := congrArg List.length HS.out
        rwa [List.length_mergeSort] at this)
      clear hc0 hl0
      go_wp2_with fail
      refine (sortI_any HOWN.out (by omega)).mono ?_
      rintro e w5 ⟨rfl, hrow, hch⟩
      have HF : Hid (w5.ownsRow w.heap.size 25 4 v3 L.length (L.flatMap idE) ∧ Chg [] w w5) := Lib.hid (by
        rw [HS.out, HL.out] at hrow
        refine ⟨hrow, ?_⟩
        cases hv : v3.ownBlock with
        | none => exact HC.out.trans (hch [] (by rw [hv]; simp)) (by simp)
        | some k =>
          have hlt := (World.ownsRow.lt HOWN.out k hv).1
          exact HC.out.trans (hch [k] (by rw [hv]; simp)) (by simp; omega))
      clear hrow hch
      go_wp2
      go_ret
      exact ⟨_, rfl, HF.out⟩
    · intro xc xl xn xi v w2 cnt2 hox hlx hvx hr2 hlt hc2 hs2 hen
      have HX : Hid ((φ ⟨xc, xl, xn, xi⟩).isSome = true ∧ (⟨xc, xl, xn, xi⟩ : Id) ∉ ss ∧ okD ⟨xc, xl, xn, xi⟩) := Lib.hid (by
        refine ⟨by rw [hvx]; rfl, fun hk => ?_, hox⟩
        have := ((HK.out.2 _ hox).1 hk).2
        rw [hlx] at this; cases this)
      have HW2 := Lib.hid (And.intro hr2 (And.intro hc2 hs2))
      have hown2 := row_keep HOWN.out (w' := w2) (fun gq hq => hc2.block gq (World.ownsRow.lt HOWN.out gq hq).2 (by
        simp
        rintro rfl
        exact hrne hq.symm))
      have hc2a : Chg [] w2 (w2.alloc (.cells #[.int .i64 xc, .int .i64 xl, .int .i64 xn, .int .i64 xi] 25)) := (Chg.refl [] w2).alloc _
      have hown3 := row_keep hown2 (w' := w2.alloc (.cells #[.int .i64 xc, .int .i64 xl, .int .i64 xn, .int .i64 xi] 25)) (fun gq hq => hc2a.block gq (World.ownsRow.lt hown2 gq hq).2 (by simp))
      have hbase : w.heap.size ≤ w2.heap.size := by
        have := HC.out.size
        rw [hs2]; omega
      clear hox hlx hvx hr2 hc2 hs2
      go_wp2_with (at_builtin; refine wpList_app1 rfl _ _ _ rfl w.heap.size elIds _ _ _ rfl hown3 1 #[.int .i64 xc, .int .i64 xl, .int .i64 xn, .int .i64 xi] (by rw [show (w2.alloc (.cells #[.int .i64 xc, .int .i64 xl, .int .i64 xn, .int .i64 xi] 25)).heap.size = w2.heap.size + 1 by simp]; rfl) rfl (by intro u hu; simp at hu; rcases hu with rfl | rfl | rfl | rfl <;> rfl) (by unfold maxLen; omega) (by omega) (by simp; omega) ?_; intro v4 w4 hown4 hg4)
      have HEND : Hid (Rng 25 klD okD w4 mb w.heap.size φ N (fun y => !decide (y = ⟨xc, xl, xn, xi⟩) && left y) cnt2 ∧ Chg [] w w4) := Lib.hid (by
        have hc24 : Chg (match v3.ownBlock with | some k => [k] | none => []) w2 w4 := by
          exact ((Chg.refl (match v3.ownBlock with | some k => [k] | none => []) w2).alloc _).grown hg4 (fun k hk => by
            have hk' : v3.ownBlock = some k := hk
            rw [hk']; exact .inl (by simp))
        have hrb : ∀ k, v3.ownBlock = some k → w.heap.size ≤ k ∧ k ≠ w.heap.size := fun k hk => ⟨(World.ownsRow.lt HOWN.out k hk).1, fun e => hrne (by rw [hk, e])⟩
        refine ⟨HW2.out.1.kept hc24 ?_ ?_, (HC.out.trans HW2.out.2.1 (fun z hz => ?_)).trans hc24 (fun z hz => ?_)⟩
        · cases hv : v3.ownBlock with
          | none => simp
          | some k => have := hrb k hv; simp; omega
        · cases hv : v3.ownBlock with
          | none => simp
          | some k => have := hrb k hv; simp; omega
        · simp at hz; right; omega
        · cases hv : v3.ownBlock with
          | none => rw [hv] at hz; simp at hz
          | some k => rw [hv] at hz; simp at hz; have := hrb k hv; right; omega)
      clear hg4
      go_roundg cnt2
      case measure => omega
      case rel =>
        refine ⟨_, ss ++ [⟨xc, xl, xn, xi⟩], _, cnt2, rfl, Nat.le_refl _, by simp; omega, by simpa [idE] using hown4, Lib.hid HEND.out.1, Lib.hid ⟨?_, fun k hk => ?_⟩, Lib.hid (fun k hk => ?_), Lib.hid HEND.out.2⟩
        · refine List.nodup_append.2 ⟨HK.out.1, by simp, fun a ha b hb => ?_⟩
          simp at hb
          rintro rfl
          subst hb
          exact HX.out.2.1 ha
        · rw [List.mem_append, HK.out.2 k hk]
          by_cases e : k = ⟨xc, xl, xn, xi⟩
          · subst e; simp [HX.out.1]
          · simp [e]
        · rcases List.mem_append.1 hk with hk | hk
          · exact HO.out k hk
          · simp at hk; subst hk; exact HX.out.2.2
end Go.Proofs.YtbkajnjboipbhaaGreatDoor.W

/- Package store: Room, Whole, SetWhole. -/
namespace Go.Proofs.YtbkajnjboipbhaaGreatDoor.W
open Go.RowKit Go.Sort
set_option linter.unusedVariables false
set_option linter.unusedSimpArgs false
variable {G : List Nat}

theorem count_take {α : Type} (f : α → Bool) (l : List α) (j : Nat) (h : j < l.length) : (l.take (j + 1)).countP f = (l.take j).countP f + if f l[j] then 1 else 0 := by
  rw [List.take_succ_eq_append_getElem h, List.countP_append]
  simp [List.countP_singleton]
set_option maxHeartbeats 4000000 in
set_option maxRecDepth 100000 in
theorem stroom_any (q p : Nat) (U : List Nat) (t : Sto) (w : World) (h : StAt G w q p U t) : Calls Tryz.prog 32 #[.pointer (some ⟨q, 0, none⟩)] w fun e w' => e = .returned (.int .i64 (t.room : Int)) ∧ w = w' := by
  obtain ⟨sp, mb, Us, φ, N, h, rfl⟩ := h
  obtain ⟨k0, k1, _, _⟩ := h.cells
  have CM := Lib.hid (stmade_any q p w k0)
  have CN := Lib.hid (scount_any sp p Us t.s w h.slots)
  have CU := Lib.hid (fun i => sused_any sp p Us t.s i w h.slots)
  have hfew : t.s.rows.length ≤ 1000 := by
    obtain ⟨S0, rv0, R0, H0⟩ := h.slots
    have := H0.few
    omega
  have HRM : Hid (t.room = t.s.rows.countP (fun r => !r.used)) := Lib.hid rfl
  generalize t.room = R at *
  clear h
  obtain ⟨m, hm⟩ : ∃ m, m = t.s.rows.length := ⟨_, rfl⟩
  rw [← hm] at CN hfew
  have HM := Lib.hid hm
  clear hm
  go_enter Tryz.func32, Tryz.ntmps32
  go_wp2_with (first | (go_at_call 56; refine CM.out.mono ?_; rintro e w' ⟨rfl, hq⟩; subst hq) | (go_at_call 69; refine CN.out.mono ?_; rintro e w' ⟨rfl, hq⟩; subst hq))
  go_loopg [3, 13] m (fun g' s3 s13 wr => ∃ (i n : Nat), s13 = .int .i64 (i : Int) ∧ s3 = .int .i64 (n : Int) ∧ i ≤ m ∧ m ≤ i + g' ∧ n ≤ i ∧ Hid (wr = w ∧ n = (t.s.rows.take i).countP (fun r => !r.used)))
  case atStart => exact ⟨0, 0, rfl, rfl, by omega, by omega, by omega, Lib.hid ⟨rfl, by simp⟩⟩
  case round =>
    obtain ⟨i, n, rfl, rfl, hi, hig, hni, HJ⟩ := hrel
    obtain ⟨rfl, hn⟩ := HJ.out
    have HN := Lib.hid hn
    clear hn HJ
    by_cases hlt : i < m
    · have CU1 := Lib.hid (CU.out (i : Int))
      have hl2 : i < t.s.rows.length := by rw [← HM.out]; exact hlt
      have hus : t.s.used (i : Int) = (t.s.rows[i]).used := by
        rw [SS.used_true ⟨by omega, by omega⟩]
        show (t.s.rows.getD i noRow).used = _
        rw [List.getD_eq_getElem?_getD, List.getElem?_eq_getElem hl2]; rfl
      have HC := Lib.hid (count_take (fun r => !r.used) t.s.rows i hl2)
      rw [hus] at CU1
      have hiz : (i : Int) < (m : Int) := by omega
      clear hus
      generalize (t.s.rows[i]).used = u at *
      cases u with
      | true =>
        go_wp2_with (go_at_call 70; refine CU1.out.mono ?_; rintro e w' ⟨rfl, hq⟩; subst hq)
        go_roundg (gk - 1)
        case measure => omega
        case rel => exact ⟨i + 1, n, by go_num, rfl, by omega, by omega, by omega, Lib.hid ⟨rfl, by rw [HC.out, ← HN.out]; simp⟩⟩
      | false =>
        go_wp2_with (go_at_call 70; refine CU1.out.mono ?_; rintro e w' ⟨rfl, hq⟩; subst hq)
        go_roundg (gk - 1)
        case measure => omega
        case rel => exact ⟨i + 1, n + 1, by go_num, by go_num, by omega, by omega, by omega, Lib.hid ⟨rfl, by rw [HC.out, ← HN.out]; simp⟩⟩
    · have him : i = m := by omega
      have hiz : ¬ (i : Int) < (m : Int) := by omega
      have HE : Hid (R = n) := Lib.hid (by rw [HRM.out, HN.out, him, HM.out, List.take_length])
      go_wp2
      go_ret
      rw [HE.out]
      exact ⟨rfl, rfl⟩
end Go.Proofs.YtbkajnjboipbhaaGreatDoor.W

/- Package store: SetWhole, Latest. -/
namespace Go.Proofs.YtbkajnjboipbhaaGreatDoor.W
open Go.RowKit Go.Sort
set_option linter.unusedVariables false
set_option linter.unusedSimpArgs false
variable {G : List Nat}

theorem id_row {w : World} {base g cap : Nat} {l : List Id} (h : w.ownsRow base 25 4 (.slice (some ⟨g, 0, none⟩) l.length cap) l.length (l.flatMap idE)) (j : Nat) (hj : j < l.length) (x : Id) (hx : l[j]? = some x) :
    w.cell? ⟨g, j * 4, none⟩ = some (.int .i64 x.c) ∧ w.cell? ⟨g, j * 4 + 1, none⟩ = some (.int .i64 x.l) ∧ w.cell? ⟨g, j * 4 + 2, none⟩ = some (.int .i64 x.n) ∧ w.cell? ⟨g, j * 4 + 3, none⟩ = some (.int .i64 x.i) := by
  have key : ∀ k, k < 4 → ∀ u, (idE x)[k]? = some u → w.cell? ⟨g, j * 4 + k, none⟩ = some u := by
    intro k hk u hu
    have := h.cells (g := g) rfl (j * 4 + k) u (by
      have := flatMap_at idE (fun _ => rfl) l j k hj hk
      rw [show l[j]! = x by simp [List.getElem!_eq_getElem?_getD, hx]] at this
      rw [this]; exact hu)
    rw [add_none] at this
    simpa using this
  exact ⟨by simpa using key 0 (by omega) (.int .i64 x.c) rfl, key 1 (by omega) _ rfl, key 2 (by omega) _ rfl, key 3 (by omega) _ rfl⟩
end Go.Proofs.YtbkajnjboipbhaaGreatDoor.W

/- Package store: Latest. -/
namespace Go.Proofs.YtbkajnjboipbhaaGreatDoor.W
open Go.RowKit Go.Sort
set_option linter.unusedVariables false
set_option linter.unusedSimpArgs false
variable {G : List Nat}

end Go.Proofs.YtbkajnjboipbhaaGreatDoor.W

/- Slots on a disk that lives: what Put and Clear leave, plainly. -/
namespace Go.Proofs.YtbkajnjboipbhaaGreatDoor.W
set_option linter.unusedVariables false
set_option linter.unusedSimpArgs false

def DS.Live (d : DS) : Prop := d.dead = false ∧ d.fuse < 0
theorem DS.write_live {d : DS} (hd : d.Live) (k : Nat) (b : List UInt8) (hk : k < d.n) (hb : b.length = 64) : (d.write (k : Int) b).1 = 0 ∧ (d.write (k : Int) b).2.Live ∧ (d.write (k : Int) b).2.n = d.n ∧ (d.write (k : Int) b).2.now = upd d.now k b := by
  obtain ⟨h1, h2⟩ := hd
  have h3 : ¬ d.fuse = 0 := by omega
  have h4 : ¬ (0 : Int) < d.fuse := by omega
  unfold DS.write DS.op
  simp [h1, h3, h4, hb, hk, DS.Live]
  omega
theorem DS.sync_live {d : DS} (hd : d.Live) : (d.sync).1 = 0 ∧ (d.sync).2.Live ∧ (d.sync).2.n = d.n ∧ (d.sync).2.now = d.now ∧ (d.sync).2.since = [] := by
  obtain ⟨h1, h2⟩ := hd
  have h3 : ¬ d.fuse = 0 := by omega
  have h4 : ¬ (0 : Int) < d.fuse := by omega
  unfold DS.sync DS.op
  simp [h1, h3, h4, DS.Live]
  omega
theorem DS.lay_live (pos : Nat) (b : List UInt8) : ∀ (k j : Nat) (d : DS), d.Live → pos + j + k ≤ d.n → (d.lay pos b k j).1 = 0 ∧ (d.lay pos b k j).2.Live ∧ (d.lay pos b k j).2.n = d.n ∧ (∀ i, (d.lay pos b k j).2.now i = if pos + j ≤ i ∧ i < pos + j + k then secAt b (i - pos) else d.now i) ∧ (d.lay pos b k j).2.since = [] := by
  intro k
  induction k with
  | zero =>
    intro j d hd hn
    obtain ⟨h1, h2, h3, h4, h5⟩ := d.sync_live hd
    exact ⟨h1, h2, h3, fun i => by rw [if_neg (by omega)]; show (d.sync).2.now i = _; rw [h4], h5⟩
  | succ k ih =>
    intro j d hd hn
    obtain ⟨h1, h2, h3, h4⟩ := DS.write_live hd (pos + j) (secAt b j) (by omega) (secAt_len b j)
    obtain ⟨i1, i2, i3, i4, i5⟩ := ih (j + 1) _ h2 (by rw [h3]; omega)
    unfold DS.lay
    rw [if_neg (by rw [h1]; simp)]
    refine ⟨i1, i2, by rw [i3, h3], fun i => ?_, i5⟩
    rw [i4, h4]
    unfold upd
    by_cases hi : i = pos + j
    · subst hi
      rw [if_neg (by omega), if_pos rfl, if_pos (by omega)]
      congr 1
      omega
    · rw [if_neg hi]
      by_cases hm : pos + (j + 1) ≤ i ∧ i < pos + (j + 1) + k
      · rw [if_pos hm, if_pos (by omega)]
      · rw [if_neg hm, if_neg (by omega)]
theorem DS.lays_live {d : DS} (pos : Nat) (b : List UInt8) (hd : d.Live) (hn : pos + nsec b.length ≤ d.n) : (d.lays pos b).1 = 0 ∧ (d.lays pos b).2.Live ∧ (d.lays pos b).2.n = d.n ∧ (∀ i, (d.lays pos b).2.now i = if pos ≤ i ∧ i < pos + nsec b.length then secAt b (i - pos) else d.now i) ∧ (d.lays pos b).2.since = [] :=
  DS.lay_live pos b _ 0 d hd hn

theorem beNum_two (n : Nat) (hn : n < 65536) : beNum (beBytes 2 n) = n := by
  simp [beBytes, beNum, UInt8.toNat_ofNat']
  omega
theorem allZ_zeros (n : Nat) : allZ (zeros n) = true := by simp [allZ, zeros]
theorem head_back (n : Nat) (key : List UInt8) (hn : n ≤ 448) (hk : key.length ≤ 40) : headOf (secAt (headBytes n key) 0) = some ⟨true, n, key⟩ := by
  have hl := headBytes_len n key hn hk
  have hs : secAt (headBytes n key) 0 = 1 :: (beBytes 2 n ++ (beBytes 2 key.length ++ (key ++ zeros (64 - (5 + key.length))))) := by
    unfold secAt
    rw [Nat.zero_mul, List.drop_zero, List.take_of_length_le (by omega), hl, head_h3, h3_eq n key hn hk]
    simp
  obtain ⟨z, hz⟩ : ∃ z, z = zeros (64 - (5 + key.length)) := ⟨_, rfl⟩
  have hzz : allZ z = true := by rw [hz]; exact allZ_zeros _
  rw [hs, ← hz]
  have e1 : eyeNum (1 :: (beBytes 2 n ++ (beBytes 2 key.length ++ (key ++ z)))) 0 1 = (1, beBytes 2 n ++ (beBytes 2 key.length ++ (key ++ z)), 0) := by
    unfold eyeNum
    rw [if_neg (by simp), if_neg (by simp)]
    rfl
  have e2 : eyeNum (beBytes 2 n ++ (beBytes 2 key.length ++ (key ++ z))) 0 2 = ((n : Int), beBytes 2 key.length ++ (key ++ z), 0) := by
    unfold eyeNum
    rw [if_neg (by simp), if_neg (by simp [beBytes_len]), List.take_left' (beBytes_len 2 n), List.drop_left' (beBytes_len 2 n), beNum_two n (by omega)]
  have e3 : eyeRaw (beBytes 2 key.length ++ (key ++ z)) 0 40 = (key, z, 0) := by
    unfold eyeRaw
    rw [if_neg (by simp), if_neg (by simp [beBytes_len]), List.take_left' (beBytes_len 2 _), List.drop_left' (beBytes_len 2 _), beNum_two _ (by omega), if_neg (by omega), if_neg (by simp), List.take_left' rfl, List.drop_left' rfl]
  unfold headOf
  rw [if_neg (by simp [allZ]), e1]
  dsimp only
  rw [e2]
  dsimp only
  rw [e3]
  dsimp only
  rw [if_neg (by simp [hzz]; omega)]
  simp
theorem head_none : headOf (secAt (zeros 64) 0) = some noRow := by rfl
theorem flat_full (b : List UInt8) : ∀ m, m * 64 ≤ b.length → flat m (secAt b) = b.take (m * 64) := by
  intro m
  induction m with
  | zero => intro _; simp [flat]
  | succ m ih =>
    intro h
    rw [flat_succ, ih (by omega)]
    unfold secAt
    have hl : ((b.drop (m * 64)).take 64).length = 64 := by rw [List.length_take, List.length_drop]; omega
    rw [hl]
    simp only [zeros, Nat.sub_self, List.replicate_zero, List.append_nil]
    rw [show (m + 1) * 64 = m * 64 + 64 by omega, List.take_add]
theorem flat_back (b : List UInt8) : (flat (nsec b.length) (secAt b)).take b.length = b := by
  by_cases h : b.length % 64 = 0
  · have hm : nsec b.length * 64 = b.length := by unfold nsec; omega
    rw [flat_full b _ (by omega), hm, List.take_length, List.take_length]
  · obtain ⟨m, hm⟩ : ∃ m, nsec b.length = m + 1 := ⟨nsec b.length - 1, by unfold nsec; omega⟩
    have hm1 : m * 64 ≤ b.length ∧ b.length < (m + 1) * 64 := by unfold nsec at hm; omega
    rw [hm, flat_succ, flat_full b m hm1.1]
    unfold secAt
    have hl : (b.drop (m * 64)).take 64 = b.drop (m * 64) := List.take_of_length_le (by rw [List.length_drop]; omega)
    rw [hl, ← List.append_assoc, List.take_append_drop, List.take_left' rfl]
theorem flat_congr (m : Nat) (f g : Nat → List UInt8) (h : ∀ k, k < m → f k = g k) : flat m f = flat m g := by
  induction m with
  | zero => rfl
  | succ m ih => rw [flat_succ, flat_succ, ih (fun k hk => h k (by omega)), h m (by omega)]

/-- Slots on a disk that lives, each told: used or not, and what it holds. -/
structure Told (s : SS) (u : Nat → Bool) (v : Nat → List UInt8) : Prop where
  live : s.d.Live
  room : s.first + 8 * s.rows.length ≤ s.d.n
  head : ∀ k, k < s.rows.length → headOf (s.d.now (s.first + 8 * k)) = some (s.rows.getD k noRow)
  used : ∀ k, k < s.rows.length → (s.rows.getD k noRow).used = u k
  data : ∀ k, k < s.rows.length → u k = true → s.data (k : Int) = v k
theorem Told.small {s : SS} {u : Nat → Bool} {v : Nat → List UInt8} (h : Told s u v) (k : Nat) (hk : k < s.rows.length) : (s.rows.getD k noRow).n ≤ 448 := (headOf_ok (h.head k hk)).1
theorem Told.get {s : SS} {u : Nat → Bool} {v : Nat → List UInt8} (h : Told s u v) (k : Nat) (hk : k < s.rows.length) : s.get (k : Int) = if u k then (v k, 0) else ([], 6) := by
  unfold SS.get
  have hh : s.has (k : Int) := ⟨by omega, by omega⟩
  have hr : s.row (k : Int) = s.rows.getD k noRow := rfl
  rw [if_neg (by simpa using hh), hr, h.used k hk]
  cases hu : u k with
  | false => simp
  | true =>
    rw [if_neg (by simp), h.live.1]
    simp [h.data k hk hu]
theorem set_getD (l : List SRow) (k j : Nat) (x : SRow) (hk : k < l.length) : (l.set k x).getD j noRow = if j = k then x else l.getD j noRow := by
  rw [List.getD_eq_getElem?_getD, List.getElem?_set, List.getD_eq_getElem?_getD]
  by_cases h : k = j
  · subst h; simp [hk]
  · rw [if_neg h, if_neg (fun e => h e.symm)]
/-- Put, where it may be. -/
theorem Told.put {s : SS} {u : Nat → Bool} {v : Nat → List UInt8} (h : Told s u v) (k : Nat) (hk : k < s.rows.length) (key b : List UInt8) (hu : u k = false) (hkey : key.length ≤ 40) (hb : b.length ≤ 448) :
    (s.put (k : Int) key b).1 = 0 ∧ Told (s.put (k : Int) key b).2 (fun j => if j = k then true else u j) (fun j => if j = k then b else v j) ∧ (s.put (k : Int) key b).2.rows.length = s.rows.length ∧ (s.put (k : Int) key b).2.first = s.first ∧ (s.put (k : Int) key b).2.d.n = s.d.n ∧ (s.put (k : Int) key b).2.d.since = [] := by
  have hh : s.has (k : Int) := ⟨by omega, by omega⟩
  have hr : s.row (k : Int) = s.rows.getD k noRow := rfl
  have hp : s.pos (k : Int) = s.first + 8 * k := rfl
  have hns : nsec b.length ≤ 7 := by unfold nsec; omega
  have hroom := h.room
  obtain ⟨a1, a2, a3, a4, a5⟩ := DS.lays_live (s.pos k + 1) b h.live (by rw [hp]; omega)
  have hh1 : nsec (headBytes b.length key).length = 1 := by rw [headBytes_len _ _ hb hkey]; unfold nsec; omega
  obtain ⟨b1, b2, b3, b4, b5⟩ := DS.lays_live (s.pos k) (headBytes b.length key) a2 (by rw [hh1, a3, hp]; omega)
  have hput : s.put (k : Int) key b = (0, { s with d := ((s.d.lays (s.pos k + 1) b).2.lays (s.pos k) (headBytes b.length key)).2, rows := s.rows.set k ⟨true, b.length, key⟩ }) := by
    unfold SS.put
    rw [if_neg (by simpa using hh), if_neg (by omega), hr, h.used k hk, hu, if_neg (by simp), if_neg (by rw [a1]; simp), if_neg (by rw [b1]; simp)]
    rfl
  rw [hput]
  generalize hd2 : ((s.d.lays (s.pos k + 1) b).2.lays (s.pos k) (headBytes b.length key)).2 = d2 at *
  have hnow : ∀ i, d2.now i = if i = s.first + 8 * k then secAt (headBytes b.length key) 0 else if s.first + 8 * k + 1 ≤ i ∧ i < s.first + 8 * k + 1 + nsec b.length then secAt b (i - (s.first + 8 * k + 1)) else s.d.now i := fun i => by
    rw [b4, a4, hh1, hp]
    by_cases hi : i = s.first + 8 * k
    · rw [if_pos (by omega), if_pos hi, hi, Nat.sub_self]
    · rw [if_neg (by omega), if_neg hi]
  refine ⟨rfl, ⟨b2, ?_, fun j hj => ?_, fun j hj => ?_, fun j hj huj => ?_⟩, by simp, rfl, by rw [← a3, ← b3], b5⟩
  · show s.first + 8 * (s.rows.set k _).length ≤ d2.n
    rw [List.length_set, b3, a3]
    exact hroom
  · replace hj : j < s.rows.length := by simpa using hj
    show headOf (d2.now (s.first + 8 * j)) = some ((s.rows.set k _).getD j noRow)
    rw [set_getD _ _ _ _ hk, hnow]
    by_cases hjk : j = k
    · subst hjk
      rw [if_pos rfl, if_pos rfl]
      exact head_back _ _ hb hkey
    · rw [if_neg (by omega), if_neg (by omega), if_neg hjk]
      exact h.head j hj
  · replace hj : j < s.rows.length := by simpa using hj
    show ((s.rows.set k _).getD j noRow).used = _
    rw [set_getD _ _ _ _ hk]
    by_cases hjk : j = k
    · rw [if_pos hjk, if_pos hjk]
    · rw [if_neg hjk, if_neg hjk]
      exact h.used j hj
  · replace hj : j < s.rows.length := by simpa using hj
    show (flat (nsec ((s.rows.set k _).getD j noRow).n) (fun i => d2.now (s.first + 8 * j + 1 + i))).take ((s.rows.set k _).getD j noRow).n = _
    rw [set_getD _ _ _ _ hk]
    by_cases hjk : j = k
    · subst hjk
      rw [if_pos rfl, if_pos rfl]
      dsimp only
      rw [flat_congr _ _ (secAt b) (fun i hi => by rw [hnow, if_neg (by omega), if_pos (by omega)]; congr 1; omega)]
      exact flat_back b
    · rw [if_neg hjk, if_neg hjk]
      try dsimp only at huj
      rw [if_neg hjk] at huj
      have hsm := h.small j hj
      rw [flat_congr _ _ (fun i => s.d.now (s.first + 8 * j + 1 + i)) (fun i hi => by
        have : i < 7 := by unfold nsec at hi; omega
        rw [hnow, if_neg (by omega), if_neg (by omega)])]
      exact h.data j hj huj
/-- Clear, where it may be. -/
theorem Told.clear {s : SS} {u : Nat → Bool} {v : Nat → List UInt8} (h : Told s u v) (k : Nat) (hk : k < s.rows.length) (hu : u k = true) :
    (s.clear (k : Int)).1 = 0 ∧ Told (s.clear (k : Int)).2 (fun j => if j = k then false else u j) v ∧ (s.clear (k : Int)).2.rows.length = s.rows.length ∧ (s.clear (k : Int)).2.first = s.first ∧ (s.clear (k : Int)).2.d.n = s.d.n ∧ (s.clear (k : Int)).2.d.since = [] := by
  have hh : s.has (k : Int) := ⟨by omega, by omega⟩
  have hr : s.row (k : Int) = s.rows.getD k noRow := rfl
  have hp : s.pos (k : Int) = s.first + 8 * k := rfl
  have hroom := h.room
  have hh1 : nsec (zeros 64).length = 1 := rfl
  obtain ⟨a1, a2, a3, a4, a5⟩ := DS.lays_live (s.pos k) (zeros 64) h.live (by rw [hp, hh1]; omega)
  have hcl : s.clear (k : Int) = (0, { s with d := (s.d.lays (s.pos k) (zeros 64)).2, rows := s.rows.set k noRow }) := by
    unfold SS.clear
    rw [if_neg (by simpa using hh), hr, h.used k hk, hu, if_neg (by simp), if_neg (by rw [a1]; simp)]
    rfl
  rw [hcl]
  generalize hd2 : (s.d.lays (s.pos k) (zeros 64)).2 = d2 at *
  have hnow : ∀ i, d2.now i = if i = s.first + 8 * k then secAt (zeros 64) 0 else s.d.now i := fun i => by
    rw [a4, hh1, hp]
    by_cases hi : i = s.first + 8 * k
    · rw [if_pos (by omega), if_pos hi, hi, Nat.sub_self]
    · rw [if_neg (by omega), if_neg hi]
  refine ⟨rfl, ⟨a2, ?_, fun j hj => ?_, fun j hj => ?_, fun j hj huj => ?_⟩, by simp, rfl, a3, a5⟩
  · show s.first + 8 * (s.rows.set k _).length ≤ d2.n
    rw [List.length_set, a3]
    exact hroom
  · replace hj : j < s.rows.length := by simpa using hj
    show headOf (d2.now (s.first + 8 * j)) = some ((s.rows.set k _).getD j noRow)
    rw [set_getD _ _ _ _ hk, hnow]
    by_cases hjk : j = k
    · subst hjk
      rw [if_pos rfl, if_pos rfl]
      exact head_none
    · rw [if_neg (by omega), if_neg hjk]
      exact h.head j hj
  · replace hj : j < s.rows.length := by simpa using hj
    show ((s.rows.set k _).getD j noRow).used = _
    rw [set_getD _ _ _ _ hk]
    by_cases hjk : j = k
    · rw [if_pos hjk, if_pos hjk]; rfl
    · rw [if_neg hjk, if_neg hjk]
      exact h.used j hj
  · replace hj : j < s.rows.length := by simpa using hj
    try dsimp only at huj
    by_cases hjk : j = k
    · rw [if_pos hjk] at huj; cases huj
    · rw [if_neg hjk] at huj
      show (flat (nsec ((s.rows.set k _).getD j noRow).n) (fun i => d2.now (s.first + 8 * j + 1 + i))).take ((s.rows.set k _).getD j noRow).n = _
      rw [set_getD _ _ _ _ hk, if_neg hjk]
      have hsm := h.small j hj
      rw [flat_congr _ _ (fun i => s.d.now (s.first + 8 * j + 1 + i)) (fun i hi => by
        have : i < 7 := by unfold nsec at hi; omega
        rw [hnow, if_neg (by omega)])]
      exact h.data j hj huj
/-- Opened anew they are the same. -/
theorem rowsFrom_told {d : DS} {first : Nat} {rows : List SRow} : ∀ (m k : Nat), k + m = rows.length → (∀ j, k ≤ j → j < rows.length → headOf (d.now (first + 8 * j)) = some (rows.getD j noRow)) → rowsFrom d first m k = some (rows.drop k) := by
  intro m
  induction m with
  | zero => intro k hk _; unfold rowsFrom; rw [List.drop_eq_nil_of_le (by omega)]
  | succ m ih =>
    intro k hk h
    unfold rowsFrom
    rw [h k (Nat.le_refl _) (by omega)]
    dsimp only
    rw [ih (k + 1) (by omega) (fun j h1 h2 => h j (by omega) h2)]
    have hlt : k < rows.length := by omega
    rw [Option.map_some, List.drop_eq_getElem_cons hlt, List.getD_eq_getElem?_getD, List.getElem?_eq_getElem hlt]
    rfl
theorem Told.anew {s : SS} {u : Nat → Bool} {v : Nat → List UInt8} (h : Told s u v) (hn : (s.d.n - s.first) / 8 = s.rows.length) (hz : s.d.n ≠ 0) : s.d.slots (s.first : Int) = (0, some s) := by
  have hroom := h.room
  unfold DS.slots
  rw [if_neg (by omega), if_neg (by rw [h.live.1]; simp [hz]), Int.toNat_natCast, hn, rowsFrom_told s.rows.length 0 (by omega) (fun j _ hj => h.head j hj)]
  rfl
end Go.Proofs.YtbkajnjboipbhaaGreatDoor.W

/- A store on a disk that lives, plainly. -/
namespace Go.Proofs.YtbkajnjboipbhaaGreatDoor.W
set_option linter.unusedVariables false
set_option linter.unusedSimpArgs false

/-! ### Formatting -/
theorem DS.wipe_live : ∀ (k a : Nat) (d : DS), d.Live → a + 8 * k ≤ d.n + 7 → (∀ i, d.now i = zeros 64) → (d.wipe k a).1 = 0 ∧ (d.wipe k a).2.Live ∧ (d.wipe k a).2.n = d.n ∧ (∀ i, (d.wipe k a).2.now i = zeros 64) ∧ (d.wipe k a).2.since = []
  | 0, a, d, hd, hn, hz => by
    obtain ⟨h1, h2, h3, h4, h5⟩ := d.sync_live hd
    exact ⟨h1, h2, h3, fun i => by show (d.sync).2.now i = _; rw [h4, hz], h5⟩
  | k + 1, a, d, hd, hn, hz => by
    obtain ⟨h1, h2, h3, h4⟩ := DS.write_live hd a (zeros 64) (by omega) (by simp [zeros])
    obtain ⟨i1, i2, i3, i4, i5⟩ := DS.wipe_live k (a + 8) _ h2 (by rw [h3]; omega) (fun i => by
      rw [h4]; unfold upd
      split
      · rfl
      · exact hz i)
    unfold DS.wipe
    rw [if_neg (by rw [h1]; simp)]
    exact ⟨i1, i2, by rw [i3, h3], i4, i5⟩
theorem DS.sign_live {d : DS} (hd : d.Live) (n : UInt8) (hn : 1 ≤ d.n) : (d.sign n).1 = 0 ∧ (d.sign n).2.Live ∧ (d.sign n).2.n = d.n ∧ (d.sign n).2.now = upd d.now 0 (n :: zeros 63) ∧ (d.sign n).2.since = [] := by
  obtain ⟨h1, h2, h3, h4⟩ := DS.write_live hd 0 (n :: zeros 63) (by omega) (by simp [zeros])
  obtain ⟨g1, g2, g3, g4, g5⟩ := DS.sync_live h2
  unfold DS.sign
  rw [show ((0 : Nat) : Int) = 0 from rfl] at *
  rw [if_neg (by rw [h1]; simp)]
  exact ⟨g1, g2, by rw [g3, h3], by rw [g4, h4], g5⟩
theorem rowsFrom_zero {d : DS} {first : Nat} (h : ∀ i, 1 ≤ i → d.now i = zeros 64) (hf : 1 ≤ first) : ∀ m k, rowsFrom d first m k = some (List.replicate m noRow)
  | 0, _ => rfl
  | m + 1, k => by
    unfold rowsFrom
    rw [h _ (by omega)]
    have : headOf (zeros 64) = some noRow := by rfl
    rw [this]
    dsimp only
    rw [rowsFrom_zero h hf m (k + 1)]
    rfl
/-- A new disk, formatted. -/
theorem format_new (n : Nat) (h9 : 9 ≤ n) : ∃ d, (DS.new n).format = ((0, some ⟨⟨d, 1, List.replicate ((n - 1) / 8) noRow⟩, false⟩), d) ∧ d.Live ∧ d.n = n ∧ d.since = [] ∧ (∀ i, 1 ≤ i → d.now i = zeros 64) ∧ d.ops ≤ n ∧ d.now 0 = 1 :: zeros 63 := by
  have hl : (DS.new n).Live := ⟨rfl, by show (-1 : Int) < 0; omega⟩
  obtain ⟨a1, a2, a3, a4, a5⟩ := DS.wipe_live ((n - 1) / 8) 1 (DS.new n) hl (by show _ ≤ n + 7; omega) (fun i => rfl)
  have a3' : ((DS.new n).wipe ((n - 1) / 8) 1).2.n = n := a3
  obtain ⟨w1, w2, w3⟩ := DS.wipe_ok ((n - 1) / 8) 1 (DS.new n)
  obtain ⟨b1, b2, b3, b4, b5⟩ := DS.sign_live a2 1 (by rw [a3']; omega)
  obtain ⟨s1, s2, s3⟩ := ((DS.new n).wipe ((n - 1) / 8) 1).2.sign_ok 1
  have hw0 : (DS.new n).ops = 0 := rfl
  obtain ⟨d, hd⟩ : ∃ d, d = (((DS.new n).wipe ((n - 1) / 8) 1).2.sign 1).2 := ⟨_, rfl⟩
  have hfm : (DS.new n).format = if ((DS.new n).wipe ((n - 1) / 8) 1).1 ≠ 0 then ((((DS.new n).wipe ((n - 1) / 8) 1).1, none), ((DS.new n).wipe ((n - 1) / 8) 1).2) else if (((DS.new n).wipe ((n - 1) / 8) 1).2.sign 1).1 ≠ 0 then (((((DS.new n).wipe ((n - 1) / 8) 1).2.sign 1).1, none), (((DS.new n).wipe ((n - 1) / 8) 1).2.sign 1).2) else ((((DS.new n).wipe ((n - 1) / 8) 1).2.sign 1).2.stOpen, (((DS.new n).wipe ((n - 1) / 8) 1).2.sign 1).2) := by
    unfold DS.format
    rw [if_neg (by show ¬ n < 9; omega)]
    rfl
  rw [hfm, if_neg (by rw [a1]; simp), if_neg (by rw [b1]; simp), ← hd]
  rw [← hd] at b2 b3 b4 b5 s2
  have hn : d.n = n := by rw [b3, a3']
  have h0 : d.now 0 = 1 :: zeros 63 := by rw [b4]; unfold upd; rw [if_pos rfl]
  have h1 : ∀ i, 1 ≤ i → d.now i = zeros 64 := fun i hi => by rw [b4]; unfold upd; rw [if_neg (by omega), a4]
  refine ⟨d, ?_, b2, hn, b5, h1, by omega, h0⟩
  have hsl : d.slots 1 = (0, some ⟨d, 1, List.replicate ((n - 1) / 8) noRow⟩) := by
    unfold DS.slots
    rw [if_neg (by omega), if_neg (by rw [b2.1]; simp; omega), show (1 : Int).toNat = 1 from rfl, rowsFrom_zero h1 (by omega), hn]
  have hop : d.stOpen = (0, some ⟨⟨d, 1, List.replicate ((n - 1) / 8) noRow⟩, false⟩) := by
    unfold DS.stOpen
    rw [if_neg (by omega), if_neg (by rw [b2.1]; simp), h0]
    rw [if_neg (by
      rintro (⟨h, _⟩ | h)
      · exact h rfl
      · rw [show (1 :: zeros 63).drop 1 = zeros 63 from rfl, allZ_zeros] at h; cases h), hsl]
    dsimp only
    rw [if_pos (stKeys_iff.2 (fun r hr hu => by
      obtain rfl := List.eq_of_mem_replicate hr
      simp [noRow] at hu))]
    rfl
  rw [hop]

/-! ### A store whose fragments are known -/
abbrev Frag := Id → Option (List UInt8)
def setF (F : Frag) (x : Id) (o : Option (List UInt8)) : Frag := fun y => if y = x then o else F y
theorem setF_self (F : Frag) (x : Id) (o : Option (List UInt8)) : setF F x o x = o := if_pos rfl
theorem setF_other (F : Frag) {x y : Id} (o : Option (List UInt8)) (h : y ≠ x) : setF F x o y = F y := if_neg h
structure Kept (t : Sto) (F : Frag) : Prop where
  told : ∃ u v, Told t.s u v ∧ ∀ x, mayId x = true → (F x = none ∧ t.at x = []) ∨ ∃ i b, F x = some b ∧ t.at x = [i] ∧ v i = b
  out : ∀ x, mayId x = false → F x = none
  keys : keysOk t.s.rows
  since : t.s.d.since = []
  first : t.s.first = 1
theorem Kept.live {t : Sto} {F : Frag} (h : Kept t F) : t.s.d.Live := by obtain ⟨u, v, h1, _⟩ := h.told; exact h1.live
theorem Kept.room {t : Sto} {F : Frag} (h : Kept t F) : t.s.first + 8 * t.s.rows.length ≤ t.s.d.n := by obtain ⟨u, v, h1, _⟩ := h.told; exact h1.room
theorem Kept.new (n : Nat) (h9 : 9 ≤ n) : ∃ t d, (DS.new n).format = ((0, some t), d) ∧ Kept t (fun _ => none) ∧ t.s.d = d ∧ t.s.rows = List.replicate ((n - 1) / 8) noRow ∧ d.n = n ∧ d.ops ≤ n ∧ t.whole = false := by
  obtain ⟨d, h1, h2, h3, h4, h5, h6, _⟩ := format_new n h9
  refine ⟨_, d, h1, ⟨⟨fun _ => false, fun _ => [], ⟨h2, by show 1 + 8 * (List.replicate _ noRow).length ≤ d.n; rw [List.length_replicate]; omega, fun k hk => ?_, fun k hk => ?_, fun k hk hu => by cases hu⟩, fun x hx => .inl ⟨rfl, ?_⟩⟩, fun _ _ => rfl, fun r hr hu => ?_, h4, rfl⟩, rfl, rfl, h3, h6, rfl⟩
  · rw [List.length_replicate] at hk
    show headOf (d.now (1 + 8 * k)) = _
    rw [h5 _ (by omega), List.getD_eq_getElem?_getD, List.getElem?_replicate, if_pos hk]
    rfl
  · rw [List.length_replicate] at hk
    show ((List.replicate _ noRow).getD k noRow).used = false
    rw [List.getD_eq_getElem?_getD, List.getElem?_replicate, if_pos hk]
    rfl
  · rw [Sto.at_may hx]
    cases hu : upto (List.replicate ((n - 1) / 8) noRow) (List.replicate ((n - 1) / 8) noRow).length (idKey x) with
    | nil => rfl
    | cons j r =>
      have hj : j ∈ upto (List.replicate ((n - 1) / 8) noRow) (List.replicate ((n - 1) / 8) noRow).length (idKey x) := by rw [hu]; simp
      obtain ⟨a, b, _⟩ := upto_mem.1 hj
      rw [List.length_replicate] at a
      rw [List.getD_eq_getElem?_getD, List.getElem?_replicate, if_pos a] at b
      simp [noRow] at b
  · obtain rfl := List.eq_of_mem_replicate hr
    simp [noRow] at hu
theorem Kept.at_none {t : Sto} {F : Frag} (h : Kept t F) {x : Id} (hx : F x = none) : t.at x = [] := by
  by_cases hm : mayId x = true
  · obtain ⟨u, v, _, h2⟩ := h.told
    rcases h2 x hm with ⟨_, h3⟩ | ⟨i, b, h3, _⟩
    · exact h3
    · rw [hx] at h3; cases h3
  · exact Sto.at_not (by simpa using hm)
theorem Kept.at_some {t : Sto} {F : Frag} (h : Kept t F) {x : Id} {b : List UInt8} (hx : F x = some b) : mayId x = true ∧ t.at x ≠ [] := by
  by_cases hm : mayId x = true
  · obtain ⟨u, v, _, h2⟩ := h.told
    rcases h2 x hm with ⟨h3, _⟩ | ⟨i, b', h3, h4, _⟩
    · rw [hx] at h3; cases h3
    · exact ⟨hm, by rw [h4]; simp⟩
  · rw [h.out x (by simpa using hm)] at hx; cases hx
/-- Get. -/
theorem Kept.get {t : Sto} {F : Frag} (h : Kept t F) (x : Id) : t.get x = if mayId x = false then (([] : List UInt8), (1 : Int)) else match F x with | none => ([], 6) | some b => (b, 0) := by
  unfold Sto.get
  by_cases hm : mayId x = true
  · rw [if_neg (by simp [hm]), if_neg (by simp [hm])]
    obtain ⟨u, v, h1, h2⟩ := h.told
    rcases h2 x hm with ⟨h3, h4⟩ | ⟨i, b, h3, h4, h5⟩
    · rw [h3, h4]
    · rw [h3, h4]
      dsimp only
      have hi : i ∈ upto t.s.rows t.s.rows.length (idKey x) := by rw [← Sto.at_may hm, h4]; simp
      obtain ⟨a, b1, _⟩ := upto_mem.1 hi
      rw [h1.get i a, if_pos (by rw [← h1.used i a]; exact b1), h5]
  · rw [if_pos (by simpa using hm), if_pos (by simpa using hm)]
theorem Kept.mem_ids {t : Sto} {F : Frag} (h : Kept t F) (x : Id) : x ∈ t.ids ↔ (F x).isSome = true := by
  rw [Sto.mem_ids h.keys]
  cases hx : F x with
  | none => simp [h.at_none hx]
  | some b => simp [(h.at_some hx).2]
theorem SS.put_ok (s : SS) (i : Int) (key b : List UInt8) : (s.put i key b).2.d.ops ≤ s.d.ops + 20 ∧ (s.put i key b).2.d.since.length ≤ s.d.since.length + 20 ∧ (s.put i key b).2.d.n = s.d.n ∧ (s.put i key b).2.first = s.first ∧ (s.put i key b).2.rows.length = s.rows.length := by
  unfold SS.put
  split
  · exact ⟨Nat.le_add_right _ _, Nat.le_add_right _ _, rfl, rfl, rfl⟩
  · split
    · exact ⟨Nat.le_add_right _ _, Nat.le_add_right _ _, rfl, rfl, rfl⟩
    · rename_i h1 h2
      obtain ⟨a1, a2, a3⟩ := s.d.lays_ok (s.pos i + 1) b
      obtain ⟨b1, b2, b3⟩ := (s.d.lays (s.pos i + 1) b).2.lays_ok (s.pos i) (headBytes b.length key)
      have hn1 : nsec b.length ≤ 7 := by unfold nsec; omega
      have hn2 : nsec (headBytes b.length key).length ≤ 1 := by rw [headBytes_len _ _ (by omega) (by omega)]; unfold nsec; omega
      split
      · exact ⟨Nat.le_add_right _ _, Nat.le_add_right _ _, rfl, rfl, rfl⟩
      · split
        · exact ⟨by dsimp only; omega, by dsimp only; omega, a1, rfl, rfl⟩
        · split
          · exact ⟨by dsimp only; omega, by dsimp only; omega, by dsimp only; rw [b1, a1], rfl, rfl⟩
          · exact ⟨by dsimp only; omega, by dsimp only; omega, by dsimp only; rw [b1, a1], rfl, by dsimp only; rw [List.length_set]⟩
theorem Sto.put_ok (t : Sto) (x : Id) (b : List UInt8) : (t.put x b).2.s.d.ops ≤ t.s.d.ops + 20 ∧ (t.put x b).2.s.d.since.length ≤ t.s.d.since.length + 20 ∧ (t.put x b).2.s.d.n = t.s.d.n ∧ (t.put x b).2.s.rows.length = t.s.rows.length ∧ (t.put x b).2.whole = t.whole := by
  have h0 : t.s.d.ops ≤ t.s.d.ops + 20 ∧ t.s.d.since.length ≤ t.s.d.since.length + 20 ∧ t.s.d.n = t.s.d.n ∧ t.s.rows.length = t.s.rows.length ∧ t.whole = t.whole := ⟨Nat.le_add_right _ _, Nat.le_add_right _ _, rfl, rfl, rfl⟩
  unfold Sto.put
  split
  · exact h0
  · split
    · exact h0
    · split
      · split
        · exact h0
        · split
          · exact h0
          · exact h0
      · split
        · exact h0
        · obtain ⟨a1, a2, a3, a4, a5⟩ := t.s.put_ok t.s.free (idKey x) b
          exact ⟨a1, a2, a3, a5, rfl⟩
theorem countP_put {l : List SRow} {i : Nat} (r : SRow) (hi : i < l.length) (f : SRow → Bool) : (l.set i r).countP f + (if f (l.getD i noRow) then 1 else 0) = l.countP f + if f r then 1 else 0 := by
  induction l generalizing i with
  | nil => simp at hi
  | cons a l ih =>
    cases i with
    | zero =>
      simp only [List.set_cons_zero, List.countP_cons, List.getD_cons_zero]
      omega
    | succ i =>
      have := ih (i := i) (by simpa using hi)
      simp only [List.set_cons_succ, List.countP_cons, List.getD_cons_succ]
      omega
/-- Put, where there is none and there is room. -/
theorem Kept.put_new {t : Sto} {F : Frag} (h : Kept t F) {x : Id} (hm : mayId x = true) (hF : F x = none) {b : List UInt8} (hb : b.length ≤ 448) (hr : 0 < t.room) : (t.put x b).1 = 0 ∧ Kept (t.put x b).2 (setF F x (some b)) ∧ (t.put x b).2.room + 1 = t.room := by
  have hfree : ¬ t.s.free < 0 := by
    intro hf
    unfold SS.free at hf
    rcases rowFree_spec t.s.rows 0 with ⟨_, h2⟩ | ⟨n, h1, h2, h3, _⟩
    · unfold Sto.room at hr
      obtain ⟨r, hr1, hr2⟩ := List.countP_pos_iff.1 hr
      rw [h2 r hr1] at hr2; simp at hr2
    · rw [h2] at hf; omega
  obtain ⟨i, hfi, hil, hiu⟩ := SS.free_ok hfree
  have hat := h.at_none hF
  obtain ⟨u, v, htold, hall⟩ := h.told
  have hui : u i = false := by rw [← htold.used i hil]; exact hiu
  obtain ⟨p1, p2, p3, p4, p5, p6⟩ := htold.put i hil (idKey x) b hui (by rw [idKey_len]; omega) hb
  have hput : t.put x b = ((t.s.put (i : Int) (idKey x) b).1, { t with s := (t.s.put (i : Int) (idKey x) b).2 }) := by
    unfold Sto.put
    rw [if_neg (by simp [hm]), if_neg (by omega), hat]
    dsimp only
    rw [if_neg hfree, hfi]
  obtain ⟨_, _, hrows⟩ := SS.put_done p1
  rw [hput]
  have hrows' : (t.s.put (i : Int) (idKey x) b).2.rows = t.s.rows.set i ⟨true, b.length, idKey x⟩ := by rw [hrows]; simp
  have hat2 : upto t.s.rows t.s.rows.length (idKey x) = [] := by rw [← Sto.at_may hm]; exact hat
  have hat' : ∀ y, mayId y = true → Sto.at { t with s := (t.s.put (i : Int) (idKey x) b).2 } y = if y = x then [i] else t.at y := fun y hy => by
    rw [Sto.at_may hy, Sto.at_may hy]
    show upto (t.s.put (i : Int) (idKey x) b).2.rows (t.s.put (i : Int) (idKey x) b).2.rows.length (idKey y) = _
    rw [hrows', upto_put hil hiu hat2]
    by_cases e : y = x
    · subst e; rw [if_pos rfl, if_pos rfl]
    · rw [if_neg e, if_neg (fun h => e (idKey_inj hy hm h))]
  refine ⟨p1, ⟨⟨_, _, p2, fun y hy => ?_⟩, fun y hy => ?_, ?_, p6, by show (t.s.put (i : Int) (idKey x) b).2.first = 1; rw [p4]; exact h.first⟩, ?_⟩
  · rw [hat' y hy]
    by_cases e : y = x
    · subst e
      rw [setF_self, if_pos rfl]
      exact .inr ⟨i, b, rfl, rfl, by simp⟩
    · rw [setF_other _ _ e, if_neg e]
      rcases hall y hy with h1 | ⟨j, c, h1, h2, h3⟩
      · exact .inl h1
      · refine .inr ⟨j, c, h1, h2, ?_⟩
        have hj : j ∈ upto t.s.rows t.s.rows.length (idKey y) := by rw [← Sto.at_may hy, h2]; simp
        obtain ⟨_, hju, _⟩ := upto_mem.1 hj
        have : j ≠ i := fun e => by subst e; rw [hiu] at hju; cases hju
        simp only [this, if_false]
        exact h3
  · have : y ≠ x := fun e => by subst e; rw [hm] at hy; cases hy
    rw [setF_other _ _ this]
    exact h.out y hy
  · show keysOk (t.s.put (i : Int) (idKey x) b).2.rows
    rw [hrows']
    exact h.keys.set i (fun _ => (un_key hm).2)
  · show (t.s.put (i : Int) (idKey x) b).2.rows.countP (fun r => !r.used) + 1 = t.s.rows.countP (fun r => !r.used)
    rw [hrows']
    have := countP_put ⟨true, b.length, idKey x⟩ hil (fun r => !r.used)
    simp only [hiu, Bool.not_false, if_true, Bool.not_true, Bool.false_eq_true, if_false, Nat.add_zero] at this
    exact this
/-- Put, where there is no room. -/
theorem Kept.put_full {t : Sto} {F : Frag} (h : Kept t F) {x : Id} (hm : mayId x = true) (hF : F x = none) {b : List UInt8} (hb : b.length ≤ 448) (hr : t.room = 0) : t.put x b = (5, t) := by
  have hfree : t.s.free < 0 := by
    unfold SS.free
    rcases rowFree_spec t.s.rows 0 with ⟨h1, _⟩ | ⟨n, h1, h2, h3, _⟩
    · rw [h1]; omega
    · unfold Sto.room at hr
      have := List.countP_eq_zero.1 hr _ (row_mem h1)
      rw [h3] at this; simp at this
  unfold Sto.put
  rw [if_neg (by simp [hm]), if_neg (by omega), h.at_none hF]
  dsimp only
  rw [if_pos hfree]
/-- Put, where there is one. -/
theorem Kept.put_there {t : Sto} {F : Frag} (h : Kept t F) {x : Id} {c : List UInt8} (hF : F x = some c) (b : List UInt8) (hb : b.length ≤ 448) : t.put x b = (if c = b then 0 else 7, t) := by
  obtain ⟨hm, hne⟩ := h.at_some hF
  have hg := h.get x
  rw [if_neg (by simp [hm]), hF] at hg
  unfold Sto.get at hg
  rw [if_neg (by simp [hm])] at hg
  unfold Sto.put
  rw [if_neg (by simp [hm]), if_neg (by omega)]
  cases hat : t.at x with
  | nil => exact absurd hat hne
  | cons i r =>
    rw [hat] at hg
    dsimp only at hg ⊢
    rw [hg, if_neg (by simp)]
    split <;> rfl
theorem Kept.put_bad {t : Sto} {F : Frag} (h : Kept t F) {x : Id} {b : List UInt8} (hm : mayId x = false ∨ 448 < b.length) : (t.put x b).1 ≠ 0 ∧ (t.put x b).2 = t := by
  unfold Sto.put
  by_cases h1 : mayId x = false
  · rw [if_pos h1]; exact ⟨by simp, rfl⟩
  · rw [if_neg h1, if_pos (by rcases hm with h2 | h2; exact absurd h2 h1; exact h2)]
    exact ⟨by simp, rfl⟩
/-- Delete. -/
theorem Kept.del {t : Sto} {F : Frag} (h : Kept t F) {x : Id} (hm : mayId x = true) : (t.del x).1 = 0 ∧ Kept (t.del x).2 (setF F x none) ∧ (t.del x).2.room = t.room + (if (F x).isSome then 1 else 0) ∧ (F x = none → (t.del x).2 = t) ∧ (t.del x).2.s.d.n = t.s.d.n ∧ (t.del x).2.s.rows.length = t.s.rows.length := by
  obtain ⟨u, v, htold, hall⟩ := h.told
  unfold Sto.del
  rw [if_neg (by simp [hm])]
  rcases hall x hm with ⟨h1, h2⟩ | ⟨i, b, h1, h2, h3⟩
  · rw [h2, h1]
    have e : setF F x none = F := by
      funext y
      unfold setF
      split
      · rename_i e; rw [e, h1]
      · rfl
    rw [e]
    exact ⟨rfl, h, rfl, fun _ => rfl, rfl, rfl⟩
  · have hi : i ∈ upto t.s.rows t.s.rows.length (idKey x) := by rw [← Sto.at_may hm, h2]; simp
    obtain ⟨hil, hiu, hik⟩ := upto_mem.1 hi
    have hui : u i = true := by rw [← htold.used i hil]; exact hiu
    obtain ⟨p1, p2, p3, p4, p5, p6⟩ := htold.clear i hil hui
    have hcl : t.s.clears [i] = (0, (t.s.clear (i : Int)).2) := by
      unfold SS.clears
      rw [if_neg (by rw [p1]; simp)]
      rfl
    rw [h2, hcl, h1]
    obtain ⟨_, _, hrows⟩ := SS.clear_done p1
    have hrows' : (t.s.clear (i : Int)).2.rows = t.s.rows.set i noRow := by rw [hrows]; simp
    have hat2 : upto t.s.rows t.s.rows.length (idKey x) = [i] := by rw [← Sto.at_may hm]; exact h2
    have hat' : ∀ y, mayId y = true → Sto.at { t with s := (t.s.clear (i : Int)).2 } y = if y = x then [] else t.at y := fun y hy => by
      rw [Sto.at_may hy, Sto.at_may hy]
      show upto (t.s.clear (i : Int)).2.rows (t.s.clear (i : Int)).2.rows.length (idKey y) = _
      rw [hrows', upto_clear hat2]
      by_cases e : y = x
      · subst e; rw [if_pos rfl, if_pos rfl]
      · rw [if_neg e, if_neg (fun h => e (idKey_inj hy hm h))]
    refine ⟨rfl, ⟨⟨_, _, p2, fun y hy => ?_⟩, fun y hy => ?_, ?_, p6, by show (t.s.clear (i : Int)).2.first = 1; rw [p4]; exact h.first⟩, ?_, (fun h => by cases h), p5, p3⟩
    · rw [hat' y hy]
      by_cases e : y = x
      · subst e
        rw [setF_self, if_pos rfl]
        exact .inl ⟨rfl, rfl⟩
      · rw [setF_other _ _ e, if_neg e]
        exact hall y hy
    · have : y ≠ x := fun e => by subst e; rw [hm] at hy; cases hy
      rw [setF_other _ _ this]
      exact h.out y hy
    · show keysOk (t.s.clear (i : Int)).2.rows
      rw [hrows']
      exact h.keys.set i (fun h => by simp [noRow] at h)
    · show (t.s.clear (i : Int)).2.rows.countP (fun r => !r.used) = t.s.rows.countP (fun r => !r.used) + _
      rw [hrows']
      have := countP_put noRow hil (fun r => !r.used)
      rw [hiu] at this
      simpa [noRow] using this
theorem Kept.del_bad {t : Sto} {x : Id} (hm : mayId x = false) : t.del x = (1, t) := by
  unfold Sto.del
  rw [if_pos hm]
end Go.Proofs.YtbkajnjboipbhaaGreatDoor.W

/- Blocks that hold no bytes; append that says what the row's block holds. -/
namespace Go.Proofs.YtbkajnjboipbhaaGreatDoor.W
open Go.RowKit
set_option linter.unusedVariables false
set_option linter.unusedSimpArgs false

def No8 (c : Value) : Prop := ∀ z : Int, c ≠ .int .u8 z
/-- No cell of the block is a byte. -/
def NoU8 (w : World) (x : Nat) : Prop := ∀ cs t fr, w.heap[x]? = some (.cells cs t fr) → ∀ (j : Nat) (c : Value), cs[j]? = some c → No8 c
theorem NoU8.keep {w w' : World} {x : Nat} (h : NoU8 w x) (hb : w'.heap[x]? = w.heap[x]?) : NoU8 w' x := fun cs t fr hc => h cs t fr (hb.symm.trans hc)
theorem NoU8.mk {w : World} {x t : Nat} {cs : Array Value} {fr : Nat × Nat} (h : w.heap[x]? = some (.cells cs t fr)) (hc : ∀ (j : Nat) (c : Value), cs[j]? = some c → No8 c) : NoU8 w x := fun cs' t' fr' h' => by
  rw [h] at h'
  cases h'
  exact hc
theorem NoU8.set {w : World} {x j : Nat} {u : Value} (h : NoU8 w x) (hx : x < w.heap.size) (hu : No8 u) : NoU8 (w.setCell ⟨x, j, none⟩ u) x := fun cs t fr hc k c hk => by
  have hx' := Array.getElem?_eq_getElem hx
  unfold World.setCell at hc
  rw [Array.getElem?_modify, if_pos rfl, hx'] at hc
  cases ho : w.heap[x] with
  | cells cs0 t0 fr0 =>
    rw [ho] at hc hx'
    simp at hc
    obtain ⟨rfl, rfl, rfl⟩ := hc
    rw [Array.getElem?_setIfInBounds] at hk
    by_cases hjk : j = k
    · rw [if_pos hjk] at hk
      split at hk
      · rw [← Option.some.inj hk]; exact hu
      · cases hk
    · rw [if_neg hjk] at hk
      exact h cs0 _ _ hx' k c hk
  | _ => rw [ho] at hc; simp at hc
theorem NoU8.not_bytes {w : World} {x : Nat} (h : NoU8 w x) (v : Value) (l : List UInt8) (hb : BytesAt w v l) (hl : l ≠ []) : v.ownBlock ≠ some x := fun e => by
  obtain ⟨a, cap, rfl, h1, h2, h3⟩ := hb
  have hpos : 0 < l.length := by cases l; exact absurd rfl hl; simp
  rcases h3 with ⟨h3, _⟩ | ⟨g', o, rfl, hc⟩
  · exact hl h3
  · obtain rfl : g' = x := by simpa [Value.ownBlock] using e
    have h5 := hc 0 hpos
    rw [Nat.add_zero] at h5
    unfold World.cell? at h5
    cases hx : w.heap[g']? with
    | none => simp [hx] at h5
    | some o' =>
      cases o' with
      | cells cs t fr =>
        simp [hx] at h5
        exact h cs t fr hx o _ h5 _ rfl
      | _ => simp [hx] at h5
theorem no8_slice {a : Option Addr} {n c : Nat} : No8 (.slice a n c) := fun z => by simp
theorem no8_i64 {x : Int} : No8 (.int .i64 x) := fun z => by simp
theorem no8_list {l : List Value} (h : ∀ c ∈ l, No8 c) : ∀ (j : Nat) (c : Value), l.toArray[j]? = some c → No8 c := fun j c hj => by
  rw [List.getElem?_toArray] at hj
  exact h c (List.mem_of_getElem? hj)
theorem BytesAt.no8 {w : World} {v : Value} {l : List UInt8} (h : BytesAt w v l) : No8 v := by
  obtain ⟨a, cap, rfl, _⟩ := h
  exact no8_slice
theorem zero_cells_no8 (z : Array Value) (n : Nat) (hz : ∀ (j : Nat) (c : Value), z[j]? = some c → No8 c) (hz0 : 0 < z.size) : ∀ (j : Nat) (c : Value), (Builtin.zeroCells z n)[j]? = some c → No8 c := fun j c hj => by
  unfold Builtin.zeroCells at hj
  rw [Array.getElem?_map] at hj
  obtain ⟨i, _, rfl⟩ := Option.map_eq_some_iff.1 hj
  have hlt : i % z.size < z.size := Nat.mod_lt _ hz0
  rw [getElem!_pos z _ hlt]
  exact hz _ _ (Array.getElem?_eq_getElem hlt)
theorem app_no8 {a b : Array Value} (ha : ∀ (j : Nat) (c : Value), a[j]? = some c → No8 c) (hb : ∀ (j : Nat) (c : Value), b[j]? = some c → No8 c) : ∀ (j : Nat) (c : Value), (a ++ b)[j]? = some c → No8 c := fun j c hj => by
  rw [Array.getElem?_append] at hj
  split at hj
  · exact ha _ _ hj
  · exact hb _ _ hj
/-- append to a row of the call's own: what it gives, and that no byte has come into it. -/
theorem run_append_no8 {P : Program} (w : World) (t ty e : TypeId) (i : TypeInfo) (z : Value) (size bytes : Nat) (ht : P.underlying t = some (.slice e)) (hi : P.info? e = some i) (hz : i.zero = some z)
    (hsize : i.size = size) (hby : i.bytes = bytes) (hzs : z.cells.size = size) (hsz : 0 < size) (hz8 : ∀ (j : Nat) (c : Value), z.cells[j]? = some c → No8 c)
    (v : Value) (n : Nat) (xs : List Value) (hown : w.ownsRow 0 e size v n xs) (hx8 : ∀ c ∈ xs, No8 c) (hv8 : ∀ x, v.ownBlock = some x → NoU8 w x)
    (ad : Addr) (c : Nat) (news : List Value) (hl : news.length = size) (hnews : ∀ j u, news[j]? = some u → w.cell? (ad.add j) = some u) (h1 : ∀ u ∈ news, u.oneCell' = true) (hn8 : ∀ c ∈ news, No8 c)
    (h63 : n + 1 ≤ maxLen) (hbytes : (n + 1) * bytes ≤ 140737488355328) :
    ∃ g cap w', (Builtin.append_ #[t, t] ty #[v, .slice (some ad) 1 c]).run P w = .ok (.slice (some ⟨g, 0, none⟩) (n + 1) cap) w' ∧
      w'.ownsRow 0 e size (.slice (some ⟨g, 0, none⟩) (n + 1) cap) (n + 1) (xs ++ news) ∧ w.grownBy w' v.ownBlock ∧ (v.ownBlock = some g ∨ g = w.heap.size) ∧ g < w'.heap.size ∧ NoU8 w' g := by
  subst hsize
  subst hby
  obtain ⟨v', w', hr, h2, h3, _, h5⟩ := run_append_own_at (P := P) w 0 t ty e i z i.size i.bytes ht hi hz rfl rfl hzs hsz v n xs hown ad 1 c news (by rw [hl, Nat.one_mul]) hnews h1 h63 hbytes (Nat.zero_le _)
  obtain ⟨g, cap, rfl, _, hlt⟩ := h2.form (by omega)
  have hat : v.ownBlock = some g ∨ g = w.heap.size := by
    rcases h5 with h5 | h5
    · exact .inl (by rw [← h5]; rfl)
    · exact .inr (by simpa [Value.ownBlock] using h5)
  refine ⟨g, cap, w', hr, h2, h3, hat, hlt, ?_⟩
  have hsmall : n + 1 ≤ 9223372036854775807 := by simp only [maxLen] at h63; omega
  have hfit0 : Builtin.nextslicecap (n + 1) 0 * i.bytes ≤ 281474976710656 := by rw [nextslicecap_zero (by omega)]; omega
  have hall : ∀ k, (∀ (j : Nat) (c : Value), (xs.toArray ++ news.toArray ++ Builtin.zeroCells z.cells k)[j]? = some c → No8 c) := fun k =>
    app_no8 (app_no8 (no8_list hx8) (no8_list hn8)) (zero_cells_no8 _ _ hz8 (by omega))
  rcases hown.2 with ⟨rfl, h0⟩ | ⟨g0, cap0, cur, rfl, _, hg0, hnc, hcm, hcs, htake⟩
  · subst h0
    have hxs : xs = [] := List.eq_nil_of_length_eq_zero (by rw [hown.1, Nat.zero_mul])
    subst hxs
    have h := run_append_nil (P := P) (w := w) t ty e i z ht hi hz ad 1 c news (by rw [hl, Nat.one_mul]) hnews (by omega) (by omega) (by omega)
    rw [h] at hr
    simp only [Result.ok.injEq, Value.slice.injEq, Option.some.injEq, Addr.mk.injEq] at hr
    obtain ⟨⟨⟨rfl, -⟩, -⟩, rfl⟩ := hr
    exact NoU8.mk (heap_alloc_new w.drew _) (app_no8 (no8_list hn8) (zero_cells_no8 _ _ hz8 (by omega)))
  · have hg8 := hv8 g0 rfl
    by_cases hroom : n + 1 ≤ cap0
    · have hsz2 : (n + 1) * i.size ≤ cap0 * i.size := Nat.mul_le_mul_right _ hroom
      rw [Nat.add_mul, Nat.one_mul] at hsz2
      have h := run_append_room (P := P) (w := w) t ty e i ht hi g0 n cap0 cur hg0 ad 1 c news (by rw [hl, Nat.one_mul]) hnews h1 hroom (by rw [hl, hcs]; omega)
      rw [h] at hr
      simp only [Result.ok.injEq, Value.slice.injEq, Option.some.injEq, Addr.mk.injEq] at hr
      obtain ⟨⟨⟨rfl, -⟩, -⟩, rfl⟩ := hr
      refine NoU8.mk (setRow_heap w g0 cur _ e _ hg0) (no8_list (fun c hc => ?_))
      have hcur : ∀ c ∈ cur.toList, No8 c := fun c hc => by
        obtain ⟨j, hj⟩ := List.getElem?_of_mem hc
        exact hg8 cur e _ hg0 j c (by simpa using hj)
      rcases List.mem_append.1 hc with hc | hc
      · rcases List.mem_append.1 hc with hc | hc
        · exact hcur c (List.mem_of_mem_take hc)
        · exact hn8 c hc
      · exact hcur c (List.mem_of_mem_drop hc)
    · have holds : ∀ j v, xs[j]? = some v → w.cell? ((⟨g0, 0, none⟩ : Addr).add j) = some v := fun j v hj => hown.cells (g := g0) rfl j v hj
      have h := run_append_grow (P := P) (w := w) t ty e i z ht hi hz ⟨g0, 0, none⟩ n cap0 xs hown.1 holds ad 1 c news (by rw [hl, Nat.one_mul]) hnews (by omega) (by omega) (growslice_fits (by omega) hbytes)
      rw [h] at hr
      simp only [Result.ok.injEq, Value.slice.injEq, Option.some.injEq, Addr.mk.injEq] at hr
      obtain ⟨⟨⟨rfl, -⟩, -⟩, rfl⟩ := hr
      exact NoU8.mk (heap_alloc_new w.drew _) (hall _)
/-- At the operation; the element lies in a block just made. -/
theorem wp_append_no8 {P : Program} {o : Oper} {a : Act} {w : World} {K : Act → World → Prop} {Q : Exit → Act → World → Prop} (s x : Operand) (t : TypeId) (ho : o.op = .call { callee := .builtin .append, args := #[s, x], argTypes := #[t, t] })
    (e : TypeId) (i : TypeInfo) (z : Value) (size bytes : Nat) (ht : P.underlying t = some (.slice e)) (hi : P.info? e = some i) (hz : i.zero = some z)
    (hsize : i.size = size) (hby : i.bytes = bytes) (hzs : z.cells.size = size) (hsz : 0 < size) (hz8 : ∀ (j : Nat) (c : Value), z.cells[j]? = some c → No8 c)
    (v : Value) (n : Nat) (xs : List Value) (hs : a.eval s = v) (hown : w.ownsRow 0 e size v n xs) (hx8 : ∀ c ∈ xs, No8 c) (hv8 : ∀ x, v.ownBlock = some x → NoU8 w x)
    (ad : Addr) (c : Nat) (hx : a.eval x = .slice (some ad) 1 c) (news : List Value) (hl : news.length = size) (hnews : ∀ j u, news[j]? = some u → w.cell? (ad.add j) = some u) (h1 : ∀ u ∈ news, u.oneCell' = true) (hn8 : ∀ c ∈ news, No8 c)
    (h63 : n + 1 ≤ maxLen) (hbytes : (n + 1) * bytes ≤ 140737488355328)
    (h : ∀ g cap w', w'.ownsRow 0 e size (.slice (some ⟨g, 0, none⟩) (n + 1) cap) (n + 1) (xs ++ news) → w.grownBy w' v.ownBlock → (v.ownBlock = some g ∨ g = w.heap.size) → g < w'.heap.size → NoU8 w' g → K (a.put o.dst (.slice (some ⟨g, 0, none⟩) (n + 1) cap)) w') : o.wp P a w K Q := by
  obtain ⟨g, cap, w', hr, h2, h3, h4, h5, h6⟩ := run_append_no8 (P := P) w t o.type e i z size bytes ht hi hz hsize hby hzs hsz hz8 v n xs hown hx8 hv8 ad c news hl hnews h1 hn8 h63 hbytes
  unfold Oper.wp execOp
  simp only [ho, resolve, invoke, builtin, Sem.run_bind, Sem.run_pure, Result.andThen_ok, List.map_toArray, List.map_cons, List.map_nil, hs, hx, hr]
  exact h g cap w' h2 h3 h4 h5 h6
theorem wpList_append_no8 {P : Program} {ops : Array Oper} {rest : List Oper} {o : Oper} {a : Act} {w : World} {Q : Exit → Act → World → Prop} (hgd : o.guard = none) (s x : Operand) (t : TypeId) (ho : o.op = .call { callee := .builtin .append, args := #[s, x], argTypes := #[t, t] })
    (e : TypeId) (i : TypeInfo) (z : Value) (size bytes : Nat) (ht : P.underlying t = some (.slice e)) (hi : P.info? e = some i) (hz : i.zero = some z)
    (hsize : i.size = size) (hby : i.bytes = bytes) (hzs : z.cells.size = size) (hsz : 0 < size) (hz8 : ∀ (j : Nat) (c : Value), z.cells[j]? = some c → No8 c)
    (v : Value) (n : Nat) (xs : List Value) (hs : a.eval s = v) (hown : w.ownsRow 0 e size v n xs) (hx8 : ∀ c ∈ xs, No8 c) (hv8 : ∀ x, v.ownBlock = some x → NoU8 w x)
    (ad : Addr) (c : Nat) (hx : a.eval x = .slice (some ad) 1 c) (news : List Value) (hl : news.length = size) (hnews : ∀ j u, news[j]? = some u → w.cell? (ad.add j) = some u) (h1 : ∀ u ∈ news, u.oneCell' = true) (hn8 : ∀ c ∈ news, No8 c)
    (h63 : n + 1 ≤ maxLen) (hbytes : (n + 1) * bytes ≤ 140737488355328)
    (h : ∀ g cap w', w'.ownsRow 0 e size (.slice (some ⟨g, 0, none⟩) (n + 1) cap) (n + 1) (xs ++ news) → w.grownBy w' v.ownBlock → (v.ownBlock = some g ∨ g = w.heap.size) → g < w'.heap.size → NoU8 w' g → wpList P ops Q rest (a.put o.dst (.slice (some ⟨g, 0, none⟩) (n + 1) cap)) w') : wpList P ops Q (o :: rest) a w :=
  wpList_plain hgd fun K hK => wp_append_no8 s x t ho e i z size bytes ht hi hz hsize hby hzs hsz hz8 v n xs hs hown hx8 hv8 ad c hx news hl hnews h1 hn8 h63 hbytes (fun g cap w' h1 h2 h3 h4 h5 => hK _ _ (h g cap w' h1 h2 h3 h4 h5))
end Go.Proofs.YtbkajnjboipbhaaGreatDoor.W

/- A store beside others' blocks; its disk: fuse, dead, crash. -/
namespace Go.Proofs.YtbkajnjboipbhaaGreatDoor.W
open Go.RowKit
set_option linter.unusedVariables false
set_option linter.unusedSimpArgs false

theorem SlotsAt.keepT {w w' : World} {q p : Nat} {U T : List Nat} {s : SS} (h : SlotsAt w q p U s) (hc : Chg T w w') (ha : ∀ x ∈ U, x ∉ T) (hT : ∀ x ∈ T, ∀ v l, BytesAt w v l → l ≠ [] → v.ownBlock ≠ some x) : SlotsAt w' q p U s := by
  obtain ⟨S, rv, R, h⟩ := h
  refine ⟨S, rv, R, h.obj.keep hc (fun x hx => ha x (h.uB x hx)), h.disk.keep hc (fun x hx => ha x (h.uS x hx)), h.rows, h.sep, fun x hx => ?_, h.uS, h.uB, fun x hx => Nat.lt_of_lt_of_le (h.uL x hx) hc.size, h.ok⟩
  obtain ⟨h1, h2⟩ := h.keys x hx
  exact ⟨h1.chgW hc (fun hl k hk hm => hT k hm _ _ h1 hl hk), fun g hg => ⟨Nat.lt_of_lt_of_le (h2 g hg).1 hc.size, (h2 g hg).2⟩⟩
/-- The reference was at work beside it. -/
theorem StAt.regroup {G G' : List Nat} {w w' : World} {q p : Nat} {U T : List Nat} {t : Sto} (h : StAt G w q p U t) (hc : Chg T w w') (hT : ∀ x ∈ T, x ∈ G) (h8 : ∀ x ∈ T, NoU8 w x) (hU : ∀ x ∈ U, x ∉ G) (hG : ∀ x ∈ G', (x ∈ G ∨ w.heap.size ≤ x) ∧ x < w'.heap.size) : StAt G' w' q p U t := by
  obtain ⟨sp, mb, Us, φ, N, h, rfl⟩ := h
  have hn : ∀ x ∈ q :: mb :: Us, x ∉ T := fun x hx hm => hU x hx (hT x hm)
  refine ⟨sp, mb, Us, φ, N, ⟨hc.keep h.head (hn q (by simp)), h.slots.keepT hc (fun x hx => hn x (by simp [hx])) (fun x hx v l hb hl => (h8 x hx).not_bytes v l hb hl), h.map.chg hc (hn mb (by simp)), h.apart, fun x hx => ?_, h.ok, fun k hk => ⟨(hG k hk).2, fun y v hy hv e => ?_⟩⟩, rfl⟩
  · rcases h.vals x hx with h1 | ⟨h1, v, h2, h3, h4⟩
    · exact .inl h1
    · refine .inr ⟨h1, v, h2, h3.keep (fun g hg => hc.block g (h4 g hg).1 (fun hm => (h.far g (hT g hm)).2 x v hx h2 hg)), fun g hg => ⟨Nat.lt_of_lt_of_le (h4 g hg).1 hc.size, (h4 g hg).2⟩⟩
  · rcases (hG k hk).1 with h1 | h1
    · exact (h.far k h1).2 y v hy hv e
    · rcases h.vals y hy with ⟨_, h2⟩ | ⟨_, v', h2, _, h4⟩
      · rw [h2] at hv; cases hv
      · rw [h2] at hv
        obtain rfl := Option.some.inj hv
        have := (h4 k e).1
        omega
theorem StAt.disk {G : List Nat} {w : World} {q p : Nat} {U : List Nat} {t : Sto} (h : StAt G w q p U t) : ∃ S, DiskAt w p S t.s.d := by
  obtain ⟨sp, mb, Us, φ, N, h, rfl⟩ := h
  obtain ⟨S, rv, R, H⟩ := h.slots
  exact ⟨S, H.disk⟩
theorem StAt.fuse {G : List Nat} {w : World} {q p : Nat} {U : List Nat} {t : Sto} (h : StAt G w q p U t) (n : Int) (hn : n ≤ 9223372036854775807) :
    Calls Tryz.prog 36 #[.pointer (some ⟨p, 0, none⟩), .int .i64 n] w fun e w' => e = .returned (.tuple #[]) ∧ Std G w w' q p U ⟨{ t.s with d := t.s.d.setFuse n }, t.whole⟩ := by
  obtain ⟨sp, mb, Us, φ, N, h, rfl⟩ := h
  obtain ⟨S, rv, R, H⟩ := h.slots
  refine (dfuse_any p S t.s.d n w H.disk hn).mono fun e w' ⟨h1, h2⟩ => ⟨h1, ?_⟩
  obtain ⟨Us', g1, g2, g3⟩ := h.slotsDid (SlotsAt.did H h2 rfl) rfl
  exact g1.std g2 (g3.mono (fun y hy => .inl (by simp [hy])))
theorem StAt.dead {G : List Nat} {w : World} {q p : Nat} {U : List Nat} {t : Sto} (h : StAt G w q p U t) : Calls Tryz.prog 37 #[.pointer (some ⟨p, 0, none⟩)] w fun e w' => e = .returned (.bool t.s.d.dead) ∧ w = w' := by
  obtain ⟨S, hd⟩ := h.disk
  exact ddead_any p S t.s.d w hd
end Go.Proofs.YtbkajnjboipbhaaGreatDoor.W

/- A disk behind a crash, plainly; copies of all its sectors. -/
namespace Go.Proofs.YtbkajnjboipbhaaGreatDoor.W
open Go.RowKit
set_option linter.unusedVariables false
set_option linter.unusedSimpArgs false

/-- Is number i left? -/
def leftAt (ch : List UInt8) (i : Nat) : Bool := decide (ch.length ≤ i) || decide ((ch.getD i 0) &&& 1 = 1)
/-- Those of what waited that are left. -/
def chosen (ch : List UInt8) : List (Nat × List UInt8) → Nat → List (Nat × List UInt8)
  | [], _ => []
  | x :: l, i => if leftAt ch i then x :: chosen ch l (i + 1) else chosen ch l (i + 1)
theorem chosen_snoc (ch : List UInt8) (x : Nat × List UInt8) : ∀ (l : List (Nat × List UInt8)) (i : Nat), chosen ch (l ++ [x]) i = chosen ch l i ++ if leftAt ch (i + l.length) then [x] else []
  | [], i => by
    show (if leftAt ch i then [x] else []) = _
    simp [chosen]
  | y :: l, i => by
    have ih := chosen_snoc ch x l (i + 1)
    show (if leftAt ch i then y :: chosen ch (l ++ [x]) (i + 1) else chosen ch (l ++ [x]) (i + 1)) = (if leftAt ch i then y :: chosen ch l (i + 1) else chosen ch l (i + 1)) ++ _
    rw [ih, show i + 1 + l.length = i + (y :: l).length by simp; omega]
    split <;> simp
theorem chosen_mem {ch : List UInt8} {x : Nat × List UInt8} : ∀ (l : List (Nat × List UInt8)) (i : Nat), x ∈ chosen ch l i → x ∈ l
  | [], i, h => by cases h
  | y :: l, i, h => by
    unfold chosen at h
    split at h
    · rcases List.mem_cons.1 h with rfl | h
      · exact List.mem_cons_self ..
      · exact List.mem_cons_of_mem _ (chosen_mem l _ h)
    · exact List.mem_cons_of_mem _ (chosen_mem l _ h)
def DS.crash (d : DS) (ch : List UInt8) : DS :=
  { n := d.n, now := applied (chosen ch d.since 0) d.lasts, lasts := applied (chosen ch d.since 0) d.lasts, since := [], fuse := -1, ops := 0, dead := false }

theorem flat_at (n : Nat) (f : Nat → List UInt8) (h : ∀ i, i < n → (f i).length = 64) (k i : Nat) (hk : k < n) (hi : i < 64) : (flat n f)[k * 64 + i]? = (f k)[i]? := by
  induction n with
  | zero => omega
  | succ n ih =>
    rw [flat_succ]
    have hl := flat_len n f (fun i hi => h i (by omega))
    by_cases hkn : k = n
    · subst hkn
      rw [List.getElem?_append_right (by omega), hl, show k * 64 + i - k * 64 = i by omega]
    · rw [List.getElem?_append_left (by omega), ih (fun i hi => h i (by omega)) (by omega)]
theorem SecsAt.whole {w : World} {g n : Nat} {f : Nat → List UInt8} (h : SecsAt w g n f) : (flat n f).length = n * 64 ∧ w.rangeAt g 0 (bvs (flat n f)) := by
  have hl := flat_len n f (fun i hi => h.len i hi)
  refine ⟨hl, fun j v hv => ?_⟩
  have hj : j < n * 64 := by
    have := (List.getElem?_eq_some_iff.1 hv).1
    rwa [bvs_len, hl] at this
  have hk : j / 64 < n := by omega
  have he : j = j / 64 * 64 + j % 64 := by omega
  have h1 := h.range (j / 64) hk (j % 64) v (by
    have e1 : (bvs (flat n f))[j]? = ((flat n f)[j]?).map bv := by simp [bvs]
    rw [e1, he, flat_at n f (fun i hi => h.len i hi) _ _ hk (by omega)] at hv
    have e2 : (bvs (f (j / 64)))[j % 64]? = ((f (j / 64))[j % 64]?).map bv := by simp [bvs]
    rw [e2]
    have e3 : (j / 64 * 64 + j % 64) / 64 = j / 64 := by omega
    first | exact hv | (simpa [e3] using hv))
  rw [Nat.zero_add]
  rw [show j = j / 64 * 64 + j % 64 from he]
  exact h1
theorem secs_of_cells {w : World} {g n t : Nat} {f : Nat → List UInt8} {cs : Array Value} (hg : w.heap[g]? = some (.cells cs 109 (0, 0))) (hf : ∀ k, k < n → (f k).length = 64) (hc : cs.toList.take (n * 64) = bvs (flat n f)) : SecsAt w g n f := by
  have hl := flat_len n f hf
  have hlen : n * 64 ≤ cs.size := by
    have h1 : (cs.toList.take (n * 64)).length = n * 64 := by rw [hc, bvs_len, hl]
    rw [List.length_take] at h1
    simp at h1
    omega
  refine ⟨cs, hg, hlen, fun k hk => ⟨hf k hk, fun i hi => ?_⟩⟩
  have h1 : (cs.toList.take (n * 64))[k * 64 + i]? = cs[k * 64 + i]? := by
    rw [List.getElem?_take, if_pos (by omega)]
    simp
  rw [← h1, hc]
  have e1 : (bvs (flat n f))[k * 64 + i]? = ((flat n f)[k * 64 + i]?).map bv := by simp [bvs]
  rw [e1, flat_at n f hf k i hk hi, List.getD_eq_getElem?_getD, List.getElem?_eq_getElem (by rw [hf k hk]; exact hi)]
  rfl
theorem secs_of_row {w : World} {v : Value} {n : Nat} {f : Nat → List UInt8} (h : w.ownsRow 0 109 64 v n (bvs (flat n f))) (hn : 0 < n) (hf : ∀ k, k < n → (f k).length = 64) :
    ∃ g cap, v = .slice (some ⟨g, 0, none⟩) n cap ∧ n ≤ cap ∧ cap ≤ maxLen ∧ SecsAt w g n f := by
  rcases h.2 with ⟨h1, h2⟩ | ⟨g, cap, cur, rfl, hbg, hg, hnc, hcm, hcs, htake⟩
  · omega
  · exact ⟨g, cap, rfl, hnc, hcm, secs_of_cells (t := 0) hg hf htake⟩

theorem run_copy_n {P : Program} (w : World) (dT sT ty elem : TypeId) (size g o dLen dCap : Nat) (a : Addr) (sLen sCap : Nat) (cur : Array Value) (t : TypeId) (cs : List Value) (m : Nat)
    (hu : P.underlying dT = some (.slice elem)) (hs : (P.info? elem).map (·.size) = some size)
    (hg : w.heap[g]? = some (.cells cur t (0, 0))) (hm : m = Nat.min sLen dLen) (hn : cs.length = m * size)
    (hsrc : ∀ j v, cs[j]? = some v → w.cell? (a.add j) = some v) (hfit : o + cs.length ≤ cur.size) (h1 : ∀ v ∈ cs, v.oneCell' = true) :
    (Builtin.copy_ #[dT, sT] ty #[.slice (some ⟨g, o, none⟩) dLen dCap, .slice (some a) sLen sCap]).run P w =
      .ok (goInt m) (w.setRow g (cur.toList.take o ++ cs ++ cur.toList.drop (o + cs.length)).toArray) := by
  have hl := run_loadCells_list (P := P) w a cs hsrc
  have hst := run_storeCells_at P g o t cs 0 cur w hg (by simpa using hfit) h1
  cases hq : P.info? elem with
  | none => simp [hq] at hs
  | some i =>
    have hi : i.size = size := by simpa [hq] using hs
    simp [Builtin.copy_, run_underlying hu, Builtin.lenOf, Builtin.firstCells, sizeOf, typeInfo, hq, hi, ← hm, ← hn, hl, hst]
end Go.Proofs.YtbkajnjboipbhaaGreatDoor.W

/- Regions in a fence at whatever exit: none but the plain one is met. -/
namespace Go.Proofs.YtbkajnjboipbhaaGreatDoor.W
open Go.RowKit
set_option linter.unusedVariables false
set_option linter.unusedSimpArgs false

/-- The plain exit alone. -/
def Qn (Q : Exit → Act → World → Prop) : Exit → Act → World → Prop
  | .normal, a, w => Q .normal a w
  | _, _, _ => False
theorem Qn_lets {Q : Exit → Act → World → Prop} : ¬ LetsOut (Qn Q) := by
  rintro ⟨_, _, h⟩
  exact h
section
variable {F : Fence} {n : Nat} {P : Program} {ops : Array Oper} {Q : Exit → Act → World → Prop} {a : Act} {w : World}
theorem wpIn_of_opN {o : Oper} {K : Act → World → Prop} (hF : Wide F) (hnd : ∀ c, o.op ≠ .defer c) (h : o.wp P a w K (Qn Q)) : o.wpIn F n P a w K Q := by
  unfold Oper.wpIn
  refine ⟨fun f _ => hF.fn f, ?_⟩
  rw [Oper.semAt_eq _ _ _ hnd]
  unfold Oper.wp at h
  revert h
  generalize hr : (execOp a.eval o).run P w = r
  intro h
  cases r with
  | ok x w' =>
    cases x <;> simp only [Oper.upon, Oper.uponIn] at h ⊢
    case value => exact h
    case skip => exact h
    case defer => exact h
    case enter f args =>
      refine ⟨fun hd => (by rw [hF.depth] at hd; cases hd), hF.calls (Calls.mono h (fun e w'' he => ?_))⟩
      cases e with
      | returned v => exact he
      | panicked c => exact he.elim
      | outgrown => exact absurd he Qn_lets
    case row row args => exact ⟨fun hd => (by rw [hF.depth] at hd; cases hd), hF.rows h⟩
  | halt x w' => cases x <;> simp only [Oper.upon, Oper.uponIn] at h ⊢ <;> exact h.elim
theorem wpOpIn_ofN {i : Nat} {K : Act → World → Prop} (hF : Wide F) (hnd : ∀ (o : Oper), ops[i]? = some o → ∀ c, o.op ≠ .defer c) (h : wpOp P ops (Qn Q) i K a w) : wpOpIn F n P ops Q i K a w := by
  unfold wpOp at h
  unfold wpOpIn
  cases ho : ops[i]? with
  | none => rw [ho] at h; exact h
  | some o =>
    simp only [ho] at h ⊢
    by_cases hw : Region.wanted o (yielded ops a.tmps) = true
    · simp only [hw, if_true] at h ⊢
      rcases h with h | h
      · exact wpIn_of_opN hF (hnd o ho) h
      · exact absurd h.2 Qn_lets
    · simp only [hw] at h ⊢
      exact ⟨fun f _ => hF.fn f, h⟩
theorem wpAnyIn_ofN {md : Region.Mode} (hF : Wide F) (hnd : ∀ (i : Nat) (o : Oper), ops[i]? = some o → ∀ c, o.op ≠ .defer c) :
    ∀ (k : Nat) (L : Array Bool) (a : Act) (w : World), wpAny P md ops (Qn Q) k L a w → wpAnyIn F n P md ops Q k L a w
  | 0, _, _, _, h => h
  | k + 1, _, _, _, h => ⟨h.1, fun i hi => wpOpIn_ofN hF (hnd i) (wpOp_mono (fun a' w' h' => wpAnyIn_ofN hF hnd k _ a' w' h') (h.2 i hi))⟩
/-- A region that draws its order, in a fence. -/
theorem wpIn_region_LN {id : Nat} (hF : Wide F) (hnd : noDefer ops = true) (cs : List (Nat × (World → Prop))) (hm : P.follows .mixedOrders = true) (hS : HoldC cs (Array.replicate ops.size false) w.drew)
    (h : HoldC cs (Array.replicate ops.size false) w.drew → wpAnyL P .any ops (Qn Q) cs ops.size (Array.replicate ops.size false) a w.drew) : (Code.region id ops true).wpIn F n P Q a w :=
  wpIn_region_any hm (wpAnyIn_ofN hF (noDefer_spec hnd) _ _ _ _ (wpAny_of_L _ _ _ _ (h hS)))
end
end Go.Proofs.YtbkajnjboipbhaaGreatDoor.W
