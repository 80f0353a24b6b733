/- Texts laid together. -/
import Derived.Test.YtnbhanmpmjjkkaaGreatDoorFZ5
import Derived.Test.YtnbhanmpmjjkkaaGreatDoorFZ7
import Derived.Test.YtnbhanmpmjjkkaaGreatDoorFZ3
import Derived.Test.YtnbhanmpmjjkkaaGreatDoorFZ2
import Derived.Laws.BitsLemmas
import Derived.Deep.DeepCutAuto
import Derived.Deep.CutBlock
import Derived.Test.YtnbhanmpmjjkkaaGreatDoorFZ6
set_option linter.unusedVariables false
set_option linter.unusedSimpArgs false
set_option maxHeartbeats 64000000
set_option maxRecDepth 100000
namespace Go.Proofs.YtnbhanmpmjjkkaaGreatDoor.W
open Go.RowKit
section
open Go.RowKit Go.Shelf
theorem fis_goodN {E : Env} {f : FS} (i : Nat) (w : World) (e room : Int) (ba ia : Option Addr) (bn bc il ic : Nat) (wh : Bool) (hE : E.Ok) (h : FtAt E w f) (hi : i < E.n) (hk : 1 ∉ f.known) (ha : f.asked = (i : Int)) (hb : BytesAt w (.slice ba bn bc) (fragN E.s E.data E.n i)) :
  Calls Tryz.prog 37 #[fpV E, rpA e (.slice ba bn bc) (.slice ia il ic) room wh] w (IsP E i w) := by
 obtain ⟨w1, hw1⟩ : ∃ w1, w1 = w.alloc (.cells #[.int .i64 e, .slice ba bn bc, .slice ia il ic, .int .i64 room, .bool wh] 52) := ⟨_, rfl⟩
 have hc1 : Chg [] w w1 := by rw [hw1]; exact (Chg.refl _ _).alloc _
 have CR := LH (lread_ok E.s i E.n E.data.length (rowN E.data E.n i) _ w1 hE.s (hb.chg hc1 (by simp)) hE.n3 hE.n16 hi hE.l1 hE.l2 (row_len hE.l1 (by have := hE.n3; omega)))
 have HW1 := LH hw1
 have HC1 := LH hc1
 have HFW := LH h
 clear h hb hw1 hc1
 go_enter Tryz.func37, Tryz.ntmps37
 go_wp2_with fail
 rw [<- HW1.out]
 refine CR.out.mono ?_
 rintro e' w2 ⟨hc2, u, rfl, hu, hun⟩
 obtain ⟨ua, uc, hue⟩ := hu.bytes.slice
 subst hue
 have hcw2 : Chg [] w w2 := HC1.out.trans hc2 (by simp)
 obtain ⟨w3, hw3⟩ : ∃ w3, w3 = w2.alloc (.cells (hdC E.s i E.n E.data.length) 115) := ⟨_, rfl⟩
 have hc3 : Chg [] w w3 := by rw [hw3]; exact hcw2.alloc _
 obtain ⟨F, T, ov, xs, h1⟩ := HFW.out.keep hc3
 have c0 := h1.c0
 have c1 := h1.c1
 have c2 := h1.c2
 have c9 := h1.c9
 have c10 := h1.c10
 have c14 := h1.c14
 rw [ha] at c14
 have hd : w3.heap[w2.heap.size]? = some (.cells (hdC E.s i E.n E.data.length) 115 (0, 0)) := by rw [hw3]; exact heap_alloc_new w2 _
 have d5 := blk_cell hd 5 _ rfl
 rw [FS.size_not hk] at c10
 have hIC : IsC E w2.heap.size i (-1) w3.drew := ⟨⟨blk_cell hd 0 _ rfl, blk_cell hd 1 _ rfl, blk_cell hd 2 _ rfl, blk_cell hd 3 _ rfl, blk_cell hd 4 _ rfl, d5⟩, ⟨c0, c1, c2⟩, c14, c9, c10⟩
 have HIC := LH hIC
 have HU : Hid (BRow w3.drew (.slice ua (rowN E.data E.n i).length uc) (rowN E.data E.n i) /\ (∀ q, (Value.slice ua (rowN E.data E.n i).length uc).ownBlock = some q -> w.heap.size <= q)) := LH ⟨(show BRow w3 _ _ by rw [hw3]; exact hu.keep (fun q hq => heap_alloc_old w2 _ (hu.lt q hq))).keep (fun _ _ => rfl), fun q hq => Nat.le_trans HC1.out.size (hun q hq)⟩
 have HC3 := LH hc3.drew
 have HW3 := LH hw3
 have hd5 : w3.drew.cell? ⟨w2.heap.size, 5, none⟩ = some (.int .i64 (E.data.length : Int)) := d5
 clear hu hun hc2 hcw2 hc3 h1 hd hw3 CR hIC c0 c1 c2 c9 c10 c14
 go_wp2_with fail
 rw [<- HW3.out]
 refine wp_region_L [(44, fun w' => IsC E w2.heap.size i (-1) w')] (by kernel_rfl) ?_ (fun hHeld => ?_)
 ·exact (HoldC.cons (HIC.out) HoldC.nil)
 refine tk 0 ?_ rfl (by kernel_rfl) (fun _ _ _ h => h) (.inl ⟨by rfl, ?_⟩) hHeld ?_; rotate_left; · (intro w _; go_simp; try with_reducible rfl)
 clear hHeld; intro hHeld; try simp only [gA,gB,gC,Act.put,gD,gE,gF]
 refine tk 1 ?_ rfl (by kernel_rfl) (fun _ _ _ h => h) (.inl ⟨by rfl, ?_⟩) hHeld ?_; rotate_left; · (intro w _; go_simp; try with_reducible rfl)
 clear hHeld; intro hHeld; try simp only [gA,gB,gC,Act.put,gD,gE,gF]
 refine tk 2 ?_ rfl (by kernel_rfl) (fun _ _ _ h => h) (.inl ⟨by rfl, ?_⟩) hHeld ?_; rotate_left; · (intro w _; go_simp; try with_reducible rfl)
 clear hHeld; intro hHeld; try simp only [gA,gB,gC,Act.put,gD,gE,gF]
 refine tk 3 ?_ rfl (by kernel_rfl) (fun _ _ _ h => h) (.inl ⟨by rfl, ?_⟩) hHeld ?_; rotate_left; · (intro w _; go_simp; try with_reducible rfl)
 clear hHeld; intro hHeld; try simp only [gA,gB,gC,Act.put,gD,gE,gF]
 refine tk 5 ?_ rfl (by kernel_rfl) (fun _ _ _ h => h) (.inl ⟨by rfl, ?_⟩) hHeld ?_; rotate_left; · (intro w _; go_simp; try with_reducible rfl)
 clear hHeld; intro hHeld; try simp only [gA,gB,gC,Act.put,gD,gE,gF]
 refine tk 6 ?_ rfl (by kernel_rfl) (fun _ _ _ h => h) (.inl ⟨by rfl, ?_⟩) hHeld ?_; rotate_left; · (intro w _; go_simp; try with_reducible rfl)
 clear hHeld; intro hHeld; try simp only [gA,gB,gC,Act.put,gD,gE,gF]
 refine tk 7 ?_ rfl (by kernel_rfl) (fun _ _ _ h => h) (.inl ⟨by rfl, ?_⟩) hHeld ?_; rotate_left; · (intro w _; go_simp; try with_reducible rfl)
 clear hHeld; intro hHeld; try simp only [gA,gB,gC,Act.put,gD,gE,gF]
 refine wpAnyL_loadP 0 [29, 20, 11, 10, 9] (i := 4) (oi := _) (v := ?_) rfl rfl (by kernel_rfl) (by kernel_rfl) (by kernel_rfl) (by kernel_rfl) (by kernel_rfl) (by kernel_rfl) (fun _ _ _ h => h) (Or.inl ⟨by rfl, ?_⟩) (by assumption) (fun hNew => ?_)
 rotate_left
 ·intro w hSw
  have hSw := isC_out hSw
  go_simp
  try with_reducible rfl
 clear hHeld
 have hHeld := hNew
 clear hNew
 try simp only [gA,gB,gC,Act.put,gD,gE,gF]
 refine wpAnyL_loadP 0 [29, 20, 11, 10, 9] (i := 8) (oi := _) (v := ?_) rfl rfl (by kernel_rfl) (by kernel_rfl) (by kernel_rfl) (by kernel_rfl) (by kernel_rfl) (by kernel_rfl) (fun _ _ _ h => h) (Or.inl ⟨by rfl, ?_⟩) (by assumption) (fun hNew => ?_)
 rotate_left
 ·intro w hSw
  have hSw := isC_out hSw
  go_simp
  try with_reducible rfl
 clear hHeld
 have hHeld := hNew
 clear hNew
 try simp only [gA,gB,gC,Act.put,gD,gE,gF]
 refine tk 9 ?_ rfl (by kernel_rfl) (fun _ _ _ h => h) (.inl ⟨by rfl, ?_⟩) hHeld ?_; rotate_left; · (intro w _; go_simp; try with_reducible rfl)
 clear hHeld; intro hHeld; try simp only [gA,gB,gC,Act.put,gD,gE,gF]
 refine tk 10 ?_ rfl (by kernel_rfl) (fun _ _ _ h => h) (.inl ⟨by rfl, ?_⟩) hHeld ?_; rotate_left; · (intro w _; go_simp; try with_reducible rfl)
 clear hHeld; intro hHeld; try simp only [gA,gB,gC,Act.put,gD,gE,gF]
 refine tk 11 ?_ rfl (by kernel_rfl) (fun _ _ _ h => h) (.inl ⟨by rfl, ?_⟩) hHeld ?_; rotate_left; · (intro w _; go_simp; try with_reducible rfl)
 clear hHeld; intro hHeld; try simp only [gA,gB,gC,Act.put,gD,gE,gF]
 refine tk 12 ?_ rfl (by kernel_rfl) (fun _ _ _ h => h) (.inl ⟨by rfl, ?_⟩) hHeld ?_; rotate_left; · (intro w _; go_simp; try with_reducible rfl)
 clear hHeld; intro hHeld; try simp only [gA,gB,gC,Act.put,gD,gE,gF]
 refine tk 14 ?_ rfl (by kernel_rfl) (fun _ _ _ h => h) (.inl ⟨by rfl, ?_⟩) hHeld ?_; rotate_left; · (intro w _; go_simp; try with_reducible rfl)
 clear hHeld; intro hHeld; try simp only [gA,gB,gC,Act.put,gD,gE,gF]
 refine tk 15 ?_ rfl (by kernel_rfl) (fun _ _ _ h => h) (.inl ⟨by rfl, ?_⟩) hHeld ?_; rotate_left; · (intro w _; go_simp; try with_reducible rfl)
 clear hHeld; intro hHeld; try simp only [gA,gB,gC,Act.put,gD,gE,gF]
 refine tk 16 ?_ rfl (by kernel_rfl) (fun _ _ _ h => h) (.inl ⟨by rfl, ?_⟩) hHeld ?_; rotate_left; · (intro w _; go_simp; try with_reducible rfl)
 clear hHeld; intro hHeld; try simp only [gA,gB,gC,Act.put,gD,gE,gF]
 refine wpAnyL_loadP 0 [29, 20, 19, 18] (i := 13) (oi := _) (v := ?_) rfl rfl (by kernel_rfl) (by kernel_rfl) (by kernel_rfl) (by kernel_rfl) (by kernel_rfl) (by kernel_rfl) (fun _ _ _ h => h) (Or.inl ⟨by rfl, ?_⟩) (by assumption) (fun hNew => ?_)
 rotate_left
 ·intro w hSw
  have hSw := isC_out hSw
  go_simp
  try with_reducible rfl
 clear hHeld
 have hHeld := hNew
 clear hNew
 try simp only [gA,gB,gC,Act.put,gD,gE,gF]
 refine wpAnyL_loadP 0 [29, 20, 19, 18] (i := 17) (oi := _) (v := ?_) rfl rfl (by kernel_rfl) (by kernel_rfl) (by kernel_rfl) (by kernel_rfl) (by kernel_rfl) (by kernel_rfl) (fun _ _ _ h => h) (Or.inl ⟨by rfl, ?_⟩) (by assumption) (fun hNew => ?_)
 rotate_left
 ·intro w hSw
  have hSw := isC_out hSw
  go_simp
  try with_reducible rfl
 clear hHeld
 have hHeld := hNew
 clear hNew
 try simp only [gA,gB,gC,Act.put,gD,gE,gF]
 refine tk 18 ?_ rfl (by kernel_rfl) (fun _ _ _ h => h) (.inl ⟨by rfl, ?_⟩) hHeld ?_; rotate_left; · (intro w _; go_simp; try with_reducible rfl)
 clear hHeld; intro hHeld; try simp only [gA,gB,gC,Act.put,gD,gE,gF]
 refine tk 19 ?_ rfl (by kernel_rfl) (fun _ _ _ h => h) (.inl ⟨by rfl, ?_⟩) hHeld ?_; rotate_left; · (intro w _; go_simp; try with_reducible rfl)
 clear hHeld; intro hHeld; try simp only [gA,gB,gC,Act.put,gD,gE,gF]
 refine tk 20 ?_ rfl (by kernel_rfl) (fun _ _ _ h => h) (.inl ⟨by rfl, ?_⟩) hHeld ?_; rotate_left; · (intro w _; go_simp; try with_reducible rfl)
 clear hHeld; intro hHeld; try simp only [gA,gB,gC,Act.put,gD,gE,gF]
 refine tk 21 ?_ rfl (by kernel_rfl) (fun _ _ _ h => h) (.inl ⟨by rfl, ?_⟩) hHeld ?_; rotate_left; · (intro w _; go_simp; try with_reducible rfl)
 clear hHeld; intro hHeld; try simp only [gA,gB,gC,Act.put,gD,gE,gF]
 refine tk 23 ?_ rfl (by kernel_rfl) (fun _ _ _ h => h) (.inl ⟨by rfl, ?_⟩) hHeld ?_; rotate_left; · (intro w _; go_simp; try with_reducible rfl)
 clear hHeld; intro hHeld; try simp only [gA,gB,gC,Act.put,gD,gE,gF]
 refine tk 24 ?_ rfl (by kernel_rfl) (fun _ _ _ h => h) (.inl ⟨by rfl, ?_⟩) hHeld ?_; rotate_left; · (intro w _; go_simp; try with_reducible rfl)
 clear hHeld; intro hHeld; try simp only [gA,gB,gC,Act.put,gD,gE,gF]
 refine tk 25 ?_ rfl (by kernel_rfl) (fun _ _ _ h => h) (.inl ⟨by rfl, ?_⟩) hHeld ?_; rotate_left; · (intro w _; go_simp; try with_reducible rfl)
 clear hHeld; intro hHeld; try simp only [gA,gB,gC,Act.put,gD,gE,gF]
 refine wpAnyL_loadP 0 [29, 28, 27] (i := 22) (oi := _) (v := ?_) rfl rfl (by kernel_rfl) (by kernel_rfl) (by kernel_rfl) (by kernel_rfl) (by kernel_rfl) (by kernel_rfl) (fun _ _ _ h => h) (Or.inl ⟨by rfl, ?_⟩) (by assumption) (fun hNew => ?_)
 rotate_left
 ·intro w hSw
  have hSw := isC_out hSw
  go_simp
  try with_reducible rfl
 clear hHeld
 have hHeld := hNew
 clear hNew
 try simp only [gA,gB,gC,Act.put,gD,gE,gF]
 refine wpAnyL_loadP 0 [29, 28, 27] (i := 26) (oi := _) (v := ?_) rfl rfl (by kernel_rfl) (by kernel_rfl) (by kernel_rfl) (by kernel_rfl) (by kernel_rfl) (by kernel_rfl) (fun _ _ _ h => h) (Or.inl ⟨by rfl, ?_⟩) (by assumption) (fun hNew => ?_)
 rotate_left
 ·intro w hSw
  have hSw := isC_out hSw
  go_simp
  try with_reducible rfl
 clear hHeld
 have hHeld := hNew
 clear hNew
 try simp only [gA,gB,gC,Act.put,gD,gE,gF]
 refine tk 27 ?_ rfl (by kernel_rfl) (fun _ _ _ h => h) (.inl ⟨by rfl, ?_⟩) hHeld ?_; rotate_left; · (intro w _; go_simp; try with_reducible rfl)
 clear hHeld; intro hHeld; try simp only [gA,gB,gC,Act.put,gD,gE,gF]
 refine tk 28 ?_ rfl (by kernel_rfl) (fun _ _ _ h => h) (.inl ⟨by rfl, ?_⟩) hHeld ?_; rotate_left; · (intro w _; go_simp; try with_reducible rfl)
 clear hHeld; intro hHeld; try simp only [gA,gB,gC,Act.put,gD,gE,gF]
 refine tk 29 ?_ rfl (by kernel_rfl) (fun _ _ _ h => h) (.inl ⟨by rfl, ?_⟩) hHeld ?_; rotate_left; · (intro w _; go_simp; try with_reducible rfl)
 clear hHeld; intro hHeld; try simp only [gA,gB,gC,Act.put,gD,gE,gF]
 refine tk 30 ?_ rfl (by kernel_rfl) (fun _ _ _ h => h) (.inl ⟨by rfl, ?_⟩) hHeld ?_; rotate_left; · (intro w _; go_simp; try with_reducible rfl)
 clear hHeld; intro hHeld; try simp only [gA,gB,gC,Act.put,gD,gE,gF]
 refine tk 31 ?_ rfl (by kernel_rfl) (fun _ _ _ h => h) (.inl ⟨by rfl, ?_⟩) hHeld ?_; rotate_left; · (intro w _; go_simp; try with_reducible rfl)
 clear hHeld; intro hHeld; try simp only [gA,gB,gC,Act.put,gD,gE,gF]
 refine tk 32 ?_ rfl (by kernel_rfl) (fun _ _ _ h => h) (.inl ⟨by rfl, ?_⟩) hHeld ?_; rotate_left; · (intro w _; go_simp; try with_reducible rfl)
 clear hHeld; intro hHeld; try simp only [gA,gB,gC,Act.put,gD,gE,gF]
 refine wpAnyL_loadP 0 [43, 35, 34] (i := 33) (oi := _) (v := ?_) rfl rfl (by kernel_rfl) (by kernel_rfl) (by kernel_rfl) (by kernel_rfl) (by kernel_rfl) (by kernel_rfl) (fun _ _ _ h => h) (Or.inl ⟨by rfl, ?_⟩) (by assumption) (fun hNew => ?_)
 rotate_left
 ·intro w hSw
  have hSw := isC_out hSw
  go_simp
  try with_reducible rfl
 clear hHeld
 have hHeld := hNew
 clear hNew
 try simp only [gA,gB,gC,Act.put,gD,gE,gF]
 refine tk 34 ?_ rfl (by kernel_rfl) (fun _ _ _ h => h) (.inl ⟨by rfl, ?_⟩) hHeld ?_; rotate_left; · (intro w _; go_simp; try with_reducible rfl)
 clear hHeld; intro hHeld; try simp only [gA,gB,gC,Act.put,gD,gE,gF]
 refine tk 35 ?_ rfl (by kernel_rfl) (fun _ _ _ h => h) (.inl ⟨by rfl, ?_⟩) hHeld ?_; rotate_left; · (intro w _; go_simp; try with_reducible rfl)
 clear hHeld; intro hHeld; try simp only [gA,gB,gC,Act.put,gD,gE,gF]
 refine wpAnyL_take (i := 36) (oi := _) (v := _) rfl (by kernel_rfl) (by kernel_rfl) (by kernel_rfl) (by kernel_rfl) (by kernel_rfl) (fun _ _ _ h => h) (Or.inr ⟨by rfl, rfl⟩) (by assumption) (fun hNew => ?_)
 clear hHeld
 have hHeld := hNew
 clear hNew
 try simp only [gA,gB,gC,Act.put,gD,gE,gF]
 refine wpAnyL_take (i := 37) (oi := _) (v := _) rfl (by kernel_rfl) (by kernel_rfl) (by kernel_rfl) (by kernel_rfl) (by kernel_rfl) (fun _ _ _ h => h) (Or.inr ⟨by rfl, rfl⟩) (by assumption) (fun hNew => ?_)
 clear hHeld
 have hHeld := hNew
 clear hNew
 try simp only [gA,gB,gC,Act.put,gD,gE,gF]
 refine wpAnyL_take (i := 38) (oi := _) (v := _) rfl (by kernel_rfl) (by kernel_rfl) (by kernel_rfl) (by kernel_rfl) (by kernel_rfl) (fun _ _ _ h => h) (Or.inr ⟨by rfl, rfl⟩) (by assumption) (fun hNew => ?_)
 clear hHeld
 have hHeld := hNew
 clear hNew
 try simp only [gA,gB,gC,Act.put,gD,gE,gF]
 refine wpAnyL_take (i := 39) (oi := _) (v := _) rfl (by kernel_rfl) (by kernel_rfl) (by kernel_rfl) (by kernel_rfl) (by kernel_rfl) (fun _ _ _ h => h) (Or.inr ⟨by rfl, rfl⟩) (by assumption) (fun hNew => ?_)
 clear hHeld
 have hHeld := hNew
 clear hNew
 try simp only [gA,gB,gC,Act.put,gD,gE,gF]
 refine wpAnyL_take (i := 40) (oi := _) (v := _) rfl (by kernel_rfl) (by kernel_rfl) (by kernel_rfl) (by kernel_rfl) (by kernel_rfl) (fun _ _ _ h => h) (Or.inr ⟨by rfl, rfl⟩) (by assumption) (fun hNew => ?_)
 clear hHeld
 have hHeld := hNew
 clear hNew
 try simp only [gA,gB,gC,Act.put,gD,gE,gF]
 refine wpAnyL_take (i := 41) (oi := _) (v := _) rfl (by kernel_rfl) (by kernel_rfl) (by kernel_rfl) (by kernel_rfl) (by kernel_rfl) (fun _ _ _ h => h) (Or.inr ⟨by rfl, rfl⟩) (by assumption) (fun hNew => ?_)
 clear hHeld
 have hHeld := hNew
 clear hNew
 try simp only [gA,gB,gC,Act.put,gD,gE,gF]
 refine wpAnyL_take (i := 42) (oi := _) (v := _) rfl (by kernel_rfl) (by kernel_rfl) (by kernel_rfl) (by kernel_rfl) (by kernel_rfl) (fun _ _ _ h => h) (Or.inr ⟨by rfl, rfl⟩) (by assumption) (fun hNew => ?_)
 clear hHeld
 have hHeld := hNew
 clear hNew
 try simp only [gA,gB,gC,Act.put,gD,gE,gF]
 refine tk 43 ?_ rfl (by kernel_rfl) (fun _ _ _ h => h) (.inl ⟨by rfl, ?_⟩) hHeld ?_; rotate_left; · (intro w _; go_simp; try with_reducible rfl)
 clear hHeld; intro hHeld; try simp only [gA,gB,gC,Act.put,gD,gE,gF]
 refine wpAnyL_ready (rs := [44]) (by kernel_rfl) (by simp) (AllReadyL.cons (o := _) rfl (fun K hK => ?_) AllReadyL.nil)
 try simp only [gA,gB,gC]
 go_simp
 clear hHeld
 refine hK.out _ _ ?_ (fun hHeld => ?_)
 ·exact (HoldC.past (by kernel_rfl) HoldC.nil)
 clear hK K
 try simp only [gA,gB,gC,Act.put,gD,gE,gF]
 refine tk 45 ?_ rfl (by kernel_rfl) (fun _ _ _ h => h) (.inl ⟨by rfl, ?_⟩) hHeld ?_; rotate_left; · (intro w _; go_simp; try with_reducible rfl)
 clear hHeld; intro hHeld; try simp only [gA,gB,gC,Act.put,gD,gE,gF]
 refine wpAnyL_done (by kernel_rfl) ?_ _
 clear hHeld
 go_wp2
 go_ret3
 exact ⟨⟨_, rfl, HU.out⟩, HC3.out⟩
end
section
open Go.RowKit Go.Shelf
theorem fis_good {E : Env} {f : FS} (i : Nat) (w : World) (e room : Int) (ba ia : Option Addr) (bn bc il ic : Nat) (wh : Bool) (hE : E.Ok) (h : FtAt E w f) (hi : i < E.n) (ha : f.asked = (i : Int)) (hb : BytesAt w (.slice ba bn bc) (fragN E.s E.data E.n i)) :
  Calls Tryz.prog 37 #[fpV E, rpA e (.slice ba bn bc) (.slice ia il ic) room wh] w (IsP E i w) := by
 by_cases hk : 1 ∈ f.known
 ·exact fis_goodK i w e room ba ia bn bc il ic wh hE h hi hk ha hb
 ·exact fis_goodN i w e room ba ia bn bc il ic wh hE h hi hk ha hb
def FS.bad (f : FS) (E : Env) (i : Nat) : FS := if 1 < (f.miss i).known.count 2 then (f.miss i).ends [] 15 else (f.miss i).settled E
def FS.good (f : FS) (E : Env) (i : Nat) : FS := if f.whole = false /\ E.data.length < f.at' + f.len then (f.had i).ends [] 4 else (f.had i).settled E
def FS.Able (f : FS) (E : Env) : Prop := (1 ∈ f.known -> f.Within E.data.length) /\ (f.want E.data.length E.n = [] -> f.Ready E)
theorem fgive_noop {E : Env} {f : FS} (w : World) (e room : Int) (ba ia : Option Addr) (bn bc il ic : Nat) (wh came : Bool) (hE : E.Ok) (h : FtAt E w f) (hd : f.done = true ∨ (f.done = false /\ f.asked < 0)) :
  Calls Tryz.prog 18 #[fpV E, rpA e (.slice ba bn bc) (.slice ia il ic) room wh, .bool came] w fun e' w' => e' = .returned (.tuple #[]) /\ Chg [] w w' := by
 obtain ⟨w1, hw1⟩ : ∃ w1, w1 = w.alloc (.cells #[.int .i64 e, .slice ba bn bc, .slice ia il ic, .int .i64 room, .bool wh] 52) := ⟨_, rfl⟩
 have hc1 : Chg [] w w1 := by rw [hw1]; exact (Chg.refl _ _).alloc _
 have CM := LH (fmade_any w1 hE (h.keep hc1))
 obtain ⟨F, T, ov, xs, h1⟩ := h.keep hc1
 have c15 := h1.c15
 have c14 := h1.c14
 have HW1 := LH hw1
 have HC1 := LH hc1
 clear h h1 hw1 hc1
 go_enter Tryz.func18, Tryz.ntmps18
 go_wp2_with fail
 rw [<- HW1.out]
 refine CM.out.mono ?_
 rintro e' w' ⟨rfl, hq⟩
 subst hq
 rcases hd with hd | ⟨hd, ha⟩
 ·rw [hd] at c15
  go_wp2
  exact bodyPost_ret (results_none rfl _ _ _) rfl ⟨rfl, HC1.out⟩
 ·rw [hd] at c15
  go_wp2
  exact bodyPost_ret (results_none rfl _ _ _) rfl ⟨rfl, HC1.out⟩
theorem fgive_none {E : Env} {f : FS} (i : Nat) (w : World) (room : Int) (ba ia : Option Addr) (bn bc il ic : Nat) (wh : Bool) (hE : E.Ok) (h : FtAt E w f) (hd : f.done = false) (ha : f.asked = (i : Int)) :
  Calls Tryz.prog 18 #[fpV E, rpA 6 (.slice ba bn bc) (.slice ia il ic) room wh, .bool true] w fun e' w' => e' = .returned (.tuple #[]) /\ FtAt E w' (FS.ends { f with asked := -1 } [] 6) /\ Chg E.T w w' := by
 obtain ⟨w1, hw1⟩ : ∃ w1, w1 = w.alloc (.cells #[.int .i64 6, .slice ba bn bc, .slice ia il ic, .int .i64 room, .bool wh] 52) := ⟨_, rfl⟩
 have hc1 : Chg [] w w1 := by rw [hw1]; exact (Chg.refl _ _).alloc _
 have CM := LH (fmade_any w1 hE (h.keep hc1))
 obtain ⟨hA, hcA⟩ := (h.keep hc1).setAsked hE (-1)
 have CE := LH (fend_any [] (.slice none 0 0) 6 _ hE hA (BytesAt.nil _) (by simp))
 obtain ⟨F, T, ov, xs, h1⟩ := h.keep hc1
 have c15 := h1.c15
 have c14 := h1.c14
 have z14 := h1.fz 14
 have l14 := blk_lt h1.head
 rw [hd] at c15
 rw [ha] at c14
 have hia : ¬ (i : Int) < 0 := by omega
 have HW1 := LH hw1
 have HCA := LH ((hc1.mono (T := E.T) (by simp)).trans hcA (fun x hx => .inl hx))
 have hn1 : ¬ (E.fb = w.heap.size) := fun e => by have := h.lim E.fb (by simp); omega
 have hn2 : ¬ (w.heap.size = E.fb) := fun e => hn1 e.symm
 have HR := LH (show w1.heap[w.heap.size]? = some (.cells #[.int .i64 6, .slice ba bn bc, .slice ia il ic, .int .i64 room, .bool wh] 52 (0, 0)) by rw [hw1]; exact heap_alloc_new w _)
 have r0 := blk_cell HR.out 0 _ rfl
 clear h h1 hw1 hc1 hA hcA
 go_enter Tryz.func18, Tryz.ntmps18
 go_wp2_with fail
 rw [<- HW1.out]
 refine CM.out.mono ?_
 rintro e' w' ⟨rfl, hq⟩
 subst hq
 go_wp2_with fail
 refine CE.out.mono ?_
 rintro e' w2 ⟨rfl, hf, hc⟩
 have HF := LH (And.intro hf (HCA.out.trans hc (fun x hx => .inl hx)))
 clear hf hc CE
 go_wp2
 exact bodyPost_ret (results_none rfl _ _ _) rfl ⟨rfl, HF.out⟩
theorem fgive_bad {E : Env} {f : FS} (i : Nat) (w : World) (e room : Int) (ba ia : Option Addr) (bn bc il ic : Nat) (wh came : Bool) (l : List UInt8) (hE : E.Ok) (h : FtAt E w f) (hd : f.done = false) (ha : f.asked = (i : Int)) (hi : i < E.n) (h0 : f.known.getD i 0 = 0) (hce : came = false ∨ e ≠ 6) (hb : BytesAt w (.slice ba bn bc) l) (hl : l.length < 12) (hab : ¬ 1 < (f.miss i).known.count 2 -> (f.miss i).Able E) :
  Calls Tryz.prog 18 #[fpV E, rpA e (.slice ba bn bc) (.slice ia il ic) room wh, .bool came] w fun e' w' => e' = .returned (.tuple #[]) /\ FtAt E w' (f.bad E i) /\ Chg E.T w w' := by
 obtain ⟨w1, hw1⟩ : ∃ w1, w1 = w.alloc (.cells #[.int .i64 e, .slice ba bn bc, .slice ia il ic, .int .i64 room, .bool wh] 52) := ⟨_, rfl⟩
 have hc1 : Chg [] w w1 := by rw [hw1]; exact (Chg.refl _ _).alloc _
 have CM := LH (fmade_any w1 hE (h.keep hc1))
 have CI := LH (fis_short w1 e room ba ia bn bc il ic wh l hE (h.keep hc1) (hb.chg hc1 (by simp)) hl)
 have HFW := LH h
 have hTl := h.lim
 have HTl := LH hTl
 obtain ⟨F, T, ov, xs, h1⟩ := h.keep hc1
 have c15 := h1.c15
 have c14 := h1.c14
 rw [hd] at c15
 rw [ha] at c14
 have hia : ¬ (i : Int) < 0 := by omega
 have HW1 := LH hw1
 have HC1 := LH hc1
 have HE := LH hE
 have hn1 : ¬ (E.fb = w.heap.size) := fun e => by have := hTl E.fb (by simp); omega
 have hn2 : ¬ (w.heap.size = E.fb) := fun e => hn1 e.symm
 have HR := LH (show w1.heap[w.heap.size]? = some (.cells #[.int .i64 e, .slice ba bn bc, .slice ia il ic, .int .i64 room, .bool wh] 52 (0, 0)) by rw [hw1]; exact heap_alloc_new w _)
 obtain ⟨r0, r1, r2, r3, r4⟩ : w1.cell? ⟨w.heap.size, 0, none⟩ = some (.int .i64 e) /\ w1.cell? ⟨w.heap.size, 1, none⟩ = some (.slice ba bn bc) /\ w1.cell? ⟨w.heap.size, 2, none⟩ = some (.slice ia il ic) /\ w1.cell? ⟨w.heap.size, 3, none⟩ = some (.int .i64 room) /\ w1.cell? ⟨w.heap.size, 4, none⟩ = some (.bool wh) := ⟨blk_cell HR.out 0 _ rfl, blk_cell HR.out 1 _ rfl, blk_cell HR.out 2 _ rfl, blk_cell HR.out 3 _ rfl, blk_cell HR.out 4 _ rfl⟩
 have hcb : came = false ∨ (came = true /\ (e == 6) = false) := by
  rcases hce with h | h
  ·exact .inl h
  ·cases came
   ·exact .inl rfl
   ·exact .inr ⟨rfl, beq_eq_false_iff_ne.2 h⟩
 clear h h1 hw1 hc1 hb hce
 go_enter Tryz.func18, Tryz.ntmps18
 go_wp2_with fail
 rw [<- HW1.out]
 refine CM.out.mono ?_
 rintro e' w' ⟨rfl, hq⟩
 subst hq
 have HJ : ∀ (P : Prop), ((came = false -> P) -> (came = true /\ (e == 6) = false -> P) -> P) := fun P h1 h2 => hcb.elim h1 h2
 rcases hcb with rfl | ⟨rfl, he6⟩
 all_goals
  go_wp2_with fail
  refine CI.out.mono ?_
  rintro e' w2 ⟨rfl, hc2⟩
  have hf2 := (HFW.out.keep HC1.out).keep hc2
  obtain ⟨hA, hcA⟩ := hf2.miss HE.out i hi h0
  have HC2 := LH (HC1.out.trans hc2 (by simp))
  obtain ⟨F2, T2, ov2, xs2, k2⟩ := hf2
  have d14 := k2.c14
  have z14 := k2.fz 14
  have l14 := blk_lt k2.head
  have d11 := k2.c11
  have dk := k2.kcell i hi
  have zk := blk_frozen k2.kn i
  have lk := blk_lt k2.kn
  obtain ⟨m1, m2, m3, m4, m5, m6⟩ := HE.out.ne
  have m7 : ¬ (E.kb = E.fb) := fun e => m1 e.symm
  have s0 := hc2.cell r0 (by simp)
  have hinz : (i : Int) < (E.n : Int) := by omega
  have hinz1 : (i : Int).toNat = i := by omega
  have HA := LH hA
  have HCA := LH (((HC1.out.trans hc2 (by simp)).mono (T := E.T) (by simp)).trans hcA (fun x hx => .inl hx))
  clear hc2 k2 hA hcA CI CM r0 r1 r2 r3 r4 c14 c15
  go_wp2_with fail
 all_goals
  generalize (w2.setCell ⟨E.fb, 14, none⟩ (.int .i64 (-1))).setCell ⟨E.kb, i, none⟩ (.int .i64 2) = w3 at *
  clear d14 z14 l14 d11 dk zk lk s0
  refine (fcount_any 2 w3 HE.out HA.out).mono ?_
  rintro e' w' ⟨rfl, hq⟩
  subst hq
  by_cases hct : 1 < (f.miss i).known.count 2
  ·have HB : Hid (f.bad E i = (f.miss i).ends [] 15) := LH (by unfold FS.bad; rw [if_pos hct])
   have hctz : (1 : Int) < (((f.miss i).known.count 2 : Nat) : Int) := by omega
   have CE := LH (fend_any [] (.slice none 0 0) 15 w3 HE.out HA.out (BytesAt.nil _) (by simp))
   go_wp2_with fail
   refine CE.out.mono ?_
   rintro e' w4 ⟨rfl, hf, hc⟩
   rw [<- HB.out] at hf
   have HF := LH (And.intro hf (HCA.out.trans hc (fun x hx => .inl hx)))
   clear hf hc CE
   go_wp2
   exact bodyPost_ret (results_none rfl _ _ _) rfl ⟨rfl, HF.out⟩
  ·have HB : Hid (f.bad E i = (f.miss i).settled E) := LH (by unfold FS.bad; rw [if_neg hct])
   have hctz : ¬ (1 : Int) < (((f.miss i).known.count 2 : Nat) : Int) := by omega
   have hctd : decide ((1 : Int) < (((f.miss i).known.count 2 : Nat) : Int)) = false := decide_eq_false hctz
   have CS := LH (fsettle_any w3 HE.out HA.out (hab hct).1 (hab hct).2)
   go_wp2_with fail
   refine CS.out.mono ?_
   rintro e' w4 ⟨rfl, hf, hc⟩
   rw [<- HB.out] at hf
   have HF := LH (And.intro hf (HCA.out.trans hc (fun x hx => .inl hx)))
   clear hf hc CS
   go_wp2
   exact bodyPost_ret (results_none rfl _ _ _) rfl ⟨rfl, HF.out⟩
end
section
open Go.RowKit Go.Shelf
theorem FtAt.had1 {E : Env} {w : World} {f : FS} (h : FtAt E w f) (hE : E.Ok) (has : f.asked = -1) (i : Nat) (hi : i < E.n) (va vb : Value) (ha : BytesAt w va (fragN E.s E.data E.n i)) (haT : ∀ q, va.ownBlock = some q -> q ∉ E.T) (hb : BytesAt w vb (rowN E.data E.n i)) (hbT : ∀ q, vb.ownBlock = some q -> q ∉ E.T) :
  FtAt E ((((w.setCell ⟨E.kb, i, none⟩ (.int .i64 1)).setCell ⟨E.gb, i, none⟩ va).setCell ⟨E.rb, i, none⟩ vb).setCell ⟨E.fb, 10, none⟩ (.int .i64 (E.data.length : Int))) (f.had i) /\
  Chg E.T w ((((w.setCell ⟨E.kb, i, none⟩ (.int .i64 1)).setCell ⟨E.gb, i, none⟩ va).setCell ⟨E.rb, i, none⟩ vb).setCell ⟨E.fb, 10, none⟩ (.int .i64 (E.data.length : Int))) := by
 obtain ⟨F, T, ov, xs, h⟩ := h
 obtain ⟨n1, n2, n3, n4, n5, n6⟩ := hE.ne
 have hc : Chg E.T w ((((w.setCell ⟨E.kb, i, none⟩ (.int .i64 1)).setCell ⟨E.gb, i, none⟩ va).setCell ⟨E.rb, i, none⟩ vb).setCell ⟨E.fb, 10, none⟩ (.int .i64 (E.data.length : Int))) :=
  ((((Chg.refl _ w).setCell (p := ⟨E.kb, i, none⟩) (.inl (by simp)) _).setCell (p := ⟨E.gb, i, none⟩) (.inl (by simp)) _).setCell (p := ⟨E.rb, i, none⟩) (.inl (by simp)) _).setCell (p := ⟨E.fb, 10, none⟩) (.inl (by simp)) _
 have hil : i < f.known.length := by rw [h.klen]; exact hi
 have hmem : 1 ∈ f.known.set i 1 := List.mem_set hil 1
 refine ⟨⟨F.set i (va, fragN E.s E.data E.n i), T.set i (vb, rowN E.data E.n i), ov, xs, ?_, ?_, ?_, ?_, by show (f.known.set i 1).length = _; rw [List.length_set]; exact h.klen, by rw [List.length_set]; exact h.flen, by rw [List.length_set]; exact h.tlen, fun k hk => ?_, fun j x hx => ?_, fun j x hx => ?_, h.out.chgW hc h.outT, h.outT⟩, hc⟩
 ·have h1 := set_blk (j := 10) (u := .int .i64 (E.data.length : Int)) (blk_sets (b' := E.rb) (j := i) (u := vb) (blk_sets (b' := E.gb) (j := i) (u := va) (blk_sets (b' := E.kb) (j := i) (u := .int .i64 1) h.head n1) n2) n3)
  rw [h1]
  have hsz : (f.had i).size E.data.length = (E.data.length : Int) := FS.size_known (f := f.had i) hmem
  unfold ftL
  rw [hsz, has]
  rfl
 ·rw [blk_sets (blk_sets (blk_sets (set_blk h.kn) n4) n5) n1.symm]
  have := kvs_set f.known i 1
  rw [show ((1 : Nat) : Int) = 1 from rfl] at this
  rw [this]
  rfl
 ·rw [blk_sets (blk_sets (set_blk (blk_sets h.fr n4.symm)) n6) n2.symm, rowV_set]
 ·rw [blk_sets (set_blk (blk_sets (blk_sets h.rs n5.symm) n6.symm)) n3.symm, rowV_set]
 ·rcases List.mem_or_eq_of_mem_set hk with hk | hk
  ·exact h.k3 k hk
  ·omega
 ·show BytesAt _ _ _ /\ x.2 = (if (f.known.set i 1).getD j 0 = 1 then _ else _) /\ _
  rw [getD_setN _ _ _ _ hil]
  by_cases hji : j = i
  ·subst hji
   rw [List.getElem?_set_self (by rw [h.flen]; exact hi)] at hx
   obtain rfl := Option.some.inj hx
   exact ⟨ha.chgW hc (fun _ => haT), by rw [if_pos rfl, if_pos rfl], fun _ => haT⟩
  ·rw [List.getElem?_set_ne (fun e => hji e.symm)] at hx
   rw [if_neg hji]
   obtain ⟨a1, a2, a3⟩ := h.frag j x hx
   exact ⟨a1.chgW hc a3, a2, a3⟩
 ·show BytesAt _ _ _ /\ x.2 = (if (f.known.set i 1).getD j 0 = 1 then _ else _) /\ _
  rw [getD_setN _ _ _ _ hil]
  by_cases hji : j = i
  ·subst hji
   rw [List.getElem?_set_self (by rw [h.tlen]; exact hi)] at hx
   obtain rfl := Option.some.inj hx
   exact ⟨hb.chgW hc (fun _ => hbT), by rw [if_pos rfl, if_pos rfl], fun _ => hbT⟩
  ·rw [List.getElem?_set_ne (fun e => hji e.symm)] at hx
   rw [if_neg hji]
   obtain ⟨a1, a2, a3⟩ := h.rest j x hx
   exact ⟨a1.chgW hc a3, a2, a3⟩
theorem FtOk.gcell {E : Env} {w : World} {f : FS} {F T : List VRow} {ov : Value} {xs : Sp} (h : FtOk E w f F T ov xs) (i : Nat) (hi : i < E.n) : (∃ v, w.cell? ⟨E.gb, i, none⟩ = some v) /\ w.frozen? ⟨E.gb, i, none⟩ = false /\ E.gb < w.heap.size /\ (∃ v, w.cell? ⟨E.rb, i, none⟩ = some v) /\ w.frozen? ⟨E.rb, i, none⟩ = false /\ E.rb < w.heap.size := by
 have h1 : i < (F.map (·.1)).toArray.size := by simp [h.flen, hi]
 have h2 : i < (T.map (·.1)).toArray.size := by simp [h.tlen, hi]
 exact ⟨⟨_, blk_cell h.fr i _ (Array.getElem?_eq_getElem h1)⟩, blk_frozen h.fr i, blk_lt h.fr, ⟨_, blk_cell h.rs i _ (Array.getElem?_eq_getElem h2)⟩, blk_frozen h.rs i, blk_lt h.rs⟩
theorem fgive_good {E : Env} {f : FS} (i : Nat) (w : World) (room : Int) (ba ia : Option Addr) (bn bc il ic : Nat) (wh : Bool) (hE : E.Ok) (h : FtAt E w f) (hd : f.done = false) (ha : f.asked = (i : Int)) (hi : i < E.n) (hb : BytesAt w (.slice ba bn bc) (fragN E.s E.data E.n i)) (hbT : ∀ q, (Value.slice ba bn bc).ownBlock = some q -> q ∉ E.T) (hat : f.at' <= 100000 /\ f.len <= 100000) (hab : ¬ (f.whole = false /\ E.data.length < f.at' + f.len) -> (f.had i).Able E) :
  Calls Tryz.prog 18 #[fpV E, rpA 0 (.slice ba bn bc) (.slice ia il ic) room wh, .bool true] w fun e' w' => e' = .returned (.tuple #[]) /\ FtAt E w' (f.good E i) /\ Chg E.T w w' := by
 obtain ⟨w1, hw1⟩ : ∃ w1, w1 = w.alloc (.cells #[.int .i64 0, .slice ba bn bc, .slice ia il ic, .int .i64 room, .bool wh] 52) := ⟨_, rfl⟩
 have hc1 : Chg [] w w1 := by rw [hw1]; exact (Chg.refl _ _).alloc _
 have CM := LH (fmade_any w1 hE (h.keep hc1))
 have CI := LH (fis_good i w1 0 room ba ia bn bc il ic wh hE (h.keep hc1) hi ha (hb.chg hc1 (by simp)))
 have HFW := LH h
 have hTl := h.lim
 have hn3 := hE.n3
 have hn16 := hE.n16
 have hl2 := hE.l2
 have HBW := LH hb
 have hbl : (fragN E.s E.data E.n i).length <= 1000000 := by
  unfold fragN
  rw [List.length_append, headB_len]
  have := row_le (data := E.data) (n := E.n) (i := i) hE.l1 (by omega)
  omega
 obtain ⟨F, T, ov, xs, h1⟩ := h.keep hc1
 have c15 := h1.c15
 have c14 := h1.c14
 rw [hd] at c15
 rw [ha] at c14
 have hia : ¬ (i : Int) < 0 := by omega
 have HW1 := LH hw1
 have HC1 := LH hc1
 have HE := LH hE
 have hn1 : ¬ (E.fb = w.heap.size) := fun e => by have := hTl E.fb (by simp); omega
 have hn2 : ¬ (w.heap.size = E.fb) := fun e => hn1 e.symm
 have HR := LH (show w1.heap[w.heap.size]? = some (.cells #[.int .i64 0, .slice ba bn bc, .slice ia il ic, .int .i64 room, .bool wh] 52 (0, 0)) by rw [hw1]; exact heap_alloc_new w _)
 obtain ⟨r0, r1, r2, r3, r4⟩ : w1.cell? ⟨w.heap.size, 0, none⟩ = some (.int .i64 0) /\ w1.cell? ⟨w.heap.size, 1, none⟩ = some (.slice ba bn bc) /\ w1.cell? ⟨w.heap.size, 2, none⟩ = some (.slice ia il ic) /\ w1.cell? ⟨w.heap.size, 3, none⟩ = some (.int .i64 room) /\ w1.cell? ⟨w.heap.size, 4, none⟩ = some (.bool wh) := ⟨blk_cell HR.out 0 _ rfl, blk_cell HR.out 1 _ rfl, blk_cell HR.out 2 _ rfl, blk_cell HR.out 3 _ rfl, blk_cell HR.out 4 _ rfl⟩
 clear h h1 hw1 hc1 hb
 go_enter Tryz.func18, Tryz.ntmps18
 go_wp2_with fail
 rw [<- HW1.out]
 refine CM.out.mono ?_
 rintro e' w' ⟨rfl, hq⟩
 subst hq
 go_wp2_with fail
 refine CI.out.mono ?_
 rintro e' w2 ⟨⟨u, rfl, hu, hun⟩, hc2⟩
 obtain ⟨ua, uc, hue⟩ := hu.bytes.slice
 subst hue
 have hf2 := (HFW.out.keep HC1.out).keep hc2
 have hAA := hf2.setAsked HE.out (-1)
 obtain ⟨F2, T2, ov2, xs2, k2⟩ := hf2
 have d14 := k2.c14
 have z14 := k2.fz 14
 have l14 := blk_lt k2.head
 have s0 := hc2.cell r0 (by simp)
 have HU := LH (And.intro hu hun)
 have HC2 := LH (HC1.out.trans hc2 (by simp))
 have HR2 := LH (hc2.keep HR.out (by simp))
 obtain ⟨w3, hw3⟩ : ∃ w3, w3 = w2.setCell ⟨E.fb, 14, none⟩ (.int .i64 (-1)) := ⟨_, rfl⟩
 rw [<- hw3] at hAA
 have hcA := hAA.2
 have HW3 := LH hw3
 have HA := LH hAA.1
 have HCA := LH hcA
 have hrT : w.heap.size ∉ E.T := fun hm => by have := hTl _ hm; omega
 have HR3 := LH (hcA.keep HR2.out hrT)
 obtain ⟨F3, T3, ov3, xs3, k3⟩ := hAA.1
 have c11 := k3.c11
 have c12 := k3.c12
 have c13 := k3.c13
 have q1 := blk_cell HR3.out 1 _ rfl
 have hinz : (i : Int) < (E.n : Int) := by omega
 have hinz1 : (i : Int).toNat = i := by omega
 clear hc2 k2 k3 hAA hcA hu hun CI CM r0 r1 r2 r3 r4 c14 c15 hw3
 go_wp2_with fail
 rw [<- HW3.out]
 have HCW3 := LH ((HC2.out.mono (T := E.T) (by simp)).trans HCA.out (fun x hx => .inl hx))
 have HB3 := LH (HBW.out.chgW HCW3.out (fun _ => hbT))
 refine wp_region_L [(22, fun w' => w'.cell? ⟨E.fb, 11, none⟩ = some (.slice (some ⟨E.kb, 0, none⟩) E.n E.n)), (22, fun w' => w'.cell? ⟨E.fb, 12, none⟩ = some (.slice (some ⟨E.gb, 0, none⟩) E.n E.n)), (22, fun w' => w'.cell? ⟨E.fb, 13, none⟩ = some (.slice (some ⟨E.rb, 0, none⟩) E.n E.n)), (22, fun w' => w'.cell? ⟨w.heap.size, 1, none⟩ = some (.slice ba bn bc))] (by kernel_rfl) ?_ (fun hHeld => ?_)
 ·exact (HoldC.cons (c11) (HoldC.cons (c12) (HoldC.cons (c13) (HoldC.cons (q1) HoldC.nil))))
 refine tk 0 ?_ rfl (by kernel_rfl) (fun _ _ _ h => h) (.inl ⟨by rfl, ?_⟩) hHeld ?_; rotate_left; · (intro w _; go_simp; try with_reducible rfl)
 clear hHeld; intro hHeld; try simp only [gA,gB,gC,Act.put,gD,gE,gF]
 refine tk 1 ?_ rfl (by kernel_rfl) (fun _ _ _ h => h) (.inl ⟨by rfl, ?_⟩) hHeld ?_; rotate_left; · (intro w _; go_simp; try with_reducible rfl)
 clear hHeld; intro hHeld; try simp only [gA,gB,gC,Act.put,gD,gE,gF]
 refine tk 2 ?_ rfl (by kernel_rfl) (fun _ _ _ h => h) (.inl ⟨by rfl, ?_⟩) hHeld ?_; rotate_left; · (intro w _; go_simp; try with_reducible rfl)
 clear hHeld; intro hHeld; try simp only [gA,gB,gC,Act.put,gD,gE,gF]
 refine tk 4 ?_ rfl (by kernel_rfl) (fun _ _ _ h => h) (.inl ⟨by rfl, ?_⟩) hHeld ?_; rotate_left; · (intro w _; go_simp; try with_reducible rfl)
 clear hHeld; intro hHeld; try simp only [gA,gB,gC,Act.put,gD,gE,gF]
 refine tk 5 ?_ rfl (by kernel_rfl) (fun _ _ _ h => h) (.inl ⟨by rfl, ?_⟩) hHeld ?_; rotate_left; · (intro w _; go_simp; try with_reducible rfl)
 clear hHeld; intro hHeld; try simp only [gA,gB,gC,Act.put,gD,gE,gF]
 refine tk 6 ?_ rfl (by kernel_rfl) (fun _ _ _ h => h) (.inl ⟨by rfl, ?_⟩) hHeld ?_; rotate_left; · (intro w _; go_simp; try with_reducible rfl)
 clear hHeld; intro hHeld; try simp only [gA,gB,gC,Act.put,gD,gE,gF]
 refine tk 7 ?_ rfl (by kernel_rfl) (fun _ _ _ h => h) (.inl ⟨by rfl, ?_⟩) hHeld ?_; rotate_left; · (intro w _; go_simp; try with_reducible rfl)
 clear hHeld; intro hHeld; try simp only [gA,gB,gC,Act.put,gD,gE,gF]
 refine tk 9 ?_ rfl (by kernel_rfl) (fun _ _ _ h => h) (.inl ⟨by rfl, ?_⟩) hHeld ?_; rotate_left; · (intro w _; go_simp; try with_reducible rfl)
 clear hHeld; intro hHeld; try simp only [gA,gB,gC,Act.put,gD,gE,gF]
 refine tk 10 ?_ rfl (by kernel_rfl) (fun _ _ _ h => h) (.inl ⟨by rfl, ?_⟩) hHeld ?_; rotate_left; · (intro w _; go_simp; try with_reducible rfl)
 clear hHeld; intro hHeld; try simp only [gA,gB,gC,Act.put,gD,gE,gF]
 refine tk 11 ?_ rfl (by kernel_rfl) (fun _ _ _ h => h) (.inl ⟨by rfl, ?_⟩) hHeld ?_; rotate_left; · (intro w _; go_simp; try with_reducible rfl)
 clear hHeld; intro hHeld; try simp only [gA,gB,gC,Act.put,gD,gE,gF]
 refine tk 12 ?_ rfl (by kernel_rfl) (fun _ _ _ h => h) (.inl ⟨by rfl, ?_⟩) hHeld ?_; rotate_left; · (intro w _; go_simp; try with_reducible rfl)
 clear hHeld; intro hHeld; try simp only [gA,gB,gC,Act.put,gD,gE,gF]
 refine tk 14 ?_ rfl (by kernel_rfl) (fun _ _ _ h => h) (.inl ⟨by rfl, ?_⟩) hHeld ?_; rotate_left; · (intro w _; go_simp; try with_reducible rfl)
 clear hHeld; intro hHeld; try simp only [gA,gB,gC,Act.put,gD,gE,gF]
 refine tk 15 ?_ rfl (by kernel_rfl) (fun _ _ _ h => h) (.inl ⟨by rfl, ?_⟩) hHeld ?_; rotate_left; · (intro w _; go_simp; try with_reducible rfl)
 clear hHeld; intro hHeld; try simp only [gA,gB,gC,Act.put,gD,gE,gF]
 refine tk 16 ?_ rfl (by kernel_rfl) (fun _ _ _ h => h) (.inl ⟨by rfl, ?_⟩) hHeld ?_; rotate_left; · (intro w _; go_simp; try with_reducible rfl)
 clear hHeld; intro hHeld; try simp only [gA,gB,gC,Act.put,gD,gE,gF]
 refine tk 19 ?_ rfl (by kernel_rfl) (fun _ _ _ h => h) (.inl ⟨by rfl, ?_⟩) hHeld ?_; rotate_left; · (intro w _; go_simp; try with_reducible rfl)
 clear hHeld; intro hHeld; try simp only [gA,gB,gC,Act.put,gD,gE,gF]
 refine tk 20 ?_ rfl (by kernel_rfl) (fun _ _ _ h => h) (.inl ⟨by rfl, ?_⟩) hHeld ?_; rotate_left; · (intro w _; go_simp; try with_reducible rfl)
 clear hHeld; intro hHeld; try simp only [gA,gB,gC,Act.put,gD,gE,gF]
 refine wpAnyL_loadP 0 [] (i := 3) (oi := _) (v := ?_) rfl rfl (by kernel_rfl) (by kernel_rfl) (by kernel_rfl) (by kernel_rfl) (by kernel_rfl) (by kernel_rfl) (fun _ _ _ h => h) (Or.inl ⟨by rfl, ?_⟩) (by assumption) (fun hNew => ?_)
 rotate_left
 ·intro w hSw
  (try dsimp only at hSw)
  go_simp
  try with_reducible rfl
 clear hHeld
 have hHeld := hNew
 clear hNew
 try simp only [gA,gB,gC,Act.put,gD,gE,gF]
 refine wpAnyL_loadP 1 [] (i := 8) (oi := _) (v := ?_) rfl rfl (by kernel_rfl) (by kernel_rfl) (by kernel_rfl) (by kernel_rfl) (by kernel_rfl) (by kernel_rfl) (fun _ _ _ h => h) (Or.inl ⟨by rfl, ?_⟩) (by assumption) (fun hNew => ?_)
 rotate_left
 ·intro w hSw
  (try dsimp only at hSw)
  go_simp
  try with_reducible rfl
 clear hHeld
 have hHeld := hNew
 clear hNew
 try simp only [gA,gB,gC,Act.put,gD,gE,gF]
 refine wpAnyL_loadP 2 [] (i := 13) (oi := _) (v := ?_) rfl rfl (by kernel_rfl) (by kernel_rfl) (by kernel_rfl) (by kernel_rfl) (by kernel_rfl) (by kernel_rfl) (fun _ _ _ h => h) (Or.inl ⟨by rfl, ?_⟩) (by assumption) (fun hNew => ?_)
 rotate_left
 ·intro w hSw
  (try dsimp only at hSw)
  go_simp
  try with_reducible rfl
 clear hHeld
 have hHeld := hNew
 clear hNew
 try simp only [gA,gB,gC,Act.put,gD,gE,gF]
 refine wpAnyL_loadP 3 [18] (i := 17) (oi := _) (v := ?_) rfl rfl (by kernel_rfl) (by kernel_rfl) (by kernel_rfl) (by kernel_rfl) (by kernel_rfl) (by kernel_rfl) (fun _ _ _ h => h) (Or.inl ⟨by rfl, ?_⟩) (by assumption) (fun hNew => ?_)
 rotate_left
 ·intro w hSw
  (try dsimp only at hSw)
  go_simp
  try with_reducible rfl
 clear hHeld
 have hHeld := hNew
 clear hNew
 try simp only [gA,gB,gC,Act.put,gD,gE,gF]
 refine wpAnyL_ready (rs := [18]) (by kernel_rfl) (by simp) (AllReadyL.cons (o := _) rfl (fun K hK => ?_) AllReadyL.nil)
 try simp only [gA,gB,gC]
 go_simp
 refine (clone_any _ _ w3.drew (HB3.out.keep (fun _ _ => rfl)) (by omega)).mono ?_
 rintro e' w4 ⟨v, rfl, hv, hvn, hc4⟩
 obtain ⟨va, vc, hve⟩ := hv.bytes.slice
 subst hve
 have hc34 : Chg [] w3 w4 := (Chg.refl [] w3).drew.trans hc4 (by simp)
 have hf4 := HA.out.keep hc34
 have hz3 : w3.drew.heap.size = w3.heap.size := rfl
 have hzs : w.heap.size <= w3.heap.size := HCW3.out.size
 have hz1 : w.heap.size <= w1.heap.size := HC1.out.size
 have huT : ∀ q, (Value.slice ua (rowN E.data E.n i).length uc).ownBlock = some q -> q ∉ E.T := fun q hq hm => by have h1 := HU.out.2 q hq; have h2 := hTl q hm; omega
 have hvT : ∀ q, (Value.slice va (fragN E.s E.data E.n i).length vc).ownBlock = some q -> q ∉ E.T := fun q hq hm => by have h1 := hvn q hq; have h2 := hTl q hm; omega
 have hu4 : BytesAt w4 (.slice ua (rowN E.data E.n i).length uc) (rowN E.data E.n i) := (HU.out.1.bytes.chgW HCA.out (fun _ => huT)).chg hc34 (by simp)
 obtain ⟨hH, hcH⟩ := FtAt.had1 hf4 HE.out rfl i hi _ _ hv.bytes hvT hu4 huT
 have HCH := LH ((HCW3.out.trans (hc34.mono (T := E.T) (by simp)) (fun x hx => .inl hx)).trans hcH (fun x hx => .inl hx))
 have HH := LH (show FtAt E _ (f.had i) from hH)
 obtain ⟨F4, T4, ov4, xs4, k4⟩ := hf4
 have dk := k4.kcell i hi
 have zk := blk_frozen k4.kn i
 have lk := blk_lt k4.kn
 obtain ⟨⟨gv, g0⟩, g1, g2, ⟨rv, g3⟩, g4, g5⟩ := k4.gcell i hi
 have d10 := k4.c10
 have z10 := k4.fz 10
 have l10 := blk_lt k4.head
 obtain ⟨m1, m2, m3, m4, m5, m6⟩ := HE.out.ne
 have m7 : ¬ (E.kb = E.fb) := fun e => m1 e.symm
 have m8 : ¬ (E.gb = E.fb) := fun e => m2 e.symm
 have m9 : ¬ (E.rb = E.fb) := fun e => m3 e.symm
 have m10 : ¬ (E.gb = E.kb) := fun e => m4 e.symm
 have m11 : ¬ (E.rb = E.kb) := fun e => m5 e.symm
 have m12 : ¬ (E.rb = E.gb) := fun e => m6 e.symm
 have y11 := hc34.cell c11 (by simp)
 have y12 := hc34.cell c12 (by simp)
 have y13 := hc34.cell c13 (by simp)
 have y1 := hc34.cell q1 (by simp)
 clear hv hvn hc4 hc34 k4 hH hcH hu4 huT hvT c11 c12 c13 q1
 clear hHeld
 refine hK.out _ _ ?_ (fun hHeld => ?_)
 ·exact (HoldC.cons (y11) (HoldC.cons (y12) (HoldC.cons (y13) (HoldC.cons (y1) HoldC.nil))))
 clear hK K
 try simp only [gA,gB,gC,Act.put,gD,gE,gF]
 refine tk 21 ?_ rfl (by kernel_rfl) (fun _ _ _ h => h) (.inl ⟨by rfl, ?_⟩) hHeld ?_; rotate_left; · (intro w _; go_simp; try with_reducible rfl)
 clear hHeld; intro hHeld; try simp only [gA,gB,gC,Act.put,gD,gE,gF]
 refine wpAnyL_ready (rs := [22]) (by kernel_rfl) (by simp) (AllReadyL.cons (o := _) rfl (fun K hK => ?_) AllReadyL.nil)
 try simp only [gA,gB,gC]
 go_simp
 clear hHeld
 refine hK.out _ _ ?_ (fun hHeld => ?_)
 ·exact (HoldC.past (by kernel_rfl) (HoldC.past (by kernel_rfl) (HoldC.past (by kernel_rfl) (HoldC.past (by kernel_rfl) HoldC.nil))))
 clear hK K
 try simp only [gA,gB,gC,Act.put,gD,gE,gF]
 refine tk 23 ?_ rfl (by kernel_rfl) (fun _ _ _ h => h) (.inl ⟨by rfl, ?_⟩) hHeld ?_; rotate_left; · (intro w _; go_simp; try with_reducible rfl)
 clear hHeld; intro hHeld; try simp only [gA,gB,gC,Act.put,gD,gE,gF]
 refine wpAnyL_ready (rs := [24]) (by kernel_rfl) (by simp) (AllReadyL.cons (o := _) rfl (fun K hK => ?_) AllReadyL.nil)
 try simp only [gA,gB,gC]
 go_simp
 clear hHeld
 refine hK.out _ _ ?_ (fun hHeld => ?_)
 ·exact (HoldC.past (by kernel_rfl) (HoldC.past (by kernel_rfl) (HoldC.past (by kernel_rfl) (HoldC.past (by kernel_rfl) HoldC.nil))))
 clear hK K
 try simp only [gA,gB,gC,Act.put,gD,gE,gF]
 refine tk 25 ?_ rfl (by kernel_rfl) (fun _ _ _ h => h) (.inl ⟨by rfl, ?_⟩) hHeld ?_; rotate_left; · (intro w _; go_simp; try with_reducible rfl)
 clear hHeld; intro hHeld; try simp only [gA,gB,gC,Act.put,gD,gE,gF]
 refine wpAnyL_ready (rs := [26]) (by kernel_rfl) (by simp) (AllReadyL.cons (o := _) rfl (fun K hK => ?_) AllReadyL.nil)
 try simp only [gA,gB,gC]
 go_simp
 clear hHeld
 refine hK.out _ _ ?_ (fun hHeld => ?_)
 ·exact (HoldC.past (by kernel_rfl) (HoldC.past (by kernel_rfl) (HoldC.past (by kernel_rfl) (HoldC.past (by kernel_rfl) HoldC.nil))))
 clear hK K
 try simp only [gA,gB,gC,Act.put,gD,gE,gF]
 refine tk 27 ?_ rfl (by kernel_rfl) (fun _ _ _ h => h) (.inl ⟨by rfl, ?_⟩) hHeld ?_; rotate_left; · (intro w _; go_simp; try with_reducible rfl)
 clear hHeld; intro hHeld; try simp only [gA,gB,gC,Act.put,gD,gE,gF]
 refine tk 28 ?_ rfl (by kernel_rfl) (fun _ _ _ h => h) (.inl ⟨by rfl, ?_⟩) hHeld ?_; rotate_left; · (intro w _; go_simp; try with_reducible rfl)
 clear hHeld; intro hHeld; try simp only [gA,gB,gC,Act.put,gD,gE,gF]
 refine wpAnyL_ready (rs := [29]) (by kernel_rfl) (by simp) (AllReadyL.cons (o := _) rfl (fun K hK => ?_) AllReadyL.nil)
 try simp only [gA,gB,gC]
 go_simp
 clear hHeld
 refine hK.out _ _ ?_ (fun hHeld => ?_)
 ·exact (HoldC.past (by kernel_rfl) (HoldC.past (by kernel_rfl) (HoldC.past (by kernel_rfl) (HoldC.past (by kernel_rfl) HoldC.nil))))
 clear hK K
 try simp only [gA,gB,gC,Act.put,gD,gE,gF]
 refine wpAnyL_done (by kernel_rfl) ?_ _
 clear hHeld
 generalize (((w4.setCell ⟨E.kb, i, none⟩ (.int .i64 1)).setCell ⟨E.gb, i, none⟩ (.slice va (fragN E.s E.data E.n i).length vc)).setCell ⟨E.rb, i, none⟩ (.slice ua (rowN E.data E.n i).length uc)).setCell ⟨E.fb, 10, none⟩ (.int .i64 (E.data.length : Int)) = w5 at *
 clear y11 y12 y13 y1 dk zk lk g0 g1 g2 g3 g4 g5 d10 z10 l10
 obtain ⟨F5, T5, ov5, xs5, k5⟩ := HH.out
 have e6 : w5.cell? ⟨E.fb, 6, none⟩ = some (.int .i64 (f.at' : Int)) := k5.c6
 have e7 : w5.cell? ⟨E.fb, 7, none⟩ = some (.int .i64 (f.len : Int)) := k5.c7
 have e8 : w5.cell? ⟨E.fb, 8, none⟩ = some (.bool f.whole) := k5.c8
 clear k5
 cases hwh : f.whole with
 | true =>
  rw [hwh] at e8
  have hcond : ¬ (f.whole = false /\ E.data.length < f.at' + f.len) := by rw [hwh]; simp
  have HG : Hid (f.good E i = (f.had i).settled E) := LH (by unfold FS.good; rw [if_neg hcond])
  have CS := LH (fun w' (hc : Chg [] w5 w') => fsettle_any w' HE.out (HH.out.keep hc) (hab hcond).1 (hab hcond).2)
  go_wp2_with fail
  refine wp_region_L [(19, fun w' => w'.cell? ⟨E.fb, 8, none⟩ = some (.bool true))] (by kernel_rfl) ?_ (fun hHeld => ?_)
  ·exact (HoldC.cons (e8) HoldC.nil)
  refine tk 0 ?_ rfl (by kernel_rfl) (fun _ _ _ h => h) (.inl ⟨by rfl, ?_⟩) hHeld ?_; rotate_left; · (intro w _; go_simp; try with_reducible rfl)
  clear hHeld; intro hHeld; try simp only [gA,gB,gC,Act.put,gD,gE,gF]
  refine tk 1 ?_ rfl (by kernel_rfl) (fun _ _ _ h => h) (.inl ⟨by rfl, ?_⟩) hHeld ?_; rotate_left; · (intro w _; go_simp; try with_reducible rfl)
  clear hHeld; intro hHeld; try simp only [gA,gB,gC,Act.put,gD,gE,gF]
  refine tk 2 ?_ rfl (by kernel_rfl) (fun _ _ _ h => h) (.inl ⟨by rfl, ?_⟩) hHeld ?_; rotate_left; · (intro w _; go_simp; try with_reducible rfl)
  clear hHeld; intro hHeld; try simp only [gA,gB,gC,Act.put,gD,gE,gF]
  refine wpAnyL_loadP 0 [5, 4] (i := 3) (oi := _) (v := ?_) rfl rfl (by kernel_rfl) (by kernel_rfl) (by kernel_rfl) (by kernel_rfl) (by kernel_rfl) (by kernel_rfl) (fun _ _ _ h => h) (Or.inl ⟨by rfl, ?_⟩) (by assumption) (fun hNew => ?_)
  rotate_left
  ·intro w hSw
   (try dsimp only at hSw)
   go_simp
   try with_reducible rfl
  clear hHeld
  have hHeld := hNew
  clear hNew
  try simp only [gA,gB,gC,Act.put,gD,gE,gF]
  refine tk 4 ?_ rfl (by kernel_rfl) (fun _ _ _ h => h) (.inl ⟨by rfl, ?_⟩) hHeld ?_; rotate_left; · (intro w _; go_simp; try with_reducible rfl)
  clear hHeld; intro hHeld; try simp only [gA,gB,gC,Act.put,gD,gE,gF]
  refine tk 5 ?_ rfl (by kernel_rfl) (fun _ _ _ h => h) (.inl ⟨by rfl, ?_⟩) hHeld ?_; rotate_left; · (intro w _; go_simp; try with_reducible rfl)
  clear hHeld; intro hHeld; try simp only [gA,gB,gC,Act.put,gD,gE,gF]
  refine wpAnyL_take (i := 6) (oi := _) (v := _) rfl (by kernel_rfl) (by kernel_rfl) (by kernel_rfl) (by kernel_rfl) (by kernel_rfl) (fun _ _ _ h => h) (Or.inr ⟨by rfl, rfl⟩) (by assumption) (fun hNew => ?_)
  clear hHeld
  have hHeld := hNew
  clear hNew
  try simp only [gA,gB,gC,Act.put,gD,gE,gF]
  refine wpAnyL_take (i := 7) (oi := _) (v := _) rfl (by kernel_rfl) (by kernel_rfl) (by kernel_rfl) (by kernel_rfl) (by kernel_rfl) (fun _ _ _ h => h) (Or.inr ⟨by rfl, rfl⟩) (by assumption) (fun hNew => ?_)
  clear hHeld
  have hHeld := hNew
  clear hNew
  try simp only [gA,gB,gC,Act.put,gD,gE,gF]
  refine wpAnyL_take (i := 8) (oi := _) (v := _) rfl (by kernel_rfl) (by kernel_rfl) (by kernel_rfl) (by kernel_rfl) (by kernel_rfl) (fun _ _ _ h => h) (Or.inr ⟨by rfl, rfl⟩) (by assumption) (fun hNew => ?_)
  clear hHeld
  have hHeld := hNew
  clear hNew
  try simp only [gA,gB,gC,Act.put,gD,gE,gF]
  refine wpAnyL_take (i := 9) (oi := _) (v := _) rfl (by kernel_rfl) (by kernel_rfl) (by kernel_rfl) (by kernel_rfl) (by kernel_rfl) (fun _ _ _ h => h) (Or.inr ⟨by rfl, rfl⟩) (by assumption) (fun hNew => ?_)
  clear hHeld
  have hHeld := hNew
  clear hNew
  try simp only [gA,gB,gC,Act.put,gD,gE,gF]
  refine wpAnyL_take (i := 10) (oi := _) (v := _) rfl (by kernel_rfl) (by kernel_rfl) (by kernel_rfl) (by kernel_rfl) (by kernel_rfl) (fun _ _ _ h => h) (Or.inr ⟨by rfl, rfl⟩) (by assumption) (fun hNew => ?_)
  clear hHeld
  have hHeld := hNew
  clear hNew
  try simp only [gA,gB,gC,Act.put,gD,gE,gF]
  refine wpAnyL_take (i := 11) (oi := _) (v := _) rfl (by kernel_rfl) (by kernel_rfl) (by kernel_rfl) (by kernel_rfl) (by kernel_rfl) (fun _ _ _ h => h) (Or.inr ⟨by rfl, rfl⟩) (by assumption) (fun hNew => ?_)
  clear hHeld
  have hHeld := hNew
  clear hNew
  try simp only [gA,gB,gC,Act.put,gD,gE,gF]
  refine wpAnyL_take (i := 12) (oi := _) (v := _) rfl (by kernel_rfl) (by kernel_rfl) (by kernel_rfl) (by kernel_rfl) (by kernel_rfl) (fun _ _ _ h => h) (Or.inr ⟨by rfl, rfl⟩) (by assumption) (fun hNew => ?_)
  clear hHeld
  have hHeld := hNew
  clear hNew
  try simp only [gA,gB,gC,Act.put,gD,gE,gF]
  refine wpAnyL_take (i := 13) (oi := _) (v := _) rfl (by kernel_rfl) (by kernel_rfl) (by kernel_rfl) (by kernel_rfl) (by kernel_rfl) (fun _ _ _ h => h) (Or.inr ⟨by rfl, rfl⟩) (by assumption) (fun hNew => ?_)
  clear hHeld
  have hHeld := hNew
  clear hNew
  try simp only [gA,gB,gC,Act.put,gD,gE,gF]
  refine wpAnyL_take (i := 14) (oi := _) (v := _) rfl (by kernel_rfl) (by kernel_rfl) (by kernel_rfl) (by kernel_rfl) (by kernel_rfl) (fun _ _ _ h => h) (Or.inr ⟨by rfl, rfl⟩) (by assumption) (fun hNew => ?_)
  clear hHeld
  have hHeld := hNew
  clear hNew
  try simp only [gA,gB,gC,Act.put,gD,gE,gF]
  refine wpAnyL_take (i := 15) (oi := _) (v := _) rfl (by kernel_rfl) (by kernel_rfl) (by kernel_rfl) (by kernel_rfl) (by kernel_rfl) (fun _ _ _ h => h) (Or.inr ⟨by rfl, rfl⟩) (by assumption) (fun hNew => ?_)
  clear hHeld
  have hHeld := hNew
  clear hNew
  try simp only [gA,gB,gC,Act.put,gD,gE,gF]
  refine wpAnyL_take (i := 16) (oi := _) (v := _) rfl (by kernel_rfl) (by kernel_rfl) (by kernel_rfl) (by kernel_rfl) (by kernel_rfl) (fun _ _ _ h => h) (Or.inr ⟨by rfl, rfl⟩) (by assumption) (fun hNew => ?_)
  clear hHeld
  have hHeld := hNew
  clear hNew
  try simp only [gA,gB,gC,Act.put,gD,gE,gF]
  refine wpAnyL_take (i := 17) (oi := _) (v := _) rfl (by kernel_rfl) (by kernel_rfl) (by kernel_rfl) (by kernel_rfl) (by kernel_rfl) (fun _ _ _ h => h) (Or.inr ⟨by rfl, rfl⟩) (by assumption) (fun hNew => ?_)
  clear hHeld
  have hHeld := hNew
  clear hNew
  try simp only [gA,gB,gC,Act.put,gD,gE,gF]
  refine wpAnyL_take (i := 18) (oi := _) (v := _) rfl (by kernel_rfl) (by kernel_rfl) (by kernel_rfl) (by kernel_rfl) (by kernel_rfl) (fun _ _ _ h => h) (Or.inr ⟨by rfl, rfl⟩) (by assumption) (fun hNew => ?_)
  clear hHeld
  have hHeld := hNew
  clear hNew
  try simp only [gA,gB,gC,Act.put,gD,gE,gF]
  refine wpAnyL_ready (rs := [19]) (by kernel_rfl) (by simp) (AllReadyL.cons (o := _) rfl (fun K hK => ?_) AllReadyL.nil)
  try simp only [gA,gB,gC]
  go_simp
  clear hHeld
  refine hK.out _ _ ?_ (fun hHeld => ?_)
  ·exact (HoldC.past (by kernel_rfl) HoldC.nil)
  clear hK K
  try simp only [gA,gB,gC,Act.put,gD,gE,gF]
  refine wpAnyL_done (by kernel_rfl) ?_ _
  clear hHeld
  go_wp2_with fail
  refine (CS.out _ (Chg.refl [] w5).drew).mono ?_
  rintro e' w6 ⟨rfl, hf, hc⟩
  rw [<- HG.out] at hf
  have HF := LH (And.intro hf (HCH.out.drew.trans hc (fun x hx => .inl hx)))
  clear hf hc
  go_wp2
  go_end0
  exact ⟨rfl, HF.out⟩
 | false =>
  rw [hwh] at e8
  have hws : IntKind.i64.wrap ((E.data.length : Int) - (f.len : Int)) = (E.data.length : Int) - (f.len : Int) := IntWalk.i64_in _ ⟨by omega, by omega⟩
  by_cases hov : E.data.length < f.at' + f.len
  ·have hovz : (E.data.length : Int) - (f.len : Int) < (f.at' : Int) := by omega
   have HG : Hid (f.good E i = (f.had i).ends [] 4) := LH (by unfold FS.good; rw [if_pos ⟨hwh, hov⟩])
   have CE := LH (fun w' (hc : Chg [] w5 w') => fend_any [] (.slice none 0 0) 4 w' HE.out (HH.out.keep hc) (BytesAt.nil _) (by simp))
   go_wp2_with fail
   refine wp_region_L [(19, fun w' => w'.cell? ⟨E.fb, 8, none⟩ = some (.bool false)), (19, fun w' => w'.cell? ⟨E.fb, 6, none⟩ = some (.int .i64 (f.at' : Int))), (19, fun w' => w'.cell? ⟨E.fb, 7, none⟩ = some (.int .i64 (f.len : Int)))] (by kernel_rfl) ?_ (fun hHeld => ?_)
   ·exact (HoldC.cons (e8) (HoldC.cons (e6) (HoldC.cons (e7) HoldC.nil)))
   refine tk 0 ?_ rfl (by kernel_rfl) (fun _ _ _ h => h) (.inl ⟨by rfl, ?_⟩) hHeld ?_; rotate_left; · (intro w _; go_simp; try with_reducible rfl)
   clear hHeld; intro hHeld; try simp only [gA,gB,gC,Act.put,gD,gE,gF]
   refine tk 1 ?_ rfl (by kernel_rfl) (fun _ _ _ h => h) (.inl ⟨by rfl, ?_⟩) hHeld ?_; rotate_left; · (intro w _; go_simp; try with_reducible rfl)
   clear hHeld; intro hHeld; try simp only [gA,gB,gC,Act.put,gD,gE,gF]
   refine tk 2 ?_ rfl (by kernel_rfl) (fun _ _ _ h => h) (.inl ⟨by rfl, ?_⟩) hHeld ?_; rotate_left; · (intro w _; go_simp; try with_reducible rfl)
   clear hHeld; intro hHeld; try simp only [gA,gB,gC,Act.put,gD,gE,gF]
   refine wpAnyL_loadP 0 [5, 4] (i := 3) (oi := _) (v := ?_) rfl rfl (by kernel_rfl) (by kernel_rfl) (by kernel_rfl) (by kernel_rfl) (by kernel_rfl) (by kernel_rfl) (fun _ _ _ h => h) (Or.inl ⟨by rfl, ?_⟩) (by assumption) (fun hNew => ?_)
   rotate_left
   ·intro w hSw
    (try dsimp only at hSw)
    go_simp
    try with_reducible rfl
   clear hHeld
   have hHeld := hNew
   clear hNew
   try simp only [gA,gB,gC,Act.put,gD,gE,gF]
   refine tk 4 ?_ rfl (by kernel_rfl) (fun _ _ _ h => h) (.inl ⟨by rfl, ?_⟩) hHeld ?_; rotate_left; · (intro w _; go_simp; try with_reducible rfl)
   clear hHeld; intro hHeld; try simp only [gA,gB,gC,Act.put,gD,gE,gF]
   refine tk 5 ?_ rfl (by kernel_rfl) (fun _ _ _ h => h) (.inl ⟨by rfl, ?_⟩) hHeld ?_; rotate_left; · (intro w _; go_simp; try with_reducible rfl)
   clear hHeld; intro hHeld; try simp only [gA,gB,gC,Act.put,gD,gE,gF]
   refine tk 6 ?_ rfl (by kernel_rfl) (fun _ _ _ h => h) (.inl ⟨by rfl, ?_⟩) hHeld ?_; rotate_left; · (intro w _; go_simp; try with_reducible rfl)
   clear hHeld; intro hHeld; try simp only [gA,gB,gC,Act.put,gD,gE,gF]
   refine tk 7 ?_ rfl (by kernel_rfl) (fun _ _ _ h => h) (.inl ⟨by rfl, ?_⟩) hHeld ?_; rotate_left; · (intro w _; go_simp; try with_reducible rfl)
   clear hHeld; intro hHeld; try simp only [gA,gB,gC,Act.put,gD,gE,gF]
   refine tk 8 ?_ rfl (by kernel_rfl) (fun _ _ _ h => h) (.inl ⟨by rfl, ?_⟩) hHeld ?_; rotate_left; · (intro w _; go_simp; try with_reducible rfl)
   clear hHeld; intro hHeld; try simp only [gA,gB,gC,Act.put,gD,gE,gF]
   refine tk 9 ?_ rfl (by kernel_rfl) (fun _ _ _ h => h) (.inl ⟨by rfl, ?_⟩) hHeld ?_; rotate_left; · (intro w _; go_simp; try with_reducible rfl)
   clear hHeld; intro hHeld; try simp only [gA,gB,gC,Act.put,gD,gE,gF]
   refine tk 11 ?_ rfl (by kernel_rfl) (fun _ _ _ h => h) (.inl ⟨by rfl, ?_⟩) hHeld ?_; rotate_left; · (intro w _; go_simp; try with_reducible rfl)
   clear hHeld; intro hHeld; try simp only [gA,gB,gC,Act.put,gD,gE,gF]
   refine tk 12 ?_ rfl (by kernel_rfl) (fun _ _ _ h => h) (.inl ⟨by rfl, ?_⟩) hHeld ?_; rotate_left; · (intro w _; go_simp; try with_reducible rfl)
   clear hHeld; intro hHeld; try simp only [gA,gB,gC,Act.put,gD,gE,gF]
   refine tk 13 ?_ rfl (by kernel_rfl) (fun _ _ _ h => h) (.inl ⟨by rfl, ?_⟩) hHeld ?_; rotate_left; · (intro w _; go_simp; try with_reducible rfl)
   clear hHeld; intro hHeld; try simp only [gA,gB,gC,Act.put,gD,gE,gF]
   refine tk 14 ?_ rfl (by kernel_rfl) (fun _ _ _ h => h) (.inl ⟨by rfl, ?_⟩) hHeld ?_; rotate_left; · (intro w _; go_simp; try with_reducible rfl)
   clear hHeld; intro hHeld; try simp only [gA,gB,gC,Act.put,gD,gE,gF]
   refine tk 15 ?_ rfl (by kernel_rfl) (fun _ _ _ h => h) (.inl ⟨by rfl, ?_⟩) hHeld ?_; rotate_left; · (intro w _; go_simp; try with_reducible rfl)
   clear hHeld; intro hHeld; try simp only [gA,gB,gC,Act.put,gD,gE,gF]
   refine wpAnyL_loadP 1 [18] (i := 10) (oi := _) (v := ?_) rfl rfl (by kernel_rfl) (by kernel_rfl) (by kernel_rfl) (by kernel_rfl) (by kernel_rfl) (by kernel_rfl) (fun _ _ _ h => h) (Or.inl ⟨by rfl, ?_⟩) (by assumption) (fun hNew => ?_)
   rotate_left
   ·intro w hSw
    (try dsimp only at hSw)
    go_simp
    try with_reducible rfl
   clear hHeld
   have hHeld := hNew
   clear hNew
   try simp only [gA,gB,gC,Act.put,gD,gE,gF]
   refine wpAnyL_loadP 2 [18, 17] (i := 16) (oi := _) (v := ?_) rfl rfl (by kernel_rfl) (by kernel_rfl) (by kernel_rfl) (by kernel_rfl) (by kernel_rfl) (by kernel_rfl) (fun _ _ _ h => h) (Or.inl ⟨by rfl, ?_⟩) (by assumption) (fun hNew => ?_)
   rotate_left
   ·intro w hSw
    (try dsimp only at hSw)
    go_simp
    try with_reducible rfl
   clear hHeld
   have hHeld := hNew
   clear hNew
   try simp only [gA,gB,gC,Act.put,gD,gE,gF]
   refine tk 17 ?_ rfl (by kernel_rfl) (fun _ _ _ h => h) (.inl ⟨by rfl, ?_⟩) hHeld ?_; rotate_left; · (intro w _; go_simp; try with_reducible rfl)
   clear hHeld; intro hHeld; try simp only [gA,gB,gC,Act.put,gD,gE,gF]
   refine tk 18 ?_ rfl (by kernel_rfl) (fun _ _ _ h => h) (.inl ⟨by rfl, ?_⟩) hHeld ?_; rotate_left; · (intro w _; go_simp; try with_reducible rfl)
   clear hHeld; intro hHeld; try simp only [gA,gB,gC,Act.put,gD,gE,gF]
   refine wpAnyL_ready (rs := [19]) (by kernel_rfl) (by simp) (AllReadyL.cons (o := _) rfl (fun K hK => ?_) AllReadyL.nil)
   try simp only [gA,gB,gC]
   go_simp
   clear hHeld
   refine hK.out _ _ ?_ (fun hHeld => ?_)
   ·exact (HoldC.past (by kernel_rfl) (HoldC.past (by kernel_rfl) (HoldC.past (by kernel_rfl) HoldC.nil)))
   clear hK K
   try simp only [gA,gB,gC,Act.put,gD,gE,gF]
   refine wpAnyL_done (by kernel_rfl) ?_ _
   clear hHeld
   go_wp2_with fail
   refine (CE.out _ (Chg.refl [] w5).drew).mono ?_
   rintro e' w6 ⟨rfl, hf, hc⟩
   rw [<- HG.out] at hf
   have HF := LH (And.intro hf (HCH.out.drew.trans hc (fun x hx => .inl hx)))
   clear hf hc
   go_wp2
   exact bodyPost_ret (results_none rfl _ _ _) rfl ⟨rfl, HF.out⟩
  ·have hovz : ¬ (E.data.length : Int) - (f.len : Int) < (f.at' : Int) := by omega
   have hovd : decide ((E.data.length : Int) - (f.len : Int) < (f.at' : Int)) = false := decide_eq_false hovz
   have hcond : ¬ (f.whole = false /\ E.data.length < f.at' + f.len) := fun h => hov h.2
   have HG : Hid (f.good E i = (f.had i).settled E) := LH (by unfold FS.good; rw [if_neg hcond])
   have CS := LH (fun w' (hc : Chg [] w5 w') => fsettle_any w' HE.out (HH.out.keep hc) (hab hcond).1 (hab hcond).2)
   go_wp2_with fail
   refine wp_region_L [(19, fun w' => w'.cell? ⟨E.fb, 8, none⟩ = some (.bool false)), (19, fun w' => w'.cell? ⟨E.fb, 6, none⟩ = some (.int .i64 (f.at' : Int))), (19, fun w' => w'.cell? ⟨E.fb, 7, none⟩ = some (.int .i64 (f.len : Int)))] (by kernel_rfl) ?_ (fun hHeld => ?_)
   ·exact (HoldC.cons (e8) (HoldC.cons (e6) (HoldC.cons (e7) HoldC.nil)))
   refine tk 0 ?_ rfl (by kernel_rfl) (fun _ _ _ h => h) (.inl ⟨by rfl, ?_⟩) hHeld ?_; rotate_left; · (intro w _; go_simp; try with_reducible rfl)
   clear hHeld; intro hHeld; try simp only [gA,gB,gC,Act.put,gD,gE,gF]
   refine tk 1 ?_ rfl (by kernel_rfl) (fun _ _ _ h => h) (.inl ⟨by rfl, ?_⟩) hHeld ?_; rotate_left; · (intro w _; go_simp; try with_reducible rfl)
   clear hHeld; intro hHeld; try simp only [gA,gB,gC,Act.put,gD,gE,gF]
   refine tk 2 ?_ rfl (by kernel_rfl) (fun _ _ _ h => h) (.inl ⟨by rfl, ?_⟩) hHeld ?_; rotate_left; · (intro w _; go_simp; try with_reducible rfl)
   clear hHeld; intro hHeld; try simp only [gA,gB,gC,Act.put,gD,gE,gF]
   refine wpAnyL_loadP 0 [5, 4] (i := 3) (oi := _) (v := ?_) rfl rfl (by kernel_rfl) (by kernel_rfl) (by kernel_rfl) (by kernel_rfl) (by kernel_rfl) (by kernel_rfl) (fun _ _ _ h => h) (Or.inl ⟨by rfl, ?_⟩) (by assumption) (fun hNew => ?_)
   rotate_left
   ·intro w hSw
    (try dsimp only at hSw)
    go_simp
    try with_reducible rfl
   clear hHeld
   have hHeld := hNew
   clear hNew
   try simp only [gA,gB,gC,Act.put,gD,gE,gF]
   refine tk 4 ?_ rfl (by kernel_rfl) (fun _ _ _ h => h) (.inl ⟨by rfl, ?_⟩) hHeld ?_; rotate_left; · (intro w _; go_simp; try with_reducible rfl)
   clear hHeld; intro hHeld; try simp only [gA,gB,gC,Act.put,gD,gE,gF]
   refine tk 5 ?_ rfl (by kernel_rfl) (fun _ _ _ h => h) (.inl ⟨by rfl, ?_⟩) hHeld ?_; rotate_left; · (intro w _; go_simp; try with_reducible rfl)
   clear hHeld; intro hHeld; try simp only [gA,gB,gC,Act.put,gD,gE,gF]
   refine tk 6 ?_ rfl (by kernel_rfl) (fun _ _ _ h => h) (.inl ⟨by rfl, ?_⟩) hHeld ?_; rotate_left; · (intro w _; go_simp; try with_reducible rfl)
   clear hHeld; intro hHeld; try simp only [gA,gB,gC,Act.put,gD,gE,gF]
   refine tk 7 ?_ rfl (by kernel_rfl) (fun _ _ _ h => h) (.inl ⟨by rfl, ?_⟩) hHeld ?_; rotate_left; · (intro w _; go_simp; try with_reducible rfl)
   clear hHeld; intro hHeld; try simp only [gA,gB,gC,Act.put,gD,gE,gF]
   refine tk 8 ?_ rfl (by kernel_rfl) (fun _ _ _ h => h) (.inl ⟨by rfl, ?_⟩) hHeld ?_; rotate_left; · (intro w _; go_simp; try with_reducible rfl)
   clear hHeld; intro hHeld; try simp only [gA,gB,gC,Act.put,gD,gE,gF]
   refine tk 9 ?_ rfl (by kernel_rfl) (fun _ _ _ h => h) (.inl ⟨by rfl, ?_⟩) hHeld ?_; rotate_left; · (intro w _; go_simp; try with_reducible rfl)
   clear hHeld; intro hHeld; try simp only [gA,gB,gC,Act.put,gD,gE,gF]
   refine tk 11 ?_ rfl (by kernel_rfl) (fun _ _ _ h => h) (.inl ⟨by rfl, ?_⟩) hHeld ?_; rotate_left; · (intro w _; go_simp; try with_reducible rfl)
   clear hHeld; intro hHeld; try simp only [gA,gB,gC,Act.put,gD,gE,gF]
   refine tk 12 ?_ rfl (by kernel_rfl) (fun _ _ _ h => h) (.inl ⟨by rfl, ?_⟩) hHeld ?_; rotate_left; · (intro w _; go_simp; try with_reducible rfl)
   clear hHeld; intro hHeld; try simp only [gA,gB,gC,Act.put,gD,gE,gF]
   refine tk 13 ?_ rfl (by kernel_rfl) (fun _ _ _ h => h) (.inl ⟨by rfl, ?_⟩) hHeld ?_; rotate_left; · (intro w _; go_simp; try with_reducible rfl)
   clear hHeld; intro hHeld; try simp only [gA,gB,gC,Act.put,gD,gE,gF]
   refine tk 14 ?_ rfl (by kernel_rfl) (fun _ _ _ h => h) (.inl ⟨by rfl, ?_⟩) hHeld ?_; rotate_left; · (intro w _; go_simp; try with_reducible rfl)
   clear hHeld; intro hHeld; try simp only [gA,gB,gC,Act.put,gD,gE,gF]
   refine tk 15 ?_ rfl (by kernel_rfl) (fun _ _ _ h => h) (.inl ⟨by rfl, ?_⟩) hHeld ?_; rotate_left; · (intro w _; go_simp; try with_reducible rfl)
   clear hHeld; intro hHeld; try simp only [gA,gB,gC,Act.put,gD,gE,gF]
   refine wpAnyL_loadP 1 [18] (i := 10) (oi := _) (v := ?_) rfl rfl (by kernel_rfl) (by kernel_rfl) (by kernel_rfl) (by kernel_rfl) (by kernel_rfl) (by kernel_rfl) (fun _ _ _ h => h) (Or.inl ⟨by rfl, ?_⟩) (by assumption) (fun hNew => ?_)
   rotate_left
   ·intro w hSw
    (try dsimp only at hSw)
    go_simp
    try with_reducible rfl
   clear hHeld
   have hHeld := hNew
   clear hNew
   try simp only [gA,gB,gC,Act.put,gD,gE,gF]
   refine wpAnyL_loadP 2 [18, 17] (i := 16) (oi := _) (v := ?_) rfl rfl (by kernel_rfl) (by kernel_rfl) (by kernel_rfl) (by kernel_rfl) (by kernel_rfl) (by kernel_rfl) (fun _ _ _ h => h) (Or.inl ⟨by rfl, ?_⟩) (by assumption) (fun hNew => ?_)
   rotate_left
   ·intro w hSw
    (try dsimp only at hSw)
    go_simp
    try with_reducible rfl
   clear hHeld
   have hHeld := hNew
   clear hNew
   try simp only [gA,gB,gC,Act.put,gD,gE,gF]
   refine tk 17 ?_ rfl (by kernel_rfl) (fun _ _ _ h => h) (.inl ⟨by rfl, ?_⟩) hHeld ?_; rotate_left; · (intro w _; go_simp; try with_reducible rfl)
   clear hHeld; intro hHeld; try simp only [gA,gB,gC,Act.put,gD,gE,gF]
   refine tk 18 ?_ rfl (by kernel_rfl) (fun _ _ _ h => h) (.inl ⟨by rfl, ?_⟩) hHeld ?_; rotate_left; · (intro w _; go_simp; try with_reducible rfl)
   clear hHeld; intro hHeld; try simp only [gA,gB,gC,Act.put,gD,gE,gF]
   refine wpAnyL_ready (rs := [19]) (by kernel_rfl) (by simp) (AllReadyL.cons (o := _) rfl (fun K hK => ?_) AllReadyL.nil)
   try simp only [gA,gB,gC]
   go_simp
   clear hHeld
   refine hK.out _ _ ?_ (fun hHeld => ?_)
   ·exact (HoldC.past (by kernel_rfl) (HoldC.past (by kernel_rfl) (HoldC.past (by kernel_rfl) HoldC.nil)))
   clear hK K
   try simp only [gA,gB,gC,Act.put,gD,gE,gF]
   refine wpAnyL_done (by kernel_rfl) ?_ _
   clear hHeld
   go_wp2_with fail
   refine (CS.out _ (Chg.refl [] w5).drew).mono ?_
   rintro e' w6 ⟨rfl, hf, hc⟩
   rw [<- HG.out] at hf
   have HF := LH (And.intro hf (HCH.out.drew.trans hc (fun x hx => .inl hx)))
   clear hf hc
   go_wp2
   go_end0
   exact ⟨rfl, HF.out⟩
end
section
open Go.RowKit Go.Shelf
theorem fdone_any {E : Env} {f : FS} (w : World) (hE : E.Ok) (h : FtAt E w f) (hd : f.done = true) (hl : f.out.length <= 1000000) : Calls Tryz.prog 19 #[fpV E] w fun e w' => ∃ v, e = .returned (.tuple #[v, .int .i64 f.e, .bool true]) /\ BRow w' v f.out /\ (∀ q, v.ownBlock = some q -> w.heap.size <= q) /\ Chg [] w w' := by
 have CM := LH (fmade_any w hE h)
 obtain ⟨F, T, ov, xs, h1⟩ := h
 have CC := LH (clone_any ov f.out w.drew (h1.out.keep (fun _ _ => rfl)) (by omega))
 have c15 := h1.c15
 have c16 := h1.c16
 have c17 := h1.c17
 rw [hd] at c15
 obtain ⟨oa, oc, hoe⟩ := h1.out.slice
 subst hoe
 clear h1 hd
 go_enter Tryz.func19, Tryz.ntmps19
 go_wp2_with fail
 refine CM.out.mono ?_
 rintro e w' ⟨rfl, hq⟩
 subst hq
 go_wp2_with fail
 refine wp_region_L [(11, fun w' => w'.cell? ⟨E.fb, 16, none⟩ = some (.slice oa f.out.length oc)), (11, fun w' => w'.cell? ⟨E.fb, 17, none⟩ = some (.int .i64 f.e))] (by kernel_rfl) ?_ (fun hHeld => ?_)
 ·exact (HoldC.cons (c16) (HoldC.cons (c17) HoldC.nil))
 refine tk 0 ?_ rfl (by kernel_rfl) (fun _ _ _ h => h) (.inl ⟨by rfl, ?_⟩) hHeld ?_; rotate_left; · (intro w _; go_simp; try with_reducible rfl)
 clear hHeld; intro hHeld; try simp only [gA,gB,gC,Act.put,gD,gE,gF]
 refine tk 1 ?_ rfl (by kernel_rfl) (fun _ _ _ h => h) (.inl ⟨by rfl, ?_⟩) hHeld ?_; rotate_left; · (intro w _; go_simp; try with_reducible rfl)
 clear hHeld; intro hHeld; try simp only [gA,gB,gC,Act.put,gD,gE,gF]
 refine tk 2 ?_ rfl (by kernel_rfl) (fun _ _ _ h => h) (.inl ⟨by rfl, ?_⟩) hHeld ?_; rotate_left; · (intro w _; go_simp; try with_reducible rfl)
 clear hHeld; intro hHeld; try simp only [gA,gB,gC,Act.put,gD,gE,gF]
 refine tk 5 ?_ rfl (by kernel_rfl) (fun _ _ _ h => h) (.inl ⟨by rfl, ?_⟩) hHeld ?_; rotate_left; · (intro w _; go_simp; try with_reducible rfl)
 clear hHeld; intro hHeld; try simp only [gA,gB,gC,Act.put,gD,gE,gF]
 refine tk 6 ?_ rfl (by kernel_rfl) (fun _ _ _ h => h) (.inl ⟨by rfl, ?_⟩) hHeld ?_; rotate_left; · (intro w _; go_simp; try with_reducible rfl)
 clear hHeld; intro hHeld; try simp only [gA,gB,gC,Act.put,gD,gE,gF]
 refine tk 7 ?_ rfl (by kernel_rfl) (fun _ _ _ h => h) (.inl ⟨by rfl, ?_⟩) hHeld ?_; rotate_left; · (intro w _; go_simp; try with_reducible rfl)
 clear hHeld; intro hHeld; try simp only [gA,gB,gC,Act.put,gD,gE,gF]
 refine wpAnyL_loadP 0 [9, 4] (i := 3) (oi := _) (v := ?_) rfl rfl (by kernel_rfl) (by kernel_rfl) (by kernel_rfl) (by kernel_rfl) (by kernel_rfl) (by kernel_rfl) (fun _ _ _ h => h) (Or.inl ⟨by rfl, ?_⟩) (by assumption) (fun hNew => ?_)
 rotate_left
 ·intro w hSw
  (try dsimp only at hSw)
  go_simp
  try with_reducible rfl
 clear hHeld
 have hHeld := hNew
 clear hNew
 try simp only [gA,gB,gC,Act.put,gD,gE,gF]
 refine wpAnyL_loadP 1 [] (i := 8) (oi := _) (v := ?_) rfl rfl (by kernel_rfl) (by kernel_rfl) (by kernel_rfl) (by kernel_rfl) (by kernel_rfl) (by kernel_rfl) (fun _ _ _ h => h) (Or.inl ⟨by rfl, ?_⟩) (by assumption) (fun hNew => ?_)
 rotate_left
 ·intro w hSw
  (try dsimp only at hSw)
  go_simp
  try with_reducible rfl
 clear hHeld
 have hHeld := hNew
 clear hNew
 try simp only [gA,gB,gC,Act.put,gD,gE,gF]
 refine wpAnyL_ready (rs := [4]) (by kernel_rfl) (by simp) (AllReadyL.cons (o := _) rfl (fun K hK => ?_) AllReadyL.nil)
 try simp only [gA,gB,gC]
 go_simp
 refine CC.out.mono ?_
 rintro e w1 ⟨v, rfl, hv, hvn, hc⟩
 have HV := LH (And.intro hv (And.intro hvn ((Chg.refl [] w).drew.trans hc (by simp))))
 have k16 := HV.out.2.2.cell c16 (by simp)
 have k17 := HV.out.2.2.cell c17 (by simp)
 obtain ⟨va, vc, hve⟩ := hv.bytes.slice
 clear hv hvn hc CC
 subst hve
 clear hHeld
 refine hK.out _ _ ?_ (fun hHeld => ?_)
 ·exact (HoldC.cons (k16) (HoldC.cons (k17) HoldC.nil))
 clear hK K
 try simp only [gA,gB,gC,Act.put,gD,gE,gF]
 refine tk 9 ?_ rfl (by kernel_rfl) (fun _ _ _ h => h) (.inl ⟨by rfl, ?_⟩) hHeld ?_; rotate_left; · (intro w _; go_simp; try with_reducible rfl)
 clear hHeld; intro hHeld; try simp only [gA,gB,gC,Act.put,gD,gE,gF]
 refine tk 10 ?_ rfl (by kernel_rfl) (fun _ _ _ h => h) (.inl ⟨by rfl, ?_⟩) hHeld ?_; rotate_left; · (intro w _; go_simp; try with_reducible rfl)
 clear hHeld; intro hHeld; try simp only [gA,gB,gC,Act.put,gD,gE,gF]
 refine wpAnyL_ready (rs := [11]) (by kernel_rfl) (by simp) (AllReadyL.cons (o := _) rfl (fun K hK => ?_) AllReadyL.nil)
 try simp only [gA,gB,gC]
 go_simp
 clear hHeld
 refine hK.out _ _ ?_ (fun hHeld => ?_)
 ·exact (HoldC.past (by kernel_rfl) (HoldC.past (by kernel_rfl) HoldC.nil))
 clear hK K
 try simp only [gA,gB,gC,Act.put,gD,gE,gF]
 refine wpAnyL_done (by kernel_rfl) ?_ _
 clear hHeld
 go_wp2
 go_ret3
 exact ⟨_, rfl, HV.out⟩
def FS.fresh (n at' len : Nat) (whole : Bool) : FS := ⟨at', len, whole, List.replicate n 0, -1, false, [], 0⟩
abbrev newEnv (s : Sp) (data : List UInt8) (n fb kb gb rb : Nat) : Env := ⟨s, data, n, fb, kb, gb, rb⟩
theorem kvs_zero (n : Nat) : (kvs (List.replicate n 0)).toArray = Array.replicate n (.int .i64 0) := by
 unfold kvs
 rw [List.map_replicate, List.toArray_replicate]
 rfl
theorem one_not_zero (n : Nat) : 1 ∉ List.replicate n 0 := fun h => by have := List.eq_of_mem_replicate h; cases this
theorem begin_fin {w w3 : World} (s : Sp) (data : List UInt8) (n kb gb rb : Nat) (hc : Chg [] w w3) (hk : w3.heap[kb]? = some (.cells (Array.replicate n (.int .i64 0)) 3 (0, 0))) (hg : w3.heap[gb]? = some (.cells (Array.replicate n (.slice none 0 0)) 22 (0, 0))) (hr : w3.heap[rb]? = some (.cells (Array.replicate n (.slice none 0 0)) 22 (0, 0)))
  (n1 : w.heap.size <= kb) (n2 : w.heap.size <= gb) (n3 : w.heap.size <= rb) (d1 : kb ≠ gb) (d2 : kb ≠ rb) (d3 : gb ≠ rb) :
  FtAt (newEnv s data n w3.heap.size kb gb rb) (w3.alloc (.cells #[.int .i64 s.c, .int .i64 s.l, .int .i64 s.n, .int .i64 0, .int .i64 0, .int .i64 0, .int .i64 0, .int .i64 0, .bool false, .int .i64 (n : Int), .int .i64 (-1), .slice (some ⟨kb, 0, none⟩) n n, .slice (some ⟨gb, 0, none⟩) n n, .slice (some ⟨rb, 0, none⟩) n n, .int .i64 (-1), .bool false, .slice none 0 0, .int .i64 0] 78)) (FS.fresh n 0 0 false) /\
  (newEnv s data n w3.heap.size kb gb rb).T.Nodup /\ (∀ x ∈ (newEnv s data n w3.heap.size kb gb rb).T, w.heap.size <= x) /\ Chg [] w (w3.alloc (.cells #[.int .i64 s.c, .int .i64 s.l, .int .i64 s.n, .int .i64 0, .int .i64 0, .int .i64 0, .int .i64 0, .int .i64 0, .bool false, .int .i64 (n : Int), .int .i64 (-1), .slice (some ⟨kb, 0, none⟩) n n, .slice (some ⟨gb, 0, none⟩) n n, .slice (some ⟨rb, 0, none⟩) n n, .int .i64 (-1), .bool false, .slice none 0 0, .int .i64 0] 78)) := by
 have l1 := blk_lt hk
 have l2 := blk_lt hg
 have l3 := blk_lt hr
 have hz := hc.size
 refine ⟨⟨List.replicate n (.slice none 0 0, []), List.replicate n (.slice none 0 0, []), .slice none 0 0, ⟨0, 0, 0⟩, ?_, ?_, ?_, ?_, by simp [FS.fresh], by simp, by simp, fun k hk => ?_, fun i x hx => ?_, fun i x hx => ?_, BytesAt.nil _, fun hne => absurd rfl hne⟩, ?_, fun x hx => ?_, hc.alloc _⟩
 ·rw [heap_alloc_new]
  unfold ftL
  rw [FS.size_not (f := FS.fresh n 0 0 false) (one_not_zero n)]
  rfl
 ·rw [blk_alloc hk, <- kvs_zero]
  rfl
 ·rw [blk_alloc hg, List.map_replicate, List.toArray_replicate]
 ·rw [blk_alloc hr, List.map_replicate, List.toArray_replicate]
 ·have := List.eq_of_mem_replicate hk
  omega
 ·have := List.eq_of_mem_replicate (List.mem_of_getElem? hx)
  subst this
  refine ⟨BytesAt.nil _, ?_, fun hne => absurd rfl hne⟩
  rw [if_neg]
  show ¬ (List.replicate n 0).getD i 0 = 1
  rw [List.getD_eq_getElem?_getD, List.getElem?_replicate]
  split <;> simp
 ·have := List.eq_of_mem_replicate (List.mem_of_getElem? hx)
  subst this
  refine ⟨BytesAt.nil _, ?_, fun hne => absurd rfl hne⟩
  rw [if_neg]
  show ¬ (List.replicate n 0).getD i 0 = 1
  rw [List.getD_eq_getElem?_getD, List.getElem?_replicate]
  split <;> simp
 ·simp only [List.nodup_cons, List.mem_cons, List.mem_nil_iff, or_false, not_or]
  refine ⟨⟨by omega, by omega, by omega⟩, ⟨d1, d2⟩, d3, by simp, List.nodup_nil⟩
 ·simp only [List.mem_cons, List.mem_nil_iff, or_false] at hx
  rcases hx with rfl | rfl | rfl | rfl <;> omega
def BegP (s : Sp) (data : List UInt8) (n : Nat) (w : World) (e : Ending) (w' : World) : Prop := ∃ fb kb gb rb, e = .returned (.pointer (some ⟨fb, 0, none⟩)) /\ FtAt (newEnv s data n fb kb gb rb) w' (FS.fresh n 0 0 false) /\ (newEnv s data n fb kb gb rb).T.Nodup /\ (∀ x ∈ (newEnv s data n fb kb gb rb).T, w.heap.size <= x) /\ Chg [] w w'
theorem fbegin_any (s : Sp) (data : List UInt8) (n : Nat) (w : World) (hn : n <= 1000) : Calls Tryz.prog 27 #[spV s, .int .i64 (n : Int)] w (BegP s data n w) := by
 have hmI := fun w => makeF_ints n (by omega) w
 have hmB := fun w => makeF_bbs n (by omega) w
 have hn0 : ¬ (n : Int) < 0 := by omega
 obtain ⟨w1, hw1⟩ : ∃ w1, w1 = w.alloc (.cells (spC s) 26) := ⟨_, rfl⟩
 have hc1 : Chg [] w w1 := by rw [hw1]; exact (Chg.refl _ _).alloc _
 have hz1 : w.heap.size < w1.heap.size := by rw [hw1]; simp
 have hb := (show w1.heap[w.heap.size]? = some (.cells (spC s) 26 (0, 0)) by rw [hw1]; exact heap_alloc_new w _)
 have b0 := blk_cell hb 0 _ rfl
 have b1 := blk_cell hb 1 _ rfl
 have b2 := blk_cell hb 2 _ rfl
 have HW1 := LH hw1
 have HC1 := LH hc1
 clear hb hw1 hc1
 go_enter Tryz.func27, Tryz.ntmps27
 go_wp2_with fail
 rw [<- HW1.out]
 refine wp_region_L [(8, fun w' => (w'.cell? ⟨w.heap.size, 0, none⟩ = some (.int .i64 s.c) /\ w'.cell? ⟨w.heap.size, 1, none⟩ = some (.int .i64 s.l) /\ w'.cell? ⟨w.heap.size, 2, none⟩ = some (.int .i64 s.n)))] (by kernel_rfl) ?_ (fun hHeld => ?_)
 ·exact (HoldC.cons (⟨b0, b1, b2⟩) HoldC.nil)
 refine tk 1 ?_ rfl (by kernel_rfl) (fun _ _ _ h => h) (.inl ⟨by rfl, ?_⟩) hHeld ?_; rotate_left; · (intro w _; go_simp; try with_reducible rfl)
 clear hHeld; intro hHeld; try simp only [gA,gB,gC,Act.put,gD,gE,gF]
 refine tk 2 ?_ rfl (by kernel_rfl) (fun _ _ _ h => h) (.inl ⟨by rfl, ?_⟩) hHeld ?_; rotate_left; · (intro w _; go_simp; try with_reducible rfl)
 clear hHeld; intro hHeld; try simp only [gA,gB,gC,Act.put,gD,gE,gF]
 refine tk 4 ?_ rfl (by kernel_rfl) (fun _ _ _ h => h) (.inl ⟨by rfl, ?_⟩) hHeld ?_; rotate_left; · (intro w _; go_simp; try with_reducible rfl)
 clear hHeld; intro hHeld; try simp only [gA,gB,gC,Act.put,gD,gE,gF]
 refine tk 6 ?_ rfl (by kernel_rfl) (fun _ _ _ h => h) (.inl ⟨by rfl, ?_⟩) hHeld ?_; rotate_left; · (intro w _; go_simp; try with_reducible rfl)
 clear hHeld; intro hHeld; try simp only [gA,gB,gC,Act.put,gD,gE,gF]
 refine ld 0 0 ?_ rfl rfl (by kernel_rfl) (fun _ _ _ h => h) (.inl ⟨by rfl, ?_⟩) hHeld ?_; rotate_left; · (intro w hSw; (try dsimp only at hSw); go_simp; try with_reducible rfl)
 clear hHeld; intro hHeld; try simp only [gA,gB,gC,Act.put,gD,gE,gF]
 refine wpAnyL_ready (rs := [3, 5, 7]) (by kernel_rfl) (by simp) ?_
 refine AllReadyL.cons (o := _) rfl (fun K hK => ?_) (AllReadyL.cons (o := _) rfl (fun K hK => ?_) (AllReadyL.cons (o := _) rfl (fun K hK => ?_) AllReadyL.nil))
 ·try simp only [gA,gB,gC]
  go_simp
  obtain ⟨v1, hv1⟩ : ∃ v1, v1 = (w1.alloc (.cells (Array.replicate n (.int .i64 0)) 3)).drew := ⟨_, rfl⟩
  rw [<- hv1]
  have hcv1 : Chg [] w1 v1 := by rw [hv1]; exact ((Chg.refl [] w1).alloc _).drew
  have hz2 : w1.heap.size < v1.heap.size := by rw [hv1]; show _ < (w1.alloc _).heap.size; simp
  have hk1 : v1.heap[w1.heap.size]? = some (.cells (Array.replicate n (.int .i64 0)) 3 (0, 0)) := by rw [hv1]; exact heap_alloc_new w1 _
  have hw11 : Chg [] w1 v1 := hcv1
  clear hv1
  clear hHeld
  refine hK.out _ _ ?_ (fun hHeld => ?_)
  ·exact (HoldC.cons (⟨hw11.cell b0 (by simp), hw11.cell b1 (by simp), hw11.cell b2 (by simp)⟩) HoldC.nil)
  clear hK K
  try simp only [gA,gB,gC,Act.put,gD,gE,gF]
  refine wpAnyL_ready (rs := [5, 7]) (by kernel_rfl) (by simp) ?_
  refine AllReadyL.cons (o := _) rfl (fun K hK => ?_) (AllReadyL.cons (o := _) rfl (fun K hK => ?_) AllReadyL.nil)
  ·try simp only [gA,gB,gC]
   go_simp
   obtain ⟨v2, hv2⟩ : ∃ v2, v2 = v1.alloc (.cells (Array.replicate n (.slice none 0 0)) 22) := ⟨_, rfl⟩
   rw [<- hv2]
   have hcv2 : Chg [] v1 v2 := by rw [hv2]; exact (Chg.refl [] _).alloc _
   have hz3 : v1.heap.size < v2.heap.size := by rw [hv2]; show _ < (v1.alloc _).heap.size; simp
   have hk2 : v2.heap[v1.heap.size]? = some (.cells (Array.replicate n (.slice none 0 0)) 22 (0, 0)) := by rw [hv2]; exact heap_alloc_new v1 _
   have hw12 : Chg [] w1 v2 := hw11.trans hcv2 (by simp)
   clear hv2
   clear hHeld
   refine hK.out _ _ ?_ (fun hHeld => ?_)
   ·exact (HoldC.cons (⟨hw12.cell b0 (by simp), hw12.cell b1 (by simp), hw12.cell b2 (by simp)⟩) HoldC.nil)
   clear hK K
   try simp only [gA,gB,gC,Act.put,gD,gE,gF]
   refine wpAnyL_ready (rs := [7]) (by kernel_rfl) (by simp) (AllReadyL.cons (o := _) rfl (fun K hK => ?_) AllReadyL.nil)
   try simp only [gA,gB,gC]
   go_simp
   obtain ⟨v3, hv3⟩ : ∃ v3, v3 = v2.alloc (.cells (Array.replicate n (.slice none 0 0)) 22) := ⟨_, rfl⟩
   rw [<- hv3]
   have hcv3 : Chg [] v2 v3 := by rw [hv3]; exact (Chg.refl [] _).alloc _
   have hz4 : v2.heap.size < v3.heap.size := by rw [hv3]; show _ < (v2.alloc _).heap.size; simp
   have hk3 : v3.heap[v2.heap.size]? = some (.cells (Array.replicate n (.slice none 0 0)) 22 (0, 0)) := by rw [hv3]; exact heap_alloc_new v2 _
   have hw13 : Chg [] w1 v3 := hw12.trans hcv3 (by simp)
   clear hv3
   clear hHeld
   refine hK.out _ _ ?_ (fun hHeld => ?_)
   ·exact (HoldC.cons (⟨hw13.cell b0 (by simp), hw13.cell b1 (by simp), hw13.cell b2 (by simp)⟩) HoldC.nil)
   clear hK K
   try simp only [gA,gB,gC,Act.put,gD,gE,gF]
   refine wpAnyL_ready (rs := [8]) (by kernel_rfl) (by simp) (AllReadyL.cons (o := _) rfl (fun K hK => ?_) AllReadyL.nil)
   try simp only [gA,gB,gC]
   go_simp
   clear hHeld
   refine hK.out _ _ ?_ (fun hHeld => ?_)
   ·exact (HoldC.past (by kernel_rfl) HoldC.nil)
   clear hK K
   try simp only [gA,gB,gC,Act.put,gD,gE,gF]
   refine wpAnyL_ready (rs := [9]) (by kernel_rfl) (by simp) (AllReadyL.cons (o := _) rfl (fun K hK => ?_) AllReadyL.nil)
   try simp only [gA,gB,gC]
   go_simp
   clear hHeld
   refine hK.out _ _ ?_ (fun hHeld => ?_)
   ·exact (HoldC.past (by kernel_rfl) HoldC.nil)
   clear hK K
   try simp only [gA,gB,gC,Act.put,gD,gE,gF]
   refine tk 10 ?_ rfl (by kernel_rfl) (fun _ _ _ h => h) (.inl ⟨by rfl, ?_⟩) hHeld ?_; rotate_left; · (intro w _; go_simp; try with_reducible rfl)
   clear hHeld; intro hHeld; try simp only [gA,gB,gC,Act.put,gD,gE,gF]
   refine wpAnyL_done (by kernel_rfl) ?_ _
   clear hHeld
   have HB := LH (begin_fin (w := w) s data n w1.heap.size v1.heap.size v2.heap.size (HC1.out.trans hw13 (by simp)) (hcv3.keep (hcv2.keep hk1 (by simp)) (by simp)) (hcv3.keep hk2 (by simp)) hk3 (by omega) (by omega) (by omega) (by omega) (by omega) (by omega))
   go_wp2
   go_ret
   exact ⟨_, _, _, _, rfl, HB.out⟩
  ·try simp only [gA,gB,gC]
   go_simp
   obtain ⟨v2, hv2⟩ : ∃ v2, v2 = v1.alloc (.cells (Array.replicate n (.slice none 0 0)) 22) := ⟨_, rfl⟩
   rw [<- hv2]
   have hcv2 : Chg [] v1 v2 := by rw [hv2]; exact (Chg.refl [] _).alloc _
   have hz3 : v1.heap.size < v2.heap.size := by rw [hv2]; show _ < (v1.alloc _).heap.size; simp
   have hk2 : v2.heap[v1.heap.size]? = some (.cells (Array.replicate n (.slice none 0 0)) 22 (0, 0)) := by rw [hv2]; exact heap_alloc_new v1 _
   have hw12 : Chg [] w1 v2 := hw11.trans hcv2 (by simp)
   clear hv2
   clear hHeld
   refine hK.out _ _ ?_ (fun hHeld => ?_)
   ·exact (HoldC.cons (⟨hw12.cell b0 (by simp), hw12.cell b1 (by simp), hw12.cell b2 (by simp)⟩) HoldC.nil)
   clear hK K
   try simp only [gA,gB,gC,Act.put,gD,gE,gF]
   refine wpAnyL_ready (rs := [5]) (by kernel_rfl) (by simp) (AllReadyL.cons (o := _) rfl (fun K hK => ?_) AllReadyL.nil)
   try simp only [gA,gB,gC]
   go_simp
   obtain ⟨v3, hv3⟩ : ∃ v3, v3 = v2.alloc (.cells (Array.replicate n (.slice none 0 0)) 22) := ⟨_, rfl⟩
   rw [<- hv3]
   have hcv3 : Chg [] v2 v3 := by rw [hv3]; exact (Chg.refl [] _).alloc _
   have hz4 : v2.heap.size < v3.heap.size := by rw [hv3]; show _ < (v2.alloc _).heap.size; simp
   have hk3 : v3.heap[v2.heap.size]? = some (.cells (Array.replicate n (.slice none 0 0)) 22 (0, 0)) := by rw [hv3]; exact heap_alloc_new v2 _
   have hw13 : Chg [] w1 v3 := hw12.trans hcv3 (by simp)
   clear hv3
   clear hHeld
   refine hK.out _ _ ?_ (fun hHeld => ?_)
   ·exact (HoldC.cons (⟨hw13.cell b0 (by simp), hw13.cell b1 (by simp), hw13.cell b2 (by simp)⟩) HoldC.nil)
   clear hK K
   try simp only [gA,gB,gC,Act.put,gD,gE,gF]
   refine wpAnyL_ready (rs := [8]) (by kernel_rfl) (by simp) (AllReadyL.cons (o := _) rfl (fun K hK => ?_) AllReadyL.nil)
   try simp only [gA,gB,gC]
   go_simp
   clear hHeld
   refine hK.out _ _ ?_ (fun hHeld => ?_)
   ·exact (HoldC.past (by kernel_rfl) HoldC.nil)
   clear hK K
   try simp only [gA,gB,gC,Act.put,gD,gE,gF]
   refine wpAnyL_ready (rs := [9]) (by kernel_rfl) (by simp) (AllReadyL.cons (o := _) rfl (fun K hK => ?_) AllReadyL.nil)
   try simp only [gA,gB,gC]
   go_simp
   clear hHeld
   refine hK.out _ _ ?_ (fun hHeld => ?_)
   ·exact (HoldC.past (by kernel_rfl) HoldC.nil)
   clear hK K
   try simp only [gA,gB,gC,Act.put,gD,gE,gF]
   refine tk 10 ?_ rfl (by kernel_rfl) (fun _ _ _ h => h) (.inl ⟨by rfl, ?_⟩) hHeld ?_; rotate_left; · (intro w _; go_simp; try with_reducible rfl)
   clear hHeld; intro hHeld; try simp only [gA,gB,gC,Act.put,gD,gE,gF]
   refine wpAnyL_done (by kernel_rfl) ?_ _
   clear hHeld
   have HB := LH (begin_fin (w := w) s data n w1.heap.size v2.heap.size v1.heap.size (HC1.out.trans hw13 (by simp)) (hcv3.keep (hcv2.keep hk1 (by simp)) (by simp)) hk3 (hcv3.keep hk2 (by simp)) (by omega) (by omega) (by omega) (by omega) (by omega) (by omega))
   go_wp2
   go_ret
   exact ⟨_, _, _, _, rfl, HB.out⟩
 ·try simp only [gA,gB,gC]
  go_simp
  obtain ⟨v1, hv1⟩ : ∃ v1, v1 = (w1.alloc (.cells (Array.replicate n (.slice none 0 0)) 22)).drew := ⟨_, rfl⟩
  rw [<- hv1]
  have hcv1 : Chg [] w1 v1 := by rw [hv1]; exact ((Chg.refl [] w1).alloc _).drew
  have hz2 : w1.heap.size < v1.heap.size := by rw [hv1]; show _ < (w1.alloc _).heap.size; simp
  have hk1 : v1.heap[w1.heap.size]? = some (.cells (Array.replicate n (.slice none 0 0)) 22 (0, 0)) := by rw [hv1]; exact heap_alloc_new w1 _
  have hw11 : Chg [] w1 v1 := hcv1
  clear hv1
  clear hHeld
  refine hK.out _ _ ?_ (fun hHeld => ?_)
  ·exact (HoldC.cons (⟨hw11.cell b0 (by simp), hw11.cell b1 (by simp), hw11.cell b2 (by simp)⟩) HoldC.nil)
  clear hK K
  try simp only [gA,gB,gC,Act.put,gD,gE,gF]
  refine wpAnyL_ready (rs := [3, 7]) (by kernel_rfl) (by simp) ?_
  refine AllReadyL.cons (o := _) rfl (fun K hK => ?_) (AllReadyL.cons (o := _) rfl (fun K hK => ?_) AllReadyL.nil)
  ·try simp only [gA,gB,gC]
   go_simp
   obtain ⟨v2, hv2⟩ : ∃ v2, v2 = v1.alloc (.cells (Array.replicate n (.int .i64 0)) 3) := ⟨_, rfl⟩
   rw [<- hv2]
   have hcv2 : Chg [] v1 v2 := by rw [hv2]; exact (Chg.refl [] _).alloc _
   have hz3 : v1.heap.size < v2.heap.size := by rw [hv2]; show _ < (v1.alloc _).heap.size; simp
   have hk2 : v2.heap[v1.heap.size]? = some (.cells (Array.replicate n (.int .i64 0)) 3 (0, 0)) := by rw [hv2]; exact heap_alloc_new v1 _
   have hw12 : Chg [] w1 v2 := hw11.trans hcv2 (by simp)
   clear hv2
   clear hHeld
   refine hK.out _ _ ?_ (fun hHeld => ?_)
   ·exact (HoldC.cons (⟨hw12.cell b0 (by simp), hw12.cell b1 (by simp), hw12.cell b2 (by simp)⟩) HoldC.nil)
   clear hK K
   try simp only [gA,gB,gC,Act.put,gD,gE,gF]
   refine wpAnyL_ready (rs := [7]) (by kernel_rfl) (by simp) (AllReadyL.cons (o := _) rfl (fun K hK => ?_) AllReadyL.nil)
   try simp only [gA,gB,gC]
   go_simp
   obtain ⟨v3, hv3⟩ : ∃ v3, v3 = v2.alloc (.cells (Array.replicate n (.slice none 0 0)) 22) := ⟨_, rfl⟩
   rw [<- hv3]
   have hcv3 : Chg [] v2 v3 := by rw [hv3]; exact (Chg.refl [] _).alloc _
   have hz4 : v2.heap.size < v3.heap.size := by rw [hv3]; show _ < (v2.alloc _).heap.size; simp
   have hk3 : v3.heap[v2.heap.size]? = some (.cells (Array.replicate n (.slice none 0 0)) 22 (0, 0)) := by rw [hv3]; exact heap_alloc_new v2 _
   have hw13 : Chg [] w1 v3 := hw12.trans hcv3 (by simp)
   clear hv3
   clear hHeld
   refine hK.out _ _ ?_ (fun hHeld => ?_)
   ·exact (HoldC.cons (⟨hw13.cell b0 (by simp), hw13.cell b1 (by simp), hw13.cell b2 (by simp)⟩) HoldC.nil)
   clear hK K
   try simp only [gA,gB,gC,Act.put,gD,gE,gF]
   refine wpAnyL_ready (rs := [8]) (by kernel_rfl) (by simp) (AllReadyL.cons (o := _) rfl (fun K hK => ?_) AllReadyL.nil)
   try simp only [gA,gB,gC]
   go_simp
   clear hHeld
   refine hK.out _ _ ?_ (fun hHeld => ?_)
   ·exact (HoldC.past (by kernel_rfl) HoldC.nil)
   clear hK K
   try simp only [gA,gB,gC,Act.put,gD,gE,gF]
   refine wpAnyL_ready (rs := [9]) (by kernel_rfl) (by simp) (AllReadyL.cons (o := _) rfl (fun K hK => ?_) AllReadyL.nil)
   try simp only [gA,gB,gC]
   go_simp
   clear hHeld
   refine hK.out _ _ ?_ (fun hHeld => ?_)
   ·exact (HoldC.past (by kernel_rfl) HoldC.nil)
   clear hK K
   try simp only [gA,gB,gC,Act.put,gD,gE,gF]
   refine tk 10 ?_ rfl (by kernel_rfl) (fun _ _ _ h => h) (.inl ⟨by rfl, ?_⟩) hHeld ?_; rotate_left; · (intro w _; go_simp; try with_reducible rfl)
   clear hHeld; intro hHeld; try simp only [gA,gB,gC,Act.put,gD,gE,gF]
   refine wpAnyL_done (by kernel_rfl) ?_ _
   clear hHeld
   have HB := LH (begin_fin (w := w) s data n v1.heap.size w1.heap.size v2.heap.size (HC1.out.trans hw13 (by simp)) (hcv3.keep hk2 (by simp)) (hcv3.keep (hcv2.keep hk1 (by simp)) (by simp)) hk3 (by omega) (by omega) (by omega) (by omega) (by omega) (by omega))
   go_wp2
   go_ret
   exact ⟨_, _, _, _, rfl, HB.out⟩
  ·try simp only [gA,gB,gC]
   go_simp
   obtain ⟨v2, hv2⟩ : ∃ v2, v2 = v1.alloc (.cells (Array.replicate n (.slice none 0 0)) 22) := ⟨_, rfl⟩
   rw [<- hv2]
   have hcv2 : Chg [] v1 v2 := by rw [hv2]; exact (Chg.refl [] _).alloc _
   have hz3 : v1.heap.size < v2.heap.size := by rw [hv2]; show _ < (v1.alloc _).heap.size; simp
   have hk2 : v2.heap[v1.heap.size]? = some (.cells (Array.replicate n (.slice none 0 0)) 22 (0, 0)) := by rw [hv2]; exact heap_alloc_new v1 _
   have hw12 : Chg [] w1 v2 := hw11.trans hcv2 (by simp)
   clear hv2
   clear hHeld
   refine hK.out _ _ ?_ (fun hHeld => ?_)
   ·exact (HoldC.cons (⟨hw12.cell b0 (by simp), hw12.cell b1 (by simp), hw12.cell b2 (by simp)⟩) HoldC.nil)
   clear hK K
   try simp only [gA,gB,gC,Act.put,gD,gE,gF]
   refine wpAnyL_ready (rs := [3]) (by kernel_rfl) (by simp) (AllReadyL.cons (o := _) rfl (fun K hK => ?_) AllReadyL.nil)
   try simp only [gA,gB,gC]
   go_simp
   obtain ⟨v3, hv3⟩ : ∃ v3, v3 = v2.alloc (.cells (Array.replicate n (.int .i64 0)) 3) := ⟨_, rfl⟩
   rw [<- hv3]
   have hcv3 : Chg [] v2 v3 := by rw [hv3]; exact (Chg.refl [] _).alloc _
   have hz4 : v2.heap.size < v3.heap.size := by rw [hv3]; show _ < (v2.alloc _).heap.size; simp
   have hk3 : v3.heap[v2.heap.size]? = some (.cells (Array.replicate n (.int .i64 0)) 3 (0, 0)) := by rw [hv3]; exact heap_alloc_new v2 _
   have hw13 : Chg [] w1 v3 := hw12.trans hcv3 (by simp)
   clear hv3
   clear hHeld
   refine hK.out _ _ ?_ (fun hHeld => ?_)
   ·exact (HoldC.cons (⟨hw13.cell b0 (by simp), hw13.cell b1 (by simp), hw13.cell b2 (by simp)⟩) HoldC.nil)
   clear hK K
   try simp only [gA,gB,gC,Act.put,gD,gE,gF]
   refine wpAnyL_ready (rs := [8]) (by kernel_rfl) (by simp) (AllReadyL.cons (o := _) rfl (fun K hK => ?_) AllReadyL.nil)
   try simp only [gA,gB,gC]
   go_simp
   clear hHeld
   refine hK.out _ _ ?_ (fun hHeld => ?_)
   ·exact (HoldC.past (by kernel_rfl) HoldC.nil)
   clear hK K
   try simp only [gA,gB,gC,Act.put,gD,gE,gF]
   refine wpAnyL_ready (rs := [9]) (by kernel_rfl) (by simp) (AllReadyL.cons (o := _) rfl (fun K hK => ?_) AllReadyL.nil)
   try simp only [gA,gB,gC]
   go_simp
   clear hHeld
   refine hK.out _ _ ?_ (fun hHeld => ?_)
   ·exact (HoldC.past (by kernel_rfl) HoldC.nil)
   clear hK K
   try simp only [gA,gB,gC,Act.put,gD,gE,gF]
   refine tk 10 ?_ rfl (by kernel_rfl) (fun _ _ _ h => h) (.inl ⟨by rfl, ?_⟩) hHeld ?_; rotate_left; · (intro w _; go_simp; try with_reducible rfl)
   clear hHeld; intro hHeld; try simp only [gA,gB,gC,Act.put,gD,gE,gF]
   refine wpAnyL_done (by kernel_rfl) ?_ _
   clear hHeld
   have HB := LH (begin_fin (w := w) s data n v2.heap.size w1.heap.size v1.heap.size (HC1.out.trans hw13 (by simp)) hk3 (hcv3.keep (hcv2.keep hk1 (by simp)) (by simp)) (hcv3.keep hk2 (by simp)) (by omega) (by omega) (by omega) (by omega) (by omega) (by omega))
   go_wp2
   go_ret
   exact ⟨_, _, _, _, rfl, HB.out⟩
 ·try simp only [gA,gB,gC]
  go_simp
  obtain ⟨v1, hv1⟩ : ∃ v1, v1 = (w1.alloc (.cells (Array.replicate n (.slice none 0 0)) 22)).drew := ⟨_, rfl⟩
  rw [<- hv1]
  have hcv1 : Chg [] w1 v1 := by rw [hv1]; exact ((Chg.refl [] w1).alloc _).drew
  have hz2 : w1.heap.size < v1.heap.size := by rw [hv1]; show _ < (w1.alloc _).heap.size; simp
  have hk1 : v1.heap[w1.heap.size]? = some (.cells (Array.replicate n (.slice none 0 0)) 22 (0, 0)) := by rw [hv1]; exact heap_alloc_new w1 _
  have hw11 : Chg [] w1 v1 := hcv1
  clear hv1
  clear hHeld
  refine hK.out _ _ ?_ (fun hHeld => ?_)
  ·exact (HoldC.cons (⟨hw11.cell b0 (by simp), hw11.cell b1 (by simp), hw11.cell b2 (by simp)⟩) HoldC.nil)
  clear hK K
  try simp only [gA,gB,gC,Act.put,gD,gE,gF]
  refine wpAnyL_ready (rs := [3, 5]) (by kernel_rfl) (by simp) ?_
  refine AllReadyL.cons (o := _) rfl (fun K hK => ?_) (AllReadyL.cons (o := _) rfl (fun K hK => ?_) AllReadyL.nil)
  ·try simp only [gA,gB,gC]
   go_simp
   obtain ⟨v2, hv2⟩ : ∃ v2, v2 = v1.alloc (.cells (Array.replicate n (.int .i64 0)) 3) := ⟨_, rfl⟩
   rw [<- hv2]
   have hcv2 : Chg [] v1 v2 := by rw [hv2]; exact (Chg.refl [] _).alloc _
   have hz3 : v1.heap.size < v2.heap.size := by rw [hv2]; show _ < (v1.alloc _).heap.size; simp
   have hk2 : v2.heap[v1.heap.size]? = some (.cells (Array.replicate n (.int .i64 0)) 3 (0, 0)) := by rw [hv2]; exact heap_alloc_new v1 _
   have hw12 : Chg [] w1 v2 := hw11.trans hcv2 (by simp)
   clear hv2
   clear hHeld
   refine hK.out _ _ ?_ (fun hHeld => ?_)
   ·exact (HoldC.cons (⟨hw12.cell b0 (by simp), hw12.cell b1 (by simp), hw12.cell b2 (by simp)⟩) HoldC.nil)
   clear hK K
   try simp only [gA,gB,gC,Act.put,gD,gE,gF]
   refine wpAnyL_ready (rs := [5]) (by kernel_rfl) (by simp) (AllReadyL.cons (o := _) rfl (fun K hK => ?_) AllReadyL.nil)
   try simp only [gA,gB,gC]
   go_simp
   obtain ⟨v3, hv3⟩ : ∃ v3, v3 = v2.alloc (.cells (Array.replicate n (.slice none 0 0)) 22) := ⟨_, rfl⟩
   rw [<- hv3]
   have hcv3 : Chg [] v2 v3 := by rw [hv3]; exact (Chg.refl [] _).alloc _
   have hz4 : v2.heap.size < v3.heap.size := by rw [hv3]; show _ < (v2.alloc _).heap.size; simp
   have hk3 : v3.heap[v2.heap.size]? = some (.cells (Array.replicate n (.slice none 0 0)) 22 (0, 0)) := by rw [hv3]; exact heap_alloc_new v2 _
   have hw13 : Chg [] w1 v3 := hw12.trans hcv3 (by simp)
   clear hv3
   clear hHeld
   refine hK.out _ _ ?_ (fun hHeld => ?_)
   ·exact (HoldC.cons (⟨hw13.cell b0 (by simp), hw13.cell b1 (by simp), hw13.cell b2 (by simp)⟩) HoldC.nil)
   clear hK K
   try simp only [gA,gB,gC,Act.put,gD,gE,gF]
   refine wpAnyL_ready (rs := [8]) (by kernel_rfl) (by simp) (AllReadyL.cons (o := _) rfl (fun K hK => ?_) AllReadyL.nil)
   try simp only [gA,gB,gC]
   go_simp
   clear hHeld
   refine hK.out _ _ ?_ (fun hHeld => ?_)
   ·exact (HoldC.past (by kernel_rfl) HoldC.nil)
   clear hK K
   try simp only [gA,gB,gC,Act.put,gD,gE,gF]
   refine wpAnyL_ready (rs := [9]) (by kernel_rfl) (by simp) (AllReadyL.cons (o := _) rfl (fun K hK => ?_) AllReadyL.nil)
   try simp only [gA,gB,gC]
   go_simp
   clear hHeld
   refine hK.out _ _ ?_ (fun hHeld => ?_)
   ·exact (HoldC.past (by kernel_rfl) HoldC.nil)
   clear hK K
   try simp only [gA,gB,gC,Act.put,gD,gE,gF]
   refine tk 10 ?_ rfl (by kernel_rfl) (fun _ _ _ h => h) (.inl ⟨by rfl, ?_⟩) hHeld ?_; rotate_left; · (intro w _; go_simp; try with_reducible rfl)
   clear hHeld; intro hHeld; try simp only [gA,gB,gC,Act.put,gD,gE,gF]
   refine wpAnyL_done (by kernel_rfl) ?_ _
   clear hHeld
   have HB := LH (begin_fin (w := w) s data n v1.heap.size v2.heap.size w1.heap.size (HC1.out.trans hw13 (by simp)) (hcv3.keep hk2 (by simp)) hk3 (hcv3.keep (hcv2.keep hk1 (by simp)) (by simp)) (by omega) (by omega) (by omega) (by omega) (by omega) (by omega))
   go_wp2
   go_ret
   exact ⟨_, _, _, _, rfl, HB.out⟩
  ·try simp only [gA,gB,gC]
   go_simp
   obtain ⟨v2, hv2⟩ : ∃ v2, v2 = v1.alloc (.cells (Array.replicate n (.slice none 0 0)) 22) := ⟨_, rfl⟩
   rw [<- hv2]
   have hcv2 : Chg [] v1 v2 := by rw [hv2]; exact (Chg.refl [] _).alloc _
   have hz3 : v1.heap.size < v2.heap.size := by rw [hv2]; show _ < (v1.alloc _).heap.size; simp
   have hk2 : v2.heap[v1.heap.size]? = some (.cells (Array.replicate n (.slice none 0 0)) 22 (0, 0)) := by rw [hv2]; exact heap_alloc_new v1 _
   have hw12 : Chg [] w1 v2 := hw11.trans hcv2 (by simp)
   clear hv2
   clear hHeld
   refine hK.out _ _ ?_ (fun hHeld => ?_)
   ·exact (HoldC.cons (⟨hw12.cell b0 (by simp), hw12.cell b1 (by simp), hw12.cell b2 (by simp)⟩) HoldC.nil)
   clear hK K
   try simp only [gA,gB,gC,Act.put,gD,gE,gF]
   refine wpAnyL_ready (rs := [3]) (by kernel_rfl) (by simp) (AllReadyL.cons (o := _) rfl (fun K hK => ?_) AllReadyL.nil)
   try simp only [gA,gB,gC]
   go_simp
   obtain ⟨v3, hv3⟩ : ∃ v3, v3 = v2.alloc (.cells (Array.replicate n (.int .i64 0)) 3) := ⟨_, rfl⟩
   rw [<- hv3]
   have hcv3 : Chg [] v2 v3 := by rw [hv3]; exact (Chg.refl [] _).alloc _
   have hz4 : v2.heap.size < v3.heap.size := by rw [hv3]; show _ < (v2.alloc _).heap.size; simp
   have hk3 : v3.heap[v2.heap.size]? = some (.cells (Array.replicate n (.int .i64 0)) 3 (0, 0)) := by rw [hv3]; exact heap_alloc_new v2 _
   have hw13 : Chg [] w1 v3 := hw12.trans hcv3 (by simp)
   clear hv3
   clear hHeld
   refine hK.out _ _ ?_ (fun hHeld => ?_)
   ·exact (HoldC.cons (⟨hw13.cell b0 (by simp), hw13.cell b1 (by simp), hw13.cell b2 (by simp)⟩) HoldC.nil)
   clear hK K
   try simp only [gA,gB,gC,Act.put,gD,gE,gF]
   refine wpAnyL_ready (rs := [8]) (by kernel_rfl) (by simp) (AllReadyL.cons (o := _) rfl (fun K hK => ?_) AllReadyL.nil)
   try simp only [gA,gB,gC]
   go_simp
   clear hHeld
   refine hK.out _ _ ?_ (fun hHeld => ?_)
   ·exact (HoldC.past (by kernel_rfl) HoldC.nil)
   clear hK K
   try simp only [gA,gB,gC,Act.put,gD,gE,gF]
   refine wpAnyL_ready (rs := [9]) (by kernel_rfl) (by simp) (AllReadyL.cons (o := _) rfl (fun K hK => ?_) AllReadyL.nil)
   try simp only [gA,gB,gC]
   go_simp
   clear hHeld
   refine hK.out _ _ ?_ (fun hHeld => ?_)
   ·exact (HoldC.past (by kernel_rfl) HoldC.nil)
   clear hK K
   try simp only [gA,gB,gC,Act.put,gD,gE,gF]
   refine tk 10 ?_ rfl (by kernel_rfl) (fun _ _ _ h => h) (.inl ⟨by rfl, ?_⟩) hHeld ?_; rotate_left; · (intro w _; go_simp; try with_reducible rfl)
   clear hHeld; intro hHeld; try simp only [gA,gB,gC,Act.put,gD,gE,gF]
   refine wpAnyL_done (by kernel_rfl) ?_ _
   clear hHeld
   have HB := LH (begin_fin (w := w) s data n v2.heap.size v1.heap.size w1.heap.size (HC1.out.trans hw13 (by simp)) hk3 (hcv3.keep hk2 (by simp)) (hcv3.keep (hcv2.keep hk1 (by simp)) (by simp)) (by omega) (by omega) (by omega) (by omega) (by omega) (by omega))
   go_wp2
   go_ret
   exact ⟨_, _, _, _, rfl, HB.out⟩
theorem bzero_no (s : Sp) (a l : Int) (w : World) (hl : l ≠ 0) : Calls Tryz.prog 46 #[.agg #[.int .i64 s.c, .int .i64 s.l, .int .i64 s.n, .int .i64 a, .int .i64 l]] w fun e w' => e = .returned (.bool false) /\ Chg [] w w' := by
 have h0 : (l == 0) = false := beq_eq_false_iff_ne.2 hl
 go_enter Tryz.func46, Tryz.ntmps46
 go_wp2
 all_goals
  go_ret
  refine ⟨?_, (Chg.refl [] w).alloc _⟩
  first
   | rfl
   | simp_all
theorem bmay_ok (s : Sp) (a l : Int) (w : World) (hs : s.Ok) (ha : 0 <= a) (hl : 1 <= l) (hl2 : l <= 64) (hal : a + l <= 6000) : Calls Tryz.prog 25 #[.agg #[.int .i64 s.c, .int .i64 s.l, .int .i64 s.n, .int .i64 a, .int .i64 l]] w fun e w' => e = .returned (.bool true) /\ Chg [] w w' := by
 obtain ⟨c0, c1, l0, l1, n0, n1⟩ := hs
 obtain ⟨w1, hw1⟩ : ∃ w1, w1 = w.alloc (.cells #[.int .i64 s.c, .int .i64 s.l, .int .i64 s.n, .int .i64 a, .int .i64 l] 35) := ⟨_, rfl⟩
 have hc1 : Chg [] w w1 := by rw [hw1]; exact (Chg.refl _ _).alloc _
 have HB := LH (show w1.heap[w.heap.size]? = some (.cells #[.int .i64 s.c, .int .i64 s.l, .int .i64 s.n, .int .i64 a, .int .i64 l] 35 (0, 0)) by rw [hw1]; exact heap_alloc_new w _)
 have HW1 := LH hw1
 have HC1 := LH hc1
 have hws : IntKind.i64.wrap (6000 - l) = 6000 - l := IntWalk.i64_in _ ⟨by omega, by omega⟩
 have hle : a <= 6000 - l := by omega
 clear hw1 hc1
 go_enter Tryz.func25, Tryz.ntmps25
 go_wp2_with fail
 rw [<- HW1.out]
 refine (bzero_no s a l w1 (by omega)).mono ?_
 rintro e w2 ⟨rfl, hc2⟩
 have hb2 := hc2.keep HB.out (by simp)
 have q0 := blk_cell hb2 0 _ rfl
 have q1 := blk_cell hb2 1 _ rfl
 have q2 := blk_cell hb2 2 _ rfl
 have q3 := blk_cell hb2 3 _ rfl
 have q4 := blk_cell hb2 4 _ rfl
 have HC2 := LH (HC1.out.trans hc2 (by simp))
 clear hb2 hc2
 go_wp2_with (go_at_call 47; refine (bwithin_ok _ _ _ (by omega) (by omega)).mono ?_; rintro e w' ⟨rfl, hq⟩; subst hq)
 go_ret
 exact ⟨rfl, HC2.out⟩
theorem fmay_ok (s : Sp) (n : Nat) (w : World) (hs : s.Ok) (h3 : 3 <= n) (h16 : n <= 16) : Calls Tryz.prog 26 #[spV s, .int .i64 (n : Int)] w fun e w' => e = .returned (.bool true) /\ Chg [] w w' := by
 obtain ⟨w1, hw1⟩ : ∃ w1, w1 = w.alloc (.cells (spC s) 26) := ⟨_, rfl⟩
 have hc1 : Chg [] w w1 := by rw [hw1]; exact (Chg.refl _ _).alloc _
 have HW1 := LH hw1
 have HC1 := LH hc1
 have h3z : (3 : Int) <= (n : Int) := by omega
 have h16z : (n : Int) <= 16 := by omega
 clear hw1 hc1
 go_enter Tryz.func26, Tryz.ntmps26
 go_wp2_with fail
 rw [<- HW1.out]
 refine (bmay_ok s 0 1 w1 hs (by omega) (by omega) (by omega) (by omega)).mono ?_
 rintro e w2 ⟨rfl, hc2⟩
 have HC2 := LH (HC1.out.trans hc2 (by simp))
 clear hc2
 go_wp2
 go_ret
 exact ⟨rfl, HC2.out⟩
end
section
open Go.RowKit Go.Shelf
theorem FtAt.setWhole {E : Env} {w : World} {n : Nat} (h : FtAt E w (FS.fresh n 0 0 false)) (hT : E.T.Nodup) : FtAt E (w.setCell ⟨E.fb, 2 + 6, none⟩ (.bool true)) (FS.fresh n 0 0 true) := by
 obtain ⟨F, T, ov, xs, h⟩ := h
 have hcf : Chg [E.fb] w (w.setCell ⟨E.fb, 2 + 6, none⟩ (.bool true)) := (Chg.refl _ w).setCell (.inl (by simp)) _
 simp only [List.nodup_cons, List.mem_cons, List.mem_nil_iff, or_false, not_or] at hT
 refine ⟨F, T, ov, xs, set_blk h.head, hcf.keep h.kn (by simp; exact fun e => hT.1.1 e.symm), hcf.keep h.fr (by simp; exact fun e => hT.1.2.1 e.symm), hcf.keep h.rs (by simp; exact fun e => hT.1.2.2 e.symm), h.klen, h.flen, h.tlen, h.k3, fun i x hx => ⟨(h.frag i x hx).1.chgW hcf (fun hne q hq hm => (h.frag i x hx).2.2 hne q hq (by simp at hm; simp [hm])), (h.frag i x hx).2⟩, fun i x hx => ⟨(h.rest i x hx).1.chgW hcf (fun hne q hq hm => (h.rest i x hx).2.2 hne q hq (by simp at hm; simp [hm])), (h.rest i x hx).2⟩, h.out.chgW hcf (fun hne q hq hm => h.outT hne q hq (by simp at hm; simp [hm])), h.outT⟩
theorem FtAt.setPtr {E : Env} {w : World} {n : Nat} (h : FtAt E w (FS.fresh n 0 0 false)) (hT : E.T.Nodup) (s : Sp) (a l : Nat) : FtAt E (((((w.setCell ⟨E.fb, 3, none⟩ (.int .i64 s.c)).setCell ⟨E.fb, 4, none⟩ (.int .i64 s.l)).setCell ⟨E.fb, 5, none⟩ (.int .i64 s.n)).setCell ⟨E.fb, 6, none⟩ (.int .i64 (a : Int))).setCell ⟨E.fb, 7, none⟩ (.int .i64 (l : Int))) (FS.fresh n a l false) := by
 obtain ⟨F, T, ov, xs, h⟩ := h
 have hcf : Chg [E.fb] w (((((w.setCell ⟨E.fb, 3, none⟩ (.int .i64 s.c)).setCell ⟨E.fb, 4, none⟩ (.int .i64 s.l)).setCell ⟨E.fb, 5, none⟩ (.int .i64 s.n)).setCell ⟨E.fb, 6, none⟩ (.int .i64 (a : Int))).setCell ⟨E.fb, 7, none⟩ (.int .i64 (l : Int))) := (((((Chg.refl _ w).setCell (p := ⟨E.fb, 3, none⟩) (.inl (by simp)) _).setCell (p := ⟨E.fb, 4, none⟩) (.inl (by simp)) _).setCell (p := ⟨E.fb, 5, none⟩) (.inl (by simp)) _).setCell (p := ⟨E.fb, 6, none⟩) (.inl (by simp)) _).setCell (p := ⟨E.fb, 7, none⟩) (.inl (by simp)) _
 simp only [List.nodup_cons, List.mem_cons, List.mem_nil_iff, or_false, not_or] at hT
 refine ⟨F, T, ov, s, set_blk (set_blk (set_blk (set_blk (set_blk h.head)))), hcf.keep h.kn (by simp; exact fun e => hT.1.1 e.symm), hcf.keep h.fr (by simp; exact fun e => hT.1.2.1 e.symm), hcf.keep h.rs (by simp; exact fun e => hT.1.2.2 e.symm), h.klen, h.flen, h.tlen, h.k3, fun i x hx => ⟨(h.frag i x hx).1.chgW hcf (fun hne q hq hm => (h.frag i x hx).2.2 hne q hq (by simp at hm; simp [hm])), (h.frag i x hx).2⟩, fun i x hx => ⟨(h.rest i x hx).1.chgW hcf (fun hne q hq hm => (h.rest i x hx).2.2 hne q hq (by simp at hm; simp [hm])), (h.rest i x hx).2⟩, h.out.chgW hcf (fun hne q hq hm => h.outT hne q hq (by simp at hm; simp [hm])), h.outT⟩
def NewP (s : Sp) (data : List UInt8) (n at' len : Nat) (whole : Bool) (w : World) (e : Ending) (w' : World) : Prop := ∃ fb kb gb rb, e = .returned (.tuple #[.pointer (some ⟨fb, 0, none⟩), .int .i64 0]) /\ FtAt (newEnv s data n fb kb gb rb) w' (FS.fresh n at' len whole) /\ (newEnv s data n fb kb gb rb).T.Nodup /\ (∀ x ∈ (newEnv s data n fb kb gb rb).T, w.heap.size <= x) /\ Chg [] w w'
theorem fnew_ok (s : Sp) (data : List UInt8) (n a l : Nat) (w : World) (hs : s.Ok) (h3 : 3 <= n) (h16 : n <= 16) (hl : 1 <= l) (hl2 : l <= 64) (hal : a + l <= 6000) : Calls Tryz.prog 12 #[.agg #[.int .i64 s.c, .int .i64 s.l, .int .i64 s.n, .int .i64 (a : Int), .int .i64 (l : Int)], .int .i64 (n : Int)] w (NewP s data n a l false w) := by
 obtain ⟨w1, hw1⟩ : ∃ w1, w1 = w.alloc (.cells #[.int .i64 s.c, .int .i64 s.l, .int .i64 s.n, .int .i64 (a : Int), .int .i64 (l : Int)] 35) := ⟨_, rfl⟩
 have hc1 : Chg [] w w1 := by rw [hw1]; exact (Chg.refl _ _).alloc _
 have HB := LH (show w1.heap[w.heap.size]? = some (.cells #[.int .i64 s.c, .int .i64 s.l, .int .i64 s.n, .int .i64 (a : Int), .int .i64 (l : Int)] 35 (0, 0)) by rw [hw1]; exact heap_alloc_new w _)
 have HW1 := LH hw1
 have HC1 := LH hc1
 have HS := LH hs
 have hl0 : ((l : Int) == 0) = false := beq_eq_false_iff_ne.2 (by omega)
 clear hw1 hc1 hs
 go_enter Tryz.func12, Tryz.ntmps12
 go_wp2_with fail
 rw [<- HW1.out]
 refine (bmay_ok s (a : Int) (l : Int) w1 HS.out (by omega) (by omega) (by omega) (by omega)).mono ?_
 rintro e w2 ⟨rfl, hc2⟩
 have hb2 := hc2.keep HB.out (by simp)
 have q0 := blk_cell hb2 0 _ rfl
 have q1 := blk_cell hb2 1 _ rfl
 have q2 := blk_cell hb2 2 _ rfl
 have q4 := blk_cell hb2 4 _ rfl
 have HC2 := LH (HC1.out.trans hc2 (by simp))
 have HB2 := LH hb2
 clear hb2 hc2
 go_wp2_with fail
 refine (fmay_ok s n w2 HS.out h3 h16).mono ?_
 rintro e w3 ⟨rfl, hc3⟩
 have hb3 := hc3.keep HB2.out (by simp)
 have p0 := blk_cell hb3 0 _ rfl
 have p1 := blk_cell hb3 1 _ rfl
 have p2 := blk_cell hb3 2 _ rfl
 have HB3 := LH hb3
 have HC3 := LH (HC2.out.trans hc3 (by simp))
 clear hb3 hc3 q0 q1 q2 q4
 go_wp2_with fail
 refine (fbegin_any s data n w3 (by omega)).mono ?_
 rintro e w4 ⟨fb, kb, gb, rb, rfl, hf, hnd, hnw, hc4⟩
 have hb4 := hc4.keep HB3.out (by simp)
 have r0 := blk_cell hb4 0 _ rfl
 have r1 := blk_cell hb4 1 _ rfl
 have r2 := blk_cell hb4 2 _ rfl
 have r3 := blk_cell hb4 3 _ rfl
 have r4 := blk_cell hb4 4 _ rfl
 have HF := LH (hf.setPtr hnd s a l)
 obtain ⟨F, T, ov, xs, k⟩ := hf
 have k3 : w4.cell? ⟨fb, 3, none⟩ = some (.int .i64 xs.c) := blk_cell k.head 3 _ rfl
 have k4 : w4.cell? ⟨fb, 4, none⟩ = some (.int .i64 xs.l) := blk_cell k.head 4 _ rfl
 have k5 : w4.cell? ⟨fb, 5, none⟩ = some (.int .i64 xs.n) := blk_cell k.head 5 _ rfl
 have k6 := k.c6
 have k7 := k.c7
 have z3 := k.fz 3
 have z4 := k.fz 4
 have z5 := k.fz 5
 have z6 := k.fz 6
 have z7 := k.fz 7
 have lf := blk_lt k.head
 have hfb : w.heap.size <= fb := Nat.le_trans HC3.out.size (hnw fb (by simp))
 have HP := LH (And.intro hnd (And.intro (fun x hx => Nat.le_trans HC3.out.size (hnw x hx)) (((((((HC3.out.trans hc4 (by simp))).setCell (p := ⟨fb, 3, none⟩) (.inr hfb) (.int .i64 s.c)).setCell (p := ⟨fb, 4, none⟩) (.inr hfb) (.int .i64 s.l)).setCell (p := ⟨fb, 5, none⟩) (.inr hfb) (.int .i64 s.n)).setCell (p := ⟨fb, 6, none⟩) (.inr hfb) (.int .i64 (a : Int))).setCell (p := ⟨fb, 7, none⟩) (.inr hfb) (.int .i64 (l : Int)))))
 clear k hnd hnw hc4 hb4 p0 p1 p2
 go_wp2
 go_ret2
 exact ⟨fb, kb, gb, rb, rfl, HF.out, HP.out⟩
end
section
open Go.RowKit Go.Shelf
attribute [local go_sem] Oper.semAt_some
end
structure OwnS (X : List Nat) (w0 w : World) (z q p : Nat) (t : Sto) : Prop where
 sv : ∃ U, SvAt X w z q p U t /\ ∀ x ∈ U, w0.heap.size <= x
 chg : Chg [] w0 w
 newz : w0.heap.size <= z
 outz : z ∉ X
section
variable {X Y : List Nat} {w0 w w' : World} {z q p : Nat} {t t' : Sto}
theorem OwnS.zl (h : OwnS X w0 w z q p t) : z < w.heap.size := by obtain ⟨U, h1, _⟩ := h.sv; exact blk_lt h1.head
theorem OwnS.wrote {T : List Nat} (h : OwnS X w0 w z q p t) (hc : Chg T w w') (hT : ∀ x ∈ T, x ∈ X /\ w0.heap.size <= x) (h8 : ∀ x ∈ T, NoU8 w x) (hY : ∀ x ∈ Y, (x ∈ X ∨ w.heap.size <= x) /\ x < w'.heap.size) : OwnS Y w0 w' z q p t := by
 obtain ⟨U, h1, h2⟩ := h.sv
 have hzT : z ∉ T := fun hm => h.outz (hT z hm).1
 have hzl := h.zl
 refine ⟨⟨U, ⟨hc.keep h1.head hzT, h1.st.regroup hc (fun x hx => (hT x hx).1) h8 h1.far hY, h1.out, fun x hx hm => ?_⟩, h2⟩, h.chg.trans hc (fun x hx => .inr (hT x hx).2), h.newz, fun hm => ?_⟩
 ·rcases (hY x hm).1 with h3 | h3
  ·exact h1.far x hx h3
  ·have := h1.st.lim x hx; omega
 ·rcases (hY z hm).1 with h3 | h3
  ·exact h.outz h3
  ·omega
theorem SvAt.did {U : List Nat} (h : SvAt X w z q p U t) (hs : Std X w w' q p U t') : ∃ U', SvAt X w' z q p U' t' /\ (∀ x ∈ U', x ∈ U ∨ w.heap.size <= x) /\ Chg U w w' := by
 obtain ⟨U', a1, a2, a3⟩ := hs
 have hz := blk_lt h.head
 refine ⟨U', ⟨a3.keep h.head h.out, a1, fun hm => ?_, fun x hx hm => ?_⟩, a2, a3⟩
 ·rcases a2 z hm with h3 | h3
  ·exact h.out h3
  ·omega
 ·rcases a2 x hx with h3 | h3
  ·exact h.far x h3 hm
  ·have := h.st.gl x hm; omega
def OwnDo (X : List Nat) (w0 w : World) (z q p : Nat) (r : (Rp × Int) × Sto) (e : Ending) (w' : World) : Prop := ∃ v, e = .returned (.tuple #[v, .int .i64 r.1.2]) /\ RpAt w w' v r.1.1 /\ OwnS X w0 w' z q p r.2 /\ Kp X w w'
theorem own_do (h : OwnS X w0 w z q p t) (r : Rq) (bv : Value) (hx : okD r.x) (hb : BytesAt w bv r.b) (hbX : r.b ≠ [] -> ∀ k, bv.ownBlock = some k -> k < w0.heap.size ∨ k ∈ X) (hbl : r.b.length <= 1000000) (hn : 1 <= t.s.d.n) (ho : t.s.d.ops <= 800000000) (hw : t.s.d.since.length <= 800000) :
  Calls Tryz.prog 17 #[.pointer (some ⟨z, 0, none⟩), rqV r bv] w (OwnDo X w0 w z q p (t.run r)) := by
 obtain ⟨U, h1, h2⟩ := h.sv
 refine (svdo_any r bv w h1 hx hb (fun hne k hk hm => ?_) hbl hn ho hw).mono ?_
 ·rcases hbX hne k hk with h3 | h3
  ·have := h2 k hm; omega
  ·exact h1.far k hm h3
 ·rintro e w' ⟨v, rfl, hr, hs⟩
  obtain ⟨U', b1, b2, b3⟩ := h1.did hs
  have hsz := h.chg.size
  refine ⟨v, rfl, hr, ⟨⟨U', b1, fun x hx => ?_⟩, h.chg.trans b3 (fun x hx => .inr (h2 x hx)), h.newz, h.outz⟩, fun x hx => b3.block x (h1.st.gl x hx) (fun hm => h1.far x hm hx)⟩
  rcases b2 x hx with h3 | h3
  ·exact h2 x h3
  ·omega
def DoIs (X : List Nat) (w0 w : World) (z q p : Nat) (o : Rp) (code : Int) (t' : Sto) (e : Ending) (w' : World) : Prop := ∃ a c a' c', e = .returned (.tuple #[.agg #[.int .i64 o.e, .slice a o.b.length c, .slice a' o.ids.length c', .int .i64 o.room, .bool o.whole], .int .i64 code]) /\
 BytesAt w' (.slice a o.b.length c) o.b /\ (∀ k, (Value.slice a o.b.length c).ownBlock = some k -> w.heap.size <= k) /\ w'.ownsRow w.heap.size 45 4 (.slice a' o.ids.length c') o.ids.length (o.ids.flatMap idE) /\ OwnS X w0 w' z q p t' /\ Kp X w w'
theorem own_doI {o : Rp} {code : Int} (h : OwnS X w0 w z q p t) (r : Rq) (bv : Value) (hrun : t.run r = ((o, code), t')) (hx : okD r.x) (hb : BytesAt w bv r.b) (hbX : r.b ≠ [] -> ∀ k, bv.ownBlock = some k -> k < w0.heap.size ∨ k ∈ X) (hbl : r.b.length <= 1000000) (hn : 1 <= t.s.d.n) (ho : t.s.d.ops <= 800000000) (hw : t.s.d.since.length <= 800000) :
  Calls Tryz.prog 17 #[.pointer (some ⟨z, 0, none⟩), .agg #[.int .i64 r.k, .int .i64 r.x.c, .int .i64 r.x.l, .int .i64 r.x.n, .int .i64 r.x.i, bv]] w (DoIs X w0 w z q p o code t') := by
 refine (own_do h r bv hx hb hbX hbl hn ho hw).mono ?_
 rw [hrun]
 rintro e w' ⟨v, rfl, ⟨bv', iv', rfl, hb', hn', hi'⟩, ho', hk'⟩
 obtain ⟨a, c, rfl⟩ := hb'.slice
 obtain ⟨a', c', rfl⟩ : ∃ a c, iv' = .slice a o.ids.length c := by
  rcases hi'.2 with ⟨h1, h2⟩ | ⟨g, cap, cur, h1, _⟩
  ·exact ⟨none, 0, by rw [h1]; rw [show o.ids.length = 0 from h2]⟩
  ·exact ⟨_, cap, h1⟩
 exact ⟨a, c, a', c', rfl, hb', hn', hi', ho', hk'⟩
def NewS (w0 : World) (t : Sto) (e : Ending) (w' : World) : Prop := ∃ z q p, e = .returned (.tuple #[.pointer (some ⟨z, 0, none⟩), .int .i64 0]) /\ OwnS [] w0 w' z q p t
theorem ownS_of {w3 : World} (h : Own6 [] w0 w q p t) (hw3 : w3 = w.alloc (.cells #[.pointer (some ⟨q, 0, none⟩)] 84)) : OwnS [] w0 w3 w.heap.size q p t := by
 obtain ⟨U, h1, h2, h3, h4⟩ := h
 subst hw3
 refine ⟨⟨U, ⟨heap_alloc_new w _, h1.keep0 ((Chg.refl [] w).alloc _), fun hm => by have := h1.lim _ hm; omega, by simp⟩, h2⟩, h3.alloc _, h3.size, by simp⟩
theorem own_newS (hc : Chg [] w0 w) (n : Nat) (h9 : 9 <= n) (hm : n <= 4160) {d : DS} (hf : (DS.new n).format = ((0, some t), d)) : Calls Tryz.prog 23 #[.int .i64 (n : Int)] w (NewS w0 t) := by
 have CN := LH (own_disk n w (by omega) hm)
 have HC := LH hc
 have HF := LH hf
 clear hc hf
 go_enter Tryz.func23, Tryz.ntmps23
 go_wp2_with fail
 refine CN.out.mono ?_
 rintro e w1 ⟨p, S, rfl, hd1, hS1, hc1⟩
 have CF := LH (own_format (w0 := w0) hd1 (fun x hx => Nat.le_trans HC.out.size (hS1 x hx)) (HC.out.trans hc1 (by simp)) HF.out)
 clear hd1 hS1 hc1 CN
 go_wp2_with fail
 refine CF.out.mono ?_
 rintro e w2 ⟨q, rfl, ho2⟩
 have HO := LH (ownS_of ho2 rfl)
 clear ho2 CF
 go_wp2
 go_ret2
 exact ⟨_, q, p, rfl, HO.out⟩
end
section
variable {G U : List Nat} {z q p : Nat} {t : Sto}
theorem svget2_any (r : Rq) (bv : Value) (w : World) (h : SvAt G w z q p U t) (hb : ∃ a n c, bv = .slice a n c) (hx : okD r.x) :
  Calls Tryz.prog 54 #[.pointer (some ⟨z, 0, none⟩), rqV r bv] w (fun e w' => DeedPost G w q p U ⟨lostOf t.whole (t.get r.x).2, (t.get r.x).1, [], 0, false⟩ t e w' /\ Chg [] w w') := by
 have HE0 := LH (h.begins r bv)
 obtain ⟨w2, hw2⟩ : ∃ w2, w2 = (w.alloc (.cells (rqL r bv).toArray 47)).alloc (.cells zeroRp 52) := ⟨_, rfl⟩
 rw [<- hw2] at HE0
 have HE := LH HE0.out.drew
 have c0 := blk_cell HE0.out.head 0 _ rfl
 have c00 := blk_cell h.head 0 _ rfl
 obtain ⟨B, hB⟩ : ∃ B, B = w.heap.size := ⟨_, rfl⟩
 have hrq := HE0.out.rq
 rw [<- hB] at hrq
 have q1 := blk_cell hrq 1 _ rfl
 have q2 := blk_cell hrq 2 _ rfl
 have q3 := blk_cell hrq 3 _ rfl
 have q4 := blk_cell hrq 4 _ rfl
 have q5 := blk_cell hrq 5 _ rfl
 have HRP := LH HE0.out.rp
 rw [<- hB] at HRP
 have HH := LH h
 have HW2 := LH hw2
 have HB := LH hB
 have CP := LH (stget_any q p U t r.x w2.drew HE.out.st hx)
 obtain ⟨o, hoe⟩ : ∃ o, o = t.get r.x := ⟨_, rfl⟩
 rw [<- hoe] at CP
 rw [<- hoe]
 obtain ⟨b3, e3⟩ := o
 have CWH := LH (fun w' (hc : Chg [] w2.drew w') => stwhole_any q p U t w' (HE.out.st.keep0 hc))
 obtain ⟨wh, hwh⟩ : ∃ wh, wh = t.whole := ⟨_, rfl⟩
 rw [<- hwh] at CWH
 rw [<- hwh]
 clear hx hoe hwh
 obtain ⟨k, ⟨xc, xl, xn, xi⟩, b⟩ := r
 obtain ⟨ba, bn, bc, hbv⟩ := hb
 subst hbv
 clear hw2 hB hrq HE0 h
 unfold rqV rqL
 unfold rqL at HW2
 try dsimp only at q1 q2 q3 q4 q5
 unfold idV idC at CP
 try dsimp only at CP
 rw [show zeroRp = #[.int .i64 0, .slice none 0 0, .slice none 0 0, .int .i64 0, .bool false] from rfl] at HW2
 have c0L := c0
 rw [HW2.out] at c0L
 go_enter Tryz.func54, Tryz.ntmps54
 go_wp2_with fail
 clear c0L
 rw [<- HB.out]
 rw [<- HW2.out]
 refine wp_region_L [(6, fun w' => w'.cell? ⟨z, 0, none⟩ = some (.pointer (some ⟨q, 0, none⟩))), (6, fun w' => (w'.cell? ⟨B, 1, none⟩ = some (.int .i64 xc) /\ w'.cell? ⟨B, 2, none⟩ = some (.int .i64 xl) /\ w'.cell? ⟨B, 3, none⟩ = some (.int .i64 xn) /\ w'.cell? ⟨B, 4, none⟩ = some (.int .i64 xi)))] (by kernel_rfl) ?_ (fun hHeld => ?_)
 ·exact (HoldC.cons (c0) (HoldC.cons (⟨q1, q2, q3, q4⟩) HoldC.nil))
 refine tk 0 ?_ rfl (by kernel_rfl) (fun _ _ _ h => h) (.inl ⟨by rfl, ?_⟩) hHeld ?_; rotate_left; · (intro w _; go_simp; try with_reducible rfl)
 clear hHeld; intro hHeld; try simp only [gA,gB,gC,Act.put,gD,gE,gF]
 refine tk 1 ?_ rfl (by kernel_rfl) (fun _ _ _ h => h) (.inl ⟨by rfl, ?_⟩) hHeld ?_; rotate_left; · (intro w _; go_simp; try with_reducible rfl)
 clear hHeld; intro hHeld; try simp only [gA,gB,gC,Act.put,gD,gE,gF]
 refine tk 2 ?_ rfl (by kernel_rfl) (fun _ _ _ h => h) (.inl ⟨by rfl, ?_⟩) hHeld ?_; rotate_left; · (intro w _; go_simp; try with_reducible rfl)
 clear hHeld; intro hHeld; try simp only [gA,gB,gC,Act.put,gD,gE,gF]
 refine tk 4 ?_ rfl (by kernel_rfl) (fun _ _ _ h => h) (.inl ⟨by rfl, ?_⟩) hHeld ?_; rotate_left; · (intro w _; go_simp; try with_reducible rfl)
 clear hHeld; intro hHeld; try simp only [gA,gB,gC,Act.put,gD,gE,gF]
 refine ld 0 3 ?_ rfl rfl (by kernel_rfl) (fun _ _ _ h => h) (.inl ⟨by rfl, ?_⟩) hHeld ?_; rotate_left; · (intro w hSw; (try dsimp only at hSw); go_simp; try with_reducible rfl)
 clear hHeld; intro hHeld; try simp only [gA,gB,gC,Act.put,gD,gE,gF]
 refine ld 1 5 ?_ rfl rfl (by kernel_rfl) (fun _ _ _ h => h) (.inl ⟨by rfl, ?_⟩) hHeld ?_; rotate_left; · (intro w hSw; (try dsimp only at hSw); go_simp; try with_reducible rfl)
 clear hHeld; intro hHeld; try simp only [gA,gB,gC,Act.put,gD,gE,gF]
 refine wpAnyL_ready (rs := [6]) (by kernel_rfl) (by simp) (AllReadyL.cons (o := _) rfl (fun K hK => ?_) AllReadyL.nil)
 try simp only [gA,gB,gC]
 go_simp
 refine CP.out.mono ?_
 rintro e w3 ⟨⟨v3, rfl, hb3, hn3⟩, hc3⟩
 dsimp only at hb3
 obtain ⟨a3, c3, rfl⟩ := hb3.slice
 have hz3 := hc3.keep HE.out.rp (by simp)
 rw [<- HB.out] at hz3
 have HZ3 := LH hz3
 have HN3 : Hid (∀ g, (Value.slice a3 b3.length c3).ownBlock = some g -> w.heap.size <= g) := LH (fun g hg => Nat.le_trans HE.out.chg.size (hn3 g hg))
 have HBX : Hid (∀ u, BytesAt (w3.setCells (B + 1) 0 u) (.slice a3 b3.length c3) b3) := LH (fun u => hb3.chg (S := [B + 1]) ((Chg.refl _ w3).setCells (.inl (by simp)) u) (fun g hg hm => by
  have h1 := hn3 g hg
  have h2 := (HE.out.new _ (List.mem_cons_self ..)).2
  rw [<- HB.out] at h2
  have := List.mem_singleton.1 hm
  omega))
 have CW3 := LH (CWH.out w3 hc3)
 have HC3 := LH hc3
 have HCE : Hid (∀ u, Chg [] w (w3.setCells (B + 1) 0 u)) := LH (fun u => ((HE.out.chg.trans hc3 (by simp)).setCells (.inr (by rw [HB.out]; omega)) u))
 have c3z := hc3.cell (show w2.drew.cell? ⟨z, 0, none⟩ = some (.pointer (some ⟨q, 0, none⟩)) from c0) (by simp)
 clear hz3 hb3 hn3 hc3 CP CWH c0 c00 q1 q2 q3 q4 q5
 clear hHeld
 refine hK.out _ _ ?_ (fun hHeld => ?_)
 ·exact (HoldC.past (by kernel_rfl) (HoldC.past (by kernel_rfl) HoldC.nil))
 clear hK K
 try simp only [gA,gB,gC,Act.put,gD,gE,gF]
 refine tk 7 ?_ rfl (by kernel_rfl) (fun _ _ _ h => h) (.inl ⟨by rfl, ?_⟩) hHeld ?_; rotate_left; · (intro w _; go_simp; try with_reducible rfl)
 clear hHeld; intro hHeld; try simp only [gA,gB,gC,Act.put,gD,gE,gF]
 refine tk 8 ?_ rfl (by kernel_rfl) (fun _ _ _ h => h) (.inl ⟨by rfl, ?_⟩) hHeld ?_; rotate_left; · (intro w _; go_simp; try with_reducible rfl)
 clear hHeld; intro hHeld; try simp only [gA,gB,gC,Act.put,gD,gE,gF]
 refine tk 9 ?_ rfl (by kernel_rfl) (fun _ _ _ h => h) (.inl ⟨by rfl, ?_⟩) hHeld ?_; rotate_left; · (intro w _; go_simp; try with_reducible rfl)
 clear hHeld; intro hHeld; try simp only [gA,gB,gC,Act.put,gD,gE,gF]
 refine tk 10 ?_ rfl (by kernel_rfl) (fun _ _ _ h => h) (.inl ⟨by rfl, ?_⟩) hHeld ?_; rotate_left; · (intro w _; go_simp; try with_reducible rfl)
 clear hHeld; intro hHeld; try simp only [gA,gB,gC,Act.put,gD,gE,gF]
 refine tk 11 ?_ rfl (by kernel_rfl) (fun _ _ _ h => h) (.inl ⟨by rfl, ?_⟩) hHeld ?_; rotate_left; · (intro w _; go_simp; try with_reducible rfl)
 clear hHeld; intro hHeld; try simp only [gA,gB,gC,Act.put,gD,gE,gF]
 refine wpAnyL_done (by kernel_rfl) ?_ _
 clear hHeld
 by_cases he : e3 = 6
 ·subst he
  cases wh
  ·go_wp2_with fail
   refine CW3.out.mono ?_
   rintro e w' ⟨rfl, hq⟩
   subst hq
   have HS := LH (HE.out.calm HH.out HC3.out (rpL 15 (.slice a3 b3.length c3) (.slice none 0 0) 0 false))
   rw [<- HB.out] at HS
   have HZ := LH (five_set HZ3.out (.int .i64 15) (.slice a3 b3.length c3) (.slice none 0 0) (.int .i64 0) (.bool false))
   obtain ⟨⟨m0, m1, m2, m3, m4⟩, f0, f1, f2, f3, f4⟩ := five_cells HZ3.out
   go_wp2_with fail
   exact bodyPost_ret (ret_rp rfl _ rfl HZ.out) rfl ⟨⟨_, rfl, ⟨.slice a3 b3.length c3, .slice none 0 0, by unfold lostOf; rw [if_pos ⟨rfl, rfl⟩], HBX.out (rpL 15 (.slice a3 b3.length c3) (.slice none 0 0) 0 false), HN3.out, World.ownsRow_nil _ _ _ _⟩, HS.out⟩, HCE.out (rpL 15 (.slice a3 b3.length c3) (.slice none 0 0) 0 false)⟩
  ·go_wp2_with fail
   refine CW3.out.mono ?_
   rintro e w' ⟨rfl, hq⟩
   subst hq
   have HS := LH (HE.out.calm HH.out HC3.out (rpL 6 (.slice a3 b3.length c3) (.slice none 0 0) 0 false))
   rw [<- HB.out] at HS
   have HZ := LH (five_set HZ3.out (.int .i64 6) (.slice a3 b3.length c3) (.slice none 0 0) (.int .i64 0) (.bool false))
   obtain ⟨⟨m0, m1, m2, m3, m4⟩, f0, f1, f2, f3, f4⟩ := five_cells HZ3.out
   go_wp2_with fail
   exact bodyPost_ret (ret_rp rfl _ rfl HZ.out) rfl ⟨⟨_, rfl, ⟨.slice a3 b3.length c3, .slice none 0 0, by unfold lostOf; rw [if_neg (by simp)], HBX.out (rpL 6 (.slice a3 b3.length c3) (.slice none 0 0) 0 false), HN3.out, World.ownsRow_nil _ _ _ _⟩, HS.out⟩, HCE.out (rpL 6 (.slice a3 b3.length c3) (.slice none 0 0) 0 false)⟩
 ·have qe : (e3 == 6) = false := by simp [he]
  have HEN := LH he
  clear he
  have HS := LH (HE.out.calm HH.out HC3.out (rpL e3 (.slice a3 b3.length c3) (.slice none 0 0) 0 false))
  rw [<- HB.out] at HS
  have HZ := LH (five_set HZ3.out (.int .i64 e3) (.slice a3 b3.length c3) (.slice none 0 0) (.int .i64 0) (.bool false))
  obtain ⟨⟨m0, m1, m2, m3, m4⟩, f0, f1, f2, f3, f4⟩ := five_cells HZ3.out
  go_wp2_with fail
  exact bodyPost_ret (ret_rp rfl _ rfl HZ.out) rfl ⟨⟨_, rfl, ⟨.slice a3 b3.length c3, .slice none 0 0, by unfold lostOf; rw [if_neg (fun hh => HEN.out hh.1)], HBX.out (rpL e3 (.slice a3 b3.length c3) (.slice none 0 0) 0 false), HN3.out, World.ownsRow_nil _ _ _ _⟩, HS.out⟩, HCE.out (rpL e3 (.slice a3 b3.length c3) (.slice none 0 0) 0 false)⟩
theorem sdeed2_any (r : Rq) (bv : Value) (w : World) (h : SvAt G w z q p U t) (h2 : r.k = 2) (hx : okD r.x) (hb : BytesAt w bv r.b) :
  Calls Tryz.prog (deedN r.k) #[.pointer (some ⟨z, 0, none⟩), rqV r bv] w (fun e w' => DeedPost G w q p U (t.step r).1 (t.step r).2 e w' /\ Chg [] w w') := by
 have hbs : ∃ a n c, bv = .slice a n c := by obtain ⟨a, c, e⟩ := hb.slice; exact ⟨a, _, c, e⟩
 obtain ⟨k, x, b⟩ := r
 dsimp only at h2
 subst h2
 exact svget2_any _ bv w h hbs hx
theorem doMid2_late {w w2 w3 : World} {r : Rq} {bv : Value} {o : Rp} {t' : Sto} {a a' : Option Addr} {n n' c c' : Nat} (hE : Begins G w w2 z q p U t r bv) (h : SvAt G w z q p U t) (hb : BytesAt w3 (.slice a n c) o.b)
  (hn : ∀ k, (Value.slice a n c).ownBlock = some k -> w2.drew.heap.size <= k) (ho : w3.ownsRow w2.drew.heap.size 45 4 (.slice a' n' c') o.ids.length (o.ids.flatMap idE)) (hs : Std ([w.heap.size + 1] ++ G) w2.drew w3 q p U t') (hc3 : Chg [] w2.drew w3) :
  DoMid G w w2 q p U o t' w3.heap.size ((w3.alloc (.cells #[.int .i64 0, .slice none 0 0, .slice none 0 0, .int .i64 0, .bool false] 52)).setCells w3.heap.size 0 (rpL o.e (.slice a n c) (.slice a' n' c') o.room o.whole)) /\ Chg [] w2 ((w3.alloc (.cells #[.int .i64 0, .slice none 0 0, .slice none 0 0, .int .i64 0, .bool false] 52)).setCells w3.heap.size 0 (rpL o.e (.slice a n c) (.slice a' n' c') o.room o.whole)) := by
 refine ⟨doMid_late hE h hb hn ho hs, (((Chg.refl [] w2).drew.trans hc3 (by simp)).alloc _).setCells (.inr ?_) _⟩
 exact hc3.size
theorem doMid2_early {w w2 w3 : World} {r : Rq} {bv : Value} {o : Rp} {t' : Sto} {a a' : Option Addr} {n n' c c' : Nat} (hE : Begins G w w2 z q p U t r bv) (h : SvAt G w z q p U t) (hb : BytesAt w3 (.slice a n c) o.b)
  (hn : ∀ k, (Value.slice a n c).ownBlock = some k -> (w2.alloc (.cells #[.int .i64 0, .slice none 0 0, .slice none 0 0, .int .i64 0, .bool false] 52)).drew.heap.size <= k) (ho : w3.ownsRow (w2.alloc (.cells #[.int .i64 0, .slice none 0 0, .slice none 0 0, .int .i64 0, .bool false] 52)).drew.heap.size 45 4 (.slice a' n' c') o.ids.length (o.ids.flatMap idE))
  (hs : Std ([w2.heap.size] ++ ([w.heap.size + 1] ++ G)) (w2.alloc (.cells #[.int .i64 0, .slice none 0 0, .slice none 0 0, .int .i64 0, .bool false] 52)).drew w3 q p U t') (hc3 : Chg [] (w2.alloc (.cells #[.int .i64 0, .slice none 0 0, .slice none 0 0, .int .i64 0, .bool false] 52)).drew w3) :
  DoMid G w w2 q p U o t' w2.heap.size (w3.setCells w2.heap.size 0 (rpL o.e (.slice a n c) (.slice a' n' c') o.room o.whole)) /\ Chg [] w2 (w3.setCells w2.heap.size 0 (rpL o.e (.slice a n c) (.slice a' n' c') o.room o.whole)) := by
 exact ⟨doMid_early hE h hb hn ho hs, ((((Chg.refl [] w2).alloc _).drew).trans hc3 (by simp)).setCells (.inr (Nat.le_refl _)) _⟩
theorem svdo2_any (r : Rq) (bv : Value) (w : World) (h : SvAt G w z q p U t) (h2 : r.k = 2) (hx : okD r.x) (hb : BytesAt w bv r.b) (hbU : r.b ≠ [] -> ∀ k, bv.ownBlock = some k -> k ∉ U) (hbl : r.b.length <= 1000000) (hn : 1 <= t.s.d.n) (ho : t.s.d.ops <= 800000000) (hw : t.s.d.since.length <= 800000) :
  Calls Tryz.prog 17 #[.pointer (some ⟨z, 0, none⟩), rqV r bv] w (fun e w' => DoPost G w q p U (t.run r) e w' /\ Chg [] w w') := by
 have HE0 := LH (h.begins r bv)
 obtain ⟨w2, hw2⟩ : ∃ w2, w2 = (w.alloc (.cells (rqL r bv).toArray 47)).alloc (.cells zeroRp 52) := ⟨_, rfl⟩
 rw [<- hw2] at HE0
 have hst2 := h.st.keep0 HE0.out.chg
 have CDK := LH (stdisk_any w2 hst2)
 have CDD := LH hst2.dead
 have c0 := blk_cell HE0.out.head 0 _ rfl
 obtain ⟨B, hB⟩ : ∃ B, B = w.heap.size := ⟨_, rfl⟩
 have hrq := HE0.out.rq
 rw [<- hB] at hrq
 have HRP := LH HE0.out.rp
 rw [<- hB] at HRP
 have HH := LH h
 have HBY := LH (hb.chg HE0.out.chg (by simp))
 have HBU := LH hbU
 have HXO := LH hx
 have HW2 := LH hw2
 have HB := LH hB
 have HLIM := LH (And.intro hbl (And.intro hn (And.intro ho hw)))
 have HRUN : Hid (t.run r = if t.s.d.dead then ((noRp, 14), t) else if (t.step r).2.s.d.dead then ((noRp, 14), (t.step r).2) else (((t.step r).1, 0), (t.step r).2)) := LH rfl
 obtain ⟨R, hR⟩ : ∃ R, R = t.run r := ⟨_, rfl⟩
 rw [<- hR] at HRUN
 rw [<- hR]
 obtain ⟨k, ⟨xc, xl, xn, xi⟩, b⟩ := r
 have HK2 := LH (show k = 2 from h2)
 clear h2
 obtain ⟨ba, bc, hbv⟩ := hb.slice
 subst hbv
 obtain ⟨q0, ⟨q1, q2, q3, q4⟩, q5⟩ := rq_cells hrq
 have HRQ := LH hrq
 unfold rqV rqL
 unfold rqL at HW2
 rw [show zeroRp = #[.int .i64 0, .slice none 0 0, .slice none 0 0, .int .i64 0, .bool false] from rfl] at HW2
 have c0L := c0
 rw [HW2.out] at c0L
 clear hw2 hB hrq h hx hb hbU hst2 hR hn ho hw hbl
 go_enter Tryz.func17, Tryz.ntmps17
 go_wp2_with fail
 clear c0L
 rw [<- HB.out, <- HW2.out]
 refine CDK.out.mono ?_
 rintro e w' ⟨rfl, hq⟩
 subst hq
 go_wp2_with fail
 refine CDD.out.mono ?_
 rintro e w' ⟨rfl, hq⟩
 subst hq
 cases hdd : t.s.d.dead
 ·rw [hdd] at HRUN
  rw [if_neg (by simp)] at HRUN
  go_upto_region 3 with (fail)
  go_cut [6] (fun s6 wx => ∃ C, s6 = .pointer (some ⟨C, 0, none⟩) /\ Hid (DoMid G w w2 q p U (t.step ⟨k, ⟨xc, xl, xn, xi⟩, b⟩).1 (t.step ⟨k, ⟨xc, xl, xn, xi⟩, b⟩).2 C wx /\ Chg [] w2 wx))
  case first =>
   have hent := deed_enters k
   have hG1 : SvAt ([w.heap.size + 1] ++ G) w2.drew z q p U t := HH.out.mid HE0.out
   have CPY := LH (sdeed2_any ⟨k, ⟨xc, xl, xn, xi⟩, b⟩ (.slice ba b.length bc) w2.drew hG1 HK2.out HXO.out (HBY.out.keep (fun _ _ => rfl)))
   have hcX : Chg [] w2 (w2.alloc (.cells #[.int .i64 0, .slice none 0 0, .slice none 0 0, .int .i64 0, .bool false] 52)).drew := ((Chg.refl [] w2).alloc _).drew
   have hG2 : SvAt ([w2.heap.size] ++ ([w.heap.size + 1] ++ G)) (w2.alloc (.cells #[.int .i64 0, .slice none 0 0, .slice none 0 0, .int .i64 0, .bool false] 52)).drew z q p U t := (hG1.add (w2 := (w2.alloc (.cells #[.int .i64 0, .slice none 0 0, .slice none 0 0, .int .i64 0, .bool false] 52)).drew) ⟨hcX.os, hcX.tape, hcX.output, hcX.size, hcX.block⟩ (by
    rw [show w2.drew.heap.size = w2.heap.size from rfl]
    show w2.heap.size < (w2.alloc _).heap.size
    simp))
   have CPX := LH (sdeed2_any ⟨k, ⟨xc, xl, xn, xi⟩, b⟩ (.slice ba b.length bc) _ hG2 HK2.out HXO.out (HBY.out.chg hcX (by simp)))
   obtain ⟨r0, ⟨r1, r2, r3, r4⟩, r5⟩ := rq_cells (hcX.keep HRQ.out (by simp))
   unfold rqV rqL at CPX CPY
   clear hG1 hG2
   have HCX := LH hcX
   clear hcX
   go_wp2_with fail
   refine wp_region_L [(2, fun w' => w'.cell? ⟨B, 0, none⟩ = some (.int .i64 k)), (5, fun w' => (w'.cell? ⟨B, 0, none⟩ = some (.int .i64 k) /\ w'.cell? ⟨B, 1, none⟩ = some (.int .i64 xc) /\ w'.cell? ⟨B, 2, none⟩ = some (.int .i64 xl) /\ w'.cell? ⟨B, 3, none⟩ = some (.int .i64 xn) /\ w'.cell? ⟨B, 4, none⟩ = some (.int .i64 xi) /\ w'.cell? ⟨B, 5, none⟩ = some (.slice ba b.length bc)))] (by kernel_rfl) ?_ (fun hHeld => ?_)
   ·exact (HoldC.cons (q0) (HoldC.cons (⟨q0, q1, q2, q3, q4, q5⟩) HoldC.nil))
   refine tk 0 ?_ rfl (by kernel_rfl) (fun _ _ _ h => h) (.inl ⟨by rfl, ?_⟩) hHeld ?_; rotate_left; · (intro w _; go_simp; try with_reducible rfl)
   clear hHeld; intro hHeld; try simp only [gA,gB,gC,Act.put,gD,gE,gF]
   refine tk 3 ?_ rfl (by kernel_rfl) (fun _ _ _ h => h) (.inl ⟨by rfl, ?_⟩) hHeld ?_; rotate_left; · (intro w _; go_simp; try with_reducible rfl)
   clear hHeld; intro hHeld; try simp only [gA,gB,gC,Act.put,gD,gE,gF]
   refine ld 0 1 ?_ rfl rfl (by kernel_rfl) (fun _ _ _ h => h) (.inl ⟨by rfl, ?_⟩) hHeld ?_; rotate_left; · (intro w hSw; (try dsimp only at hSw); go_simp; try with_reducible rfl)
   clear hHeld; intro hHeld; try simp only [gA,gB,gC,Act.put,gD,gE,gF]
   refine ld 1 4 ?_ rfl rfl (by kernel_rfl) (fun _ _ _ h => h) (.inl ⟨by rfl, ?_⟩) hHeld ?_; rotate_left; · (intro w hSw; (try dsimp only at hSw); go_simp; try with_reducible rfl)
   clear hHeld; intro hHeld; try simp only [gA,gB,gC,Act.put,gD,gE,gF]
   refine wpAnyL_ready (rs := [2, 6]) (by kernel_rfl) (by simp) ?_
   refine AllReadyL.cons (o := _) rfl (fun K hK => ?_) (AllReadyL.cons (o := _) rfl (fun K hK => ?_) AllReadyL.nil)
   ·try simp only [gA,gB,gC]
    go_simp
    refine (deedof_any k w2.drew).mono ?_
    rintro e w' ⟨rfl, hq⟩
    subst hq
    clear hHeld
    refine hK.out _ _ ?_ (fun hHeld => ?_)
    ·exact (HoldC.past (by kernel_rfl) (HoldC.cons (⟨q0, q1, q2, q3, q4, q5⟩) HoldC.nil))
    clear hK K
    try simp only [gA,gB,gC,Act.put,gD,gE,gF]
    refine wpAnyL_ready (rs := [5, 6]) (by kernel_rfl) (by simp) ?_
    refine AllReadyL.cons (o := _) rfl (fun K hK => ?_) (AllReadyL.cons (o := _) rfl (fun K hK => ?_) AllReadyL.nil)
    ·try simp only [gA,gB,gC]
     go_simp
     refine CPY.out.mono ?_
     rintro e w3 ⟨⟨v3, rfl, hr3, hs3⟩, hc3⟩
     obtain ⟨bv3, iv3, rfl, hb3, hn3, ho3⟩ := hr3
     obtain ⟨a3, c3, rfl⟩ := hb3.slice
     obtain ⟨a4, n4, c4, rfl⟩ : ∃ a n c, iv3 = .slice a n c := by
      rcases ho3.2 with ⟨h1, h2⟩ | ⟨g, cap, cur, h1, _⟩
      ·exact ⟨none, 0, 0, h1⟩
      ·exact ⟨_, _, cap, h1⟩
     have HM := LH (doMid2_late HE0.out HH.out hb3 hn3 ho3 hs3 hc3)
     clear hb3 hn3 ho3 hs3 hc3
     clear hHeld
     refine hK.out _ _ ?_ (fun hHeld => ?_)
     ·exact (HoldC.past (by kernel_rfl) (HoldC.past (by kernel_rfl) HoldC.nil))
     clear hK K
     try simp only [gA,gB,gC,Act.put,gD,gE,gF]
     refine wpAnyL_ready (rs := [6]) (by kernel_rfl) (by simp) (AllReadyL.cons (o := _) rfl (fun K hK => ?_) AllReadyL.nil)
     try simp only [gA,gB,gC]
     go_simp
     obtain ⟨w4, hw4⟩ : ∃ w4, w4 = w3.alloc (.cells #[.int .i64 0, .slice none 0 0, .slice none 0 0, .int .i64 0, .bool false] 52) := ⟨_, rfl⟩
     rw [<- hw4]
     have HW4 := LH hw4
     have hz4 : w4.heap[w3.heap.size]? = some (.cells #[.int .i64 0, .slice none 0 0, .slice none 0 0, .int .i64 0, .bool false] 52 (0, 0)) := by rw [hw4]; exact heap_alloc_new w3 _
     have HTH := LH (five_there hz4 _ rfl)
     clear hw4 hz4
     clear hHeld
     refine hK.out _ _ ?_ (fun hHeld => ?_)
     ·exact (HoldC.past (by kernel_rfl) (HoldC.past (by kernel_rfl) HoldC.nil))
     clear hK K
     try simp only [gA,gB,gC,Act.put,gD,gE,gF]
     refine wpAnyL_ready (rs := [7]) (by kernel_rfl) (by simp) (AllReadyL.cons (o := _) rfl (fun K hK => ?_) AllReadyL.nil)
     try simp only [gA,gB,gC]
     rw [if_pos (by rfl)]
     refine wp_store_mid 52 (.tmp 6) (.tmp 30) (by rfl) w3.heap.size 0 (rpL (t.step ⟨k, ⟨xc, xl, xn, xi⟩, b⟩).1.e (.slice a3 (t.step ⟨k, ⟨xc, xl, xn, xi⟩, b⟩).1.b.length c3) (.slice a4 n4 c4) (t.step ⟨k, ⟨xc, xl, xn, xi⟩, b⟩).1.room (t.step ⟨k, ⟨xc, xl, xn, xi⟩, b⟩).1.whole).toArray (by rfl) (by rfl) HTH.out (rp_size _ _ _ _ _) (rp_all _ _ _ _ _ _ _ _ _) ?_
     clear hHeld
     refine hK.out _ _ ?_ (fun hHeld => ?_)
     ·exact (HoldC.past (by kernel_rfl) (HoldC.past (by kernel_rfl) HoldC.nil))
     clear hK K
     try simp only [gA,gB,gC,Act.put,gD,gE,gF]
     refine wpAnyL_done (by kernel_rfl) ?_ _
     clear hHeld
     go_wp2_with fail
     go_meet
     exact ⟨_, rfl, by rw [HW4.out]; exact HM⟩
    ·try simp only [gA,gB,gC]
     go_simp
     clear hHeld
     refine hK.out _ _ ?_ (fun hHeld => ?_)
     ·exact (HoldC.past (by kernel_rfl) (HoldC.cons (⟨r0, r1, r2, r3, r4, r5⟩) HoldC.nil))
     clear hK K
     try simp only [gA,gB,gC,Act.put,gD,gE,gF]
     refine wpAnyL_ready (rs := [5]) (by kernel_rfl) (by simp) (AllReadyL.cons (o := _) rfl (fun K hK => ?_) AllReadyL.nil)
     try simp only [gA,gB,gC]
     go_simp
     refine CPX.out.mono ?_
     rintro e w3 ⟨⟨v3, rfl, hr3, hs3⟩, hc3⟩
     obtain ⟨bv3, iv3, rfl, hb3, hn3, ho3⟩ := hr3
     obtain ⟨a3, c3, rfl⟩ := hb3.slice
     obtain ⟨a4, n4, c4, rfl⟩ : ∃ a n c, iv3 = .slice a n c := by
      rcases ho3.2 with ⟨h1, h2⟩ | ⟨g, cap, cur, h1, _⟩
      ·exact ⟨none, 0, 0, h1⟩
      ·exact ⟨_, _, cap, h1⟩
     have HM := LH (doMid2_early HE0.out HH.out hb3 hn3 ho3 hs3 hc3)
     have hz4 := hs3.blk (show (w2.alloc (.cells #[.int .i64 0, .slice none 0 0, .slice none 0 0, .int .i64 0, .bool false] 52)).drew.heap[w2.heap.size]? = some (.cells #[.int .i64 0, .slice none 0 0, .slice none 0 0, .int .i64 0, .bool false] 52 (0, 0)) from heap_alloc_new w2 _) (fun hm => by have := HH.out.st.lim _ hm; have := HE0.out.chg.size; omega)
     have HTH := LH (five_there hz4 _ rfl)
     clear hb3 hn3 ho3 hs3 hc3 hz4
     clear hHeld
     refine hK.out _ _ ?_ (fun hHeld => ?_)
     ·exact (HoldC.past (by kernel_rfl) (HoldC.past (by kernel_rfl) HoldC.nil))
     clear hK K
     try simp only [gA,gB,gC,Act.put,gD,gE,gF]
     refine wpAnyL_ready (rs := [7]) (by kernel_rfl) (by simp) (AllReadyL.cons (o := _) rfl (fun K hK => ?_) AllReadyL.nil)
     try simp only [gA,gB,gC]
     rw [if_pos (by rfl)]
     refine wp_store_mid 52 (.tmp 6) (.tmp 30) (by rfl) w2.heap.size 0 (rpL (t.step ⟨k, ⟨xc, xl, xn, xi⟩, b⟩).1.e (.slice a3 (t.step ⟨k, ⟨xc, xl, xn, xi⟩, b⟩).1.b.length c3) (.slice a4 n4 c4) (t.step ⟨k, ⟨xc, xl, xn, xi⟩, b⟩).1.room (t.step ⟨k, ⟨xc, xl, xn, xi⟩, b⟩).1.whole).toArray (by rfl) (by rfl) HTH.out (rp_size _ _ _ _ _) (rp_all _ _ _ _ _ _ _ _ _) ?_
     clear hHeld
     refine hK.out _ _ ?_ (fun hHeld => ?_)
     ·exact (HoldC.past (by kernel_rfl) (HoldC.past (by kernel_rfl) HoldC.nil))
     clear hK K
     try simp only [gA,gB,gC,Act.put,gD,gE,gF]
     refine wpAnyL_done (by kernel_rfl) ?_ _
     clear hHeld
     go_wp2_with fail
     go_meet
     exact ⟨_, rfl, HM⟩
   ·try simp only [gA,gB,gC]
    go_simp
    clear hHeld
    refine hK.out _ _ ?_ (fun hHeld => ?_)
    ·exact (HoldC.cons (r0) (HoldC.cons (⟨r0, r1, r2, r3, r4, r5⟩) HoldC.nil))
    clear hK K
    try simp only [gA,gB,gC,Act.put,gD,gE,gF]
    refine wpAnyL_ready (rs := [2]) (by kernel_rfl) (by simp) (AllReadyL.cons (o := _) rfl (fun K hK => ?_) AllReadyL.nil)
    try simp only [gA,gB,gC]
    go_simp
    refine (deedof_any k _).mono ?_
    rintro e w' ⟨rfl, hq⟩
    subst hq
    clear hHeld
    refine hK.out _ _ ?_ (fun hHeld => ?_)
    ·exact (HoldC.past (by kernel_rfl) (HoldC.cons (⟨r0, r1, r2, r3, r4, r5⟩) HoldC.nil))
    clear hK K
    try simp only [gA,gB,gC,Act.put,gD,gE,gF]
    refine wpAnyL_ready (rs := [5]) (by kernel_rfl) (by simp) (AllReadyL.cons (o := _) rfl (fun K hK => ?_) AllReadyL.nil)
    try simp only [gA,gB,gC]
    go_simp
    refine CPX.out.mono ?_
    rintro e w3 ⟨⟨v3, rfl, hr3, hs3⟩, hc3⟩
    obtain ⟨bv3, iv3, rfl, hb3, hn3, ho3⟩ := hr3
    obtain ⟨a3, c3, rfl⟩ := hb3.slice
    obtain ⟨a4, n4, c4, rfl⟩ : ∃ a n c, iv3 = .slice a n c := by
     rcases ho3.2 with ⟨h1, h2⟩ | ⟨g, cap, cur, h1, _⟩
     ·exact ⟨none, 0, 0, h1⟩
     ·exact ⟨_, _, cap, h1⟩
    have HM := LH (doMid2_early HE0.out HH.out hb3 hn3 ho3 hs3 hc3)
    have hz4 := hs3.blk (show (w2.alloc (.cells #[.int .i64 0, .slice none 0 0, .slice none 0 0, .int .i64 0, .bool false] 52)).drew.heap[w2.heap.size]? = some (.cells #[.int .i64 0, .slice none 0 0, .slice none 0 0, .int .i64 0, .bool false] 52 (0, 0)) from heap_alloc_new w2 _) (fun hm => by have := HH.out.st.lim _ hm; have := HE0.out.chg.size; omega)
    have HTH := LH (five_there hz4 _ rfl)
    clear hb3 hn3 ho3 hs3 hc3 hz4
    clear hHeld
    refine hK.out _ _ ?_ (fun hHeld => ?_)
    ·exact (HoldC.past (by kernel_rfl) (HoldC.past (by kernel_rfl) HoldC.nil))
    clear hK K
    try simp only [gA,gB,gC,Act.put,gD,gE,gF]
    refine wpAnyL_ready (rs := [7]) (by kernel_rfl) (by simp) (AllReadyL.cons (o := _) rfl (fun K hK => ?_) AllReadyL.nil)
    try simp only [gA,gB,gC]
    rw [if_pos (by rfl)]
    refine wp_store_mid 52 (.tmp 6) (.tmp 30) (by rfl) w2.heap.size 0 (rpL (t.step ⟨k, ⟨xc, xl, xn, xi⟩, b⟩).1.e (.slice a3 (t.step ⟨k, ⟨xc, xl, xn, xi⟩, b⟩).1.b.length c3) (.slice a4 n4 c4) (t.step ⟨k, ⟨xc, xl, xn, xi⟩, b⟩).1.room (t.step ⟨k, ⟨xc, xl, xn, xi⟩, b⟩).1.whole).toArray (by rfl) (by rfl) HTH.out (rp_size _ _ _ _ _) (rp_all _ _ _ _ _ _ _ _ _) ?_
    clear hHeld
    refine hK.out _ _ ?_ (fun hHeld => ?_)
    ·exact (HoldC.past (by kernel_rfl) (HoldC.past (by kernel_rfl) HoldC.nil))
    clear hK K
    try simp only [gA,gB,gC,Act.put,gD,gE,gF]
    refine wpAnyL_done (by kernel_rfl) ?_ _
    clear hHeld
    go_wp2_with fail
    go_meet
    exact ⟨_, rfl, HM⟩
  case rest =>
  obtain ⟨C, rfl, HM⟩ := hcut
  obtain ⟨⟨a3, n3, c3, a4, n4, c4, hC, hbC, hoC, hown, hs, hCA, hCw⟩, hcM⟩ := HM.out
  have HCE : Hid (∀ u, Chg [] w (wc.setCells (B + 1) 0 u)) := LH (fun u => ((HE0.out.chg.trans hcM (by simp)).setCells (.inr (by rw [HB.out]; omega)) u))
  clear hcM
  have HZA := LH (hs.blk HE0.out.rp HE0.out.out)
  rw [<- HB.out] at HZA
  have HZC := LH hC
  have HBC := LH hbC
  have HOC := LH hoC
  have HOW := LH hown
  have HSS := LH hs
  have hzz := blk_cell (hs.blk HE0.out.head HH.out.out) 0 _ rfl
  obtain ⟨U', a1, a2, a3'⟩ := hs
  have CDK2 := LH (stdisk_any wc a1)
  have CDD2 := LH a1.dead
  have HE1 := HE0
  clear hC hbC hoC hown a1 a2 a3' CDK CDD c0 q0 q1 q2 q3 q4 q5 HM hCA hCw
  obtain ⟨o, ho⟩ : ∃ o, o = t.step ⟨k, ⟨xc, xl, xn, xi⟩, b⟩ := ⟨_, rfl⟩
  rw [<- ho] at HRUN HZC HBC HOC HSS CDD2
  clear ho
  obtain ⟨⟨oe, ob, oi, orm, ow⟩, t'⟩ := o
  dsimp only at HZC HBC HOC HSS CDD2
  go_wp2_with fail
  refine CDK2.out.mono ?_
  rintro e w' ⟨rfl, hq⟩
  subst hq
  go_wp2_with fail
  refine CDD2.out.mono ?_
  rintro e w' ⟨rfl, hq⟩
  subst hq
  clear hzz CDK2 CDD2
  cases hd2 : t'.s.d.dead
  ·rw [if_neg (by rw [hd2]; simp)] at HRUN
   obtain ⟨⟨p0, p1, p2, p3, p4⟩, g0, g1, g2, g3, g4⟩ := five_cells HZC.out
   obtain ⟨⟨m0, m1, m2, m3, m4⟩, f0, f1, f2, f3, f4⟩ := five_cells HZA.out
   have HZ := LH (five_set HZA.out (.int .i64 oe) (.slice a3 n3 c3) (.slice a4 n4 c4) (.int .i64 orm) (.bool ow))
   have HS := LH (HE0.out.ends HH.out HSS.out (rpL oe (.slice a3 n3 c3) (.slice a4 n4 c4) orm ow))
   rw [<- HB.out] at HS
   have HBX : Hid (BytesAt (wc.setCells (B + 1) 0 (rpL oe (.slice a3 n3 c3) (.slice a4 n4 c4) orm ow)) (.slice a3 n3 c3) ob /\ (wc.setCells (B + 1) 0 (rpL oe (.slice a3 n3 c3) (.slice a4 n4 c4) orm ow)).ownsRow w.heap.size 45 4 (.slice a4 n4 c4) oi.length (oi.flatMap idE)) := LH (by
    have hc : Chg [B + 1] wc (wc.setCells (B + 1) 0 (rpL oe (.slice a3 n3 c3) (.slice a4 n4 c4) orm ow)) := (Chg.refl _ wc).setCells (.inl (by simp)) _
    have hB := HB.out
    refine ⟨HBC.out.chg hc (fun k hk hm => ?_), row_keep HOC.out (fun g hg => hc.block g (World.ownsRow.lt HOC.out g hg).2 (fun hm => ?_))⟩
    ·exact (HOW.out k (.inl hk)).2 (by rw [List.mem_singleton.1 hm, hB])
    ·exact (HOW.out g (.inr hg)).2 (by rw [List.mem_singleton.1 hm, hB]))
   go_wp2_with fail
   refine bodyPost_ret (ret_rp2 rfl _ rfl rfl HZ.out) rfl ?_
   rw [HRUN.out]
   exact ⟨⟨_, rfl, ⟨.slice a3 n3 c3, .slice a4 n4 c4, rfl, HBX.out.1, fun k hk => (HOW.out k (.inl hk)).1, HBX.out.2⟩, HS.out⟩, HCE.out (rpL oe (.slice a3 n3 c3) (.slice a4 n4 c4) orm ow)⟩
  ·rw [if_pos (by rw [hd2])] at HRUN
   obtain ⟨⟨m0, m1, m2, m3, m4⟩, f0, f1, f2, f3, f4⟩ := five_cells HZA.out
   have HZ := LH (five_set HZA.out (.int .i64 0) (.slice none 0 0) (.slice none 0 0) (.int .i64 0) (.bool false))
   have HS := LH (HE0.out.ends HH.out HSS.out (rpL 0 (.slice none 0 0) (.slice none 0 0) 0 false))
   rw [<- HB.out] at HS
   go_wp2_with fail
   refine bodyPost_ret (ret_rp2 rfl _ rfl rfl HZ.out) rfl ?_
   rw [HRUN.out]
   exact ⟨⟨_, rfl, RpAt.err 0, HS.out⟩, HCE.out (rpL 0 (.slice none 0 0) (.slice none 0 0) 0 false)⟩
 ·rw [hdd] at HRUN
  rw [if_pos rfl] at HRUN
  have hz := HRP.out
  obtain ⟨⟨m0, m1, m2, m3, m4⟩, f0, f1, f2, f3, f4⟩ := five_cells hz
  have HZ := LH (five_set hz (.int .i64 0) (.slice none 0 0) (.slice none 0 0) (.int .i64 0) (.bool false))
  have HS := LH (HE0.out.calm HH.out (Chg.refl [] w2) (rpL 0 (.slice none 0 0) (.slice none 0 0) 0 false))
  rw [<- HB.out] at HS
  clear hz
  go_wp2_with fail
  refine bodyPost_ret (ret_rp2 rfl _ rfl rfl HZ.out) rfl ?_
  rw [HRUN.out]
  exact ⟨⟨_, rfl, RpAt.err 0, HS.out⟩, HE0.out.chg.setCells (.inr (by rw [HB.out]; omega)) (rpL 0 (.slice none 0 0) (.slice none 0 0) 0 false)⟩
end
section
variable {X Y : List Nat} {w0 w w' : World} {z q p : Nat} {t t' : Sto}
end
def NotB (w : World) (x : Nat) : Prop := ∀ cs fr, w.heap[x]? ≠ some (.cells cs 5 fr)
theorem NotB.of {w : World} {x t : Nat} {cs : Array Value} {fr : Nat × Nat} (h : w.heap[x]? = some (.cells cs t fr)) (ht : t ≠ 5) : NotB w x := fun cs' fr' h' => by
 rw [h] at h'
 injection h' with h'
 injection h' with h1 h2
 exact ht h2
theorem NotB.row {w : World} {base e size n x : Nat} {v : Value} {xs : List Value} (h : w.ownsRow base e size v n xs) (he : e ≠ 5) (hx : v.ownBlock = some x) : NotB w x := by
 rcases h.2 with ⟨rfl, _⟩ | ⟨g, cap, cur, rfl, hbg, hg, _⟩
 ·simp [Value.ownBlock] at hx
 ·obtain rfl : g = x := by simpa [Value.ownBlock] using hx
  exact NotB.of hg he
theorem DiskAt.least {w : World} {p : Nat} {S : List Nat} {d : DS} (h : DiskAt w p S d) : ∃ S', DiskAt w p S' d /\ (∀ x ∈ S', x ∈ S) /\ ∀ x ∈ S', NotB w x := by
 obtain ⟨gn, gl, cn, cl, v, h⟩ := h
 obtain ⟨m1, m2, m3, m4⟩ := h.mem
 have hsub : ∀ x ∈ p :: gn :: gl :: v.ownBlock.toList, x ∈ S := fun x hx => by
  simp at hx
  rcases hx with rfl | rfl | rfl | hx
  ·exact m1
  ·exact m2
  ·exact m3
  ·exact m4 x hx
 refine ⟨p :: gn :: gl :: v.ownBlock.toList, ⟨gn, gl, cn, cl, v, h.head, h.now, h.lasts, h.since, h.waits, h.few, h.capn, h.capl, h.fuse, h.ap, h.av, ⟨by simp, by simp, by simp, fun k hk => by simp [hk]⟩, fun x hx => h.lim x (hsub x hx)⟩, hsub, fun x hx => ?_⟩
 obtain ⟨c1, k1, _⟩ := h.now
 obtain ⟨c2, k2, _⟩ := h.lasts
 simp at hx
 rcases hx with rfl | rfl | rfl | hx
 ·exact NotB.of h.head (by decide)
 ·exact NotB.of k1 (by decide)
 ·exact NotB.of k2 (by decide)
 ·exact NotB.row h.since (by decide) hx
theorem SlotsAt.least {w : World} {q p : Nat} {U : List Nat} {s : SS} (h : SlotsAt w q p U s) : ∃ U', SlotsAt w q p U' s /\ (∀ x ∈ U', x ∈ U) /\ ∀ x ∈ U', NotB w x := by
 obtain ⟨S, rv, R, h⟩ := h
 obtain ⟨S', h1, h2, h3⟩ := h.disk.least
 have hsub : ∀ x ∈ S' ++ blks q [rowD rv R], x ∈ U := fun x hx => by
  rcases List.mem_append.1 hx with hx | hx
  ·exact h.uS x (h2 x hx)
  ·exact h.uB x hx
 refine ⟨S' ++ blks q [rowD rv R], ⟨S', rv, R, h.obj, h1, h.rows, fun x hx hm => h.sep x hx (h2 x hm), fun x hx => ⟨(h.keys x hx).1, fun g hg => ⟨((h.keys x hx).2 g hg).1, fun hm => ((h.keys x hx).2 g hg).2 (hsub g hm)⟩⟩, fun x hx => List.mem_append_left _ hx, fun x hx => List.mem_append_right _ hx, fun x hx => h.uL x (hsub x hx), h.ok⟩, hsub, fun x hx => ?_⟩
 rcases List.mem_append.1 hx with hx | hx
 ·exact h3 x hx
 ·rcases List.mem_cons.1 hx with rfl | hx
  ·exact NotB.of h.obj.head (by decide)
  ·obtain ⟨r, hr, hrx⟩ := List.mem_filterMap.1 hx
   obtain rfl := List.mem_singleton.1 hr
   exact NotB.row h.row (by decide) hrx
theorem StAt.least {G : List Nat} {w : World} {q p : Nat} {U : List Nat} {t : Sto} (h : StAt G w q p U t) : ∃ U', StAt G w q p U' t /\ (∀ x ∈ U', x ∈ U) /\ ∀ x ∈ U', NotB w x := by
 obtain ⟨sp, mb, Us, φ, N, h, rfl⟩ := h
 obtain ⟨Us', h1, h2, h3⟩ := h.slots.least
 have hsub : ∀ x ∈ q :: mb :: Us', x ∈ q :: mb :: Us := fun x hx => by
  rcases List.mem_cons.1 hx with rfl | hx
  ·simp
  ·rcases List.mem_cons.1 hx with rfl | hx
   ·simp
   ·exact List.mem_cons_of_mem _ (List.mem_cons_of_mem _ (h2 x hx))
 refine ⟨q :: mb :: Us', ⟨sp, mb, Us', φ, N, ⟨h.head, h1, h.map, ⟨fun hm => h.apart.1 (h2 _ hm), fun hm => h.apart.2 (h2 _ hm)⟩, fun x hx => ?_, h.ok, h.far⟩, rfl⟩, hsub, fun x hx => ?_⟩
 ·rcases h.vals x hx with h4 | ⟨h4, v, h5, h6, h7⟩
  ·exact .inl h4
  ·exact .inr ⟨h4, v, h5, h6, fun g hg => ⟨(h7 g hg).1, fun hm => (h7 g hg).2 (hsub g hm)⟩⟩
 ·rcases List.mem_cons.1 hx with rfl | hx
  ·exact NotB.of h.head (by decide)
  ·rcases List.mem_cons.1 hx with rfl | hx
   ·obtain ⟨es, clock, hmo⟩ := h.map.obj
    intro cs fr hc
    rw [hmo] at hc
    cases hc
   ·exact h3 x hx
theorem SlotsAt.keepN {w w' : World} {q p : Nat} {U T : List Nat} {s : SS} (h : SlotsAt w q p U s) (hc : Chg T w w') (ha : ∀ x ∈ U, x ∉ T) (hT : ∀ x ∈ T, NotB w x) : SlotsAt w' q p U s := by
 obtain ⟨S, rv, R, h⟩ := h
 refine ⟨S, rv, R, h.obj.keep hc (fun x hx => ha x (h.uB x hx)), h.disk.keep hc (fun x hx => ha x (h.uS x hx)), h.rows, h.sep, fun x hx => ?_, h.uS, h.uB, fun x hx => Nat.lt_of_lt_of_le (h.uL x hx) hc.size, h.ok⟩
 obtain ⟨h1, h2⟩ := h.keys x hx
 refine ⟨h1.chgW hc (fun hl k hk hm => ?_), fun g hg => ⟨Nat.lt_of_lt_of_le (h2 g hg).1 hc.size, (h2 g hg).2⟩⟩
 obtain ⟨cs, fr, hb⟩ := h1.2 hl k hk
 exact hT k hm cs fr hb
theorem StAt.regroupN {G G' : List Nat} {w w' : World} {q p : Nat} {U T : List Nat} {t : Sto} (h : StAt G w q p U t) (hc : Chg T w w') (hT : ∀ x ∈ T, x ∈ G) (hn : ∀ x ∈ T, NotB w x) (hU : ∀ x ∈ U, x ∉ G) (hG : ∀ x ∈ G', (x ∈ G ∨ w.heap.size <= x) /\ x < w'.heap.size) : StAt G' w' q p U t := by
 obtain ⟨sp, mb, Us, φ, N, h, rfl⟩ := h
 have hne : ∀ x ∈ q :: mb :: Us, x ∉ T := fun x hx hm => hU x hx (hT x hm)
 refine ⟨sp, mb, Us, φ, N, ⟨hc.keep h.head (hne q (by simp)), h.slots.keepN hc (fun x hx => hne x (by simp [hx])) hn, h.map.chg hc (hne mb (by simp)), h.apart, fun x hx => ?_, h.ok, fun k hk => ⟨(hG k hk).2, fun y v hy hv e => ?_⟩⟩, rfl⟩
 ·rcases h.vals x hx with h1 | ⟨h1, v, h2, h3, h4⟩
  ·exact .inl h1
  ·refine .inr ⟨h1, v, h2, h3.keep (fun g hg => hc.block g (h4 g hg).1 (fun hm => (h.far g (hT g hm)).2 x v hx h2 hg)), fun g hg => ⟨Nat.lt_of_lt_of_le (h4 g hg).1 hc.size, (h4 g hg).2⟩⟩
 ·rcases (hG k hk).1 with h1 | h1
  ·exact (h.far k h1).2 y v hy hv e
  ·rcases h.vals y hy with ⟨_, h2⟩ | ⟨_, v', h2, _, h4⟩
   ·rw [h2] at hv; cases hv
   ·rw [h2] at hv
    obtain rfl := Option.some.inj hv
    have := (h4 k e).1
    omega
theorem StAt.anyG {G G' : List Nat} {w : World} {q p : Nat} {U : List Nat} {t : Sto} (h : StAt G w q p U t) (h0 : ∀ x, t.at x = []) (hG : ∀ k ∈ G', k < w.heap.size) : StAt G' w q p U t := by
 obtain ⟨sp, mb, Us, φ, N, h, rfl⟩ := h
 refine ⟨sp, mb, Us, φ, N, ⟨h.head, h.slots, h.map, h.apart, h.vals, h.ok, fun k hk => ⟨hG k hk, fun y v hy hv e => ?_⟩⟩, rfl⟩
 rcases h.vals y hy with ⟨_, h2⟩ | ⟨h1, _⟩
 ·rw [h2] at hv; cases hv
 ·exact h1 (h0 y)
structure Sr where
 z : Nat
 q : Nat
 p : Nat
 U : List Nat
 t : Sto
structure Many (X : List Nat) (w0 w : World) (L : List Sr) : Prop where
 each : ∀ (i : Nat) (s : Sr), L[i]? = some s -> ∃ G, SvAt G w s.z s.q s.p s.U s.t /\ (∀ x ∈ X, x ∈ G) /\ ∀ (j : Nat) (s' : Sr), j ≠ i -> L[j]? = some s' -> ∀ x ∈ s'.U, x ∈ G
 notb : ∀ s ∈ L, ∀ x ∈ s.U, NotB w x /\ w0.heap.size <= x
 zs : ∀ s ∈ L, w0.heap.size <= s.z /\ s.z ∉ X /\ ∀ s' ∈ L, s.z ∉ s'.U
 xl : ∀ x ∈ X, x < w.heap.size
 chg : Chg [] w0 w
theorem Many.nil {X : List Nat} {w0 w : World} (hc : Chg [] w0 w) (hx : ∀ x ∈ X, x < w.heap.size) : Many X w0 w [] := ⟨by simp, by simp, by simp, hx, hc⟩
section
variable {X Y T : List Nat} {w0 w w' : World} {L : List Sr}
theorem Many.keep0 (h : Many X w0 w L) (hc : Chg [] w w') : Many X w0 w' L := by
 refine ⟨fun i s hs => ?_, fun s hs x hx => ⟨?_, (h.notb s hs x hx).2⟩, h.zs, fun x hx => Nat.lt_of_lt_of_le (h.xl x hx) hc.size, h.chg.trans hc (by simp)⟩
 ·obtain ⟨G, h1, h2, h3⟩ := h.each i s hs
  exact ⟨G, h1.keep0 hc, h2, h3⟩
 ·obtain ⟨i, hi⟩ := List.mem_iff_getElem?.1 hs
  obtain ⟨G, h1, h2, h3⟩ := h.each i s hi
  intro cs fr hh
  rw [hc.block x (h1.st.lim x hx) (by simp)] at hh
  exact (h.notb s hs x hx).1 cs fr hh
theorem Many.wrote (h : Many X w0 w L) (hc : Chg T w w') (hT : ∀ x ∈ T, x ∈ X /\ NotB w x /\ w0.heap.size <= x) (hY : ∀ x ∈ Y, (x ∈ X ∨ w.heap.size <= x) /\ x < w'.heap.size) : Many Y w0 w' L := by
 have hUl : ∀ s ∈ L, ∀ x ∈ s.U, x < w.heap.size /\ x ∉ X := fun s hs x hx => by
  obtain ⟨i, hi⟩ := List.mem_iff_getElem?.1 hs
  obtain ⟨G, h1, h2, h3⟩ := h.each i s hi
  exact ⟨h1.st.lim x hx, fun hm => h1.far x hx (h2 x hm)⟩
 have hzl : ∀ s ∈ L, s.z < w.heap.size := fun s hs => by
  obtain ⟨i, hi⟩ := List.mem_iff_getElem?.1 hs
  obtain ⟨G, h1, h2, h3⟩ := h.each i s hi
  exact blk_lt h1.head
 refine ⟨fun i s hs => ?_, fun s hs x hx => ⟨?_, (h.notb s hs x hx).2⟩, fun s hs => ⟨(h.zs s hs).1, fun hm => ?_, (h.zs s hs).2.2⟩, fun x hx => (hY x hx).2, h.chg.trans hc (fun x hx => .inr (hT x hx).2.2)⟩
 ·obtain ⟨G, h1, h2, h3⟩ := h.each i s hs
  have hsm := List.mem_of_getElem? hs
  refine ⟨G ++ Y, ⟨hc.keep h1.head (fun hm => (h.zs s hsm).2.1 (hT _ hm).1), h1.st.regroupN hc (fun x hx => h2 x (hT x hx).1) (fun x hx => (hT x hx).2.1) h1.far (fun x hx => ?_), h1.out, fun x hx hm => ?_⟩, fun x hx => List.mem_append_right _ hx, fun j s' hj hs' x hx => List.mem_append_left _ (h3 j s' hj hs' x hx)⟩
  ·rcases List.mem_append.1 hx with hx | hx
   ·exact ⟨.inl hx, Nat.lt_of_lt_of_le (h1.st.gl x hx) hc.size⟩
   ·exact ⟨(hY x hx).1.imp_left (h2 x), (hY x hx).2⟩
  ·rcases List.mem_append.1 hm with hm | hm
   ·exact h1.far x hx hm
   ·rcases (hY x hm).1 with h4 | h4
    ·exact h1.far x hx (h2 x h4)
    ·have := (hUl s hsm x hx).1; omega
 ·intro cs fr hh
  have hxT : x ∉ T := fun hm => (hUl s hs x hx).2 (hT x hm).1
  rw [hc.block x (hUl s hs x hx).1 hxT] at hh
  exact (h.notb s hs x hx).1 cs fr hh
 ·rcases (hY _ hm).1 with h4 | h4
  ·exact (h.zs s hs).2.1 h4
  ·have := hzl s hs; omega
theorem Many.add (h : Many X w0 w L) (hc : Chg [] w w') (hY : ∀ x ∈ Y, (x ∈ X ∨ w.heap.size <= x) /\ x < w'.heap.size) : Many Y w0 w' L := h.wrote hc (by simp) hY
theorem Many.sub (h : Many X w0 w L) (hY : ∀ x ∈ Y, x ∈ X) : Many Y w0 w L := h.add (Chg.refl _ _) (fun x hx => ⟨.inl (hY x hx), h.xl x (hY x hx)⟩)
theorem SvAt.least {G : List Nat} {z q p : Nat} {U : List Nat} {t : Sto} (h : SvAt G w z q p U t) : ∃ U', SvAt G w z q p U' t /\ (∀ x ∈ U', x ∈ U) /\ ∀ x ∈ U', NotB w x := by
 obtain ⟨U', h1, h2, h3⟩ := h.st.least
 exact ⟨U', ⟨h.head, h1, fun hm => h.out (h2 _ hm), fun x hx => h.far x (h2 x hx)⟩, h2, h3⟩
theorem Many.more (h : Many X w0 w L) {z q p : Nat} {t : Sto} (ho : OwnS [] w w' z q p t) (h0 : ∀ x, t.at x = []) : ∃ U, Many X w0 w' (L ++ [⟨z, q, p, U, t⟩]) := by
 obtain ⟨U0, hs, hU0⟩ := ho.sv
 obtain ⟨U, hs, hU, hUn⟩ := hs.least
 have hUw : ∀ x ∈ U, w.heap.size <= x := fun x hx => hU0 x (hU x hx)
 have hk := h.keep0 ho.chg
 have hl : ∀ s ∈ L, ∀ x ∈ s.U, x < w.heap.size := fun s hs x hx => by
  obtain ⟨i, hi⟩ := List.mem_iff_getElem?.1 hs
  obtain ⟨G, h1, h2, h3⟩ := h.each i s hi
  exact h1.st.lim x hx
 have hzl : ∀ s ∈ L, s.z < w.heap.size := fun s hs => by
  obtain ⟨i, hi⟩ := List.mem_iff_getElem?.1 hs
  obtain ⟨G, h1, h2, h3⟩ := h.each i s hi
  exact blk_lt h1.head
 have hsz := ho.chg.size
 refine ⟨U, fun i s hi => ?_, fun s hs' x hx => ?_, fun s hs' => ?_, hk.xl, hk.chg⟩
 ·by_cases hlt : i < L.length
  ·rw [List.getElem?_append_left hlt] at hi
   obtain ⟨G, h1, h2, h3⟩ := h.each i s hi
   refine ⟨G ++ U, ⟨(h1.keep0 ho.chg).head, h1.st.regroupN ho.chg (by simp) (by simp) h1.far (fun x hx => ?_), h1.out, fun x hx hm => ?_⟩, fun x hx => List.mem_append_left _ (h2 x hx), fun j s' hj hs' x hx => ?_⟩
   ·rcases List.mem_append.1 hx with hx | hx
    ·exact ⟨.inl hx, Nat.lt_of_lt_of_le (h1.st.gl x hx) hsz⟩
    ·exact ⟨.inr (hUw x hx), hs.st.lim x hx⟩
   ·rcases List.mem_append.1 hm with hm | hm
    ·exact h1.far x hx hm
    ·have h4 := hUw x hm; have h5 := h1.st.lim x hx; omega
   ·by_cases hjl : j < L.length
    ·rw [List.getElem?_append_left hjl] at hs'
     exact List.mem_append_left _ (h3 j s' hj hs' x hx)
    ·rw [List.getElem?_append_right (by omega)] at hs'
     have : s' = ⟨z, q, p, U, t⟩ := by
      have := List.mem_of_getElem? hs'
      exact List.mem_singleton.1 this
     subst this
     exact List.mem_append_right _ hx
  ·rw [List.getElem?_append_right (by omega)] at hi
   have : s = ⟨z, q, p, U, t⟩ := List.mem_singleton.1 (List.mem_of_getElem? hi)
   subst this
   have hil : i = L.length := by
    have := (List.getElem?_eq_some_iff.1 hi).1
    simp at this
    omega
   refine ⟨X ++ L.flatMap (·.U), ⟨hs.head, hs.st.anyG h0 (fun k hk' => ?_), hs.out, fun x hx hm => ?_⟩, fun x hx => List.mem_append_left _ hx, fun j s' hj hs' x hx => ?_⟩
   ·rcases List.mem_append.1 hk' with h4 | h4
    ·exact hk.xl k h4
    ·obtain ⟨s', hs', hx⟩ := List.mem_flatMap.1 h4
     have := hl s' hs' k hx; omega
   ·have h5 := hUw x hx
    rcases List.mem_append.1 hm with h4 | h4
    ·have := h.xl x h4; omega
    ·obtain ⟨s', hs', hx⟩ := List.mem_flatMap.1 h4
     have := hl s' hs' x hx; omega
   ·have hjl : j < L.length := by
     have := (List.getElem?_eq_some_iff.1 hs').1
     simp at this
     omega
    rw [List.getElem?_append_left hjl] at hs'
    exact List.mem_append_right _ (List.mem_flatMap.2 ⟨s', List.mem_of_getElem? hs', hx⟩)
 ·rcases List.mem_append.1 hs' with hs' | hs'
  ·exact hk.notb s hs' x hx
  ·rw [List.mem_singleton.1 hs'] at hx
   exact ⟨hUn x hx, by have := hUw x hx; have := h.chg.size; omega⟩
 ·have hnew : ∀ s' ∈ L ++ [(⟨z, q, p, U, t⟩ : Sr)], s' ∈ L ∨ s' = ⟨z, q, p, U, t⟩ := fun s' h => (List.mem_append.1 h).imp_right List.mem_singleton.1
  have hz := ho.newz
  have h0' := h.chg.size
  rcases hnew s hs' with hs' | rfl
  ·refine ⟨(h.zs s hs').1, (h.zs s hs').2.1, fun s' hs2 => ?_⟩
   rcases hnew s' hs2 with hs2 | rfl
   ·exact (h.zs s hs').2.2 s' hs2
   ·intro hm
    have h5 := hUw _ hm
    have h6 := hzl s hs'
    omega
  ·refine ⟨by show w0.heap.size <= z; omega, fun hm => ?_, fun s' hs2 => ?_⟩
   ·have h5 := h.xl _ hm
    have : z < w.heap.size := h5
    omega
   ·rcases hnew s' hs2 with hs2 | rfl
    ·intro hm
     have h5 : z < w.heap.size := hl s' hs2 _ hm
     omega
    ·exact hs.out
theorem Many.did (h : Many X w0 w L) {i : Nat} {s : Sr} {t' : Sto} (hi : L[i]? = some s) {G : List Nat} (hG : (∀ x ∈ X, x ∈ G) /\ ∀ (j : Nat) (s' : Sr), j ≠ i -> L[j]? = some s' -> ∀ x ∈ s'.U, x ∈ G) (hs0 : SvAt G w s.z s.q s.p s.U s.t) (hd : Std G w w' s.q s.p s.U t') : ∃ U', Many X w0 w' (L.set i ⟨s.z, s.q, s.p, U', t'⟩) /\ Chg s.U w w' := by
 obtain ⟨U1, a1, a2, a3⟩ := hs0.did hd
 obtain ⟨U', b1, b2, b3⟩ := a1.least
 have hil : i < L.length := (List.getElem?_eq_some_iff.1 hi).1
 have hsm := List.mem_of_getElem? hi
 have hUU : ∀ x ∈ U', x ∈ s.U ∨ w.heap.size <= x := fun x hx => a2 x (b2 x hx)
 have hset : ∀ s' ∈ L.set i ⟨s.z, s.q, s.p, U', t'⟩, s' ∈ L ∨ s' = ⟨s.z, s.q, s.p, U', t'⟩ := fun s' h => List.mem_or_eq_of_mem_set h
 have hl : ∀ j s', j ≠ i -> L[j]? = some s' -> (∀ x ∈ s'.U, x < w.heap.size /\ x ∉ s.U) /\ s'.z < w.heap.size := fun j s' hj hs' => by
  obtain ⟨G', h1, h2, h3⟩ := h.each j s' hs'
  exact ⟨fun x hx => ⟨h1.st.lim x hx, fun hm => h1.far x hx (h3 i s (fun e => hj e.symm) hi x hm)⟩, blk_lt h1.head⟩
 have hzs : ∀ s' ∈ L, s'.z < w.heap.size := fun s' hs' => by
  obtain ⟨j, hj⟩ := List.mem_iff_getElem?.1 hs'
  obtain ⟨G', h1, h2, h3⟩ := h.each j s' hj
  exact blk_lt h1.head
 refine ⟨U', ⟨fun j s' hs' => ?_, fun s' hs' x hx => ?_, fun s' hs' => ?_, fun x hx => Nat.lt_of_lt_of_le (h.xl x hx) a3.size, h.chg.trans a3 (fun x hx => .inr (h.notb s hsm x hx).2)⟩, a3⟩
 ·rw [List.getElem?_set] at hs'
  by_cases hij : i = j
  ·subst hij
   rw [if_pos rfl, if_pos hil] at hs'
   obtain rfl := Option.some.inj hs'
   refine ⟨G, b1, hG.1, fun j s' hj hs' x hx => ?_⟩
   rw [List.getElem?_set, if_neg (fun e => hj e.symm)] at hs'
   exact hG.2 j s' hj hs' x hx
  ·rw [if_neg hij] at hs'
   obtain ⟨G', h1, h2, h3⟩ := h.each j s' hs'
   have hTG := h3 i s hij hi
   refine ⟨G' ++ U', ⟨a3.keep h1.head (fun hm => (h.zs s' (List.mem_of_getElem? hs')).2.2 s hsm hm), h1.st.regroupN a3 hTG (fun x hx => (h.notb s hsm x hx).1) h1.far (fun x hx => ?_), h1.out, fun x hx hm => ?_⟩, fun x hx => List.mem_append_left _ (h2 x hx), fun k s2 hk hs2 x hx => ?_⟩
   ·rcases List.mem_append.1 hx with hx | hx
    ·exact ⟨.inl hx, Nat.lt_of_lt_of_le (h1.st.gl x hx) a3.size⟩
    ·exact ⟨(hUU x hx).imp_left (hTG x), b1.st.lim x hx⟩
   ·rcases List.mem_append.1 hm with hm | hm
    ·exact h1.far x hx hm
    ·rcases hUU x hm with h4 | h4
     ·exact h1.far x hx (hTG x h4)
     ·have := h1.st.lim x hx; omega
   ·rw [List.getElem?_set] at hs2
    by_cases hik : i = k
    ·subst hik
     rw [if_pos rfl, if_pos hil] at hs2
     obtain rfl := Option.some.inj hs2
     exact List.mem_append_right _ hx
    ·rw [if_neg hik] at hs2
     exact List.mem_append_left _ (h3 k s2 hk hs2 x hx)
 ·obtain ⟨j, hj⟩ := List.mem_iff_getElem?.1 hs'
  rw [List.getElem?_set] at hj
  by_cases hij : i = j
  ·subst hij
   rw [if_pos rfl, if_pos hil] at hj
   obtain rfl := Option.some.inj hj
   refine ⟨b3 x hx, ?_⟩
   rcases hUU x hx with h4 | h4
   ·exact (h.notb s hsm x h4).2
   ·have := h.chg.size; omega
  ·rw [if_neg hij] at hj
   obtain ⟨h4, h5⟩ := (hl j s' (fun e => hij e.symm) hj).1 x hx
   refine ⟨fun cs fr hh => ?_, (h.notb s' (List.mem_of_getElem? hj) x hx).2⟩
   rw [a3.block x h4 h5] at hh
   exact (h.notb s' (List.mem_of_getElem? hj) x hx).1 cs fr hh
 ·have hz : ∃ s2 ∈ L, s'.z = s2.z := by
   rcases hset s' hs' with h4 | rfl
   ·exact ⟨s', h4, rfl⟩
   ·exact ⟨s, hsm, rfl⟩
  obtain ⟨s2, hs2, hz2⟩ := hz
  rw [hz2]
  refine ⟨(h.zs s2 hs2).1, (h.zs s2 hs2).2.1, fun s3 hs3 => ?_⟩
  rcases hset s3 hs3 with h4 | rfl
  ·exact (h.zs s2 hs2).2.2 s3 h4
  ·intro hm
   rcases hUU _ hm with h5 | h5
   ·exact (h.zs s2 hs2).2.2 s hsm h5
   ·have := hzs s2 hs2; omega
end
structure TrueT (t : Sto) (F : Frag) : Prop where
 keep : Keep t F
 whole : t.whole = true
 n : t.s.d.n = 33
 ops : t.s.d.ops <= 200
 since : t.s.d.since.length <= 200
def FreshT (t : Sto) : Prop := TrueT t (fun _ => none) /\ t.room = 4 /\ t.s.d.ops <= 100 /\ t.s.d.since.length <= 100
def HasT (t : Sto) (x : Id) (b : List UInt8) : Prop := ∃ F, TrueT t F /\ F x = some b
theorem TrueT.rows {t : Sto} {F : Frag} (h : TrueT t F) : t.s.rows.length = 4 := by
 have := h.keep.kept.full.1
 rw [h.n] at this
 omega
def id0 : Id := ⟨0, 0, 0, 0⟩
def FirstT (t : Sto) : Prop := 1 <= t.s.d.n /\ t.s.d.ops <= 33 /\ t.s.d.since.length <= 33
theorem fresh_new : ∃ t d t', (DS.new 33).format = ((0, some t), d) /\ t.run ⟨6, id0, []⟩ = ((errRp 0, 0), t') /\ FreshT t' /\ FirstT t := by
 obtain ⟨t, d, h1, h2, h3, h4, h5, h6⟩ := Keep.new 33 (by omega)
 obtain ⟨a1, a2, a3, a4⟩ := h2.sets
 have hr : t.s.rows.length <= 20 := by have := h2.kept.full.1; omega
 have hf := step_far t ⟨6, id0, []⟩ hr
 rw [step6] at hf
 have hs := h2.since
 have hs0 : t.s.d.since.length = 0 := by rw [hs]; rfl
 refine ⟨t, d, t.setWhole.2, h1, ?_, ⟨⟨a2, a3, by rw [hf.n]; exact h4, by have := hf.ops; dsimp only at this; omega, by have := hf.since; dsimp only at this; omega⟩, by omega, by have := hf.ops; dsimp only at this; omega, by have := hf.since; dsimp only at this; omega⟩, by omega, by omega, by omega⟩
 rw [h2.run, step6, a1]
theorem FreshT.at0 {t : Sto} (h : FreshT t) : ∀ x, t.at x = [] := fun x => h.1.keep.kept.at_none rfl
theorem FreshT.put {t : Sto} (h : FreshT t) {x : Id} {b : List UInt8} (hx : mayId x = true) (hb : b.length <= 448) : ∃ t', t.run ⟨1, x, b⟩ = ((errRp 0, 0), t') /\ HasT t' x b := by
 obtain ⟨h1, h2, h3, h4⟩ := h
 have hf := step_far t ⟨1, x, b⟩ (by have := h1.rows; omega)
 rw [step1] at hf
 have hl := live_put h1.keep.live x b
 rcases h1.keep.kept.put_may hx rfl hb (by omega) with ⟨p1, p2, p3, p4⟩ | ⟨_, p2, _⟩
 ·refine ⟨(t.put x b).2, by rw [h1.keep.run, step1, p1], setF (fun _ => none) x (some b), ⟨⟨p2, hl⟩, by rw [p4]; exact h1.whole, by rw [hf.n]; exact h1.n, by have := hf.ops; dsimp only at this; omega, by have := hf.since; dsimp only at this; omega⟩, setF_self _ _ _⟩
 ·rw [hl.1] at p2; cases p2
theorem HasT.get {t : Sto} {x : Id} {b : List UInt8} (h : HasT t x b) (hx : mayId x = true) : t.run ⟨2, x, []⟩ = ((⟨0, b, [], 0, false⟩, 0), t) /\ 1 <= t.s.d.n /\ t.s.d.ops <= 200 /\ t.s.d.since.length <= 200 := by
 obtain ⟨F, h1, h2⟩ := h
 refine ⟨?_, by rw [h1.n]; omega, h1.ops, h1.since⟩
 rw [h1.keep.run, h1.keep.gets x, h2, if_neg (by rw [hx]; simp)]
 rfl
def idF (s : Sp) (i : Nat) : Id := ⟨s.c, s.l, s.n, (i : Int)⟩
theorem idF_may {s : Sp} (hs : s.Ok) {i : Nat} (hi : i < 16) : mayId (idF s i) = true /\ okD (idF s i) := by
 obtain ⟨h1, h2, h3, h4, h5, h6⟩ := hs
 have h : mayId (idF s i) = true := by
  unfold mayId withinB6 idF
  simp
  omega
 exact ⟨h, may_okD h⟩
def rowX (g : Nat) (R : List VRow) : List Nat := g :: R.filterMap (fun x => x.1.ownBlock)
theorem mem_rowX {g q : Nat} {R : List VRow} : q ∈ rowX g R ↔ q = g ∨ ∃ x ∈ R, x.1.ownBlock = some q := by
 unfold rowX
 rw [List.mem_cons, List.mem_filterMap]
theorem RowsB.keepT {w0 w w' : World} {g n cap : Nat} {R : List VRow} {T : List Nat} (h : RowsB w0 w (.slice (some ⟨g, 0, none⟩) n cap) R) (hc : Chg T w w') (hT : ∀ x ∈ rowX g R, x ∉ T) (h0 : ∀ x ∈ T, w0.heap.size <= x) : RowsB w0 w' (.slice (some ⟨g, 0, none⟩) n cap) R := by
 refine ⟨row_keep h.row (fun q hq => hc.block q (World.ownsRow.lt h.row q hq).2 (hT q (mem_rowX.2 (.inl (own_eq hq).symm)))), fun x hx => ⟨(h.each x hx).1.chg hc (fun k hk => hT k (mem_rowX.2 (.inr ⟨x, hx, hk⟩))), fun q hq => ⟨((h.each x hx).2 q hq).1, Nat.lt_of_lt_of_le ((h.each x hx).2 q hq).2.1 hc.size, ((h.each x hx).2 q hq).2.2⟩⟩, h.chg.trans hc (fun x hx => .inr (h0 x hx))⟩
theorem RowsB.xl {w0 w : World} {g n cap : Nat} {R : List VRow} (h : RowsB w0 w (.slice (some ⟨g, 0, none⟩) n cap) R) : ∀ x ∈ rowX g R, x < w.heap.size /\ w0.heap.size <= x := fun x hx => by
 rcases mem_rowX.1 hx with rfl | ⟨y, hy, hq⟩
 ·exact ⟨(World.ownsRow.lt h.row x rfl).2, (World.ownsRow.lt h.row x rfl).1⟩
 ·exact ⟨((h.each y hy).2 x hq).2.1, ((h.each y hy).2 x hq).1⟩
abbrev ptrL (L : List Sr) : List Value := L.map (fun s => Value.pointer (some ⟨s.z, 0, none⟩))
theorem elSrvs : El Tryz.prog 28 54 (.pointer none) 1 8 := El.mk Tryz.underlying28 (by kernel_rfl) rfl (by decide)
structure N1 (wb w : World) (g n cap : Nat) (R : List VRow) (v : Value) (i : Nat) (L : List Sr) : Prop where
 many : Many (v.ownBlock.toList ++ rowX g R) wb w L
 len : L.length = i
 row : w.ownsRow wb.heap.size 54 1 v i (ptrL L)
 rows : RowsB wb w (.slice (some ⟨g, 0, none⟩) n cap) R
 vX : ∀ q, v.ownBlock = some q -> q ∉ rowX g R
 fresh : ∀ s ∈ L, FreshT s.t
theorem N1.more {wb wr w2 w4 : World} {g n cap i z q p g5 c5 : Nat} {R : List VRow} {v : Value} {L : List Sr} {t : Sto} (h : N1 wb wr g n cap R v i L) (ho : OwnS [] wr w2 z q p t) (hf : FreshT t)
  (hrow : w4.ownsRow wb.heap.size 54 1 (.slice (some ⟨g5, 0, none⟩) (i + 1) c5) (i + 1) (ptrL L ++ [.pointer (some ⟨z, 0, none⟩)])) (hg : w2.grownBy w4 v.ownBlock) (hat : v.ownBlock = some g5 ∨ g5 = w2.heap.size + 1) :
  ∃ U, N1 wb w4 g n cap R (.slice (some ⟨g5, 0, none⟩) (i + 1) c5) (i + 1) (L ++ [⟨z, q, p, U, t⟩]) := by
 obtain ⟨U, hm⟩ := h.many.more ho hf.at0
 have hr2 := h.rows.keep ho.chg
 have hrow2 : w2.ownsRow wb.heap.size 54 1 v i (ptrL L) := row_keep h.row (fun k hk => ho.chg.block k (World.ownsRow.lt h.row k hk).2 (by simp))
 have hc : Chg v.ownBlock.toList w2 w4 := (Chg.refl _ w2).grown hg (fun k hk => .inl (by rw [hk]; simp))
 have hv : ∀ x ∈ v.ownBlock.toList, v.ownBlock = some x := fun x hx => by simpa using hx
 have hgl := (World.ownsRow.lt hrow g5 rfl).2
 refine ⟨U, hm.wrote hc (fun x hx => ⟨List.mem_append_left _ hx, NotB.row hrow2 (by decide) (hv x hx), (World.ownsRow.lt hrow2 x (hv x hx)).1⟩) (fun x hx => ?_), by rw [List.length_append, h.len]; rfl, by
  show w4.ownsRow _ _ _ _ _ (List.map _ _)
  rw [List.map_append]; exact hrow, hr2.keepT hc (fun x hx hxm => h.vX x (hv x hxm) hx) (fun x hx => (World.ownsRow.lt hrow2 x (hv x hx)).1), fun q hq hqx => ?_, fun s hs => ?_⟩
 ·rcases List.mem_append.1 hx with hx | hx
  ·have e : x = g5 := by simpa [Value.ownBlock] using hx
   subst e
   refine ⟨?_, hgl⟩
   rcases hat with h1 | h1
   ·exact .inl (List.mem_append_left _ (by rw [h1]; simp))
   ·exact .inr (by omega)
  ·exact ⟨.inl (List.mem_append_right _ hx), Nat.lt_of_lt_of_le (hr2.xl x hx).1 hc.size⟩
 ·have e : g5 = q := own_eq hq
  subst e
  rcases hat with h1 | h1
  ·exact h.vX _ h1 hqx
  ·have := (hr2.xl _ hqx).1; omega
 ·rcases List.mem_append.1 hs with hs | hs
  ·exact h.fresh s hs
  ·rw [List.mem_singleton.1 hs]; exact hf
structure N2 (wb w : World) (s : Sp) (data : List UInt8) (g n cap : Nat) (R : List VRow) (go co i : Nat) (L : List Sr) : Prop where
 many : Many (go :: rowX g R) wb w L
 len : L.length = n
 row : w.ownsRow wb.heap.size 54 1 (.slice (some ⟨go, 0, none⟩) n co) n (ptrL L)
 rows : RowsB wb w (.slice (some ⟨g, 0, none⟩) n cap) R
 fresh : ∀ (j : Nat) (s' : Sr), L[j]? = some s' -> (∀ k, k < i -> placeN s k n ≠ j) -> FreshT s'.t
 has : ∀ k, k < i -> ∃ s' : Sr, L[placeN s k n]? = some s' /\ HasT s'.t (idF s k) (fragN s data n k)
theorem N1.two {wb w : World} {g n cap : Nat} {R : List VRow} {go co : Nat} {L : List Sr} (h : N1 wb w g n cap R (.slice (some ⟨go, 0, none⟩) n co) n L) (s : Sp) (data : List UInt8) : N2 wb w s data g n cap R go co 0 L :=
 ⟨h.many.sub (fun x hx => by
  rcases List.mem_cons.1 hx with rfl | hx
  ·exact List.mem_append_left _ (by simp [Value.ownBlock])
  ·exact List.mem_append_right _ hx), h.len, h.row, h.rows, fun j s' hs' _ => h.fresh s' (List.mem_of_getElem? hs'), fun k hk => by omega⟩
theorem N2.keep0 {wb w w' : World} {s : Sp} {data : List UInt8} {g n cap go co i : Nat} {R : List VRow} {L : List Sr} (h : N2 wb w s data g n cap R go co i L) (hc : Chg [] w w') : N2 wb w' s data g n cap R go co i L :=
 ⟨h.many.keep0 hc, h.len, row_keep h.row (fun k hk => hc.block k (World.ownsRow.lt h.row k hk).2 (by simp)), h.rows.keep hc, h.fresh, h.has⟩
theorem N2.cell {wb w : World} {s : Sp} {data : List UInt8} {g n cap go co i : Nat} {R : List VRow} {L : List Sr} (h : N2 wb w s data g n cap R go co i L) {j : Nat} {s' : Sr} (hj : L[j]? = some s') : w.cell? ⟨go, j, none⟩ = some (.pointer (some ⟨s'.z, 0, none⟩)) := by
 have := h.row.cells (g := go) rfl j (.pointer (some ⟨s'.z, 0, none⟩)) (by show (List.map _ _)[j]? = _; rw [List.getElem?_map, hj]; rfl)
 rwa [add_none, Nat.zero_add] at this
theorem nodes_put {wb w : World} {s : Sp} {data : List UInt8} {g n cap go co i : Nat} {R : List VRow} {L : List Sr} (h : N2 wb w s data g n cap R go co i L) (hs : s.Ok) (h3 : 3 <= n) (h16 : n <= 16) (hi : i < n) (hL : 1 <= data.length) (hL2 : data.length <= 400 * (n - 1)) {s' : Sr} (hj : L[placeN s i n]? = some s') {x : VRow} (hx : R[i]? = some x) (hx2 : x.2 = fragN s data n i) :
  Calls Tryz.prog 17 #[.pointer (some ⟨s'.z, 0, none⟩), .agg #[.int .i64 1, .int .i64 s.c, .int .i64 s.l, .int .i64 s.n, .int .i64 (i : Int), x.1]] w fun e w' => (∃ v, e = .returned (.tuple #[v, .int .i64 0])) /\ ∃ L', N2 wb w' s data g n cap R go co (i + 1) L' := by
 obtain ⟨hmay, hok⟩ := idF_may hs (show i < 16 by omega)
 have hfr := h.fresh _ s' hj (fun k hk e => by have := place_inj (by omega) hi e; omega)
 have hbl : (fragN s data n i).length <= 448 := by
  rw [fragN_len hL (by omega)]
  have h1 := long_le data.length n i
  have h2 := each_max (m := 400) (by omega : 2 <= n) hL2
  omega
 obtain ⟨t', hrun, hhas⟩ := hfr.put hmay hbl
 obtain ⟨G, hsv, hG⟩ := h.many.each _ s' hj
 have hxm := List.mem_of_getElem? hx
 refine (svdo_any ⟨1, idF s i, fragN s data n i⟩ x.1 w hsv hok (by rw [<- hx2]; exact (h.rows.each x hxm).1) (fun _ k hk hm => hsv.far k hm (hG.1 k (List.mem_cons_of_mem _ (mem_rowX.2 (.inr ⟨x, hxm, hk⟩))))) (by dsimp only; omega) (by rw [hfr.1.n]; omega) (by have := hfr.1.ops; omega) (by have := hfr.1.since; omega)).mono ?_
 rw [hrun]
 rintro e w' ⟨v, rfl, _, hstd⟩
 obtain ⟨U', hm', hcU⟩ := h.many.did hj hG hsv hstd
 have hfar : ∀ y ∈ go :: rowX g R, y ∉ s'.U := fun y hy hm => hsv.far y hm (hG.1 y hy)
 have hU0 : ∀ y ∈ s'.U, wb.heap.size <= y := fun y hy => (h.many.notb s' (List.mem_of_getElem? hj) y hy).2
 have hpl := place_lt s i (show 0 < n by omega)
 refine ⟨⟨v, rfl⟩, _, hm', by rw [List.length_set]; exact h.len, ?_, h.rows.keepT hcU (fun y hy => hfar y (List.mem_cons_of_mem _ hy)) hU0, fun j s2 hs2 hk => ?_, fun k hk => ?_⟩
 ·have e : ptrL (L.set (placeN s i n) ⟨s'.z, s'.q, s'.p, U', t'⟩) = ptrL L := by
   show List.map _ _ = List.map _ _
   refine List.ext_getElem? (fun k => ?_)
   rw [List.getElem?_map, List.getElem?_map, List.getElem?_set]
   by_cases hk : placeN s i n = k
   ·subst hk
    rw [if_pos rfl, if_pos (by rw [h.len]; exact hpl), hj]
    rfl
   ·rw [if_neg hk]
  rw [e]
  exact row_keep h.row (fun k hk => hcU.block k (World.ownsRow.lt h.row k hk).2 (fun hm => hfar k (by rw [<- own_eq hk]; simp) hm))
 ·rw [List.getElem?_set, if_neg (hk i (by omega))] at hs2
  exact h.fresh j s2 hs2 (fun k' hk' => hk k' (by omega))
 ·by_cases hki : k = i
  ·subst hki
   exact ⟨_, by rw [List.getElem?_set, if_pos rfl, if_pos (by rw [h.len]; exact hpl)], hhas⟩
  ·obtain ⟨s2, hs2, hh⟩ := h.has k (by omega)
   refine ⟨s2, ?_, hh⟩
   rw [List.getElem?_set, if_neg (fun e => hki (place_inj (by omega) hi e.symm))]
   exact hs2
structure NodesAt (X : List Nat) (wb w : World) (s : Sp) (data : List UInt8) (n go : Nat) (L : List Sr) : Prop where
 many : Many X wb w L
 len : L.length = n
 inX : go ∈ X
 cell : ∀ (j : Nat) (s' : Sr), L[j]? = some s' -> w.cell? ⟨go, j, none⟩ = some (.pointer (some ⟨s'.z, 0, none⟩))
 has : ∀ k, k < n -> ∃ s' : Sr, L[placeN s k n]? = some s' /\ HasT s'.t (idF s k) (fragN s data n k)
theorem N2.ends {wb w : World} {s : Sp} {data : List UInt8} {g n cap go co : Nat} {R : List VRow} {L : List Sr} (h : N2 wb w s data g n cap R go co n L) : NodesAt [go] wb w s data n go L :=
 ⟨h.many.sub (fun x hx => by rw [List.mem_singleton.1 hx]; simp), h.len, by simp, fun j s' hj => h.cell hj, h.has⟩
theorem NodesAt.keep0 {X : List Nat} {wb w w' : World} {s : Sp} {data : List UInt8} {n go : Nat} {L : List Sr} (h : NodesAt X wb w s data n go L) (hc : Chg [] w w') : NodesAt X wb w' s data n go L :=
 ⟨h.many.keep0 hc, h.len, h.inX, fun j s' hj => hc.cell (h.cell j s' hj) (by simp), h.has⟩
theorem NodesAt.wrote {X Y T : List Nat} {wb w w' : World} {s : Sp} {data : List UInt8} {n go : Nat} {L : List Sr} (h : NodesAt X wb w s data n go L) (hc : Chg T w w') (hT : ∀ x ∈ T, x ∈ X /\ NotB w x /\ wb.heap.size <= x) (hgo : go ∉ T) (hY : ∀ x ∈ Y, (x ∈ X ∨ w.heap.size <= x) /\ x < w'.heap.size) (hgY : go ∈ Y) : NodesAt Y wb w' s data n go L :=
 ⟨h.many.wrote hc hT hY, h.len, hgY, fun j s' hj => hc.cell (h.cell j s' hj) hgo, h.has⟩
end Go.Proofs.YtnbhanmpmjjkkaaGreatDoor.W
