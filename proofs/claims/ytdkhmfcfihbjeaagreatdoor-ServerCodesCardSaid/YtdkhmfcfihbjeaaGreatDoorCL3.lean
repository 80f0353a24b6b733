/- Texts laid together. -/
import Derived.Test.YtdkhmfcfihbjeaaGreatDoorCL2
import Derived.Test.YtdkhmfcfihbjeaaGreatDoorCL1
import Derived.Deep.CutBlock
import Derived.Deep.DeepCutAuto
import Derived.Laws.MakeOwn
import Derived.Laws.IdiomStrings
import Derived.Laws.BytesArg
import Derived.Laws.CopyOwn
/- Package disk: Write. -/
namespace Go.Proofs.YtdkhmfcfihbjeaaGreatDoor.W
open Go.RowKit
set_option linter.unusedVariables false
set_option linter.unusedSimpArgs false

set_option maxHeartbeats 8000000 in
set_option maxRecDepth 100000 in
theorem dwrite_ok (p : Nat) (S : List Nat) (d : DS) (j : Nat) (g o cap : Nat) (b : List UInt8) (w : World) (h : DiskAt w p S d) (ho : d.ops ≤ 1000000000) (hw : d.since.length ≤ 1000000)
    (hd : d.dead = false) (hj : j < d.n) (hb : b.length = 64) (hB : w.rangeAt g o (bvs b)) :
    Calls Tryz.prog 79 #[.pointer (some ⟨p, 0, none⟩), .int .i64 (j : Int), .slice (some ⟨g, o, none⟩) 64 cap] w fun e w' => e = .returned (.int .i64 (d.write (j : Int) b).1) ∧ Did w w' p S (d.write (j : Int) b).2 := by
  have CG := Lib.hid (dgone_any p S d w h)
  have CH := Lib.hid (dhas_any p S d (j : Int) w h)
  rw [hd] at CG
  rw [decide_eq_true (by omega)] at CH
  have HB := Lib.hid hB
  have hz : Hid ((Tryz.prog.info? 101).map (·.size) = some (bvs b).length) := Lib.hid (by rw [bvs_len, hb]; kernel_rfl)
  have hzs : Hid ((Tryz.prog.info? 103).map (·.size) = some (bvs b).length) := Lib.hid (by rw [bvs_len, hb]; kernel_rfl)
  have hzw : Hid ((Tryz.prog.info? 105).map (·.size) = some (wcells (j, b)).length) := Lib.hid (by rw [wcells_len _ hb]; kernel_rfl)
  have hb1 : Hid ((Instr.build 103 #[(0, .agg (bvs b).toArray)]).run Tryz.prog w = .ok (.agg (bvs b).toArray) w) := Lib.hid (build_sec _ (by simp [bvs_len, hb]) w)
  have hb2 : Hid ((Instr.build 105 #[(0, .int .i64 (j : Int)), (1, .agg (bvs b).toArray)]).run Tryz.prog w = .ok (.agg (wcells (j, b)).toArray) w) := Lib.hid (build_wr _ _ (by rw [bvs_len, hb]) w)
  obtain ⟨iw, zw, hiw, hzw1, hzw2, hzw3, hzw4⟩ := info_three facts_wr
  have hW : (wcells (j, b)).toArray.size = 65 := by simpa using wcells_len (j, b) hb
  have h1c : (wcells (j, b)).toArray.all (·.oneCell') = true := all_oneCell_toArray (wcells_one _)
  have hat : ∀ w, (Instr.arrayAt 101 (.slice (some ⟨g, o, none⟩) 64 cap)).run Tryz.prog w = .ok (.pointer (some ⟨g, o, none⟩)) w := fun w => run_arrayAt w 101 _ 64 _ 64 cap Tryz.underlying101 (Nat.le_refl _)
  have HD := Lib.hid h
  have hlim := h.lim
  obtain ⟨gn, gl, cn, cl, v, H⟩ := h
  have HK := Lib.hid H
  -- the world with the variable
  obtain ⟨N, hN⟩ : ∃ N, N = w.heap.size := ⟨_, rfl⟩
  obtain ⟨w1, hw1⟩ : ∃ w1, w1 = w.alloc (.cells (wcells (j, b)).toArray 105) := ⟨_, rfl⟩
  have hc1 : Chg [] w w1 := by rw [hw1]; exact (Chg.refl _ _).alloc _
  have HC1 := Lib.hid hc1
  have r1 : w1.rangeAt N 0 (wcells (j, b)) := by
    rw [hw1, hN]
    intro k u hu
    rw [Nat.zero_add]
    exact blk_cell (heap_alloc_new w _) k u (by simpa using hu)
  have H1 : DiskOk w1 p S d gn gl cn cl v := by
    obtain ⟨m1, m2, m3, m4⟩ := H.mem
    exact ⟨hc1.keep H.head (by simp), H.now.keep (hc1.block _ H.now.lt (by simp)), H.lasts.keep (hc1.block _ H.lasts.lt (by simp)), row_keep H.since (fun g hg => hc1.block g (World.ownsRow.lt H.since g hg).2 (by simp)),
      H.waits, H.few, H.capn, H.capl, H.fuse, H.ap, H.av, H.mem, fun x hx => Nat.lt_of_lt_of_le (H.lim x hx) hc1.size⟩
  have hN1 : N < w1.heap.size := by rw [hw1, hN]; simp
  have HN := Lib.hid hN
  have hS : Hid (∀ x ∈ S, x < N) := Lib.hid (by rw [hN]; exact hlim)
  have c2 : w1.cell? ⟨p, 2, none⟩ = some v := blk_cell H1.head 2 _ rfl
  have f2 := blk_frozen H1.head 2
  have hpl := blk_lt H1.head
  have HK1 := Lib.hid H1
  have HR1 := Lib.hid r1
  have HA := Lib.hid hw1
  have HW := Lib.hid hW
  have HDD := Lib.hid hd
  have HBL := Lib.hid hb
  have HIW := Lib.hid hiw
  have HZ1 := Lib.hid hzw1
  have HZ2 : Hid (zw.cells.size = (wcells (j, b)).toArray.size) := Lib.hid (by rw [hW]; exact hzw2)
  have HZ3 : Hid (iw.size = (wcells (j, b)).toArray.size) := Lib.hid (by rw [hW]; exact hzw3)
  have H1C := Lib.hid h1c
  clear hB H H1 hlim hc1 r1 hw1 hiw hzw1 hzw2 hzw3 hzw4 h1c hW hb hd hN
  go_enter Tryz.func79, Tryz.ntmps79
  go_wp2_with (first
    | (go_at_call 118; refine CG.out.mono ?_; rintro e w' ⟨rfl, hq⟩; subst hq)
    | (go_at_call 119; refine CH.out.mono ?_; rintro e w' ⟨rfl, hq⟩; subst hq)
    | (refine wpList_load_mid (by rfl) 101 (.tmp 23) (by rfl) g o (by rfl) (bvs b) _ HB.out Tryz.underlying101 rfl hz.out ?_)
    | (refine wpList_build1 (by rfl) 103 0 (.tmp 24) (by rfl) (.agg (bvs b).toArray) (.agg (bvs b).toArray) (by rfl) hb1.out ?_)
    | (refine wpList_build2 (by rfl) 105 0 1 (.tmp 21) (.tmp 25) (by rfl) (.int .i64 (j : Int)) (.agg (bvs b).toArray) (.agg (wcells (j, b)).toArray) (by rfl) (by rfl) hb2.out ?_)
    | (refine wpList_var (by rfl) (by rfl) 105 (.tmp 7) (.tmp 26) (by rfl) (by rfl) N HN.out.symm (wcells (j, b)).toArray (by rfl) (by rfl) iw zw HIW.out HZ1.out HZ2.out HZ3.out H1C.out ?_; rw [← HA.out]))
  refine wp_region_L [(7, fun w' => w'.cell? ⟨p, 2, none⟩ = some v), (6, fun w' => w'.rangeAt N 0 (wcells (j, b)))] (by kernel_rfl) ?_ (fun hHeld => ?_)
  · exact (HoldC.cons (c2) (HoldC.cons (HR1.out) HoldC.nil))
  refine wpAnyL_take (i := 0) (oi := _) (v := ?_) rfl (by kernel_rfl) (by kernel_rfl) (by kernel_rfl) (by kernel_rfl) (by kernel_rfl) (fun _ _ _ h => h) (Or.inl ⟨by rfl, ?_⟩) (by assumption) (fun hNew => ?_)
  rotate_left
  · intro w _
    go_simp
    try with_reducible rfl
  clear hHeld
  have hHeld := hNew
  clear hNew
  try simp only [List.getElem_toArray, List.getElem_cons_succ, List.getElem_cons_zero, Act.put, List.setIfInBounds_toArray, List.set_cons_zero, List.set_cons_succ]
  refine wpAnyL_take (i := 1) (oi := _) (v := ?_) rfl (by kernel_rfl) (by kernel_rfl) (by kernel_rfl) (by kernel_rfl) (by kernel_rfl) (fun _ _ _ h => h) (Or.inl ⟨by rfl, ?_⟩) (by assumption) (fun hNew => ?_)
  rotate_left
  · intro w _
    go_simp
    try with_reducible rfl
  clear hHeld
  have hHeld := hNew
  clear hNew
  try simp only [List.getElem_toArray, List.getElem_cons_succ, List.getElem_cons_zero, Act.put, List.setIfInBounds_toArray, List.set_cons_zero, List.set_cons_succ]
  refine wpAnyL_take (i := 2) (oi := _) (v := ?_) rfl (by kernel_rfl) (by kernel_rfl) (by kernel_rfl) (by kernel_rfl) (by kernel_rfl) (fun _ _ _ h => h) (Or.inl ⟨by rfl, ?_⟩) (by assumption) (fun hNew => ?_)
  rotate_left
  · intro w _
    go_simp
    try with_reducible rfl
  clear hHeld
  have hHeld := hNew
  clear hNew
  try simp only [List.getElem_toArray, List.getElem_cons_succ, List.getElem_cons_zero, Act.put, List.setIfInBounds_toArray, List.set_cons_zero, List.set_cons_succ]
  refine wpAnyL_take (i := 3) (oi := _) (v := ?_) rfl (by kernel_rfl) (by kernel_rfl) (by kernel_rfl) (by kernel_rfl) (by kernel_rfl) (fun _ _ _ h => h) (Or.inl ⟨by rfl, ?_⟩) (by assumption) (fun hNew => ?_)
  rotate_left
  · intro w _
    go_simp
    try with_reducible rfl
  clear hHeld
  have hHeld := hNew
  clear hNew
  try simp only [List.getElem_toArray, List.getElem_cons_succ, List.getElem_cons_zero, Act.put, List.setIfInBounds_toArray, List.set_cons_zero, List.set_cons_succ]
  refine wpAnyL_load 0 (i := 4) (oi := _) (v := ?_) rfl rfl (by kernel_rfl) (by kernel_rfl) (by kernel_rfl) (by kernel_rfl) (by kernel_rfl) (by kernel_rfl) (fun _ _ _ h => h) (Or.inl ⟨by rfl, ?_⟩) (by assumption) (fun hNew => ?_)
  rotate_left
  · intro w hSw
    (try dsimp only at hSw)
    go_simp
    try with_reducible rfl
  clear hHeld
  have hHeld := hNew
  clear hNew
  try simp only [List.getElem_toArray, List.getElem_cons_succ, List.getElem_cons_zero, Act.put, List.setIfInBounds_toArray, List.set_cons_zero, List.set_cons_succ]
  refine wpAnyL_load 1 (i := 5) (oi := _) (v := .agg (wcells (j, b)).toArray) rfl rfl (by kernel_rfl) (by kernel_rfl) (by kernel_rfl) (by kernel_rfl) (by kernel_rfl) (by kernel_rfl) (fun _ _ _ h => h) (yieldsIf_load_mid (by rfl) 105 (.tmp 7) (by rfl) (N) (0) (by rfl) (wcells (j, b)) _ (fun w hw => hw) Tryz.underlying105 rfl hzw.out) (by assumption) (fun hNew => ?_)
  clear hHeld
  have hHeld := hNew
  clear hNew
  try simp only [List.getElem_toArray, List.getElem_cons_succ, List.getElem_cons_zero, Act.put, List.setIfInBounds_toArray, List.set_cons_zero, List.set_cons_succ]
  refine wpAnyL_ready (rs := [6]) (by kernel_rfl) (by simp) ?_
  refine AllReadyL.cons (o := _) rfl (fun K hK => ?_) AllReadyL.nil
  try simp only [List.getElem_toArray, List.getElem_cons_succ, List.getElem_cons_zero]
  rw [if_pos (by rfl)]
  refine wp_slice1 92 105 (.tmp 32) (by rfl) (wcells (j, b)).toArray (by rfl) iw zw Tryz.underlying92 HIW.out HZ1.out HZ3.out (by rw [HW.out]; omega) (by rw [HW.out]; omega) ?_
  clear hHeld
  refine hK.out _ _ ?_ (fun hHeld => ?_)
  · exact (HoldC.cons ((blk_cell (blk_alloc HK1.out.head) 2 _ rfl)) (HoldC.past (by kernel_rfl) HoldC.nil))
  clear hK K
  try simp only [List.getElem_toArray, List.getElem_cons_succ, List.getElem_cons_zero, Act.put, List.setIfInBounds_toArray, List.set_cons_zero, List.set_cons_succ]
  refine wpAnyL_ready (rs := [7]) (by kernel_rfl) (by simp) ?_
  refine AllReadyL.cons (o := _) rfl (fun K hK => ?_) AllReadyL.nil
  try simp only [List.getElem_toArray, List.getElem_cons_succ, List.getElem_cons_zero]
  rw [if_pos (by rfl)]
  refine wp_app_wr (.tmp 31) (.tmp 33) (by rfl) HK1.out.drew (j, b) ⟨hj, HBL.out⟩ hw (by rfl) (by rfl) ?_
  intro g2 cap2 w2 d2 e2 l2 HD2
  clear hHeld
  refine hK.out _ _ ?_ (fun hHeld => ?_)
  · exact (HoldC.past (by kernel_rfl) (HoldC.past (by kernel_rfl) HoldC.nil))
  clear hK K
  try simp only [List.getElem_toArray, List.getElem_cons_succ, List.getElem_cons_zero, Act.put, List.setIfInBounds_toArray, List.set_cons_zero, List.set_cons_succ]
  refine wpAnyL_take (i := 8) (oi := _) (v := ?_) rfl (by kernel_rfl) (by kernel_rfl) (by kernel_rfl) (by kernel_rfl) (by kernel_rfl) (fun _ _ _ h => h) (Or.inl ⟨by rfl, ?_⟩) (by assumption) (fun hNew => ?_)
  rotate_left
  · intro w _
    go_simp
    try with_reducible rfl
  clear hHeld
  have hHeld := hNew
  clear hNew
  try simp only [List.getElem_toArray, List.getElem_cons_succ, List.getElem_cons_zero, Act.put, List.setIfInBounds_toArray, List.set_cons_zero, List.set_cons_succ]
  refine wpAnyL_take (i := 9) (oi := _) (v := ?_) rfl (by kernel_rfl) (by kernel_rfl) (by kernel_rfl) (by kernel_rfl) (by kernel_rfl) (fun _ _ _ h => h) (Or.inl ⟨by rfl, ?_⟩) (by assumption) (fun hNew => ?_)
  rotate_left
  · intro w _
    go_simp
    try with_reducible rfl
  clear hHeld
  have hHeld := hNew
  clear hNew
  try simp only [List.getElem_toArray, List.getElem_cons_succ, List.getElem_cons_zero, Act.put, List.setIfInBounds_toArray, List.set_cons_zero, List.set_cons_succ]
  refine wpAnyL_ready (rs := [10]) (by kernel_rfl) (by simp) ?_
  refine AllReadyL.cons (o := _) rfl (fun K hK => ?_) AllReadyL.nil
  try simp only [List.getElem_toArray, List.getElem_cons_succ, List.getElem_cons_zero]
  go_simp
  clear hHeld
  refine hK.out _ _ ?_ (fun hHeld => ?_)
  · exact (HoldC.past (by kernel_rfl) (HoldC.past (by kernel_rfl) HoldC.nil))
  clear hK K
  try simp only [List.getElem_toArray, List.getElem_cons_succ, List.getElem_cons_zero, Act.put, List.setIfInBounds_toArray, List.set_cons_zero, List.set_cons_succ]
  refine wpAnyL_done (by kernel_rfl) ?_ _
  clear hHeld
  have hdp : ∀ w', Did w1.drew w' p S { d with since := d.since ++ [(j, b)] } → Did w1 w' p S { d with since := d.since ++ [(j, b)] } := fun w' h => Did.pre (by exact (Chg.refl _ _).drew) h
  have HD3 := Lib.hid (hdp _ HD2.out)
  clear hdp HD2
  generalize w2.setCell ⟨p, 2, none⟩ (.slice (some ⟨g2, 0, none⟩) (d.since.length + 1) cap2) = w4 at *
  clear d2 e2 l2 c2 f2 hpl
  go_wp2_with fail
  obtain ⟨S4, hd4, hs4, hc4⟩ := HD3.out
  have CO := Lib.hid (dop_any p S4 _ w4 hd4 ho)
  have HS4 := Lib.hid hs4
  have HC4 := Lib.hid hc4
  clear hd4 hs4 hc4
  by_cases hf : d.fuse = 0
  · have ho2 : Hid (DS.op { d with since := d.since ++ [(j, b)] } = (false, { d with since := d.since ++ [(j, b)], dead := true })) := Lib.hid (by unfold DS.op; rw [if_pos hf])
    have HWR : Hid (d.write (j : Int) b = (14, { d with since := d.since ++ [(j, b)], dead := true })) := Lib.hid (by
      unfold DS.write
      rw [if_neg (by rw [HDD.out]; simp), if_pos ⟨by omega, by omega, HBL.out⟩]
      simp only [Int.toNat_natCast, ho2.out]
      rfl)
    rw [ho2.out] at CO
    have HF := Lib.hid hf
    clear hf
    refine CO.out.mono ?_
    rintro e w5 ⟨rfl, hd5⟩
    have HD5 := Lib.hid hd5
    clear hd5 CO
    go_wp2
    go_ret
    rw [HWR.out]
    exact ⟨rfl, Did.pre HC1.out (Did.glue HS4.out HC4.out HD5.out)⟩
  · obtain ⟨d5, hd5e, hd5n, hd5w⟩ : ∃ d5 : DS, DS.op { d with since := d.since ++ [(j, b)] } = (true, d5) ∧ d5.n = d.n ∧ d5.now = d.now := by
      unfold DS.op
      rw [if_neg hf]
      exact ⟨_, rfl, rfl, rfl⟩
    have HWR : Hid (d.write (j : Int) b = (0, { d5 with now := upd d5.now j b })) := Lib.hid (by
      unfold DS.write
      rw [if_neg (by rw [HDD.out]; simp), if_pos ⟨by omega, by omega, HBL.out⟩]
      simp only [Int.toNat_natCast, hd5e]
      rfl)
    rw [hd5e] at CO
    dsimp only at CO
    have HF := Lib.hid hf
    have HE := Lib.hid hd5e
    clear hf hd5e
    refine CO.out.mono ?_
    rintro e w5 ⟨rfl, hd5⟩
    obtain ⟨S5, ⟨gn5, gl5, cn5, cl5, v5, H5⟩, hs5, hc5⟩ := hd5
    have hj5 : j < d5.n := by rw [hd5n]; exact hj
    have hlen5 := H5.now.len j hj5
    have hNS : N ∉ S := fun hm => by have := hS.out N hm; omega
    have hNS4 : N ∉ S4 := fun hm => by
      rcases HS4.out N hm with h1 | h1
      · exact hNS h1
      · omega
    have hb5 : w5.heap[N]? = w1.heap[N]? := (hc5.block N (Nat.lt_of_lt_of_le hN1 HC4.out.size) hNS4).trans (HC4.out.block N hN1 hNS)
    have r5 : w5.rangeAt N 1 (bvs b) := range_tail (range_keep HR1.out hb5)
    have q5 : w5.rangeAt gn5 (j * 64) (bvs (d5.now j)) := H5.now.range j hj5
    have hrow : d5.n ≤ cn5 ∧ cn5 ≤ maxLen := H5.capn
    have c50 : w5.cell? ⟨p, 0, none⟩ = some (.slice (some ⟨gn5, 0, none⟩) d5.n cn5) := blk_cell H5.head 0 _ rfl
    have th5 : Hid (w5.drew.drew.there gn5 (j * 64) (bvs b).toArray.size) := Lib.hid (by
      have h1 := H5.drew.drew.now.there j hj5
      have h2 : (bvs b).toArray.size = 64 := by simp [bvs_len, HBL.out]
      rw [h2]; exact h1)
    have hone := Lib.hid (all_oneCell_toArray (bvs_one b))
    have hzt : Hid ((Tryz.prog.info? 103).map (·.size) = some (bvs b).toArray.size) := Lib.hid (by rw [show (bvs b).toArray.size = (bvs b).length by simp]; exact hzs.out)
    have HD5n : Hid (Did w5 (w5.drew.drew.setCells gn5 (j * 64) (bvs b)) p S5 { d5 with now := upd d5.now j b }) := Lib.hid (Did.pre (w := w5.drew.drew) (by exact (Chg.refl _ _).drew.drew) (H5.drew.drew.put_now j b hj5 HBL.out))
    have HD5s : Hid (Did w5 w5.drew p S5 d5) := Lib.hid (Did.pre (w := w5.drew) (by exact (Chg.refl _ _).drew) (Did.same ⟨_, _, _, _, _, H5.drew⟩))
    have hz5 : Hid ((Tryz.prog.info? 103).map (·.size) = some (bvs (d5.now j)).length) := Lib.hid (by rw [bvs_len, hlen5]; kernel_rfl)
    have hneq := neq_sec (d5.now j) b hlen5 HBL.out
    have HS5 := Lib.hid hs5
    have HC5 := Lib.hid hc5
    have HR5 := Lib.hid r5
    have HQ5 := Lib.hid q5
    have HNW := Lib.hid hd5w
    have hfin : Hid (∀ w', Did w5 w' p S5 { d5 with now := upd d5.now j b } → Did w w' p S (d.write (j : Int) b).2) := Lib.hid (fun w' h => by
      rw [HWR.out]
      exact Did.pre HC1.out (Did.glue HS4.out HC4.out (Did.glue HS5.out HC5.out h)))
    obtain ⟨n5, hn5⟩ : ∃ n5, n5 = d5.n := ⟨_, rfl⟩
    rw [← hn5] at c50 hrow hj5
    obtain ⟨b0, hb0⟩ : ∃ b0, b0 = d5.now j := ⟨_, rfl⟩
    rw [← hb0] at hneq HQ5 hz5
    have HB0 := Lib.hid hb0
    have hjz : (j : Int) < (n5 : Int) := by omega
    have hjz0 : (0 : Int) ≤ (j : Int) := by omega
    have hjz1 : (j : Int).toNat = j := by omega
    have HRW : Hid ((d.write (j : Int) b).1 = 0) := Lib.hid (by rw [HWR.out])
    clear H5 hs5 hc5 hb5 r5 q5 hlen5 hd5n hd5w CO hNS hNS4 hn5 hb0
    by_cases heq : b0 = b
    · have hneq2 : ∀ w, (binOp .neq 103 (.agg (bvs b0).toArray) (.agg (bvs b).toArray)).run Tryz.prog w = .ok (.bool false) w := fun w => by rw [hneq w]; simp [heq]
      have HU : Hid ({ d5 with now := upd d5.now j b } = d5) := Lib.hid (by rw [upd_same _ _ _ (by rw [← HB0.out, heq])])
      clear hneq heq
      go_wp2_with fail
      refine wp_region_L [(9, fun w' => w'.cell? ⟨p, 0, none⟩ = some (.slice (some ⟨gn5, 0, none⟩) n5 cn5)), (9, fun w' => w'.rangeAt gn5 (j * 64) (bvs b0)), (9, fun w' => w'.rangeAt N 1 (bvs b))] (by kernel_rfl) ?_ (fun hHeld => ?_)
      · exact (HoldC.cons (c50) (HoldC.cons (HQ5.out) (HoldC.cons (HR5.out) HoldC.nil)))
      refine wpAnyL_take (i := 0) (oi := _) (v := ?_) rfl (by kernel_rfl) (by kernel_rfl) (by kernel_rfl) (by kernel_rfl) (by kernel_rfl) (fun _ _ _ h => h) (Or.inl ⟨by rfl, ?_⟩) (by assumption) (fun hNew => ?_)
      rotate_left
      · intro w _
        go_simp
        try with_reducible rfl
      clear hHeld
      have hHeld := hNew
      clear hNew
      try simp only [List.getElem_toArray, List.getElem_cons_succ, List.getElem_cons_zero, Act.put, List.setIfInBounds_toArray, List.set_cons_zero, List.set_cons_succ]
      refine wpAnyL_take (i := 1) (oi := _) (v := ?_) rfl (by kernel_rfl) (by kernel_rfl) (by kernel_rfl) (by kernel_rfl) (by kernel_rfl) (fun _ _ _ h => h) (Or.inl ⟨by rfl, ?_⟩) (by assumption) (fun hNew => ?_)
      rotate_left
      · intro w _
        go_simp
        try with_reducible rfl
      clear hHeld
      have hHeld := hNew
      clear hNew
      try simp only [List.getElem_toArray, List.getElem_cons_succ, List.getElem_cons_zero, Act.put, List.setIfInBounds_toArray, List.set_cons_zero, List.set_cons_succ]
      refine wpAnyL_take (i := 2) (oi := _) (v := ?_) rfl (by kernel_rfl) (by kernel_rfl) (by kernel_rfl) (by kernel_rfl) (by kernel_rfl) (fun _ _ _ h => h) (Or.inl ⟨by rfl, ?_⟩) (by assumption) (fun hNew => ?_)
      rotate_left
      · intro w _
        go_simp
        try with_reducible rfl
      clear hHeld
      have hHeld := hNew
      clear hNew
      try simp only [List.getElem_toArray, List.getElem_cons_succ, List.getElem_cons_zero, Act.put, List.setIfInBounds_toArray, List.set_cons_zero, List.set_cons_succ]
      refine wpAnyL_load 0 (i := 3) (oi := _) (v := ?_) rfl rfl (by kernel_rfl) (by kernel_rfl) (by kernel_rfl) (by kernel_rfl) (by kernel_rfl) (by kernel_rfl) (fun _ _ _ h => h) (Or.inl ⟨by rfl, ?_⟩) (by assumption) (fun hNew => ?_)
      rotate_left
      · intro w hSw
        (try dsimp only at hSw)
        go_simp
        try with_reducible rfl
      clear hHeld
      have hHeld := hNew
      clear hNew
      try simp only [List.getElem_toArray, List.getElem_cons_succ, List.getElem_cons_zero, Act.put, List.setIfInBounds_toArray, List.set_cons_zero, List.set_cons_succ]
      refine wpAnyL_take (i := 4) (oi := _) (v := ?_) rfl (by kernel_rfl) (by kernel_rfl) (by kernel_rfl) (by kernel_rfl) (by kernel_rfl) (fun _ _ _ h => h) (Or.inl ⟨by rfl, ?_⟩) (by assumption) (fun hNew => ?_)
      rotate_left
      · intro w _
        go_simp
        try with_reducible rfl
      clear hHeld
      have hHeld := hNew
      clear hNew
      try simp only [List.getElem_toArray, List.getElem_cons_succ, List.getElem_cons_zero, Act.put, List.setIfInBounds_toArray, List.set_cons_zero, List.set_cons_succ]
      refine wpAnyL_take (i := 5) (oi := _) (v := ?_) rfl (by kernel_rfl) (by kernel_rfl) (by kernel_rfl) (by kernel_rfl) (by kernel_rfl) (fun _ _ _ h => h) (Or.inl ⟨by rfl, ?_⟩) (by assumption) (fun hNew => ?_)
      rotate_left
      · intro w _
        go_simp
        try with_reducible rfl
      clear hHeld
      have hHeld := hNew
      clear hNew
      try simp only [List.getElem_toArray, List.getElem_cons_succ, List.getElem_cons_zero, Act.put, List.setIfInBounds_toArray, List.set_cons_zero, List.set_cons_succ]
      refine wpAnyL_load 1 (i := 6) (oi := _) (v := .agg (bvs b0).toArray) rfl rfl (by kernel_rfl) (by kernel_rfl) (by kernel_rfl) (by kernel_rfl) (by kernel_rfl) (by kernel_rfl) (fun _ _ _ h => h) (yieldsIf_load_mid (by rfl) 103 (.tmp 45) (by rfl) (gn5) (j * 64) (by rfl) (bvs b0) _ (fun w hw => hw) Tryz.underlying103 rfl hz5.out) (by assumption) (fun hNew => ?_)
      clear hHeld
      have hHeld := hNew
      clear hNew
      try simp only [List.getElem_toArray, List.getElem_cons_succ, List.getElem_cons_zero, Act.put, List.setIfInBounds_toArray, List.set_cons_zero, List.set_cons_succ]
      refine wpAnyL_take (i := 7) (oi := _) (v := ?_) rfl (by kernel_rfl) (by kernel_rfl) (by kernel_rfl) (by kernel_rfl) (by kernel_rfl) (fun _ _ _ h => h) (Or.inl ⟨by rfl, ?_⟩) (by assumption) (fun hNew => ?_)
      rotate_left
      · intro w _
        go_simp
        try with_reducible rfl
      clear hHeld
      have hHeld := hNew
      clear hNew
      try simp only [List.getElem_toArray, List.getElem_cons_succ, List.getElem_cons_zero, Act.put, List.setIfInBounds_toArray, List.set_cons_zero, List.set_cons_succ]
      refine wpAnyL_load 2 (i := 8) (oi := _) (v := .agg (bvs b).toArray) rfl rfl (by kernel_rfl) (by kernel_rfl) (by kernel_rfl) (by kernel_rfl) (by kernel_rfl) (by kernel_rfl) (fun _ _ _ h => h) (yieldsIf_load_mid (by rfl) 103 (.tmp 47) (by rfl) (N) (1) (by rfl) (bvs b) _ (fun w hw => hw) Tryz.underlying103 rfl hzs.out) (by assumption) (fun hNew => ?_)
      clear hHeld
      have hHeld := hNew
      clear hNew
      try simp only [List.getElem_toArray, List.getElem_cons_succ, List.getElem_cons_zero, Act.put, List.setIfInBounds_toArray, List.set_cons_zero, List.set_cons_succ]
      refine wpAnyL_ready (rs := [9]) (by kernel_rfl) (by simp) ?_
      refine AllReadyL.cons (o := _) rfl (fun K hK => ?_) AllReadyL.nil
      try simp only [List.getElem_toArray, List.getElem_cons_succ, List.getElem_cons_zero]
      go_simp
      clear hHeld
      refine hK.out _ _ ?_ (fun hHeld => ?_)
      · exact (HoldC.past (by kernel_rfl) (HoldC.past (by kernel_rfl) (HoldC.past (by kernel_rfl) HoldC.nil)))
      clear hK K
      try simp only [List.getElem_toArray, List.getElem_cons_succ, List.getElem_cons_zero, Act.put, List.setIfInBounds_toArray, List.set_cons_zero, List.set_cons_succ]
      refine wpAnyL_done (by kernel_rfl) ?_ _
      clear hHeld
      go_wp2
      go_ret
      exact ⟨by rw [HRW.out]; rfl, hfin.out _ (by rw [HU.out]; exact HD5s.out)⟩
    · have hneq2 : ∀ w, (binOp .neq 103 (.agg (bvs b0).toArray) (.agg (bvs b).toArray)).run Tryz.prog w = .ok (.bool true) w := fun w => by rw [hneq w]; simp [heq]
      clear hneq heq
      go_wp2_with fail
      refine wp_region_L [(9, fun w' => w'.cell? ⟨p, 0, none⟩ = some (.slice (some ⟨gn5, 0, none⟩) n5 cn5)), (9, fun w' => w'.rangeAt gn5 (j * 64) (bvs b0)), (9, fun w' => w'.rangeAt N 1 (bvs b))] (by kernel_rfl) ?_ (fun hHeld => ?_)
      · exact (HoldC.cons (c50) (HoldC.cons (HQ5.out) (HoldC.cons (HR5.out) HoldC.nil)))
      refine wpAnyL_take (i := 0) (oi := _) (v := ?_) rfl (by kernel_rfl) (by kernel_rfl) (by kernel_rfl) (by kernel_rfl) (by kernel_rfl) (fun _ _ _ h => h) (Or.inl ⟨by rfl, ?_⟩) (by assumption) (fun hNew => ?_)
      rotate_left
      · intro w _
        go_simp
        try with_reducible rfl
      clear hHeld
      have hHeld := hNew
      clear hNew
      try simp only [List.getElem_toArray, List.getElem_cons_succ, List.getElem_cons_zero, Act.put, List.setIfInBounds_toArray, List.set_cons_zero, List.set_cons_succ]
      refine wpAnyL_take (i := 1) (oi := _) (v := ?_) rfl (by kernel_rfl) (by kernel_rfl) (by kernel_rfl) (by kernel_rfl) (by kernel_rfl) (fun _ _ _ h => h) (Or.inl ⟨by rfl, ?_⟩) (by assumption) (fun hNew => ?_)
      rotate_left
      · intro w _
        go_simp
        try with_reducible rfl
      clear hHeld
      have hHeld := hNew
      clear hNew
      try simp only [List.getElem_toArray, List.getElem_cons_succ, List.getElem_cons_zero, Act.put, List.setIfInBounds_toArray, List.set_cons_zero, List.set_cons_succ]
      refine wpAnyL_take (i := 2) (oi := _) (v := ?_) rfl (by kernel_rfl) (by kernel_rfl) (by kernel_rfl) (by kernel_rfl) (by kernel_rfl) (fun _ _ _ h => h) (Or.inl ⟨by rfl, ?_⟩) (by assumption) (fun hNew => ?_)
      rotate_left
      · intro w _
        go_simp
        try with_reducible rfl
      clear hHeld
      have hHeld := hNew
      clear hNew
      try simp only [List.getElem_toArray, List.getElem_cons_succ, List.getElem_cons_zero, Act.put, List.setIfInBounds_toArray, List.set_cons_zero, List.set_cons_succ]
      refine wpAnyL_load 0 (i := 3) (oi := _) (v := ?_) rfl rfl (by kernel_rfl) (by kernel_rfl) (by kernel_rfl) (by kernel_rfl) (by kernel_rfl) (by kernel_rfl) (fun _ _ _ h => h) (Or.inl ⟨by rfl, ?_⟩) (by assumption) (fun hNew => ?_)
      rotate_left
      · intro w hSw
        (try dsimp only at hSw)
        go_simp
        try with_reducible rfl
      clear hHeld
      have hHeld := hNew
      clear hNew
      try simp only [List.getElem_toArray, List.getElem_cons_succ, List.getElem_cons_zero, Act.put, List.setIfInBounds_toArray, List.set_cons_zero, List.set_cons_succ]
      refine wpAnyL_take (i := 4) (oi := _) (v := ?_) rfl (by kernel_rfl) (by kernel_rfl) (by kernel_rfl) (by kernel_rfl) (by kernel_rfl) (fun _ _ _ h => h) (Or.inl ⟨by rfl, ?_⟩) (by assumption) (fun hNew => ?_)
      rotate_left
      · intro w _
        go_simp
        try with_reducible rfl
      clear hHeld
      have hHeld := hNew
      clear hNew
      try simp only [List.getElem_toArray, List.getElem_cons_succ, List.getElem_cons_zero, Act.put, List.setIfInBounds_toArray, List.set_cons_zero, List.set_cons_succ]
      refine wpAnyL_take (i := 5) (oi := _) (v := ?_) rfl (by kernel_rfl) (by kernel_rfl) (by kernel_rfl) (by kernel_rfl) (by kernel_rfl) (fun _ _ _ h => h) (Or.inl ⟨by rfl, ?_⟩) (by assumption) (fun hNew => ?_)
      rotate_left
      · intro w _
        go_simp
        try with_reducible rfl
      clear hHeld
      have hHeld := hNew
      clear hNew
      try simp only [List.getElem_toArray, List.getElem_cons_succ, List.getElem_cons_zero, Act.put, List.setIfInBounds_toArray, List.set_cons_zero, List.set_cons_succ]
      refine wpAnyL_load 1 (i := 6) (oi := _) (v := .agg (bvs b0).toArray) rfl rfl (by kernel_rfl) (by kernel_rfl) (by kernel_rfl) (by kernel_rfl) (by kernel_rfl) (by kernel_rfl) (fun _ _ _ h => h) (yieldsIf_load_mid (by rfl) 103 (.tmp 45) (by rfl) (gn5) (j * 64) (by rfl) (bvs b0) _ (fun w hw => hw) Tryz.underlying103 rfl hz5.out) (by assumption) (fun hNew => ?_)
      clear hHeld
      have hHeld := hNew
      clear hNew
      try simp only [List.getElem_toArray, List.getElem_cons_succ, List.getElem_cons_zero, Act.put, List.setIfInBounds_toArray, List.set_cons_zero, List.set_cons_succ]
      refine wpAnyL_take (i := 7) (oi := _) (v := ?_) rfl (by kernel_rfl) (by kernel_rfl) (by kernel_rfl) (by kernel_rfl) (by kernel_rfl) (fun _ _ _ h => h) (Or.inl ⟨by rfl, ?_⟩) (by assumption) (fun hNew => ?_)
      rotate_left
      · intro w _
        go_simp
        try with_reducible rfl
      clear hHeld
      have hHeld := hNew
      clear hNew
      try simp only [List.getElem_toArray, List.getElem_cons_succ, List.getElem_cons_zero, Act.put, List.setIfInBounds_toArray, List.set_cons_zero, List.set_cons_succ]
      refine wpAnyL_load 2 (i := 8) (oi := _) (v := .agg (bvs b).toArray) rfl rfl (by kernel_rfl) (by kernel_rfl) (by kernel_rfl) (by kernel_rfl) (by kernel_rfl) (by kernel_rfl) (fun _ _ _ h => h) (yieldsIf_load_mid (by rfl) 103 (.tmp 47) (by rfl) (N) (1) (by rfl) (bvs b) _ (fun w hw => hw) Tryz.underlying103 rfl hzs.out) (by assumption) (fun hNew => ?_)
      clear hHeld
      have hHeld := hNew
      clear hNew
      try simp only [List.getElem_toArray, List.getElem_cons_succ, List.getElem_cons_zero, Act.put, List.setIfInBounds_toArray, List.set_cons_zero, List.set_cons_succ]
      refine wpAnyL_ready (rs := [9]) (by kernel_rfl) (by simp) ?_
      refine AllReadyL.cons (o := _) rfl (fun K hK => ?_) AllReadyL.nil
      try simp only [List.getElem_toArray, List.getElem_cons_succ, List.getElem_cons_zero]
      go_simp
      clear hHeld
      refine hK.out _ _ ?_ (fun hHeld => ?_)
      · exact (HoldC.past (by kernel_rfl) (HoldC.past (by kernel_rfl) (HoldC.past (by kernel_rfl) HoldC.nil)))
      clear hK K
      try simp only [List.getElem_toArray, List.getElem_cons_succ, List.getElem_cons_zero, Act.put, List.setIfInBounds_toArray, List.set_cons_zero, List.set_cons_succ]
      refine wpAnyL_done (by kernel_rfl) ?_ _
      clear hHeld
      go_wp2_with fail
      refine wp_region_L [(8, fun w' => w'.cell? ⟨p, 0, none⟩ = some (.slice (some ⟨gn5, 0, none⟩) n5 cn5)), (8, fun w' => w'.rangeAt N 1 (bvs b))] (by kernel_rfl) ?_ (fun hHeld => ?_)
      · exact (HoldC.cons (c50) (HoldC.cons (HR5.out) HoldC.nil))
      refine wpAnyL_take (i := 0) (oi := _) (v := ?_) rfl (by kernel_rfl) (by kernel_rfl) (by kernel_rfl) (by kernel_rfl) (by kernel_rfl) (fun _ _ _ h => h) (Or.inl ⟨by rfl, ?_⟩) (by assumption) (fun hNew => ?_)
      rotate_left
      · intro w _
        go_simp
        try with_reducible rfl
      clear hHeld
      have hHeld := hNew
      clear hNew
      try simp only [List.getElem_toArray, List.getElem_cons_succ, List.getElem_cons_zero, Act.put, List.setIfInBounds_toArray, List.set_cons_zero, List.set_cons_succ]
      refine wpAnyL_take (i := 1) (oi := _) (v := ?_) rfl (by kernel_rfl) (by kernel_rfl) (by kernel_rfl) (by kernel_rfl) (by kernel_rfl) (fun _ _ _ h => h) (Or.inl ⟨by rfl, ?_⟩) (by assumption) (fun hNew => ?_)
      rotate_left
      · intro w _
        go_simp
        try with_reducible rfl
      clear hHeld
      have hHeld := hNew
      clear hNew
      try simp only [List.getElem_toArray, List.getElem_cons_succ, List.getElem_cons_zero, Act.put, List.setIfInBounds_toArray, List.set_cons_zero, List.set_cons_succ]
      refine wpAnyL_take (i := 2) (oi := _) (v := ?_) rfl (by kernel_rfl) (by kernel_rfl) (by kernel_rfl) (by kernel_rfl) (by kernel_rfl) (fun _ _ _ h => h) (Or.inl ⟨by rfl, ?_⟩) (by assumption) (fun hNew => ?_)
      rotate_left
      · intro w _
        go_simp
        try with_reducible rfl
      clear hHeld
      have hHeld := hNew
      clear hNew
      try simp only [List.getElem_toArray, List.getElem_cons_succ, List.getElem_cons_zero, Act.put, List.setIfInBounds_toArray, List.set_cons_zero, List.set_cons_succ]
      refine wpAnyL_load 0 (i := 3) (oi := _) (v := ?_) rfl rfl (by kernel_rfl) (by kernel_rfl) (by kernel_rfl) (by kernel_rfl) (by kernel_rfl) (by kernel_rfl) (fun _ _ _ h => h) (Or.inl ⟨by rfl, ?_⟩) (by assumption) (fun hNew => ?_)
      rotate_left
      · intro w hSw
        (try dsimp only at hSw)
        go_simp
        try with_reducible rfl
      clear hHeld
      have hHeld := hNew
      clear hNew
      try simp only [List.getElem_toArray, List.getElem_cons_succ, List.getElem_cons_zero, Act.put, List.setIfInBounds_toArray, List.set_cons_zero, List.set_cons_succ]
      refine wpAnyL_take (i := 4) (oi := _) (v := ?_) rfl (by kernel_rfl) (by kernel_rfl) (by kernel_rfl) (by kernel_rfl) (by kernel_rfl) (fun _ _ _ h => h) (Or.inl ⟨by rfl, ?_⟩) (by assumption) (fun hNew => ?_)
      rotate_left
      · intro w _
        go_simp
        try with_reducible rfl
      clear hHeld
      have hHeld := hNew
      clear hNew
      try simp only [List.getElem_toArray, List.getElem_cons_succ, List.getElem_cons_zero, Act.put, List.setIfInBounds_toArray, List.set_cons_zero, List.set_cons_succ]
      refine wpAnyL_take (i := 5) (oi := _) (v := ?_) rfl (by kernel_rfl) (by kernel_rfl) (by kernel_rfl) (by kernel_rfl) (by kernel_rfl) (fun _ _ _ h => h) (Or.inl ⟨by rfl, ?_⟩) (by assumption) (fun hNew => ?_)
      rotate_left
      · intro w _
        go_simp
        try with_reducible rfl
      clear hHeld
      have hHeld := hNew
      clear hNew
      try simp only [List.getElem_toArray, List.getElem_cons_succ, List.getElem_cons_zero, Act.put, List.setIfInBounds_toArray, List.set_cons_zero, List.set_cons_succ]
      refine wpAnyL_load 1 (i := 6) (oi := _) (v := .agg (bvs b).toArray) rfl rfl (by kernel_rfl) (by kernel_rfl) (by kernel_rfl) (by kernel_rfl) (by kernel_rfl) (by kernel_rfl) (fun _ _ _ h => h) (yieldsIf_load_mid (by rfl) 103 (.tmp 55) (by rfl) (N) (1) (by rfl) (bvs b) _ (fun w hw => hw) Tryz.underlying103 rfl hzs.out) (by assumption) (fun hNew => ?_)
      clear hHeld
      have hHeld := hNew
      clear hNew
      try simp only [List.getElem_toArray, List.getElem_cons_succ, List.getElem_cons_zero, Act.put, List.setIfInBounds_toArray, List.set_cons_zero, List.set_cons_succ]
      refine wpAnyL_take (i := 7) (oi := _) (v := ?_) rfl (by kernel_rfl) (by kernel_rfl) (by kernel_rfl) (by kernel_rfl) (by kernel_rfl) (fun _ _ _ h => h) (Or.inl ⟨by rfl, ?_⟩) (by assumption) (fun hNew => ?_)
      rotate_left
      · intro w _
        go_simp
        try with_reducible rfl
      clear hHeld
      have hHeld := hNew
      clear hNew
      try simp only [List.getElem_toArray, List.getElem_cons_succ, List.getElem_cons_zero, Act.put, List.setIfInBounds_toArray, List.set_cons_zero, List.set_cons_succ]
      refine wpAnyL_ready (rs := [8]) (by kernel_rfl) (by simp) ?_
      refine AllReadyL.cons (o := _) rfl (fun K hK => ?_) AllReadyL.nil
      try simp only [List.getElem_toArray, List.getElem_cons_succ, List.getElem_cons_zero]
      rw [if_pos (by rfl)]
      refine wp_store_mid 103 (.tmp 57) (.tmp 56) (by rfl) gn5 (j * 64) (bvs b).toArray (by rfl) (by rfl) th5.out hzt.out hone.out ?_
      clear hHeld
      refine hK.out _ _ ?_ (fun hHeld => ?_)
      · exact (HoldC.past (by kernel_rfl) (HoldC.past (by kernel_rfl) HoldC.nil))
      clear hK K
      try simp only [List.getElem_toArray, List.getElem_cons_succ, List.getElem_cons_zero, Act.put, List.setIfInBounds_toArray, List.set_cons_zero, List.set_cons_succ]
      refine wpAnyL_done (by kernel_rfl) ?_ _
      clear hHeld
      go_wp2
      go_ret
      exact ⟨by rw [HRW.out]; rfl, hfin.out _ HD5n.out⟩
end Go.Proofs.YtdkhmfcfihbjeaaGreatDoor.W

/- Package disk: Sync, Write of whatever disk; Fuse, Ops. -/
namespace Go.Proofs.YtdkhmfcfihbjeaaGreatDoor.W
open Go.RowKit
set_option linter.unusedVariables false
set_option linter.unusedSimpArgs false

set_option maxHeartbeats 4000000 in
set_option maxRecDepth 100000 in
theorem dsync_any (p : Nat) (S : List Nat) (d : DS) (w : World) (h : DiskAt w p S d) (ho : d.ops ≤ 1000000000) (hw : d.since.length ≤ 1000000) :
    Calls Tryz.prog 80 #[.pointer (some ⟨p, 0, none⟩)] w fun e w' => e = .returned (.int .i64 (d.sync).1) ∧ Did w w' p S (d.sync).2 := by
  obtain ⟨w1, hw1⟩ : ∃ w1, w1 = w.alloc (.cells #[.pointer (some ⟨p, 0, none⟩)] 44) := ⟨_, rfl⟩
  have hc1 : Chg [] w w1 := by rw [hw1]; exact (Chg.refl _ _).alloc _
  have h1 : DiskAt w1 p S d := h.keep hc1 (by simp)
  have hB0 : w1.cell? ⟨w.heap.size, 0, none⟩ = some (.pointer (some ⟨p, 0, none⟩)) := by rw [hw1]; exact blk_cell (heap_alloc_new w _) 0 _ rfl
  have CG := Lib.hid (dgone_any p S d w1 h1)
  have CO := Lib.hid (dop_any p S d w1 h1 ho)
  have HW1 := Lib.hid hw1
  by_cases hd : d.dead = true
  · have HS : Hid (d.sync = (14, d)) := Lib.hid (by unfold DS.sync; rw [if_pos hd])
    have HF : Hid (Did w w1 p S d) := Lib.hid (Did.pre hc1 (Did.same h1))
    rw [hd] at CG
    rw [HS.out]
    clear hd h h1 hc1 hw1 CO
    go_enter Tryz.func80, Tryz.ntmps80
    go_wp2_with fail
    rw [← HW1.out]
    refine CG.out.mono ?_
    rintro e w' ⟨rfl, hq⟩
    subst hq
    go_wp2
    go_ret
    exact ⟨rfl, HF.out⟩
  · by_cases hf : d.fuse = 0
    · have hd' : d.dead = false := by simpa using hd
      have ho2 : d.op = (false, { d with dead := true }) := by unfold DS.op; rw [if_pos hf]
      have HS : Hid (d.sync = (14, { d with dead := true })) := Lib.hid (by unfold DS.sync; rw [if_neg hd, ho2]; rfl)
      rw [hd'] at CG
      rw [ho2] at CO
      dsimp only at CO
      rw [HS.out]
      have HC1 := Lib.hid hc1
      clear hd h h1 hc1 hw1 hf hd' ho2
      go_enter Tryz.func80, Tryz.ntmps80
      go_wp2_with fail
      rw [← HW1.out]
      refine CG.out.mono ?_
      rintro e w' ⟨rfl, hq⟩
      subst hq
      go_wp2_with fail
      refine CO.out.mono ?_
      rintro e w' ⟨rfl, hq⟩
      have HF := Lib.hid (Did.pre HC1.out hq)
      clear hq
      go_wp2
      go_ret
      exact ⟨rfl, HF.out⟩
    · exact dsync_ok p S d w h ho hw (by simpa using hd) hf

set_option maxHeartbeats 4000000 in
set_option maxRecDepth 100000 in
theorem dwrite_dead (p : Nat) (S : List Nat) (d : DS) (k : Int) (v : Value) (b : List UInt8) (w : World) (h : DiskAt w p S d) (hd : d.dead = true) :
    Calls Tryz.prog 79 #[.pointer (some ⟨p, 0, none⟩), .int .i64 k, v] w fun e w' => e = .returned (.int .i64 (d.write k b).1) ∧ Did w w' p S (d.write k b).2 := by
  have CG := Lib.hid (dgone_any p S d w h)
  have HW : Hid (d.write k b = (14, d)) := Lib.hid (by unfold DS.write; rw [if_pos hd])
  have HF := Lib.hid (Did.same h)
  rw [hd] at CG
  rw [HW.out]
  clear hd h
  go_enter Tryz.func79, Tryz.ntmps79
  go_wp2_with (go_at_call 118; refine CG.out.mono ?_; rintro e w' ⟨rfl, hq⟩; subst hq)
  go_ret
  exact ⟨rfl, HF.out⟩
theorem dwrite_any (p : Nat) (S : List Nat) (d : DS) (k : Int) (v : Value) (b : List UInt8) (w : World) (h : DiskAt w p S d) (ho : d.ops ≤ 1000000000) (hw : d.since.length ≤ 1000000) (hk : 0 ≤ k ∧ k < d.n) (hb : b.length = 64) (hv : BytesAt w v b) :
    Calls Tryz.prog 79 #[.pointer (some ⟨p, 0, none⟩), .int .i64 k, v] w fun e w' => e = .returned (.int .i64 (d.write k b).1) ∧ Did w w' p S (d.write k b).2 := by
  by_cases hd : d.dead = true
  · exact dwrite_dead p S d k v b w h hd
  · obtain ⟨j, rfl⟩ := Int.eq_ofNat_of_zero_le hk.1
    obtain ⟨a, cap, rfl, h1, h2, h3⟩ := hv
    rcases h3 with ⟨rfl, _⟩ | ⟨g, o, rfl, hc⟩
    · simp at hb
    · rw [hb]
      refine dwrite_ok p S d j g o cap b w h ho hw (by simpa using hd) (by omega) hb (fun i u hu => ?_)
      have hi : i < b.length := by
        have := (List.getElem?_eq_some_iff.1 hu).1
        rwa [bvs_len] at this
      rw [bvs_at b i hi] at hu
      cases hu
      exact hc i hi

def DS.setFuse (d : DS) (n : Int) : DS := { d with fuse := max n (-1) }
set_option maxHeartbeats 4000000 in
set_option maxRecDepth 100000 in
theorem dfuse_any (p : Nat) (S : List Nat) (d : DS) (n : Int) (w : World) (h : DiskAt w p S d) (hn : n ≤ 9223372036854775807) :
    Calls Tryz.prog 18 #[.pointer (some ⟨p, 0, none⟩), .int .i64 n] w fun e w' => e = .returned (.tuple #[]) ∧ Did w w' p S (d.setFuse n) := by
  obtain ⟨gn, gl, cn, cl, v, H⟩ := h
  have c3 := blk_cell H.head 3 _ rfl
  have f3 := blk_frozen H.head 3
  have hlt := blk_lt H.head
  have HF : Hid (Did w (w.setCell ⟨p, 3, none⟩ (.int .i64 (max n (-1)))) p S (d.setFuse n)) := Lib.hid
    (H.put (d' := d.setFuse n) ((Chg.refl _ _).setCell (.inl (by simp)) _) (set_blk H.head) rfl rfl rfl rfl (by show -1 ≤ max n (-1) ∧ max n (-1) ≤ 9223372036854775807; omega))
  clear H
  go_enter Tryz.func18, Tryz.ntmps18
  go_wp2
  go_end0
  exact ⟨rfl, HF.out⟩

end Go.Proofs.YtdkhmfcfihbjeaaGreatDoor.W

/- Package disk: New. -/
namespace Go.Proofs.YtdkhmfcfihbjeaaGreatDoor.W
open Go.RowKit
set_option linter.unusedVariables false
set_option linter.unusedSimpArgs false

def DS.new (n : Nat) : DS := { n := n, now := fun _ => zeros 64, lasts := fun _ => zeros 64, since := [], fuse := -1, ops := 0, dead := false }
theorem zero_sec : (Tryz.prog.info? 103).map (fun i => (i.zero.map (·.cells), i.size, i.bytes)) = some (some (Array.replicate 64 (.int .u8 0)), 64, 64) := by kernel_rfl
def secZ (n : Nat) : Array Value := madeCells (Array.replicate 64 (.int .u8 0)) (n * 64)
theorem secZ_size (n : Nat) : (secZ n).size = n * 64 := size_madeCells _ _
theorem secZ_at (n i : Nat) (h : i < n * 64) : (secZ n)[i]? = some (bv 0) := by
  unfold secZ madeCells
  have h2 : i % 64 < 64 := Nat.mod_lt _ (by omega)
  have h3 : (Array.replicate 64 (Value.int .u8 0))[i % 64]! = Value.int .u8 0 := by
    rw [getElem!_pos _ _ (by simpa using h2), Array.getElem_replicate]
  simp [h, bv, h3]
theorem make_secs (n : Nat) (hn : n ≤ 100000) (w : World) : (Instr.makeSlice 91 (.int .i64 (n : Int)) (.int .i64 (n : Int))).run Tryz.prog w = .ok (.slice (some ⟨w.heap.size, 0, none⟩) n n) (w.alloc (.cells (secZ n) 103)) := by
  obtain ⟨i, hi, hz⟩ := Option.map_eq_some_iff.1 zero_sec
  simp only [Prod.mk.injEq, Option.map_eq_some_iff] at hz
  obtain ⟨⟨z, hz1, hz2⟩, h3, h4⟩ := hz
  have h := run_make (P := Tryz.prog) w 91 103 i z Tryz.underlying91 hi hz1 .i64 .i64 n n (by omega) (Int.le_refl _) (by rw [h4]; omega) (by omega)
  simp only [Int.toNat_natCast, hz2, h3] at h
  exact h
theorem zeros_getD (n i : Nat) : (zeros n).getD i 0 = 0 := by
  unfold zeros
  rw [List.getD_eq_getElem?_getD, List.getElem?_replicate]
  split <;> rfl
theorem secs_made {w : World} {g n : Nat} (h : w.heap[g]? = some (.cells (secZ n) 103 (0, 0))) : SecsAt w g n (fun _ => zeros 64) :=
  ⟨_, h, by rw [secZ_size]; exact Nat.le_refl _, fun k hk => ⟨by simp [zeros], fun i hi => by rw [secZ_at _ _ (by omega), zeros_getD]⟩⟩

/-- A new disk. -/
def Newly (w w' : World) (p : Nat) (S : List Nat) (d : DS) : Prop := DiskAt w' p S d ∧ (∀ x ∈ S, w.heap.size ≤ x) ∧ Chg [] w w'
theorem newly_of {w w' : World} {gn gl p n : Nat} (hp : w'.heap[p]? = some (.cells #[.slice (some ⟨gn, 0, none⟩) n n, .slice (some ⟨gl, 0, none⟩) n n, .slice none 0 0, .int .i64 (-1), .int .i64 0, .bool false] 94 (0, 0)))
    (h1 : w'.heap[gn]? = some (.cells (secZ n) 103 (0, 0))) (h2 : w'.heap[gl]? = some (.cells (secZ n) 103 (0, 0))) (hn : n ≤ 4160) (ha : p ≠ gn ∧ p ≠ gl ∧ gn ≠ gl) (hb : w.heap.size ≤ p ∧ w.heap.size ≤ gn ∧ w.heap.size ≤ gl) (hc : Chg [] w w') :
    Newly w w' p [p, gn, gl] (DS.new n) := by
  refine ⟨⟨gn, gl, n, n, .slice none 0 0, ⟨hp, secs_made h1, secs_made h2, World.ownsRow_nil _ _ _ _, by simp [DS.new], hn, ⟨Nat.le_refl _, by show n ≤ maxLen; unfold maxLen; omega⟩, ⟨Nat.le_refl _, by show n ≤ maxLen; unfold maxLen; omega⟩, ⟨by simp [DS.new], by simp [DS.new]⟩, ha, by simp [Value.ownBlock],
    ⟨by simp, by simp, by simp, by simp [Value.ownBlock]⟩, ?_⟩⟩, ?_, hc⟩
  · intro x hx
    simp at hx
    rcases hx with rfl | rfl | rfl
    · exact blk_lt hp
    · exact blk_lt h1
    · exact blk_lt h2
  · intro x hx
    simp at hx
    rcases hx with rfl | rfl | rfl
    · exact hb.1
    · exact hb.2.1
    · exact hb.2.2

theorem heap_at {w : World} {o : Obj} {k : Nat} (h : k = w.heap.size) : (w.alloc o).heap[k]? = some o := by rw [h]; exact heap_alloc_new w o
theorem three_new (w : World) (o1 o2 o3 : Obj) : (((w.alloc o1).alloc o2).alloc o3).heap[w.heap.size]? = some o1 ∧ (((w.alloc o1).alloc o2).alloc o3).heap[w.heap.size + 1]? = some o2 ∧ (((w.alloc o1).alloc o2).alloc o3).heap[w.heap.size + 1 + 1]? = some o3 ∧ Chg [] w (((w.alloc o1).alloc o2).alloc o3) :=
  ⟨blk_alloc (blk_alloc (heap_alloc_new w o1)), blk_alloc (heap_at (by simp)), heap_at (by simp), (((Chg.refl [] w).alloc _).alloc _).alloc _⟩

set_option maxHeartbeats 4000000 in
set_option maxRecDepth 100000 in
theorem dnew_any (n : Nat) (w : World) (h2 : 2 ≤ n) (hm : n ≤ 4160) :
    Calls Tryz.prog 14 #[.int .i64 (n : Int)] w fun e w' => ∃ p S, e = .returned (.tuple #[.pointer (some ⟨p, 0, none⟩), .int .i64 0]) ∧ Newly w w' p S (DS.new n) := by
  have q1 : decide ((n : Int) < 2) = false := decide_eq_false (by omega)
  have q2 : decide ((n : Int) > 4160) = false := decide_eq_false (by omega)
  have hmk := make_secs n (by omega)
  have HS := Lib.hid (secZ_size n)
  generalize hz : secZ n = Z at *
  have HZ := Lib.hid hz
  clear hz
  go_enter Tryz.func14, Tryz.ntmps14
  go_wp2_with fail
  refine wp_region_L [] (by kernel_rfl) ?_ (fun hHeld => ?_)
  · exact HoldC.nil
  refine wpAnyL_take (i := 0) (oi := _) (v := ?_) rfl (by kernel_rfl) (by kernel_rfl) (by kernel_rfl) (by kernel_rfl) (by kernel_rfl) (fun _ _ _ h => h) (Or.inl ⟨by rfl, ?_⟩) (by assumption) (fun hNew => ?_)
  rotate_left
  · intro w _
    go_simp
    try with_reducible rfl
  clear hHeld
  have hHeld := hNew
  clear hNew
  try simp only [List.getElem_toArray, List.getElem_cons_succ, List.getElem_cons_zero, Act.put, List.setIfInBounds_toArray, List.set_cons_zero, List.set_cons_succ]
  refine wpAnyL_take (i := 2) (oi := _) (v := ?_) rfl (by kernel_rfl) (by kernel_rfl) (by kernel_rfl) (by kernel_rfl) (by kernel_rfl) (fun _ _ _ h => h) (Or.inl ⟨by rfl, ?_⟩) (by assumption) (fun hNew => ?_)
  rotate_left
  · intro w _
    go_simp
    try with_reducible rfl
  clear hHeld
  have hHeld := hNew
  clear hNew
  try simp only [List.getElem_toArray, List.getElem_cons_succ, List.getElem_cons_zero, Act.put, List.setIfInBounds_toArray, List.set_cons_zero, List.set_cons_succ]
  refine wpAnyL_ready (rs := [1, 3]) (by kernel_rfl) (by simp) ?_
  refine AllReadyL.cons (o := _) rfl (fun K hK => ?_) (AllReadyL.cons (o := _) rfl (fun K hK => ?_) AllReadyL.nil)
  · try simp only [List.getElem_toArray, List.getElem_cons_succ, List.getElem_cons_zero]
    go_simp
    clear hHeld
    refine hK.out _ _ ?_ (fun hHeld => ?_)
    · exact HoldC.nil
    clear hK K
    try simp only [List.getElem_toArray, List.getElem_cons_succ, List.getElem_cons_zero, Act.put, List.setIfInBounds_toArray, List.set_cons_zero, List.set_cons_succ]
    refine wpAnyL_ready (rs := [3]) (by kernel_rfl) (by simp) ?_
    refine AllReadyL.cons (o := _) rfl (fun K hK => ?_) AllReadyL.nil
    try simp only [List.getElem_toArray, List.getElem_cons_succ, List.getElem_cons_zero]
    go_simp
    clear hHeld
    refine hK.out _ _ ?_ (fun hHeld => ?_)
    · exact HoldC.nil
    clear hK K
    try simp only [List.getElem_toArray, List.getElem_cons_succ, List.getElem_cons_zero, Act.put, List.setIfInBounds_toArray, List.set_cons_zero, List.set_cons_succ]
    refine wpAnyL_take (i := 4) (oi := _) (v := ?_) rfl (by kernel_rfl) (by kernel_rfl) (by kernel_rfl) (by kernel_rfl) (by kernel_rfl) (fun _ _ _ h => h) (Or.inl ⟨by rfl, ?_⟩) (by assumption) (fun hNew => ?_)
    rotate_left
    · intro w _
      go_simp
      try with_reducible rfl
    clear hHeld
    have hHeld := hNew
    clear hNew
    try simp only [List.getElem_toArray, List.getElem_cons_succ, List.getElem_cons_zero, Act.put, List.setIfInBounds_toArray, List.set_cons_zero, List.set_cons_succ]
    refine wpAnyL_ready (rs := [5]) (by kernel_rfl) (by simp) ?_
    refine AllReadyL.cons (o := _) rfl (fun K hK => ?_) AllReadyL.nil
    try simp only [List.getElem_toArray, List.getElem_cons_succ, List.getElem_cons_zero]
    go_simp
    clear hHeld
    refine hK.out _ _ ?_ (fun hHeld => ?_)
    · exact HoldC.nil
    clear hK K
    try simp only [List.getElem_toArray, List.getElem_cons_succ, List.getElem_cons_zero, Act.put, List.setIfInBounds_toArray, List.set_cons_zero, List.set_cons_succ]
    refine wpAnyL_take (i := 6) (oi := _) (v := ?_) rfl (by kernel_rfl) (by kernel_rfl) (by kernel_rfl) (by kernel_rfl) (by kernel_rfl) (fun _ _ _ h => h) (Or.inl ⟨by rfl, ?_⟩) (by assumption) (fun hNew => ?_)
    rotate_left
    · intro w _
      go_simp
      try with_reducible rfl
    clear hHeld
    have hHeld := hNew
    clear hNew
    try simp only [List.getElem_toArray, List.getElem_cons_succ, List.getElem_cons_zero, Act.put, List.setIfInBounds_toArray, List.set_cons_zero, List.set_cons_succ]
    refine wpAnyL_take (i := 7) (oi := _) (v := ?_) rfl (by kernel_rfl) (by kernel_rfl) (by kernel_rfl) (by kernel_rfl) (by kernel_rfl) (fun _ _ _ h => h) (Or.inl ⟨by rfl, ?_⟩) (by assumption) (fun hNew => ?_)
    rotate_left
    · intro w _
      go_simp
      try with_reducible rfl
    clear hHeld
    have hHeld := hNew
    clear hNew
    try simp only [List.getElem_toArray, List.getElem_cons_succ, List.getElem_cons_zero, Act.put, List.setIfInBounds_toArray, List.set_cons_zero, List.set_cons_succ]
    refine wpAnyL_done (by kernel_rfl) ?_ _
    clear hHeld
    go_wp2
    go_ret2
    obtain ⟨h1, h2', h3, hc⟩ := three_new w (.cells Z 103) (.cells Z 103) (.cells #[.slice (some ⟨w.heap.size, 0, none⟩) n n, .slice (some ⟨w.heap.size + 1, 0, none⟩) n n, .slice none 0 0, .int .i64 (-1), .int .i64 0, .bool false] 94)
    rw [← HZ.out] at *
    exact ⟨w.heap.size + 1 + 1, _, rfl, newly_of h3 h1 h2' hm (by omega) (by omega) hc.drew⟩
  · try simp only [List.getElem_toArray, List.getElem_cons_succ, List.getElem_cons_zero]
    go_simp
    clear hHeld
    refine hK.out _ _ ?_ (fun hHeld => ?_)
    · exact HoldC.nil
    clear hK K
    try simp only [List.getElem_toArray, List.getElem_cons_succ, List.getElem_cons_zero, Act.put, List.setIfInBounds_toArray, List.set_cons_zero, List.set_cons_succ]
    refine wpAnyL_ready (rs := [1]) (by kernel_rfl) (by simp) ?_
    refine AllReadyL.cons (o := _) rfl (fun K hK => ?_) AllReadyL.nil
    try simp only [List.getElem_toArray, List.getElem_cons_succ, List.getElem_cons_zero]
    go_simp
    clear hHeld
    refine hK.out _ _ ?_ (fun hHeld => ?_)
    · exact HoldC.nil
    clear hK K
    try simp only [List.getElem_toArray, List.getElem_cons_succ, List.getElem_cons_zero, Act.put, List.setIfInBounds_toArray, List.set_cons_zero, List.set_cons_succ]
    refine wpAnyL_take (i := 4) (oi := _) (v := ?_) rfl (by kernel_rfl) (by kernel_rfl) (by kernel_rfl) (by kernel_rfl) (by kernel_rfl) (fun _ _ _ h => h) (Or.inl ⟨by rfl, ?_⟩) (by assumption) (fun hNew => ?_)
    rotate_left
    · intro w _
      go_simp
      try with_reducible rfl
    clear hHeld
    have hHeld := hNew
    clear hNew
    try simp only [List.getElem_toArray, List.getElem_cons_succ, List.getElem_cons_zero, Act.put, List.setIfInBounds_toArray, List.set_cons_zero, List.set_cons_succ]
    refine wpAnyL_ready (rs := [5]) (by kernel_rfl) (by simp) ?_
    refine AllReadyL.cons (o := _) rfl (fun K hK => ?_) AllReadyL.nil
    try simp only [List.getElem_toArray, List.getElem_cons_succ, List.getElem_cons_zero]
    go_simp
    clear hHeld
    refine hK.out _ _ ?_ (fun hHeld => ?_)
    · exact HoldC.nil
    clear hK K
    try simp only [List.getElem_toArray, List.getElem_cons_succ, List.getElem_cons_zero, Act.put, List.setIfInBounds_toArray, List.set_cons_zero, List.set_cons_succ]
    refine wpAnyL_take (i := 6) (oi := _) (v := ?_) rfl (by kernel_rfl) (by kernel_rfl) (by kernel_rfl) (by kernel_rfl) (by kernel_rfl) (fun _ _ _ h => h) (Or.inl ⟨by rfl, ?_⟩) (by assumption) (fun hNew => ?_)
    rotate_left
    · intro w _
      go_simp
      try with_reducible rfl
    clear hHeld
    have hHeld := hNew
    clear hNew
    try simp only [List.getElem_toArray, List.getElem_cons_succ, List.getElem_cons_zero, Act.put, List.setIfInBounds_toArray, List.set_cons_zero, List.set_cons_succ]
    refine wpAnyL_take (i := 7) (oi := _) (v := ?_) rfl (by kernel_rfl) (by kernel_rfl) (by kernel_rfl) (by kernel_rfl) (by kernel_rfl) (fun _ _ _ h => h) (Or.inl ⟨by rfl, ?_⟩) (by assumption) (fun hNew => ?_)
    rotate_left
    · intro w _
      go_simp
      try with_reducible rfl
    clear hHeld
    have hHeld := hNew
    clear hNew
    try simp only [List.getElem_toArray, List.getElem_cons_succ, List.getElem_cons_zero, Act.put, List.setIfInBounds_toArray, List.set_cons_zero, List.set_cons_succ]
    refine wpAnyL_done (by kernel_rfl) ?_ _
    clear hHeld
    go_wp2
    go_ret2
    obtain ⟨h1, h2', h3, hc⟩ := three_new w (.cells Z 103) (.cells Z 103) (.cells #[.slice (some ⟨w.heap.size + 1, 0, none⟩) n n, .slice (some ⟨w.heap.size, 0, none⟩) n n, .slice none 0 0, .int .i64 (-1), .int .i64 0, .bool false] 94)
    rw [← HZ.out] at *
    exact ⟨w.heap.size + 1 + 1, _, rfl, newly_of h3 h2' h1 hm (by omega) (by omega) hc.drew⟩
end Go.Proofs.YtdkhmfcfihbjeaaGreatDoor.W

/- Package disk: Image. -/
namespace Go.Proofs.YtdkhmfcfihbjeaaGreatDoor.W
open Go.RowKit
set_option linter.unusedVariables false
set_option linter.unusedSimpArgs false

/-- The first k sectors in a row. -/
def flat (k : Nat) (f : Nat → List UInt8) : List UInt8 := (List.range k).flatMap f
theorem flat_succ (k : Nat) (f : Nat → List UInt8) : flat (k + 1) f = flat k f ++ f k := by simp [flat, List.range_succ]
theorem flat_len (k : Nat) (f : Nat → List UInt8) (h : ∀ i, i < k → (f i).length = 64) : (flat k f).length = k * 64 := by
  induction k with
  | zero => rfl
  | succ k ih => rw [flat_succ, List.length_append, ih (fun i hi => h i (by omega)), h k (by omega)]; omega

end Go.Proofs.YtdkhmfcfihbjeaaGreatDoor.W

/- Slots, plainly. -/
namespace Go.Proofs.YtdkhmfcfihbjeaaGreatDoor.W
set_option linter.unusedVariables false
set_option linter.unusedSimpArgs false

/-- How many sectors so many bytes need. -/
def nsec (n : Nat) : Nat := (n + 63) / 64
/-- The sector k of bytes that are laid: noughts behind the end. -/
def secAt (b : List UInt8) (k : Nat) : List UInt8 := (b.drop (k * 64)).take 64 ++ zeros (64 - ((b.drop (k * 64)).take 64).length)
theorem secAt_len (b : List UInt8) (k : Nat) : (secAt b k).length = 64 := by
  unfold secAt zeros
  rw [List.length_append, List.length_replicate, List.length_take]
  omega
/-- Laying the sectors j .. m-1 of b from sector 'at' on, then a sync. -/
def DS.lay (d : DS) (pos : Nat) (b : List UInt8) : Nat → Nat → Int × DS
  | 0, _ => d.sync
  | k + 1, j => if (d.write (pos + j : Nat) (secAt b j)).1 ≠ 0 then d.write (pos + j : Nat) (secAt b j) else (d.write (pos + j : Nat) (secAt b j)).2.lay pos b k (j + 1)
def DS.lays (d : DS) (pos : Nat) (b : List UInt8) : Int × DS := d.lay pos b (nsec b.length) 0

structure SS where
  d : DS
  first : Nat
  rows : List SRow
def SS.has (s : SS) (i : Int) : Prop := 0 ≤ i ∧ i < s.rows.length
instance (s : SS) (i : Int) : Decidable (s.has i) := inferInstanceAs (Decidable (_ ∧ _))
def SS.row (s : SS) (i : Int) : SRow := s.rows.getD i.toNat noRow
def SS.used (s : SS) (i : Int) : Bool := decide (s.has i) && (s.row i).used
def SS.key (s : SS) (i : Int) : List UInt8 := if s.used i then (s.row i).key else []
def SS.pos (s : SS) (i : Int) : Nat := s.first + 8 * i.toNat
/-- What a slot holds. -/
def SS.data (s : SS) (i : Int) : List UInt8 := (flat (nsec (s.row i).n) (fun k => s.d.now (s.pos i + 1 + k))).take (s.row i).n
def SS.get (s : SS) (i : Int) : List UInt8 × Int :=
  if ¬ s.has i then ([], 1) else if (s.row i).used = false then ([], 6) else if s.d.dead then ([], 14) else (s.data i, 0)
/-- The bytes of a head. -/
def headBytes (n : Nat) (key : List UInt8) : List UInt8 := (penRaw (penNum (penNum [] 0 1 1).1 (penNum [] 0 1 1).2 n 2).1 (penNum (penNum [] 0 1 1).1 (penNum [] 0 1 1).2 n 2).2 key).1
def SS.put (s : SS) (i : Int) (key b : List UInt8) : Int × SS :=
  if ¬ s.has i then (1, s) else if 40 < key.length ∨ 448 < b.length then (3, s) else if (s.row i).used then (7, s) else
    if (s.d.lays (s.pos i + 1) b).1 ≠ 0 then ((s.d.lays (s.pos i + 1) b).1, { s with d := (s.d.lays (s.pos i + 1) b).2 }) else
    if ((s.d.lays (s.pos i + 1) b).2.lays (s.pos i) (headBytes b.length key)).1 ≠ 0 then (((s.d.lays (s.pos i + 1) b).2.lays (s.pos i) (headBytes b.length key)).1, { s with d := ((s.d.lays (s.pos i + 1) b).2.lays (s.pos i) (headBytes b.length key)).2 }) else
    (0, { s with d := ((s.d.lays (s.pos i + 1) b).2.lays (s.pos i) (headBytes b.length key)).2, rows := s.rows.set i.toNat ⟨true, b.length, key⟩ })
def SS.clear (s : SS) (i : Int) : Int × SS :=
  if ¬ s.has i then (1, s) else if (s.row i).used = false then (6, s) else
    if (s.d.lays (s.pos i) (zeros 64)).1 ≠ 0 then ((s.d.lays (s.pos i) (zeros 64)).1, { s with d := (s.d.lays (s.pos i) (zeros 64)).2 }) else
    (0, { s with d := (s.d.lays (s.pos i) (zeros 64)).2, rows := s.rows.set i.toNat noRow })
def rowFree : List SRow → Nat → Int
  | [], _ => -1
  | r :: rs, k => if r.used = false then (k : Int) else rowFree rs (k + 1)
def SS.free (s : SS) : Int := rowFree s.rows 0
/-- Slots that may be. -/
structure SS.Ok (s : SS) : Prop where
  room : s.first + 8 * s.rows.length ≤ s.d.n
  rows : ∀ r ∈ s.rows, r.n ≤ 448 ∧ r.key.length ≤ 40
end Go.Proofs.YtdkhmfcfihbjeaaGreatDoor.W

/- An object in memory: a block of fields, and rows of its own. -/
namespace Go.Proofs.YtdkhmfcfihbjeaaGreatDoor.W
open Go.RowKit
set_option linter.unusedVariables false
set_option linter.unusedSimpArgs false

/-- A row of an object's own. -/
structure RowD where
  e : TypeId
  size : Nat
  v : Value
  n : Nat
  xs : List Value
def RowD.At (w : World) (r : RowD) : Prop := w.ownsRow 0 r.e r.size r.v r.n r.xs
def blks (p : Nat) (rs : List RowD) : List Nat := p :: rs.filterMap (·.v.ownBlock)
structure ObjAt (w : World) (p t : Nat) (cs : Array Value) (rs : List RowD) : Prop where
  head : w.heap[p]? = some (.cells cs t (0, 0))
  rows : ∀ r ∈ rs, r.At w
  apart : (blks p rs).Nodup
theorem mem_blks {p k : Nat} {rs : List RowD} (h : k ∈ blks p rs) : k = p ∨ ∃ r ∈ rs, r.v.ownBlock = some k := by
  rcases List.mem_cons.1 h with h | h
  · exact .inl h
  · obtain ⟨r, hr, he⟩ := List.mem_filterMap.1 h
    exact .inr ⟨r, hr, he⟩
theorem blks_row {p k : Nat} {rs : List RowD} {r : RowD} (h : r ∈ rs) (hk : r.v.ownBlock = some k) : k ∈ blks p rs := List.mem_cons_of_mem _ (List.mem_filterMap.2 ⟨r, h, hk⟩)
theorem blks_head {p : Nat} {rs : List RowD} : p ∈ blks p rs := List.mem_cons_self ..
theorem ObjAt.lim {w : World} {p t : Nat} {cs : Array Value} {rs : List RowD} (h : ObjAt w p t cs rs) : ∀ x ∈ blks p rs, x < w.heap.size := fun x hx => by
  rcases mem_blks hx with rfl | ⟨r, hr, he⟩
  · exact blk_lt h.head
  · exact (World.ownsRow.lt (h.rows r hr) x he).2
theorem ObjAt.keep {w w' : World} {p t : Nat} {cs : Array Value} {rs : List RowD} {T : List Nat} (h : ObjAt w p t cs rs) (hc : Chg T w w') (ha : ∀ x ∈ blks p rs, x ∉ T) : ObjAt w' p t cs rs :=
  ⟨hc.keep h.head (ha p blks_head), fun r hr => row_keep (h.rows r hr) (fun g hg => hc.block g (World.ownsRow.lt (h.rows r hr) g hg).2 (ha g (blks_row hr hg))), h.apart⟩
theorem ObjAt.row_ne {w : World} {p t : Nat} {cs : Array Value} {rs : List RowD} (h : ObjAt w p t cs rs) {r : RowD} (hr : r ∈ rs) {k : Nat} (hk : r.v.ownBlock = some k) : k ≠ p := fun e => by
  have := (List.nodup_cons.1 h.apart).1
  exact this (List.mem_filterMap.2 ⟨r, hr, by rw [hk, e]⟩)
/-- A store into a field that is no row. -/
theorem ObjAt.setHead {w : World} {p t : Nat} {cs : Array Value} {rs : List RowD} (h : ObjAt w p t cs rs) (j : Nat) (u : Value) : ObjAt (w.setCell ⟨p, j, none⟩ u) p t (cs.setIfInBounds j u) rs :=
  ⟨set_blk h.head, fun r hr => row_keep (h.rows r hr) (fun g hg => Below.heap_setCell w ⟨p, j, none⟩ u g (h.row_ne hr hg)), h.apart⟩
/-- One row is another: its blocks are the old ones, but for one that may be new. -/
theorem row_swap {p : Nat} {a b : List RowD} {r r' : RowD} {N : Nat} (h : (blks p (a ++ r :: b)).Nodup) (hl : ∀ x ∈ blks p (a ++ r :: b), x < N) (hat : ∀ k, r'.v.ownBlock = some k → r.v.ownBlock = some k ∨ N ≤ k) :
    (blks p (a ++ r' :: b)).Nodup ∧ ∀ x ∈ blks p (a ++ r' :: b), x ∈ blks p (a ++ r :: b) ∨ N ≤ x := by
  have hmem : ∀ x ∈ blks p (a ++ r' :: b), x ∈ blks p (a ++ r :: b) ∨ N ≤ x := fun x hx => by
    rcases mem_blks hx with rfl | ⟨q, hq, he⟩
    · exact .inl blks_head
    · rcases List.mem_append.1 hq with hq | hq
      · exact .inl (blks_row (List.mem_append_left _ hq) he)
      · rcases List.mem_cons.1 hq with rfl | hq
        · rcases hat x he with h1 | h1
          · exact .inl (blks_row (List.mem_append_right _ (List.mem_cons_self ..)) h1)
          · exact .inr h1
        · exact .inl (blks_row (List.mem_append_right _ (List.mem_cons_of_mem _ hq)) he)
  refine ⟨?_, hmem⟩
  unfold blks at *
  rw [List.filterMap_append, List.filterMap_cons] at *
  cases hr : r'.v.ownBlock with
  | none =>
    simp only [hr]
    cases hr2 : r.v.ownBlock with
    | none => rw [hr2] at h; exact h
    | some k =>
      rw [hr2] at h
      refine h.sublist ?_
      exact (List.Sublist.append_left (List.sublist_cons_self _ _) _).cons_cons _
  | some k =>
    simp only [hr]
    rcases hat k hr with h1 | h1
    · rw [h1] at h; exact h
    · have hbase : (p :: (a.filterMap (·.v.ownBlock) ++ b.filterMap (·.v.ownBlock))).Nodup := by
        cases hr2 : r.v.ownBlock with
        | none => rw [hr2] at h; exact h
        | some k2 =>
          rw [hr2] at h
          exact h.sublist ((List.Sublist.append_left (List.sublist_cons_self _ _) _).cons_cons _)
      have hlt : ∀ x ∈ p :: (a.filterMap (·.v.ownBlock) ++ b.filterMap (·.v.ownBlock)), x < N := fun x hx => hl x (by
        rcases List.mem_cons.1 hx with rfl | hx
        · exact List.mem_cons_self ..
        · refine List.mem_cons_of_mem _ ?_
          rcases List.mem_append.1 hx with hx | hx
          · exact List.mem_append_left _ hx
          · refine List.mem_append_right _ ?_
            cases hr2 : r.v.ownBlock with
            | none => exact hx
            | some k2 => exact List.mem_cons_of_mem _ hx)
      have hk : k ∉ p :: (a.filterMap (·.v.ownBlock) ++ b.filterMap (·.v.ownBlock)) := fun hm => by have := hlt k hm; omega
      have hperm : (p :: (a.filterMap (·.v.ownBlock) ++ k :: b.filterMap (·.v.ownBlock))).Perm (k :: p :: (a.filterMap (·.v.ownBlock) ++ b.filterMap (·.v.ownBlock))) :=
        ((List.perm_middle).cons p).trans (List.Perm.swap k p _)
      exact hperm.nodup_iff.2 (List.nodup_cons.2 ⟨hk, hbase⟩)
/-- A row grows, or is set. -/
theorem ObjAt.grow {w w2 : World} {p t : Nat} {cs : Array Value} {a b : List RowD} {r r' : RowD} (h : ObjAt w p t cs (a ++ r :: b)) (hg : w.grownBy w2 r.v.ownBlock) (hrow : r'.At w2)
    (hat : ∀ k, r'.v.ownBlock = some k → r.v.ownBlock = some k ∨ w.heap.size ≤ k) : ObjAt w2 p t cs (a ++ r' :: b) ∧ (∀ x ∈ blks p (a ++ r' :: b), x ∈ blks p (a ++ r :: b) ∨ w.heap.size ≤ x) ∧ Chg (blks p (a ++ r :: b)) w w2 := by
  have hmr : r ∈ a ++ r :: b := List.mem_append_right _ (List.mem_cons_self ..)
  obtain ⟨h1, h2⟩ := row_swap (r' := r') h.apart h.lim hat
  have hc : Chg r.v.ownBlock.toList w w2 := (Chg.refl _ w).grown hg (fun k hk => .inl (by rw [hk]; simp))
  refine ⟨⟨hc.keep h.head ?_, fun q hq => ?_, h1⟩, h2, hc.mono (fun x hx => .inl (blks_row hmr (by simpa using hx)))⟩
  · intro hm
    exact h.row_ne hmr (by simpa using hm : r.v.ownBlock = some p) rfl
  · have hother : ∀ q, q ∈ a ∨ q ∈ b → q ∈ a ++ r :: b → q.At w2 := fun q hab hq => row_keep (h.rows q hq) (fun g hgq => hc.block g (World.ownsRow.lt (h.rows q hq) g hgq).2 (by
      intro hm
      have hrg : r.v.ownBlock = some g := by simpa using hm
      have hnd := (List.nodup_cons.1 h.apart).2
      rw [List.filterMap_append, List.filterMap_cons, hrg] at hnd
      simp only at hnd
      have hd := List.nodup_append.1 hnd
      rcases hab with hab | hab
      · exact hd.2.2 g (List.mem_filterMap.2 ⟨q, hab, hgq⟩) g (List.mem_cons_self ..) rfl
      · exact (List.nodup_cons.1 hd.2.1).1 (List.mem_filterMap.2 ⟨q, hab, hgq⟩)))
    rcases List.mem_append.1 hq with hq1 | hq1
    · exact hother q (.inl hq1) (List.mem_append_left _ hq1)
    · rcases List.mem_cons.1 hq1 with rfl | hq1
      · exact hrow
      · exact hother q (.inr hq1) (List.mem_append_right _ (List.mem_cons_of_mem _ hq1))

theorem row_set {w : World} {base e size n g cap : Nat} {xs : List Value} (h : w.ownsRow base e size (.slice (some ⟨g, 0, none⟩) n cap) n xs) (j : Nat) (u : Value) (hj : j < n * size) :
    (w.setCell ⟨g, j, none⟩ u).ownsRow base e size (.slice (some ⟨g, 0, none⟩) n cap) n (xs.set j u) := by
  refine ⟨by rw [List.length_set]; exact h.1, .inr ?_⟩
  rcases h.2 with ⟨h1, _⟩ | ⟨g', cap', cur, hv, hb, hg, h1, h2, h3, h4⟩
  · cases h1
  · obtain ⟨rfl, rfl⟩ : g = g' ∧ cap = cap' := by simpa using hv
    refine ⟨g, cap, cur.setIfInBounds j u, rfl, hb, set_blk hg, h1, h2, by simpa using h3, ?_⟩
    rw [Array.toList_setIfInBounds, ← h4]
    apply List.ext_getElem? (fun i => ?_)
    simp only [List.getElem?_take, List.getElem?_set]
    by_cases hi : i < n * size
    · rw [if_pos hi, if_pos hi]
      by_cases hij : j = i
      · subst hij
        rw [if_pos rfl, if_pos rfl]
        have hlt : j < cur.toList.length := by
          have : n * size ≤ cap * size := Nat.mul_le_mul_right _ h1
          simp; omega
        rw [if_pos hlt, if_pos (by rw [List.length_take]; omega)]
      · rw [if_neg hij, if_neg hij]
    · rw [if_neg hi, if_neg (show ¬ j = i by omega), if_neg hi]
end Go.Proofs.YtdkhmfcfihbjeaaGreatDoor.W

/- Slots in memory; package slot: has, Count, Used, Key, at, sectors. -/
namespace Go.Proofs.YtdkhmfcfihbjeaaGreatDoor.W
open Go.RowKit
set_option linter.unusedVariables false
set_option linter.unusedSimpArgs false

def rcell (x : SRow × Value) : List Value := [.bool x.1.used, .int .i64 (x.1.n : Int), x.2]
def rcells (R : List (SRow × Value)) : List Value := R.flatMap rcell
theorem rcells_at : ∀ (R : List (SRow × Value)) (i j : Nat) (x : SRow × Value), R[i]? = some x → j < 3 → (rcells R)[i * 3 + j]? = (rcell x)[j]?
  | [], i, j, x, h, _ => by simp at h
  | y :: R, i, j, x, h, hj => by
    have e : rcells (y :: R) = rcell y ++ rcells R := rfl
    have hy : (rcell y).length = 3 := rfl
    rw [e]
    cases i with
    | zero =>
      simp at h; subst h
      rw [Nat.zero_mul, Nat.zero_add, List.getElem?_append_left (by omega)]
    | succ i =>
      rw [List.getElem?_append_right (by omega), hy, show (i + 1) * 3 + j - 3 = i * 3 + j by omega]
      exact rcells_at R i j x (by simpa using h) hj
theorem rcells_app (R : List (SRow × Value)) (x : SRow × Value) : rcells (R ++ [x]) = rcells R ++ rcell x := by simp [rcells]
theorem rcells_set : ∀ (R : List (SRow × Value)) (i : Nat) (x : SRow × Value), i < R.length → rcells (R.set i x) = (((rcells R).set (i * 3) (.bool x.1.used)).set (i * 3 + 1) (.int .i64 (x.1.n : Int))).set (i * 3 + 2) x.2
  | [], i, x, h => by simp at h
  | y :: R, i, x, h => by
    have e : ∀ z, rcells (z :: R) = rcell z ++ rcells R := fun _ => rfl
    cases i with
    | zero => rw [List.set_cons_zero, e, e]; rfl
    | succ i =>
      have ih := rcells_set R i x (by simpa using h)
      have e2 : rcells (y :: R.set i x) = rcell y ++ rcells (R.set i x) := rfl
      rw [List.set_cons_succ, e2, ih, e]
      have h3 : (rcell y).length = 3 := rfl
      rw [List.set_append_right _ _ (by omega), List.set_append_right _ _ (by omega), List.set_append_right _ _ (by omega), h3, show (i + 1) * 3 - 3 = i * 3 by omega, show (i + 1) * 3 + 1 - 3 = i * 3 + 1 by omega, show (i + 1) * 3 + 2 - 3 = i * 3 + 2 by omega]
def rowD (rv : Value) (R : List (SRow × Value)) : RowD := ⟨192, 3, rv, R.length, rcells R⟩

/-- Slots in block q over a disk in block p; U: the blocks that may be written. -/
structure SlotsOk (w : World) (q p : Nat) (S U : List Nat) (s : SS) (rv : Value) (R : List (SRow × Value)) : Prop where
  obj : ObjAt w q 190 #[.pointer (some ⟨p, 0, none⟩), .int .i64 (s.first : Int), rv] [rowD rv R]
  disk : DiskAt w p S s.d
  rows : R.map (·.1) = s.rows
  sep : ∀ x ∈ blks q [rowD rv R], x ∉ S
  keys : ∀ x ∈ R, BytesAt w x.2 x.1.key ∧ ∀ g, x.2.ownBlock = some g → g < w.heap.size ∧ g ∉ U
  uS : ∀ x ∈ S, x ∈ U
  uB : ∀ x ∈ blks q [rowD rv R], x ∈ U
  uL : ∀ x ∈ U, x < w.heap.size
  ok : s.Ok
def SlotsAt (w : World) (q p : Nat) (U : List Nat) (s : SS) : Prop := ∃ S rv R, SlotsOk w q p S U s rv R
theorem SlotsAt.keep {w w' : World} {q p : Nat} {U T : List Nat} {s : SS} (h : SlotsAt w q p U s) (hc : Chg T w w') (ha : ∀ x ∈ U, x ∉ T) (hk : T = [] ∨ True) (hT : ∀ x ∈ T, x ∈ U ∨ w.heap.size ≤ x ∨ ∀ S rv R, SlotsOk w q p S U s rv R → ∀ y ∈ R, y.2.ownBlock ≠ some x) : SlotsAt w' q p U s := by
  obtain ⟨S, rv, R, h⟩ := h
  refine ⟨S, rv, R, h.obj.keep hc (fun x hx => ha x (h.uB x hx)), h.disk.keep hc (fun x hx => ha x (h.uS x hx)), h.rows, h.sep, fun x hx => ?_, h.uS, h.uB, fun x hx => Nat.lt_of_lt_of_le (h.uL x hx) hc.size, h.ok⟩
  obtain ⟨h1, h2⟩ := h.keys x hx
  refine ⟨h1.chg hc (fun k hk hm => ?_), fun g hg => ⟨Nat.lt_of_lt_of_le (h2 g hg).1 hc.size, (h2 g hg).2⟩⟩
  rcases hT k hm with h3 | h3 | h3
  · exact (h2 k hk).2 h3
  · have := (h2 k hk).1; omega
  · exact h3 S rv R h x hx hk
theorem SlotsAt.keep0 {w w' : World} {q p : Nat} {U : List Nat} {s : SS} (h : SlotsAt w q p U s) (hc : Chg [] w w') : SlotsAt w' q p U s := h.keep hc (by simp) (.inl rfl) (by simp)
/-- What doing with slots leaves. -/
def Sid (w w' : World) (q p : Nat) (U : List Nat) (s : SS) : Prop := ∃ U', SlotsAt w' q p U' s ∧ (∀ x ∈ U', x ∈ U ∨ w.heap.size ≤ x) ∧ Chg U w w'
theorem Sid.same {w : World} {q p : Nat} {U : List Nat} {s : SS} (h : SlotsAt w q p U s) : Sid w w q p U s := ⟨U, h, fun x hx => .inl hx, Chg.refl _ _⟩

theorem SlotsOk.len {w : World} {q p : Nat} {S U : List Nat} {s : SS} {rv : Value} {R : List (SRow × Value)} (h : SlotsOk w q p S U s rv R) : R.length = s.rows.length := by rw [← h.rows, List.length_map]
theorem SlotsOk.few {w : World} {q p : Nat} {S U : List Nat} {s : SS} {rv : Value} {R : List (SRow × Value)} (h : SlotsOk w q p S U s rv R) : s.first + 8 * s.rows.length ≤ 4160 := by
  obtain ⟨gn, gl, cn, cl, v, hd⟩ := h.disk
  exact Nat.le_trans h.ok.room hd.few
/-- The form of the rows' value. -/
theorem SlotsOk.form {w : World} {q p : Nat} {S U : List Nat} {s : SS} {rv : Value} {R : List (SRow × Value)} (h : SlotsOk w q p S U s rv R) : ∃ a cap, rv = .slice a s.rows.length cap ∧ s.rows.length ≤ cap := by
  rw [← h.len]
  have hr : w.ownsRow 0 192 3 rv R.length (rcells R) := h.obj.rows _ (List.mem_singleton.2 rfl)
  rcases hr.2 with ⟨h1, h2⟩ | ⟨g, cap, cur, h1, _, _, h3, h4, _⟩
  · exact ⟨none, 0, by rw [h1, h2], by omega⟩
  · exact ⟨_, cap, h1, h3⟩
/-- A row that is there. -/
theorem SlotsOk.at {w : World} {q p : Nat} {S U : List Nat} {s : SS} {rv : Value} {R : List (SRow × Value)} (h : SlotsOk w q p S U s rv R) (i : Nat) (hi : i < s.rows.length) :
    ∃ g cap kv, rv = .slice (some ⟨g, 0, none⟩) s.rows.length cap ∧ s.rows.length ≤ cap ∧ cap ≤ maxLen ∧ R[i]? = some (s.rows.getD i noRow, kv) ∧ w.cell? ⟨g, i * 3, none⟩ = some (.bool (s.rows.getD i noRow).used) ∧
      w.cell? ⟨g, i * 3 + 1, none⟩ = some (.int .i64 ((s.rows.getD i noRow).n : Int)) ∧ w.cell? ⟨g, i * 3 + 2, none⟩ = some kv ∧ BytesAt w kv (s.rows.getD i noRow).key ∧ ∀ k, kv.ownBlock = some k → k < w.heap.size ∧ k ∉ U := by
  have hl := h.len
  have hr : w.ownsRow 0 192 3 rv R.length (rcells R) := h.obj.rows _ (List.mem_singleton.2 rfl)
  have hiR : i < R.length := by omega
  have hri : s.rows.getD i noRow = (R[i]).1 := by
    rw [← h.rows, List.getD_eq_getElem?_getD, List.getElem?_map, List.getElem?_eq_getElem hiR]; rfl
  rcases hr.2 with ⟨h1, h2⟩ | ⟨g, cap, cur, h1, _, _, h3, h4, _⟩
  · omega
  · subst h1
    have hcell : ∀ j, j < 3 → ∀ u, (rcell R[i])[j]? = some u → w.cell? ⟨g, i * 3 + j, none⟩ = some u := fun j hj u hu => by
      have := hr.cells (g := g) rfl (i * 3 + j) u (by rw [rcells_at R i j R[i] (List.getElem?_eq_getElem hiR) hj]; exact hu)
      rwa [add_none, Nat.zero_add] at this
    refine ⟨g, cap, (R[i]).2, by rw [hl], by omega, h4, by rw [hri]; exact List.getElem?_eq_getElem hiR, ?_, ?_, ?_, ?_⟩
    · rw [hri]; exact hcell 0 (by omega) _ rfl
    · rw [hri]; exact hcell 1 (by omega) _ rfl
    · exact hcell 2 (by omega) _ rfl
    · rw [hri]; exact h.keys _ (List.getElem_mem hiR)

set_option maxHeartbeats 2000000 in
set_option maxRecDepth 100000 in
theorem shas_any (q p : Nat) (U : List Nat) (s : SS) (i : Int) (w : World) (h : SlotsAt w q p U s) : Calls Tryz.prog 137 #[.pointer (some ⟨q, 0, none⟩), .int .i64 i] w fun e w' => e = .returned (.bool (decide (s.has i))) ∧ w = w' := by
  obtain ⟨S, rv, R, H⟩ := h
  obtain ⟨a, cap, hrv, hcap⟩ := H.form
  have c2 := blk_cell H.obj.head 2 _ rfl
  subst hrv
  have hd : decide (s.has i) = (decide (0 ≤ i) && decide (i < (s.rows.length : Int))) := by
    rw [Bool.eq_iff_iff]
    simp only [decide_eq_true_eq, Bool.and_eq_true]
    exact Iff.rfl
  have HD := Lib.hid hd
  clear H hd
  generalize s.rows.length = n at *
  by_cases h1 : 0 ≤ i
  · have d1 : decide (i ≥ 0) = true := decide_eq_true h1
    have HX : Hid (decide (s.has i) = decide (i < (n : Int))) := Lib.hid (by rw [HD.out, decide_eq_true h1, Bool.true_and])
    go_enter Tryz.func137, Tryz.ntmps137
    go_wp2
    go_ret
    exact ⟨by rw [HX.out]; rfl, rfl⟩
  · have d1 : decide (i ≥ 0) = false := decide_eq_false h1
    have HX : Hid (decide (s.has i) = false) := Lib.hid (by rw [HD.out, decide_eq_false h1, Bool.false_and])
    go_enter Tryz.func137, Tryz.ntmps137
    go_wp2
    go_ret
    exact ⟨by rw [HX.out]; rfl, rfl⟩

set_option maxHeartbeats 2000000 in
set_option maxRecDepth 100000 in
theorem scount_any (q p : Nat) (U : List Nat) (s : SS) (w : World) (h : SlotsAt w q p U s) : Calls Tryz.prog 92 #[.pointer (some ⟨q, 0, none⟩)] w fun e w' => e = .returned (.int .i64 (s.rows.length : Int)) ∧ w = w' := by
  obtain ⟨S, rv, R, H⟩ := h
  obtain ⟨a, cap, hrv, hcap⟩ := H.form
  have c2 := blk_cell H.obj.head 2 _ rfl
  subst hrv
  clear H
  go_enter Tryz.func92, Tryz.ntmps92
  go_wp2
  go_ret
  exact ⟨rfl, rfl⟩

set_option maxHeartbeats 2000000 in
set_option maxRecDepth 100000 in
theorem sat_any (q p : Nat) (U : List Nat) (s : SS) (i : Nat) (w : World) (h : SlotsAt w q p U s) (hi : i ≤ 1000) : Calls Tryz.prog 162 #[.pointer (some ⟨q, 0, none⟩), .int .i64 (i : Int)] w fun e w' => e = .returned (.int .i64 ((s.pos i : Nat) : Int)) ∧ w = w' := by
  obtain ⟨S, rv, R, H⟩ := h
  have c1 := blk_cell H.obj.head 1 _ rfl
  have hfew := H.few
  have HX : Hid ((s.first : Int) + 8 * (i : Int) = ((s.pos i : Nat) : Int)) := Lib.hid (by unfold SS.pos; simp)
  have hf : s.first ≤ 4160 := by omega
  clear H hfew
  generalize s.first = f at *
  go_enter Tryz.func162, Tryz.ntmps162
  go_wp2
  go_ret
  exact ⟨by rw [← HX.out]; rfl, rfl⟩

set_option maxHeartbeats 2000000 in
set_option maxRecDepth 100000 in
theorem ssec_any (n : Nat) (w : World) (hn : n ≤ 1000000000) : Calls Tryz.prog 161 #[.int .i64 (n : Int)] w fun e w' => e = .returned (.int .i64 ((nsec n : Nat) : Int)) ∧ w = w' := by
  have HX : Hid (((n : Int) + 64 - 1) / 64 = ((nsec n : Nat) : Int)) := Lib.hid (by unfold nsec; omega)
  go_enter Tryz.func161, Tryz.ntmps161
  go_wp2
  go_ret
  exact ⟨by rw [← HX.out]; rfl, rfl⟩
end Go.Proofs.YtdkhmfcfihbjeaaGreatDoor.W

/- Package slot: Used, Key, Free, Find; bytes.Equal. -/
namespace Go.Proofs.YtdkhmfcfihbjeaaGreatDoor.W
open Go.RowKit
set_option linter.unusedVariables false
set_option linter.unusedSimpArgs false

theorem SS.used_true {s : SS} {i : Int} (h : s.has i) : s.used i = (s.row i).used := by unfold SS.used; rw [decide_eq_true h, Bool.true_and]
theorem SS.used_false {s : SS} {i : Int} (h : ¬ s.has i) : s.used i = false := by unfold SS.used; rw [decide_eq_false h, Bool.false_and]

set_option maxHeartbeats 2000000 in
set_option maxRecDepth 100000 in
theorem sused_any (q p : Nat) (U : List Nat) (s : SS) (i : Int) (w : World) (h : SlotsAt w q p U s) : Calls Tryz.prog 93 #[.pointer (some ⟨q, 0, none⟩), .int .i64 i] w fun e w' => e = .returned (.bool (s.used i)) ∧ w = w' := by
  have CH := Lib.hid (shas_any q p U s i w h)
  by_cases hi : s.has i
  · rw [decide_eq_true hi] at CH
    obtain ⟨S, rv, R, H⟩ := h
    obtain ⟨h0, h1⟩ := hi
    obtain ⟨j, rfl⟩ := Int.eq_ofNat_of_zero_le h0
    obtain ⟨g, cap, kv, hrv, hcap, hcm, hR, k0, k1, k2, k3, k4⟩ := H.at j (by omega)
    have c2 := blk_cell H.obj.head 2 _ rfl
    subst hrv
    have HX : Hid (s.used (j : Int) = (s.rows.getD j noRow).used) := Lib.hid (by rw [SS.used_true ⟨h0, h1⟩]; rfl)
    rw [HX.out]
    generalize s.rows.getD j noRow = r at *
    generalize s.rows.length = n at *
    have hjz : (j : Int) < (n : Int) := h1
    have hjz1 : (j : Int).toNat = j := by omega
    clear H hR k3 k4
    go_enter Tryz.func93, Tryz.ntmps93
    go_wp2_with (go_at_call 137; refine CH.out.mono ?_; rintro e w' ⟨rfl, hq⟩; subst hq)
    go_ret
    exact ⟨rfl, rfl⟩
  · rw [decide_eq_false hi] at CH
    rw [SS.used_false hi]
    clear hi h
    go_enter Tryz.func93, Tryz.ntmps93
    go_wp2_with (go_at_call 137; refine CH.out.mono ?_; rintro e w' ⟨rfl, hq⟩; subst hq)
    go_ret
    exact ⟨rfl, rfl⟩

set_option maxHeartbeats 2000000 in
set_option maxRecDepth 100000 in
theorem skey_any (q p : Nat) (U : List Nat) (s : SS) (i : Int) (w : World) (h : SlotsAt w q p U s) : Calls Tryz.prog 95 #[.pointer (some ⟨q, 0, none⟩), .int .i64 i] w fun e w' => (∃ v, e = .returned v ∧ BRow w' v (s.key i)) ∧ Chg [] w w' := by
  have CU := Lib.hid (sused_any q p U s i w h)
  by_cases hu : s.used i = true
  · have hi : s.has i := by
      by_cases hi : s.has i
      · exact hi
      · rw [SS.used_false hi] at hu; cases hu
    have hk : s.key i = (s.row i).key := by unfold SS.key; rw [if_pos hu]
    rw [hu] at CU
    obtain ⟨S, rv, R, H⟩ := h
    obtain ⟨h0, h1⟩ := hi
    obtain ⟨j, rfl⟩ := Int.eq_ofNat_of_zero_le h0
    obtain ⟨g, cap, kv, hrv, hcap, hcm, hR, k0, k1, k2, k3, k4⟩ := H.at j (by omega)
    have c2 := blk_cell H.obj.head 2 _ rfl
    subst hrv
    have hkl : (s.rows.getD j noRow).key.length ≤ 40 := by
      rw [List.getD_eq_getElem?_getD, List.getElem?_eq_getElem (show j < s.rows.length by omega)]
      exact (H.ok.rows _ (List.getElem_mem _)).2
    have CC := Lib.hid (clone_any kv _ w k3 (by omega))
    have HX : Hid (s.key (j : Int) = (s.rows.getD j noRow).key) := Lib.hid (by rw [hk]; rfl)
    rw [HX.out]
    generalize s.rows.getD j noRow = r at *
    generalize s.rows.length = n at *
    have hjz : (j : Int) < (n : Int) := h1
    have hjz1 : (j : Int).toNat = j := by omega
    obtain ⟨ak, ck, hkv⟩ := k3.slice
    subst hkv
    clear H hR k3 k4 hu hk hkl
    go_enter Tryz.func95, Tryz.ntmps95
    go_wp2_with (go_at_call 93; refine CU.out.mono ?_; rintro e w' ⟨rfl, hq⟩; subst hq)
    refine CC.out.mono ?_
    rintro e w1 ⟨v1, rfl, hr, hn, hc⟩
    have HR := Lib.hid (And.intro hr hc)
    clear hr hn hc CC
    go_wp2
    go_ret
    exact ⟨⟨_, rfl, HR.out.1⟩, HR.out.2⟩
  · have hu' : s.used i = false := by simpa using hu
    have hk : s.key i = [] := by unfold SS.key; rw [if_neg hu]
    rw [hu'] at CU
    rw [hk]
    clear hu hu' hk h
    go_enter Tryz.func95, Tryz.ntmps95
    go_wp2_with (go_at_call 93; refine CU.out.mono ?_; rintro e w' ⟨rfl, hq⟩; subst hq)
    go_ret
    exact ⟨⟨_, rfl, BRow.nil _⟩, Chg.refl _ _⟩

theorem rowFree_cons (r : SRow) (l : List SRow) (k : Nat) : rowFree (r :: l) k = if r.used = false then (k : Int) else rowFree l (k + 1) := rfl
theorem rowFree_drop (l : List SRow) (k : Nat) (hk : k ≤ l.length) (h : ∀ q, q < k → (l.getD q noRow).used = true) : ∀ j, rowFree l j = rowFree (l.drop k) (j + k) := by
  induction l generalizing k with
  | nil => intro j; simp at hk; subst hk; rfl
  | cons r l ih =>
    intro j
    cases k with
    | zero => rfl
    | succ k =>
      have h0 := h 0 (by omega)
      simp at h0
      rw [List.drop_succ_cons, rowFree_cons, if_neg (by simp [h0]), ih k (by simpa using hk) (fun q hq => by simpa using h (q + 1) (by omega)) (j + 1), show j + 1 + k = j + (k + 1) by omega]
set_option maxHeartbeats 4000000 in
set_option maxRecDepth 100000 in
theorem sfree_any (q p : Nat) (U : List Nat) (s : SS) (w : World) (h : SlotsAt w q p U s) : Calls Tryz.prog 146 #[.pointer (some ⟨q, 0, none⟩)] w fun e w' => e = .returned (.int .i64 s.free) ∧ w = w' := by
  have CC := Lib.hid (scount_any q p U s w h)
  obtain ⟨S, rv, R, H⟩ := h
  have HH := Lib.hid H
  obtain ⟨a, cap0, hrv, hcap⟩ := H.form
  have c2 := blk_cell H.obj.head 2 _ rfl
  have hfew := H.few
  obtain ⟨n, hn⟩ : ∃ n, n = s.rows.length := ⟨_, rfl⟩
  rw [← hn] at CC hrv hcap
  have HN := Lib.hid hn
  have HRV := Lib.hid hrv
  subst hrv
  have hnf : n ≤ 1000 := by omega
  clear H hfew hn
  go_enter Tryz.func146, Tryz.ntmps146
  go_wp2_with (go_at_call 92; refine CC.out.mono ?_; rintro e w' ⟨rfl, hq⟩; subst hq)
  go_loop [6] (fun i => ∃ k : Nat, k ≤ n ∧ i = .int .i64 k ∧ Hid (∀ x, x < k → (s.rows.getD x noRow).used = true)) (fun i => n - (intOf i).toNat)
  case atStart => exact ⟨0, Nat.zero_le _, rfl, Lib.hid (fun q hq => absurd hq (by omega))⟩
  case round =>
    obtain ⟨k, hk, rfl, HZ⟩ := hrel
    by_cases hlt : k < n
    · obtain ⟨g, cap, kv, hrv2, hcap2, hcm, hR, k0, k1, k2, k3, k4⟩ := HH.out.at k (by rw [← HN.out]; exact hlt)
      have hF := rowFree_drop s.rows k (by rw [← HN.out]; omega) HZ.out 0
      rw [List.drop_eq_getElem_cons (by rw [← HN.out]; exact hlt)] at hF
      have hge : s.rows.getD k noRow = s.rows[k]'(by rw [← HN.out]; exact hlt) := by rw [List.getD_eq_getElem?_getD, List.getElem?_eq_getElem]; rfl
      rw [← hge] at hF
      have HRK : Hid (s.rows.getD k noRow = s.rows.getD k noRow) := Lib.hid rfl
      rw [← HN.out] at hrv2
      obtain ⟨rfl, rfl⟩ : a = some ⟨g, 0, none⟩ ∧ cap0 = cap := by
        have := Value.slice.inj hrv2
        exact ⟨this.1, this.2.2⟩
      have hkz : (k : Int) < (n : Int) := by omega
      have hkz1 : (k : Int).toNat = k := by omega
      have hu : ∃ u, u = (s.rows.getD k noRow).used := ⟨_, rfl⟩
      obtain ⟨u, hu⟩ := hu
      rw [← hu] at k0
      have HU := Lib.hid hu
      have HF := Lib.hid hF
      clear hu hF hge hrv2 hR k1 k2 k3 k4
      cases u
      · have HX : Hid (s.free = (k : Int)) := Lib.hid (by
          unfold SS.free
          rw [HF.out, rowFree_cons]
          rw [if_pos HU.out.symm]
          simp)
        go_wp2
        go_ret
        exact ⟨by rw [HX.out]; rfl, rfl⟩
      · have HZ1 : Hid (∀ x, x < k + 1 → (s.rows.getD x noRow).used = true) := Lib.hid (fun x hx => by
          rcases Nat.lt_or_ge x k with h | h
          · exact HZ.out x h
          · obtain rfl : x = k := by omega
            exact HU.out.symm)
        go_wp2
        go_round
        case rel => exact ⟨k + 1, by omega, by go_num, HZ1⟩
        case measure => simp [intOf]; omega
    · have hkn : k = n := by omega
      have HX : Hid (s.free = -1) := Lib.hid (by
        unfold SS.free
        rw [rowFree_drop s.rows k (by rw [hkn, HN.out]; exact Nat.le_refl _) HZ.out 0, List.drop_of_length_le (by rw [hkn, HN.out]; exact Nat.le_refl _)]
        rfl)
      clear hkn
      go_wp2
      go_ret
      exact ⟨by rw [HX.out]; rfl, rfl⟩

theorem bytes_string (w : World) (v : Value) (l : List UInt8) (h : BytesAt w v l) : (convert 30 9 v).run Tryz.prog w = .ok (.string ⟨l.toArray⟩) w := by
  obtain ⟨a, cap, rfl, h1, h2, h3⟩ := h
  rcases h3 with ⟨rfl, rfl⟩ | ⟨g, o, rfl, hc⟩
  · cases a with
    | none => exact run_convert_bytes_nil w 30 5 Tryz.underlying30 Tryz.underlying5 _ _ 9 Tryz.underlying9
    | some a => exact run_convert_bytes_back w 30 9 5 a 0 [] Tryz.underlying30 Tryz.underlying5 Tryz.underlying9 (fun j hj => absurd hj (by simp))
  · refine run_convert_bytes_back w 30 9 5 ⟨g, o, none⟩ cap l Tryz.underlying30 Tryz.underlying5 Tryz.underlying9 (fun j hj => ?_)
    rw [add_none, hc j hj, List.getD_eq_getElem?_getD, List.getElem?_eq_getElem hj]
    rfl

set_option maxHeartbeats 2000000 in
set_option maxRecDepth 100000 in
theorem equal_any (u v : Value) (l m : List UInt8) (w : World) (hu : BytesAt w u l) (hv : BytesAt w v m) :
    Calls Tryz.prog 145 #[u, v] w fun e w' => e = .returned (.bool (decide (l = m))) ∧ w = w' := by
  have h1 := bytes_string w u l hu
  have h2 := bytes_string w v m hv
  clear hu hv
  go_enter Tryz.func145, Tryz.ntmps145
  go_wp2
  go_ret
  exact ⟨ret_bool (show (l == m) = decide (l = m) by rw [Bool.eq_iff_iff]; simp), rfl⟩

end Go.Proofs.YtdkhmfcfihbjeaaGreatDoor.W

/- Package slot: lay. -/
namespace Go.Proofs.YtdkhmfcfihbjeaaGreatDoor.W
open Go.RowKit
set_option linter.unusedVariables false
set_option linter.unusedSimpArgs false

/-! ### Memory of 64 bytes, and what is copied into it -/
def pad (m : List UInt8) : List UInt8 := m.take 64 ++ zeros (64 - (m.take 64).length)
theorem pad_len (m : List UInt8) : (pad m).length = 64 := by
  unfold pad zeros
  rw [List.length_append, List.length_replicate, List.length_take]
  omega
def Z64 : Array Value := (bvs (zeros 64)).toArray
theorem facts_u8 : (Tryz.prog.info? 5).map (fun i => (i.zero, i.size, i.bytes)) = some (some (.int .u8 0), 1, 1) := by kernel_rfl
theorem make_64 (w : World) : (Instr.makeSlice 30 (.int .i64 64) (.int .i64 64)).run Tryz.prog w = .ok (.slice (some ⟨w.heap.size, 0, none⟩) 64 64) (w.alloc (.cells Z64 5)) := by
  obtain ⟨i, hi, h1, h2, h3⟩ := info_parts facts_u8
  have h := run_make (P := Tryz.prog) w 30 5 i _ Tryz.underlying30 hi h1 .i64 .i64 64 64 (by omega) (Int.le_refl _) (by rw [h3]; omega) (by omega)
  rw [h2] at h
  have hz : madeCells (Value.int .u8 0).cells ((64 : Int).toNat * 1) = Z64 := by kernel_rfl
  rw [hz] at h
  exact h
theorem row_of_block {w : World} {N : Nat} {l : List UInt8} (h : w.heap[N]? = some (.cells (bvs l).toArray 5 (0, 0))) (hl : l.length ≤ maxLen) : BRow w (.slice (some ⟨N, 0, none⟩) l.length l.length) l := by
  refine ⟨by simp [bvs_len], .inr ⟨N, l.length, (bvs l).toArray, rfl, Nat.zero_le _, h, Nat.le_refl _, hl, by simp [bvs_len], ?_⟩⟩
  rw [Nat.mul_one, List.take_of_length_le (by simp [bvs_len])]
/-- 'copy(p, src)' into 64 noughts. -/
theorem wpList_pad {w : World} {ops : Array Oper} {rest : List Oper} {o : Oper} {a : Act} {Q : Exit → Act → World → Prop} (hgd : o.guard = none) (d s : Operand)
    (ho : o.op = .call { callee := .builtin .copy, args := #[d, s], argTypes := #[30, 30] }) (N : Nat) (hd : a.eval d = .slice (some ⟨N, 0, none⟩) 64 64) (u : Value) (hs : a.eval s = u) (m : List UInt8) (hm : BytesAt w u m)
    (hN : w.heap[N]? = some (.cells Z64 5 (0, 0)))
    (h : ∀ w' n, BRow w' (.slice (some ⟨N, 0, none⟩) 64 64) (pad m) → Below N w w' → N < w'.heap.size → wpList Tryz.prog ops Q rest (a.put o.dst n) w') : wpList Tryz.prog ops Q (o :: rest) a w := by
  obtain ⟨au, cap, rfl, h1, h2, h3⟩ := hm
  have hlen : (m.take 64).length = Nat.min m.length 64 := by rw [List.length_take]; exact Nat.min_comm _ _
  have hle : Nat.min m.length 64 ≤ 64 := Nat.min_le_right _ _
  refine wpList_copy_splice hgd d s 30 30 ho 5 Tryz.underlying30 (by kernel_rfl) (some ⟨N, 0, none⟩) au 64 64 m.length cap hd hs N 0 (bvs (zeros 64)) 5 hN (bvs (m.take 64)) (by rw [bvs_len, hlen]) ?_ (by rw [bvs_len, bvs_len, hlen]; simp [zeros]; omega) (bvs_one _) N w (Below.refl _ _) (Nat.le_refl _) ?_
  · intro hpos
    refine ⟨rfl, ?_⟩
    rcases h3 with ⟨rfl, _⟩ | ⟨g, o', rfl, hc⟩
    · simp [bvs] at hpos
    · refine ⟨_, rfl, fun j v hv => ?_⟩
      have hj : j < (m.take 64).length := by
        have := (List.getElem?_eq_some_iff.1 hv).1
        rwa [bvs_len] at this
      rw [bvs_at _ j hj] at hv
      cases hv
      rw [add_none, hc j (by rw [List.length_take] at hj; omega), getD_take _ _ _ (by rw [List.length_take] at hj; omega)]
  · intro w' hw' hb
    have hsp : splice (bvs (zeros 64)) 0 (bvs (m.take 64)) = bvs (pad m) := by
      unfold splice pad
      rw [List.take_zero, List.nil_append, Nat.zero_add, bvs_len]
      unfold bvs
      rw [List.map_append]
      congr 1
      rw [← List.map_drop]
      congr 1
      unfold zeros
      rw [List.drop_replicate]
    have hw2 := hw'.out
    rw [hsp] at hw2
    have hr := row_of_block hw2 (by rw [pad_len]; unfold maxLen; omega)
    rw [pad_len] at hr
    exact h w' _ hr hb (blk_lt hw2)

theorem bytes_drop {w : World} {g o cap k : Nat} {l : List UInt8} (h : BytesAt w (.slice (some ⟨g, o, none⟩) l.length cap) l) (hk : k ≤ l.length) (o2 : Nat) (ho : k < l.length → o2 = o + k) : BytesAt w (.slice (some ⟨g, o2, none⟩) (l.length - k) (cap - k)) (l.drop k) := by
  have h1 := BytesAt.tail h (List.drop_suffix k l) o2 (fun hne => by
    rw [List.length_drop]
    have : 0 < (l.drop k).length := List.length_pos_iff.2 hne
    rw [List.length_drop] at this
    rw [ho (by omega)]
    show o + k = o + _
    omega)
  rw [List.length_drop, show l.length - (l.length - k) = k by omega] at h1
  exact h1

theorem chg_pad {w w1 w2 : World} (h : Chg [] w w1) (hb : Below w.heap.size w1 w2) : Chg [] w w2 := Chg.of_below ((Chg.below h (by simp)).trans hb)

/-! ### Laying -/
theorem DS.write_ok (d : DS) (k : Int) (b : List UInt8) : (d.write k b).2.n = d.n ∧ (d.write k b).2.ops ≤ d.ops + 1 ∧ (d.write k b).2.since.length ≤ d.since.length + 1 := by
  unfold DS.write DS.op
  split
  · exact ⟨rfl, Nat.le_succ _, Nat.le_succ _⟩
  · split
    · by_cases hf : d.fuse = 0
      · simp [hf]
      · simp [hf]
    · exact ⟨rfl, Nat.le_succ _, Nat.le_succ _⟩
theorem DS.sync_ok (d : DS) : (d.sync).2.n = d.n ∧ (d.sync).2.ops ≤ d.ops + 1 ∧ (d.sync).2.since.length ≤ d.since.length := by
  unfold DS.sync DS.op
  split
  · exact ⟨rfl, Nat.le_succ _, Nat.le_refl _⟩
  · by_cases hf : d.fuse = 0
    · simp [hf]
    · simp [hf]
theorem DS.lay_ok (pos : Nat) (b : List UInt8) : ∀ (k j : Nat) (d : DS), (d.lay pos b k j).2.n = d.n ∧ (d.lay pos b k j).2.ops ≤ d.ops + k + 1 ∧ (d.lay pos b k j).2.since.length ≤ d.since.length + k
  | 0, j, d => by
    obtain ⟨h1, h2, h3⟩ := d.sync_ok
    exact ⟨h1, by simpa [DS.lay] using h2, by simpa [DS.lay] using h3⟩
  | k + 1, j, d => by
    obtain ⟨h1, h2, h3⟩ := d.write_ok (pos + j : Nat) (secAt b j)
    obtain ⟨g1, g2, g3⟩ := DS.lay_ok pos b k (j + 1) (d.write (pos + j : Nat) (secAt b j)).2
    unfold DS.lay
    split
    · exact ⟨h1, by omega, by omega⟩
    · exact ⟨by rw [g1, h1], by omega, by omega⟩

/-- The disk goes on under the slots. -/
theorem SlotsAt.did {w w' : World} {q p : Nat} {S U : List Nat} {s : SS} {rv : Value} {R : List (SRow × Value)} {d' : DS} (h : SlotsOk w q p S U s rv R) (hd : Did w w' p S d') (hn : d'.n = s.d.n) : Sid w w' q p U { s with d := d' } := by
  obtain ⟨S', h1, h2, h3⟩ := hd
  have hlim := h.obj.lim
  refine ⟨U ++ S', ⟨S', rv, R, h.obj.keep h3 h.sep, h1, h.rows, fun x hx hm => ?_, fun x hx => ?_, fun x hx => List.mem_append_right _ hx, fun x hx => List.mem_append_left _ (h.uB x hx), fun x hx => ?_, ⟨by rw [show ({ s with d := d' } : SS).d.n = s.d.n from hn]; exact h.ok.room, h.ok.rows⟩⟩, fun x hx => ?_, h3.mono (fun x hx => .inl (h.uS x hx))⟩
  · rcases h2 x hm with h4 | h4
    · exact h.sep x hx h4
    · have := hlim x hx; omega
  · obtain ⟨k1, k2⟩ := h.keys x hx
    refine ⟨k1.chg h3 (fun k hk hm => (k2 k hk).2 (h.uS k hm)), fun g hg => ⟨Nat.lt_of_lt_of_le (k2 g hg).1 h3.size, fun hm => ?_⟩⟩
    rcases List.mem_append.1 hm with hm | hm
    · exact (k2 g hg).2 hm
    · rcases h2 g hm with h4 | h4
      · exact (k2 g hg).2 (h.uS g h4)
      · have := (k2 g hg).1; omega
  · rcases List.mem_append.1 hx with hx | hx
    · exact Nat.lt_of_lt_of_le (h.uL x hx) h3.size
    · exact h1.lim x hx
  · rcases List.mem_append.1 hx with hx | hx
    · exact .inl hx
    · rcases h2 x hx with h4 | h4
      · exact .inl (h.uS x h4)
      · exact .inr h4
theorem Sid.trans {w w1 w2 : World} {q p : Nat} {U : List Nat} {s1 s2 : SS} (h1 : Sid w w1 q p U s1) (h2 : ∀ U1, SlotsAt w1 q p U1 s1 → Sid w1 w2 q p U1 s2) : Sid w w2 q p U s2 := by
  obtain ⟨U1, a1, a2, a3⟩ := h1
  obtain ⟨U2, b1, b2, b3⟩ := h2 U1 a1
  refine ⟨U2, b1, fun x hx => ?_, a3.trans b3 a2⟩
  rcases b2 x hx with h | h
  · exact a2 x h
  · exact .inr (Nat.le_trans a3.size h)
theorem Sid.glue {w w1 w2 : World} {q p : Nat} {U U1 : List Nat} {s2 : SS} (hs : ∀ x ∈ U1, x ∈ U ∨ w.heap.size ≤ x) (hc : Chg U w w1) (h : Sid w1 w2 q p U1 s2) : Sid w w2 q p U s2 := by
  obtain ⟨U2, b1, b2, b3⟩ := h
  refine ⟨U2, b1, fun x hx => ?_, hc.trans b3 hs⟩
  rcases b2 x hx with h | h
  · exact hs x h
  · exact .inr (Nat.le_trans hc.size h)
theorem Sid.pre {w0 w w' : World} {q p : Nat} {U : List Nat} {s : SS} (hc : Chg [] w0 w) (h : Sid w w' q p U s) : Sid w0 w' q p U s := Sid.glue (fun x hx => .inl hx) (hc.mono (by simp)) h

set_option maxHeartbeats 4000000 in
set_option maxRecDepth 100000 in
theorem slay_any (q p : Nat) (U : List Nat) (s : SS) (pos : Nat) (v : Value) (b : List UInt8) (w : World) (h : SlotsAt w q p U s) (hb : BytesAt w v b) (hbU : b ≠ [] → ∀ k, v.ownBlock = some k → k ∉ U) (hpos : pos + nsec b.length ≤ s.d.n) (hbl : b.length ≤ 1000000)
    (ho : s.d.ops + nsec b.length + 1 ≤ 1000000000) (hw : s.d.since.length + nsec b.length ≤ 1000000) :
    Calls Tryz.prog 163 #[.pointer (some ⟨q, 0, none⟩), .int .i64 (pos : Int), v] w fun e w' => e = .returned (.int .i64 (s.d.lays pos b).1) ∧ Sid w w' q p U { s with d := (s.d.lays pos b).2 } := by
  have CS := Lib.hid (ssec_any b.length w (by omega))
  obtain ⟨m, hm⟩ : ∃ m, m = nsec b.length := ⟨_, rfl⟩
  rw [← hm] at CS hpos ho hw
  have HM := Lib.hid hm
  have hpn : s.d.n ≤ 4160 := by
    obtain ⟨S, rv, R, H⟩ := h
    obtain ⟨gn, gl, cn, cl, v, hd⟩ := H.disk
    exact hd.few
  have hmb : (0 < m → (m - 1) * 64 < b.length) ∧ m ≤ 4160 := by
    rw [hm]; unfold nsec; rw [hm] at hpos; unfold nsec at hpos; omega
  have HB := Lib.hid hb
  have HBU := Lib.hid hbU
  have HS := Lib.hid h
  have hmk := make_64
  obtain ⟨av, cv, rfl⟩ := hb.slice
  have hcv : b.length ≤ cv ∧ cv ≤ 9223372036854775807 := by
    obtain ⟨a', c', he, h1, h2, _⟩ := hb
    have : cv = c' := (Value.slice.inj he).2.2
    unfold maxLen at h2
    omega
  clear hm hb hbU h
  go_enter Tryz.func163, Tryz.ntmps163
  go_wp2_with (go_at_call 161; refine CS.out.mono ?_; rintro e w' ⟨rfl, hq⟩; subst hq)
  go_loopg [13] m (fun g' s13 wr => ∃ (j : Nat) (dj : DS), s13 = .int .i64 j ∧ j ≤ m ∧ m ≤ j + g' ∧ Hid (Sid w wr q p U { s with d := dj } ∧ dj.n = s.d.n ∧ dj.ops ≤ s.d.ops + j ∧ dj.since.length ≤ s.d.since.length + j ∧ s.d.lay pos b m 0 = dj.lay pos b (m - j) j))
  case atStart => exact ⟨0, s.d, rfl, by omega, by omega, Lib.hid ⟨Sid.same HS.out, rfl, by omega, by omega, rfl⟩⟩
  case round =>
    obtain ⟨j, dj, rfl, hj, hjg, HJ⟩ := hrel
    obtain ⟨⟨Uj, ⟨S, rv, R, H⟩, hUj, hCj⟩, hjn, hjo, hjs, hjl⟩ := HJ.out
    have HUj := Lib.hid hUj
    have HCj := Lib.hid hCj
    have c0 : wr.cell? ⟨q, 0, none⟩ = some (.pointer (some ⟨p, 0, none⟩)) := blk_cell H.obj.head 0 _ rfl
    have HH := Lib.hid H
    have HJL := Lib.hid hjl
    clear H hUj hCj hjl HJ
    have hbUr : b ≠ [] → ∀ k, (Value.slice av b.length cv).ownBlock = some k → k ∉ U := HBU.out
    have hBr : BytesAt wr (.slice av b.length cv) b := HB.out.chgW HCj.out hbUr
    have HBr := Lib.hid hBr
    clear hBr hbUr
    by_cases hlt : j < m
    · obtain ⟨w1, hw1⟩ : ∃ w1, w1 = wr.alloc (.cells Z64 5) := ⟨_, rfl⟩
      have hc1 : Chg [] wr w1 := by rw [hw1]; exact (Chg.refl _ _).alloc _
      have hN1 : Hid (w1.heap[wr.heap.size]? = some (.cells Z64 5 (0, 0))) := Lib.hid (by rw [hw1]; exact heap_alloc_new wr _)
      have hjb : j * 64 < b.length := by
        have h1 : j ≤ m - 1 := by omega
        have h2 := Nat.mul_le_mul_right 64 h1
        have h3 := hmb.1 (by omega)
        omega
      obtain ⟨g, o, rfl⟩ : ∃ g o, av = some ⟨g, o, none⟩ := by
        obtain ⟨a', c', he, _, _, h3⟩ := HBr.out
        obtain rfl : av = a' := (Value.slice.inj he).1
        rcases h3 with ⟨rfl, _⟩ | ⟨g, o, e, _⟩
        · simp at hjb
        · exact ⟨g, o, e⟩
      have hB1 : BytesAt w1 (.slice (some ⟨g, o + j * 64, none⟩) (b.length - j * 64) (cv - j * 64)) (b.drop (j * 64)) := bytes_drop (HBr.out.chg hc1 (by simp)) (by omega) _ (fun _ => rfl)
      have HB1 := Lib.hid hB1
      have HC1 := Lib.hid hc1
      have HW1 := Lib.hid hw1
      have hcj : j * 64 < cv := by omega
      have hcj2 : ¬ cv = j * 64 := by omega
      have hjz : (j : Int) < (m : Int) := by omega
      have hj64 : ((j : Int) * 64) = ((j * 64 : Nat) : Int) := by push_cast; rfl
      have hmj : m - j = (m - (j + 1)) + 1 := by omega
      have HLS : Hid (s.d.lays pos b = if (dj.write (pos + j : Nat) (secAt b j)).1 ≠ 0 then dj.write (pos + j : Nat) (secAt b j) else (dj.write (pos + j : Nat) (secAt b j)).2.lay pos b (m - (j + 1)) (j + 1)) := Lib.hid (by
        unfold DS.lays
        rw [← HM.out, HJL.out, hmj]
        rfl)
      clear hB1 hw1 hc1 hj64 hmj
      go_wp2_with (rw [← HW1.out]; refine wpList_pad (by rfl) (.tmp 17) (.tmp 21) (by rfl) wr.heap.size (by rfl) _ (by rfl) (b.drop (j * 64)) HB1.out hN1.out ?_; intro w2 np hr2 hb2 hl2
                   have hc2 := chg_pad HC1.out hb2
                   have c02 := hc2.cell c0 (by simp)
                   have HR2 := Lib.hid hr2
                   have HC2 := Lib.hid hc2
                   clear hr2 hb2 hc2)
      have hpj : ((pos + j : Nat) : Int) = (pos : Int) + (j : Int) := by push_cast; rfl
      rw [hpj] at HLS
      have CW := Lib.hid (dwrite_any p S dj ((pos : Int) + (j : Int)) _ (secAt b j) w2 (HH.out.disk.keep HC2.out (by simp)) (by omega) (by omega) ⟨by omega, by omega⟩ (secAt_len b j) HR2.out.bytes)
      have hwok := dj.write_ok ((pos : Int) + (j : Int)) (secAt b j)
      generalize dj.write ((pos : Int) + (j : Int)) (secAt b j) = r at *
      obtain ⟨r1, d1⟩ := r
      dsimp only at CW HLS hwok
      have HPJ := Lib.hid hpj
      clear hpj
      refine CW.out.mono ?_
      rintro e w3 ⟨rfl, hd3⟩
      have HD3 := Lib.hid (Did.pre HC2.out hd3)
      clear hd3 CW
      have hsid : Sid w w3 q p U { s with d := d1 } := Sid.glue HUj.out HCj.out (SlotsAt.did (s := { s with d := dj }) HH.out HD3.out hwok.1)
      have HSID := Lib.hid hsid
      clear hsid
      by_cases hr0 : r1 = 0
      · subst hr0
        have HL2 : Hid (s.d.lay pos b m 0 = d1.lay pos b (m - (j + 1)) (j + 1)) := Lib.hid (by
          have h1 := HLS.out
          rw [if_neg (by simp)] at h1
          rw [← h1]
          unfold DS.lays
          rw [← HM.out])
        go_wp2
        go_roundg (gk - 1)
        case measure => omega
        case rel => exact ⟨j + 1, d1, by go_num, by omega, by omega, Lib.hid ⟨HSID.out, by rw [hwok.1, hjn], by omega, by omega, HL2.out⟩⟩
      · have HL2 : Hid (s.d.lays pos b = (r1, d1)) := Lib.hid (by rw [HLS.out, if_pos hr0])
        have q1 : (r1 != 0) = true := by simp [hr0]
        clear hr0
        go_wp2
        go_ret
        rw [HL2.out]
        exact ⟨rfl, HSID.out⟩
    · have hjm : j = m := by omega
      have HL2 : Hid (s.d.lays pos b = dj.sync) := Lib.hid (by
        unfold DS.lays
        rw [← HM.out, HJL.out, hjm, Nat.sub_self]
        rfl)
      have hsok := dj.sync_ok
      have CY := Lib.hid (dsync_any p S dj wr HH.out.disk (by omega) (by omega))
      clear hjm
      go_wp2_with fail
      refine CY.out.mono ?_
      rintro e w3 ⟨rfl, hd3⟩
      have HSID : Hid (Sid w w3 q p U { s with d := (dj.sync).2 }) := Lib.hid (Sid.glue HUj.out HCj.out (SlotsAt.did (s := { s with d := dj }) HH.out hd3 hsok.1))
      clear hd3 CY
      go_wp2
      go_ret
      rw [HL2.out]
      exact ⟨rfl, HSID.out⟩
end Go.Proofs.YtdkhmfcfihbjeaaGreatDoor.W

/- Package slot: Get. -/
namespace Go.Proofs.YtdkhmfcfihbjeaaGreatDoor.W
open Go.RowKit
set_option linter.unusedVariables false
set_option linter.unusedSimpArgs false

/-- What Get answers. -/
def GetPost (r : List UInt8 × Int) (w : World) (e : Ending) (w' : World) : Prop := (∃ v, e = .returned (.tuple #[v, .int .i64 r.2]) ∧ BytesAt w' v r.1 ∧ ∀ k, v.ownBlock = some k → w.heap.size ≤ k) ∧ Chg [] w w'
theorem GetPost.nil {c : Int} {w w' : World} (hc : Chg [] w w') : GetPost ([], c) w (.returned (.tuple #[.slice none 0 0, .int .i64 c])) w' := ⟨⟨_, rfl, BytesAt.nil _, by simp [Value.ownBlock]⟩, hc⟩

set_option maxHeartbeats 8000000 in
set_option maxRecDepth 100000 in
theorem sget_any (q p : Nat) (U : List Nat) (s : SS) (i : Int) (w : World) (h : SlotsAt w q p U s) : Calls Tryz.prog 144 #[.pointer (some ⟨q, 0, none⟩), .int .i64 i] w (GetPost (s.get i) w) := by
  have CH := Lib.hid (shas_any q p U s i w h)
  have HS := Lib.hid h
  obtain ⟨S, rv, R, H⟩ := h
  have c0 : w.cell? ⟨q, 0, none⟩ = some (.pointer (some ⟨p, 0, none⟩)) := blk_cell H.obj.head 0 _ rfl
  by_cases hi : s.has i
  · rw [decide_eq_true hi] at CH
    have hi' := hi
    obtain ⟨h0, h1⟩ := hi'
    obtain ⟨j, rfl⟩ := Int.eq_ofNat_of_zero_le h0
    have hjl : j < s.rows.length := by omega
    obtain ⟨g, cap, kv, hrv, hcap, hcm, hR, k0, k1, k2, k3, k4⟩ := H.at j hjl
    have c2 : w.cell? ⟨q, 2, none⟩ = some rv := blk_cell H.obj.head 2 _ rfl
    have hfew := H.few
    have hrow : s.row (j : Int) = s.rows.getD j noRow := rfl
    have hn448 : (s.rows.getD j noRow).n ≤ 448 := by
      rw [List.getD_eq_getElem?_getD, List.getElem?_eq_getElem hjl]
      exact (H.ok.rows _ (List.getElem_mem _)).1
    have hroom := H.ok.room
    by_cases hu : (s.row (j : Int)).used = false
    · have hg : s.get (j : Int) = ([], 6) := by unfold SS.get; rw [if_neg (by simpa using hi), if_pos hu]
      have HP := Lib.hid (fun (w' : World) (hc : Chg [] w w') => GetPost.nil (c := 6) hc)
      have HG := Lib.hid hg
      rw [HG.out]
      rw [hrow] at hu
      rw [hu] at k0
      subst hrv
      generalize s.rows.getD j noRow = r at *
      generalize s.rows.length = n at *
      have hjz : (j : Int) < (n : Int) := by omega
      have hjz1 : (j : Int).toNat = j := by omega
      clear H hR k1 k2 k3 k4 hu hg hi hrow hroom
      go_enter Tryz.func144, Tryz.ntmps144
      go_wp2_with (go_at_call 137; refine CH.out.mono ?_; rintro e w' ⟨rfl, hq⟩; subst hq)
      go_ret2
      exact HP.out _ (Chg.refl _ _)
    · have hu' : (s.rows.getD j noRow).used = true := by rw [← hrow]; simpa using hu
      have hg : s.get (j : Int) = if s.d.dead then ([], 14) else (s.data (j : Int), 0) := by
        unfold SS.get; rw [if_neg (by simpa using hi), if_neg hu]
      have hdat : s.data (j : Int) = (flat (nsec (s.rows.getD j noRow).n) (fun k => s.d.now (s.pos j + 1 + k))).take (s.rows.getD j noRow).n := rfl
      have hpos : s.pos (j : Int) = s.first + 8 * j := rfl
      rw [hu'] at k0
      have CA := Lib.hid (fun w' (h' : SlotsAt w' q p U s) => sat_any q p U s j w' h' (by omega))
      have CSec := Lib.hid (ssec_any (s.rows.getD j noRow).n w (by omega))
      have CD := Lib.hid (ddead_any p S s.d w H.disk)
      have hm7 : nsec (s.rows.getD j noRow).n ≤ 7 := by unfold nsec; omega
      have hmn : (s.rows.getD j noRow).n ≤ nsec (s.rows.getD j noRow).n * 64 := by unfold nsec; omega
      have HDK := Lib.hid H.disk
      have hlen64 : Hid (∀ k, k < s.d.n → (s.d.now k).length = 64) := Lib.hid (by
        obtain ⟨gn, gl, cn, cl, v, hd⟩ := H.disk
        exact fun k hk => hd.now.len k hk)
      subst hrv
      have HG := Lib.hid hg
      have HDAT := Lib.hid hdat
      generalize hrr : s.rows.getD j noRow = r at *
      have hpl : s.pos (j : Int) + 8 ≤ s.d.n := by rw [hpos]; omega
      generalize s.pos (j : Int) = pos at *
      generalize hrl : s.rows.length = n at *
      have hjz : (j : Int) < (n : Int) := by omega
      have hjz1 : (j : Int).toNat = j := by omega
      obtain ⟨m, hm⟩ : ∃ m, m = nsec r.n := ⟨_, rfl⟩
      rw [← hm] at CSec hm7 hmn
      have HM := Lib.hid hm
      obtain ⟨rn, hrn⟩ : ∃ rn, rn = r.n := ⟨_, rfl⟩
      rw [← hrn] at CSec hmn k1 hn448
      have HRN := Lib.hid hrn
      have hnd : s.d.n ≤ 4160 := by
        obtain ⟨gn, gl, cn, cl, v, hd⟩ := H.disk
        exact hd.few
      have hwr : Hid (IntKind.i64.wrap (IntKind.i64.wrap ((pos : Int) + 1)) = (pos : Int) + 1) := Lib.hid (by rw [IntWalk.i64_in ((pos : Int) + 1) ⟨by omega, by omega⟩, IntWalk.i64_in _ ⟨by omega, by omega⟩])
      clear H hR k2 k3 k4 hu' hg hi hrow hdat hroom hm hrn hrr hrl hu hfew hpos
      by_cases hd : s.d.dead = true
      · have HP := Lib.hid (fun (w' : World) (hc : Chg [] w w') => GetPost.nil (c := 14) hc)
        have HGG : Hid (s.get (j : Int) = ([], 14)) := Lib.hid (by rw [HG.out, if_pos hd])
        rw [HGG.out]
        rw [hd] at CD
        have HDD := Lib.hid hd
        clear hd
        go_enter Tryz.func144, Tryz.ntmps144
        go_wp2_with (first
          | (go_at_call 137; refine CH.out.mono ?_; rintro e w' ⟨rfl, hq⟩; subst hq)
          | (go_at_call 161; refine CSec.out.mono ?_; rintro e w' ⟨rfl, hq⟩; subst hq))
        go_loopg [6, 44] 0 (fun g' s6 s44 wr => s6 = .slice none 0 0 ∧ s44 = .int .i64 0 ∧ wr = w)
        case atStart => exact ⟨rfl, rfl, rfl⟩
        case round =>
          obtain ⟨rfl, rfl, rfl⟩ := hrel
          by_cases hm0 : 0 < m
          · have hmz : (0 : Int) < (m : Int) := by omega
            have CR := Lib.hid (dread_any p S s.d ((pos : Int) + 1) wr.drew (by
              obtain ⟨gn, gl, cn, cl, v, hd⟩ := HDK.out
              exact ⟨gn, gl, cn, cl, v, hd.drew⟩))
            go_wp2_with fail
            refine wp_region_L [(10, fun w' => w'.cell? ⟨q, 0, none⟩ = some (.pointer (some ⟨p, 0, none⟩)))] (by kernel_rfl) ?_ (fun hHeld => ?_)
            · exact (HoldC.cons (c0) HoldC.nil)
            refine wpAnyL_take (i := 0) (oi := _) (v := ?_) rfl (by kernel_rfl) (by kernel_rfl) (by kernel_rfl) (by kernel_rfl) (by kernel_rfl) (fun _ _ _ h => h) (Or.inl ⟨by rfl, ?_⟩) (by assumption) (fun hNew => ?_)
            rotate_left
            · intro w _
              go_simp
              try with_reducible rfl
            clear hHeld
            have hHeld := hNew
            clear hNew
            try simp only [List.getElem_toArray, List.getElem_cons_succ, List.getElem_cons_zero, Act.put, List.setIfInBounds_toArray, List.set_cons_zero, List.set_cons_succ]
            refine wpAnyL_take (i := 1) (oi := _) (v := ?_) rfl (by kernel_rfl) (by kernel_rfl) (by kernel_rfl) (by kernel_rfl) (by kernel_rfl) (fun _ _ _ h => h) (Or.inl ⟨by rfl, ?_⟩) (by assumption) (fun hNew => ?_)
            rotate_left
            · intro w _
              go_simp
              try with_reducible rfl
            clear hHeld
            have hHeld := hNew
            clear hNew
            try simp only [List.getElem_toArray, List.getElem_cons_succ, List.getElem_cons_zero, Act.put, List.setIfInBounds_toArray, List.set_cons_zero, List.set_cons_succ]
            refine wpAnyL_take (i := 2) (oi := _) (v := ?_) rfl (by kernel_rfl) (by kernel_rfl) (by kernel_rfl) (by kernel_rfl) (by kernel_rfl) (fun _ _ _ h => h) (Or.inl ⟨by rfl, ?_⟩) (by assumption) (fun hNew => ?_)
            rotate_left
            · intro w _
              go_simp
              try with_reducible rfl
            clear hHeld
            have hHeld := hNew
            clear hNew
            try simp only [List.getElem_toArray, List.getElem_cons_succ, List.getElem_cons_zero, Act.put, List.setIfInBounds_toArray, List.set_cons_zero, List.set_cons_succ]
            refine wpAnyL_load 0 (i := 3) (oi := _) (v := ?_) rfl rfl (by kernel_rfl) (by kernel_rfl) (by kernel_rfl) (by kernel_rfl) (by kernel_rfl) (by kernel_rfl) (fun _ _ _ h => h) (Or.inl ⟨by rfl, ?_⟩) (by assumption) (fun hNew => ?_)
            rotate_left
            · intro w hSw
              (try dsimp only at hSw)
              go_simp
              try with_reducible rfl
            clear hHeld
            have hHeld := hNew
            clear hNew
            try simp only [List.getElem_toArray, List.getElem_cons_succ, List.getElem_cons_zero, Act.put, List.setIfInBounds_toArray, List.set_cons_zero, List.set_cons_succ]
            refine wpAnyL_take (i := 4) (oi := _) (v := ?_) rfl (by kernel_rfl) (by kernel_rfl) (by kernel_rfl) (by kernel_rfl) (by kernel_rfl) (fun _ _ _ h => h) (Or.inl ⟨by rfl, ?_⟩) (by assumption) (fun hNew => ?_)
            rotate_left
            · intro w _
              go_simp
              try with_reducible rfl
            clear hHeld
            have hHeld := hNew
            clear hNew
            try simp only [List.getElem_toArray, List.getElem_cons_succ, List.getElem_cons_zero, Act.put, List.setIfInBounds_toArray, List.set_cons_zero, List.set_cons_succ]
            refine wpAnyL_take (i := 5) (oi := _) (v := ?_) rfl (by kernel_rfl) (by kernel_rfl) (by kernel_rfl) (by kernel_rfl) (by kernel_rfl) (fun _ _ _ h => h) (Or.inl ⟨by rfl, ?_⟩) (by assumption) (fun hNew => ?_)
            rotate_left
            · intro w _
              go_simp
              try with_reducible rfl
            clear hHeld
            have hHeld := hNew
            clear hNew
            try simp only [List.getElem_toArray, List.getElem_cons_succ, List.getElem_cons_zero, Act.put, List.setIfInBounds_toArray, List.set_cons_zero, List.set_cons_succ]
            refine wpAnyL_take (i := 8) (oi := _) (v := ?_) rfl (by kernel_rfl) (by kernel_rfl) (by kernel_rfl) (by kernel_rfl) (by kernel_rfl) (fun _ _ _ h => h) (Or.inl ⟨by rfl, ?_⟩) (by assumption) (fun hNew => ?_)
            rotate_left
            · intro w _
              go_simp
              try with_reducible rfl
            clear hHeld
            have hHeld := hNew
            clear hNew
            try simp only [List.getElem_toArray, List.getElem_cons_succ, List.getElem_cons_zero, Act.put, List.setIfInBounds_toArray, List.set_cons_zero, List.set_cons_succ]
            refine wpAnyL_ready (rs := [6]) (by kernel_rfl) (by simp) ?_
            refine AllReadyL.cons (o := _) rfl (fun K hK => ?_) AllReadyL.nil
            try simp only [List.getElem_toArray, List.getElem_cons_succ, List.getElem_cons_zero]
            go_simp
            refine (CA.out _ (HS.out.keep0 (by exact (Chg.refl _ _).drew))).mono ?_
            rintro e w' ⟨rfl, hq⟩
            subst hq
            try go_wp2_with fail
            clear hHeld
            refine hK.out _ _ ?_ (fun hHeld => ?_)
            · exact (HoldC.cons (c0) HoldC.nil)
            clear hK K
            try simp only [List.getElem_toArray, List.getElem_cons_succ, List.getElem_cons_zero, Act.put, List.setIfInBounds_toArray, List.set_cons_zero, List.set_cons_succ]
            refine wpAnyL_take (i := 7) (oi := _) (v := ?_) rfl (by kernel_rfl) (by kernel_rfl) (by kernel_rfl) (by kernel_rfl) (by kernel_rfl) (fun _ _ _ h => h) (Or.inl ⟨by rfl, ?_⟩) (by assumption) (fun hNew => ?_)
            rotate_left
            · intro w _
              go_simp
              try with_reducible rfl
            clear hHeld
            have hHeld := hNew
            clear hNew
            try simp only [List.getElem_toArray, List.getElem_cons_succ, List.getElem_cons_zero, Act.put, List.setIfInBounds_toArray, List.set_cons_zero, List.set_cons_succ]
            refine wpAnyL_take (i := 9) (oi := _) (v := ?_) rfl (by kernel_rfl) (by kernel_rfl) (by kernel_rfl) (by kernel_rfl) (by kernel_rfl) (fun _ _ _ h => h) (Or.inl ⟨by rfl, ?_⟩) (by assumption) (fun hNew => ?_)
            rotate_left
            · intro w _
              go_simp
              try with_reducible rfl
            clear hHeld
            have hHeld := hNew
            clear hNew
            try simp only [List.getElem_toArray, List.getElem_cons_succ, List.getElem_cons_zero, Act.put, List.setIfInBounds_toArray, List.set_cons_zero, List.set_cons_succ]
            refine wpAnyL_ready (rs := [10]) (by kernel_rfl) (by simp) ?_
            refine AllReadyL.cons (o := _) rfl (fun K hK => ?_) AllReadyL.nil
            try simp only [List.getElem_toArray, List.getElem_cons_succ, List.getElem_cons_zero]
            go_simp
            try rw [hwr.out]
            try rw [hwr2.out]
            refine CR.out.mono ?_
            rintro e w3 ⟨he, hc3⟩
            rw [if_pos HDD.out] at he
            subst he
            have HC3 : Hid (Chg [] wr w3) := Lib.hid ((by exact (Chg.refl [] wr).drew : Chg [] wr wr.drew).trans hc3 (by simp))
            clear hc3 CR
            try go_wp2_with fail
            clear hHeld
            refine hK.out _ _ ?_ (fun hHeld => ?_)
            · exact (HoldC.past (by kernel_rfl) HoldC.nil)
            clear hK K
            try simp only [List.getElem_toArray, List.getElem_cons_succ, List.getElem_cons_zero, Act.put, List.setIfInBounds_toArray, List.set_cons_zero, List.set_cons_succ]
            refine wpAnyL_take (i := 11) (oi := _) (v := ?_) rfl (by kernel_rfl) (by kernel_rfl) (by kernel_rfl) (by kernel_rfl) (by kernel_rfl) (fun _ _ _ h => h) (Or.inl ⟨by rfl, ?_⟩) (by assumption) (fun hNew => ?_)
            rotate_left
            · intro w _
              go_simp
              try with_reducible rfl
            clear hHeld
            have hHeld := hNew
            clear hNew
            try simp only [List.getElem_toArray, List.getElem_cons_succ, List.getElem_cons_zero, Act.put, List.setIfInBounds_toArray, List.set_cons_zero, List.set_cons_succ]
            refine wpAnyL_take (i := 12) (oi := _) (v := ?_) rfl (by kernel_rfl) (by kernel_rfl) (by kernel_rfl) (by kernel_rfl) (by kernel_rfl) (fun _ _ _ h => h) (Or.inl ⟨by rfl, ?_⟩) (by assumption) (fun hNew => ?_)
            rotate_left
            · intro w _
              go_simp
              try with_reducible rfl
            clear hHeld
            have hHeld := hNew
            clear hNew
            try simp only [List.getElem_toArray, List.getElem_cons_succ, List.getElem_cons_zero, Act.put, List.setIfInBounds_toArray, List.set_cons_zero, List.set_cons_succ]
            refine wpAnyL_take (i := 13) (oi := _) (v := ?_) rfl (by kernel_rfl) (by kernel_rfl) (by kernel_rfl) (by kernel_rfl) (by kernel_rfl) (fun _ _ _ h => h) (Or.inl ⟨by rfl, ?_⟩) (by assumption) (fun hNew => ?_)
            rotate_left
            · intro w _
              go_simp
              try with_reducible rfl
            clear hHeld
            have hHeld := hNew
            clear hNew
            try simp only [List.getElem_toArray, List.getElem_cons_succ, List.getElem_cons_zero, Act.put, List.setIfInBounds_toArray, List.set_cons_zero, List.set_cons_succ]
            refine wpAnyL_take (i := 14) (oi := _) (v := ?_) rfl (by kernel_rfl) (by kernel_rfl) (by kernel_rfl) (by kernel_rfl) (by kernel_rfl) (fun _ _ _ h => h) (Or.inl ⟨by rfl, ?_⟩) (by assumption) (fun hNew => ?_)
            rotate_left
            · intro w _
              go_simp
              try with_reducible rfl
            clear hHeld
            have hHeld := hNew
            clear hNew
            try simp only [List.getElem_toArray, List.getElem_cons_succ, List.getElem_cons_zero, Act.put, List.setIfInBounds_toArray, List.set_cons_zero, List.set_cons_succ]
            refine wpAnyL_take (i := 15) (oi := _) (v := ?_) rfl (by kernel_rfl) (by kernel_rfl) (by kernel_rfl) (by kernel_rfl) (by kernel_rfl) (fun _ _ _ h => h) (Or.inl ⟨by rfl, ?_⟩) (by assumption) (fun hNew => ?_)
            rotate_left
            · intro w _
              go_simp
              try with_reducible rfl
            clear hHeld
            have hHeld := hNew
            clear hNew
            try simp only [List.getElem_toArray, List.getElem_cons_succ, List.getElem_cons_zero, Act.put, List.setIfInBounds_toArray, List.set_cons_zero, List.set_cons_succ]
            refine wpAnyL_done (by kernel_rfl) ?_ _
            clear hHeld
            go_wp2
            go_ret2
            exact HP.out _ HC3.out
          · obtain rfl : m = 0 := by omega
            go_wp2_with (go_at_call 38; refine CD.out.mono ?_; rintro e w' ⟨rfl, hq⟩; subst hq)
            go_ret2
            exact HP.out _ (Chg.refl _ _)
      · have hd' : s.d.dead = false := by simpa using hd
        have HGG : Hid (s.get (j : Int) = (s.data (j : Int), 0)) := Lib.hid (by rw [HG.out, if_neg hd])
        rw [HGG.out]
        rw [hd'] at CD
        have HDD := Lib.hid hd'
        have HK1 := Lib.hid k1
        have HC2 := Lib.hid c2
        have HC0 := Lib.hid c0
        have hkl := World.block_lt_of_cell? w _ k1
        clear hd hd'
        go_enter Tryz.func144, Tryz.ntmps144
        go_wp2_with (first
          | (go_at_call 137; refine CH.out.mono ?_; rintro e w' ⟨rfl, hq⟩; subst hq)
          | (go_at_call 161; refine CSec.out.mono ?_; rintro e w' ⟨rfl, hq⟩; subst hq))
        go_loopg [6, 44] m (fun g' s6 s44 wr => ∃ (k : Nat) (a6 : Option Addr) (c6 : Nat), s6 = .slice a6 (k * 64) c6 ∧ s44 = .int .i64 k ∧ k ≤ m ∧ m ≤ k + g' ∧ Hid (BRow wr s6 (flat k (fun k => s.d.now (pos + 1 + k))) ∧ (∀ g, s6.ownBlock = some g → w.heap.size ≤ g) ∧ Chg [] w wr))
        case atStart => exact ⟨0, none, 0, rfl, rfl, by omega, by omega, Lib.hid ⟨BRow.nil _, by simp [Value.ownBlock], Chg.refl _ _⟩⟩
        case round =>
          obtain ⟨k, a6, c6, rfl, rfl, hk, hkg, HR⟩ := hrel
          obtain ⟨s6, hs6⟩ : ∃ s6, s6 = Value.slice a6 (k * 64) c6 := ⟨_, rfl⟩
          have HS6 := Lib.hid hs6
          rw [← hs6] at HR
          clear hs6 c0 c2 k0 k1
          have c0 := HR.out.2.2.cell HC0.out (by simp)
          by_cases hlt : k < m
          · have hkz : (k : Int) < (m : Int) := by omega
            have hkz1 : (k : Int).toNat = k := by omega
            have hcd : Chg [] w wr.drew := HR.out.2.2.drew
            have CR := Lib.hid (dread_any p S s.d ((pos : Int) + 1 + (k : Int)) wr.drew (HDK.out.keep hcd (by simp)))
            have HSd := Lib.hid (HS.out.keep0 hcd)
            have hwr2 : Hid (IntKind.i64.wrap (IntKind.i64.wrap ((pos : Int) + 1) + (k : Int)) = (pos : Int) + 1 + (k : Int)) := Lib.hid (by rw [IntWalk.i64_in ((pos : Int) + 1) ⟨by omega, by omega⟩, IntWalk.i64_in _ ⟨by omega, by omega⟩])
            have hpk : ((pos : Int) + 1 + (k : Int)).toNat = pos + 1 + k := by omega
            have hl1 := hlen64.out (pos + 1 + k) (by omega)
            have HL1 := Lib.hid hl1
            have HPK := Lib.hid hpk
            clear hcd hpk hl1
            go_wp2_with fail
            refine wp_region_L [(10, fun w' => w'.cell? ⟨q, 0, none⟩ = some (.pointer (some ⟨p, 0, none⟩)))] (by kernel_rfl) ?_ (fun hHeld => ?_)
            · exact (HoldC.cons (c0) HoldC.nil)
            refine wpAnyL_take (i := 0) (oi := _) (v := ?_) rfl (by kernel_rfl) (by kernel_rfl) (by kernel_rfl) (by kernel_rfl) (by kernel_rfl) (fun _ _ _ h => h) (Or.inl ⟨by rfl, ?_⟩) (by assumption) (fun hNew => ?_)
            rotate_left
            · intro w _
              go_simp
              try with_reducible rfl
            clear hHeld
            have hHeld := hNew
            clear hNew
            try simp only [List.getElem_toArray, List.getElem_cons_succ, List.getElem_cons_zero, Act.put, List.setIfInBounds_toArray, List.set_cons_zero, List.set_cons_succ]
            refine wpAnyL_take (i := 1) (oi := _) (v := ?_) rfl (by kernel_rfl) (by kernel_rfl) (by kernel_rfl) (by kernel_rfl) (by kernel_rfl) (fun _ _ _ h => h) (Or.inl ⟨by rfl, ?_⟩) (by assumption) (fun hNew => ?_)
            rotate_left
            · intro w _
              go_simp
              try with_reducible rfl
            clear hHeld
            have hHeld := hNew
            clear hNew
            try simp only [List.getElem_toArray, List.getElem_cons_succ, List.getElem_cons_zero, Act.put, List.setIfInBounds_toArray, List.set_cons_zero, List.set_cons_succ]
            refine wpAnyL_take (i := 2) (oi := _) (v := ?_) rfl (by kernel_rfl) (by kernel_rfl) (by kernel_rfl) (by kernel_rfl) (by kernel_rfl) (fun _ _ _ h => h) (Or.inl ⟨by rfl, ?_⟩) (by assumption) (fun hNew => ?_)
            rotate_left
            · intro w _
              go_simp
              try with_reducible rfl
            clear hHeld
            have hHeld := hNew
            clear hNew
            try simp only [List.getElem_toArray, List.getElem_cons_succ, List.getElem_cons_zero, Act.put, List.setIfInBounds_toArray, List.set_cons_zero, List.set_cons_succ]
            refine wpAnyL_load 0 (i := 3) (oi := _) (v := ?_) rfl rfl (by kernel_rfl) (by kernel_rfl) (by kernel_rfl) (by kernel_rfl) (by kernel_rfl) (by kernel_rfl) (fun _ _ _ h => h) (Or.inl ⟨by rfl, ?_⟩) (by assumption) (fun hNew => ?_)
            rotate_left
            · intro w hSw
              (try dsimp only at hSw)
              go_simp
              try with_reducible rfl
            clear hHeld
            have hHeld := hNew
            clear hNew
            try simp only [List.getElem_toArray, List.getElem_cons_succ, List.getElem_cons_zero, Act.put, List.setIfInBounds_toArray, List.set_cons_zero, List.set_cons_succ]
            refine wpAnyL_take (i := 4) (oi := _) (v := ?_) rfl (by kernel_rfl) (by kernel_rfl) (by kernel_rfl) (by kernel_rfl) (by kernel_rfl) (fun _ _ _ h => h) (Or.inl ⟨by rfl, ?_⟩) (by assumption) (fun hNew => ?_)
            rotate_left
            · intro w _
              go_simp
              try with_reducible rfl
            clear hHeld
            have hHeld := hNew
            clear hNew
            try simp only [List.getElem_toArray, List.getElem_cons_succ, List.getElem_cons_zero, Act.put, List.setIfInBounds_toArray, List.set_cons_zero, List.set_cons_succ]
            refine wpAnyL_take (i := 5) (oi := _) (v := ?_) rfl (by kernel_rfl) (by kernel_rfl) (by kernel_rfl) (by kernel_rfl) (by kernel_rfl) (fun _ _ _ h => h) (Or.inl ⟨by rfl, ?_⟩) (by assumption) (fun hNew => ?_)
            rotate_left
            · intro w _
              go_simp
              try with_reducible rfl
            clear hHeld
            have hHeld := hNew
            clear hNew
            try simp only [List.getElem_toArray, List.getElem_cons_succ, List.getElem_cons_zero, Act.put, List.setIfInBounds_toArray, List.set_cons_zero, List.set_cons_succ]
            refine wpAnyL_take (i := 8) (oi := _) (v := ?_) rfl (by kernel_rfl) (by kernel_rfl) (by kernel_rfl) (by kernel_rfl) (by kernel_rfl) (fun _ _ _ h => h) (Or.inl ⟨by rfl, ?_⟩) (by assumption) (fun hNew => ?_)
            rotate_left
            · intro w _
              go_simp
              try with_reducible rfl
            clear hHeld
            have hHeld := hNew
            clear hNew
            try simp only [List.getElem_toArray, List.getElem_cons_succ, List.getElem_cons_zero, Act.put, List.setIfInBounds_toArray, List.set_cons_zero, List.set_cons_succ]
            refine wpAnyL_ready (rs := [6]) (by kernel_rfl) (by simp) ?_
            refine AllReadyL.cons (o := _) rfl (fun K hK => ?_) AllReadyL.nil
            try simp only [List.getElem_toArray, List.getElem_cons_succ, List.getElem_cons_zero]
            go_simp
            refine (CA.out _ HSd.out).mono ?_
            rintro e w' ⟨rfl, hq⟩
            subst hq
            try go_wp2_with fail
            clear hHeld
            refine hK.out _ _ ?_ (fun hHeld => ?_)
            · exact (HoldC.cons (c0) HoldC.nil)
            clear hK K
            try simp only [List.getElem_toArray, List.getElem_cons_succ, List.getElem_cons_zero, Act.put, List.setIfInBounds_toArray, List.set_cons_zero, List.set_cons_succ]
            refine wpAnyL_take (i := 7) (oi := _) (v := ?_) rfl (by kernel_rfl) (by kernel_rfl) (by kernel_rfl) (by kernel_rfl) (by kernel_rfl) (fun _ _ _ h => h) (Or.inl ⟨by rfl, ?_⟩) (by assumption) (fun hNew => ?_)
            rotate_left
            · intro w _
              go_simp
              try with_reducible rfl
            clear hHeld
            have hHeld := hNew
            clear hNew
            try simp only [List.getElem_toArray, List.getElem_cons_succ, List.getElem_cons_zero, Act.put, List.setIfInBounds_toArray, List.set_cons_zero, List.set_cons_succ]
            refine wpAnyL_take (i := 9) (oi := _) (v := ?_) rfl (by kernel_rfl) (by kernel_rfl) (by kernel_rfl) (by kernel_rfl) (by kernel_rfl) (fun _ _ _ h => h) (Or.inl ⟨by rfl, ?_⟩) (by assumption) (fun hNew => ?_)
            rotate_left
            · intro w _
              go_simp
              try with_reducible rfl
            clear hHeld
            have hHeld := hNew
            clear hNew
            try simp only [List.getElem_toArray, List.getElem_cons_succ, List.getElem_cons_zero, Act.put, List.setIfInBounds_toArray, List.set_cons_zero, List.set_cons_succ]
            refine wpAnyL_ready (rs := [10]) (by kernel_rfl) (by simp) ?_
            refine AllReadyL.cons (o := _) rfl (fun K hK => ?_) AllReadyL.nil
            try simp only [List.getElem_toArray, List.getElem_cons_succ, List.getElem_cons_zero]
            go_simp
            try rw [hwr.out]
            try rw [hwr2.out]
            refine CR.out.mono ?_
            rintro e w3 ⟨he, hc3⟩
            rw [if_neg (by rw [HDD.out]; simp), if_pos ⟨by omega, by omega⟩] at he
            obtain ⟨v3, rfl, hr3, hn3⟩ := he
            rw [HPK.out] at hr3
            have HC3 : Hid (Chg [] wr w3) := Lib.hid ((by exact (Chg.refl [] wr).drew : Chg [] wr wr.drew).trans hc3 (by simp))
            have HR3 := Lib.hid (HR.out.1.keep (fun g hg => HC3.out.block g (HR.out.1.lt g hg) (by simp)))
            have HB3 := Lib.hid hr3.bytes
            obtain ⟨a3, c3, hv3⟩ := hr3.bytes.slice
            rw [HL1.out] at hv3
            subst hv3
            have hsz : Hid ((flat k (fun k => s.d.now (pos + 1 + k))).length + (s.d.now (pos + 1 + k)).length ≤ 140737488355328) := Lib.hid (by
              rw [flat_len k _ (fun i hi => hlen64.out _ (by omega)), HL1.out]; omega)
            clear hc3 CR hr3 hn3
            try go_wp2_with fail
            clear hHeld
            refine hK.out _ _ ?_ (fun hHeld => ?_)
            · exact (HoldC.past (by kernel_rfl) HoldC.nil)
            clear hK K
            try simp only [List.getElem_toArray, List.getElem_cons_succ, List.getElem_cons_zero, Act.put, List.setIfInBounds_toArray, List.set_cons_zero, List.set_cons_succ]
            refine wpAnyL_take (i := 11) (oi := _) (v := ?_) rfl (by kernel_rfl) (by kernel_rfl) (by kernel_rfl) (by kernel_rfl) (by kernel_rfl) (fun _ _ _ h => h) (Or.inl ⟨by rfl, ?_⟩) (by assumption) (fun hNew => ?_)
            rotate_left
            · intro w _
              go_simp
              try with_reducible rfl
            clear hHeld
            have hHeld := hNew
            clear hNew
            try simp only [List.getElem_toArray, List.getElem_cons_succ, List.getElem_cons_zero, Act.put, List.setIfInBounds_toArray, List.set_cons_zero, List.set_cons_succ]
            refine wpAnyL_take (i := 12) (oi := _) (v := ?_) rfl (by kernel_rfl) (by kernel_rfl) (by kernel_rfl) (by kernel_rfl) (by kernel_rfl) (fun _ _ _ h => h) (Or.inl ⟨by rfl, ?_⟩) (by assumption) (fun hNew => ?_)
            rotate_left
            · intro w _
              go_simp
              try with_reducible rfl
            clear hHeld
            have hHeld := hNew
            clear hNew
            try simp only [List.getElem_toArray, List.getElem_cons_succ, List.getElem_cons_zero, Act.put, List.setIfInBounds_toArray, List.set_cons_zero, List.set_cons_succ]
            refine wpAnyL_take (i := 13) (oi := _) (v := ?_) rfl (by kernel_rfl) (by kernel_rfl) (by kernel_rfl) (by kernel_rfl) (by kernel_rfl) (fun _ _ _ h => h) (Or.inl ⟨by rfl, ?_⟩) (by assumption) (fun hNew => ?_)
            rotate_left
            · intro w _
              go_simp
              try with_reducible rfl
            clear hHeld
            have hHeld := hNew
            clear hNew
            try simp only [List.getElem_toArray, List.getElem_cons_succ, List.getElem_cons_zero, Act.put, List.setIfInBounds_toArray, List.set_cons_zero, List.set_cons_succ]
            refine wpAnyL_take (i := 14) (oi := _) (v := ?_) rfl (by kernel_rfl) (by kernel_rfl) (by kernel_rfl) (by kernel_rfl) (by kernel_rfl) (fun _ _ _ h => h) (Or.inl ⟨by rfl, ?_⟩) (by assumption) (fun hNew => ?_)
            rotate_left
            · intro w _
              go_simp
              try with_reducible rfl
            clear hHeld
            have hHeld := hNew
            clear hNew
            try simp only [List.getElem_toArray, List.getElem_cons_succ, List.getElem_cons_zero, Act.put, List.setIfInBounds_toArray, List.set_cons_zero, List.set_cons_succ]
            refine wpAnyL_take (i := 15) (oi := _) (v := ?_) rfl (by kernel_rfl) (by kernel_rfl) (by kernel_rfl) (by kernel_rfl) (by kernel_rfl) (fun _ _ _ h => h) (Or.inl ⟨by rfl, ?_⟩) (by assumption) (fun hNew => ?_)
            rotate_left
            · intro w _
              go_simp
              try with_reducible rfl
            clear hHeld
            have hHeld := hNew
            clear hNew
            try simp only [List.getElem_toArray, List.getElem_cons_succ, List.getElem_cons_zero, Act.put, List.setIfInBounds_toArray, List.set_cons_zero, List.set_cons_succ]
            refine wpAnyL_done (by kernel_rfl) ?_ _
            clear hHeld
            go_wp2_with (at_builtin; refine wpList_appB rfl (.tmp 64) (.tmp 65) rfl s6 (flat k (fun k => s.d.now (pos + 1 + k))) HS6.out.symm HR3.out _ (s.d.now (pos + 1 + k)) (by rfl) HB3.out hsz.out ?_; intro v4 w4 ho4 hg4 hat4)
            have HO4 := Lib.hid ho4
            have HG4 := Lib.hid hg4
            have HA4 := Lib.hid hat4
            clear ho4 hg4 hat4
            go_roundg (gk - 1)
            case measure => omega
            case rel =>
              have hr : BRow w4 v4 (flat (k + 1) (fun k => s.d.now (pos + 1 + k))) := by rw [flat_succ]; exact HO4.out
              obtain ⟨a, c4, he, _⟩ := hr.bytes
              rw [flat_len (k + 1) _ (fun i hi => hlen64.out _ (by omega))] at he
              refine ⟨k + 1, a, c4, he, by go_num, by omega, by omega, Lib.hid ⟨hr, fun g hg => ?_, (HR.out.2.2.trans HC3.out (by simp)).grown HG4.out (fun g hg => .inr (HR.out.2.1 g hg))⟩⟩
              rcases HA4.out with h | h
              · exact HR.out.2.1 g (by rw [← h]; exact hg)
              · rw [h] at hg
                have h1 := HR.out.2.2.size
                have h3 := HC3.out.size
                have h2 : w3.heap.size = g := by simpa using hg
                omega
          · have hkm : k = m := by omega
            obtain rfl := hkm.symm
            have c2 := HR.out.2.2.cell HC2.out (by simp)
            have k1 := HR.out.2.2.cell HK1.out (by simp)
            have CD2 := Lib.hid (ddead_any p S s.d wr (HDK.out.keep HR.out.2.2 (by simp)))
            rw [HDD.out] at CD2
            have hcb : m * 64 ≤ c6 := by
              obtain ⟨_, c, he, h1, _⟩ := HR.out.1.bytes
              rw [HS6.out] at he
              have e1 := (Value.slice.inj he).2.1
              have e2 := (Value.slice.inj he).2.2
              omega
            have hrz : (rn : Int) ≤ (c6 : Int) := by omega
            have hrz1 : (rn : Int).toNat = rn := by omega
            have hfin : ∀ w', Chg [] wr w' → Hid (GetPost (s.data (j : Int), 0) w (.returned (.tuple #[.slice a6 rn c6, .int .i64 0])) w') := fun w' hc => Lib.hid (by
              refine ⟨⟨_, rfl, ?_, ?_⟩, HR.out.2.2.trans hc (by simp)⟩
              · have hb := HR.out.1.bytes.chg hc (by simp)
                obtain ⟨a, c, he, h1, h2, h3⟩ := hb
                rw [HS6.out] at he
                obtain rfl := (Value.slice.inj he).1
                obtain rfl := (Value.slice.inj he).2.2
                rw [HDAT.out, ← HM.out, ← HRN.out]
                have hfl := flat_len m (fun k => s.d.now (pos + 1 + k)) (fun i hi => hlen64.out _ (by omega))
                have hlt : ((flat m (fun k => s.d.now (pos + 1 + k))).take rn).length = rn := by rw [List.length_take]; omega
                refine ⟨a6, c6, by dsimp only; rw [hlt], by dsimp only; rw [hlt]; omega, h2, ?_⟩
                rcases h3 with ⟨h3, h4⟩ | ⟨g, o, e, hcell⟩
                · left
                  exact ⟨by rw [h3]; simp, h4⟩
                · right
                  refine ⟨g, o, e, fun x hx => ?_⟩
                  rw [hlt] at hx
                  rw [getD_take _ _ _ hx]
                  exact hcell x (by omega)
              · intro g hg
                refine HR.out.2.1 g ?_
                rw [HS6.out]
                cases a6 <;> exact hg)
            have HFIN := Lib.hid hfin
            clear hfin
            go_wp2_with (go_at_call 38; refine CD2.out.mono ?_; rintro e w' ⟨rfl, hq⟩; subst hq)
            go_ret2
            exact (HFIN.out _ (Chg.refl _ _)).out
  · have hg : s.get i = ([], 1) := by unfold SS.get; rw [if_pos (by simpa using hi)]
    have HP := Lib.hid (fun (w' : World) (hc : Chg [] w w') => GetPost.nil (c := 1) hc)
    rw [decide_eq_false hi] at CH
    have HG := Lib.hid hg
    rw [HG.out]
    clear H hi hg
    go_enter Tryz.func144, Tryz.ntmps144
    go_wp2_with (go_at_call 137; refine CH.out.mono ?_; rintro e w' ⟨rfl, hq⟩; subst hq)
    go_ret2
    exact HP.out _ (Chg.refl _ _)
end Go.Proofs.YtdkhmfcfihbjeaaGreatDoor.W

/- Package slot: a row is set; Put. -/
namespace Go.Proofs.YtdkhmfcfihbjeaaGreatDoor.W
open Go.RowKit
set_option linter.unusedVariables false
set_option linter.unusedSimpArgs false

theorem Chg.grownBy {g : Nat} {w w' : World} (h : Chg [g] w w') : w.grownBy w' (some g) := ⟨h.os, h.tape, h.output, h.size, fun k hk hn => h.block k hk (by simpa using fun e : k = g => hn (by rw [e]))⟩
theorem SlotsOk.row {w : World} {q p : Nat} {S U : List Nat} {s : SS} {rv : Value} {R : List (SRow × Value)} (h : SlotsOk w q p S U s rv R) : w.ownsRow 0 192 3 rv R.length (rcells R) := h.obj.rows _ (List.mem_singleton.2 rfl)
theorem SlotsOk.there {w : World} {q p : Nat} {S U : List Nat} {s : SS} {rv : Value} {R : List (SRow × Value)} (h : SlotsOk w q p S U s rv R) (i : Nat) (hi : i < s.rows.length) (g cap : Nat) (hrv : rv = .slice (some ⟨g, 0, none⟩) s.rows.length cap) : w.there g (i * 3) 3 := by
  have hl := h.len
  rcases h.row.2 with ⟨h1, h2⟩ | ⟨g', cap', cur, h1, _, hb, h3, h4, h5, _⟩
  · omega
  · rw [hrv] at h1
    obtain ⟨rfl, -, rfl⟩ : g = g' ∧ s.rows.length = R.length ∧ cap = cap' := by simpa using h1
    intro j hj
    have hlt : i * 3 + j < cur.size := by
      have : (i + 1) * 3 ≤ cap * 3 := Nat.mul_le_mul_right _ (by omega)
      omega
    exact ⟨by rw [blk_cell hb _ _ (Array.getElem?_eq_getElem hlt)]; rfl, blk_frozen hb _⟩
theorem SlotsOk.setRow {w : World} {q p : Nat} {S U : List Nat} {s : SS} {rv : Value} {R : List (SRow × Value)} (h : SlotsOk w q p S U s rv R) (i : Nat) (hi : i < s.rows.length) (g cap : Nat) (hrv : rv = .slice (some ⟨g, 0, none⟩) s.rows.length cap)
    (r : SRow) (kv : Value) (hk : BytesAt w kv r.key) (hkU : ∀ k, kv.ownBlock = some k → k < w.heap.size ∧ k ∉ U) (hr : r.n ≤ 448 ∧ r.key.length ≤ 40) :
    Sid w (w.setCells g (i * 3) [.bool r.used, .int .i64 (r.n : Int), kv]) q p U { s with rows := s.rows.set i r } := by
  have hl := h.len
  have hC : Chg [g] w (w.setCells g (i * 3) [.bool r.used, .int .i64 (r.n : Int), kv]) := (Chg.refl _ _).setCells (.inl (by simp)) _
  have hob : rv.ownBlock = some g := by rw [hrv]; rfl
  have hgb : g ∈ blks q [rowD rv R] := blks_row (r := rowD rv R) (List.mem_singleton.2 rfl) hob
  have hgU := h.uB g hgb
  have hrow := h.row
  have hR' : (rowD rv (R.set i (r, kv))).At (w.setCells g (i * 3) [.bool r.used, .int .i64 (r.n : Int), kv]) := by
    show (w.setCells g (i * 3) [.bool r.used, .int .i64 (r.n : Int), kv]).ownsRow 0 192 3 rv (R.set i (r, kv)).length (rcells (R.set i (r, kv)))
    rw [List.length_set, rcells_set R i _ (by omega)]
    rw [hrv, ← hl] at hrow ⊢
    exact row_set (row_set (row_set hrow (i * 3) _ (by omega)) (i * 3 + 1) _ (by omega)) (i * 3 + 2) _ (by omega)
  have hgr := ObjAt.grow (a := []) (b := []) h.obj (r' := rowD rv (R.set i (r, kv))) (by rw [show (rowD rv R).v.ownBlock = some g from hob]; exact hC.grownBy) hR' (fun k hk => .inl hk)
  generalize w.setCells g (i * 3) [.bool r.used, .int .i64 (r.n : Int), kv] = W at *
  have hgu : ∀ x ∈ [g], x ∈ U := fun x hx => (List.mem_singleton.1 hx) ▸ hgU
  have hnot : ∀ k, k ∉ U → k ∉ [g] := fun k hk hm => hk (hgu k hm)
  refine ⟨U, ⟨S, rv, R.set i (r, kv), hgr.1, h.disk.keep hC (fun x hx hm => ?_), ?_, h.sep, fun x hx => ?_, h.uS, h.uB, fun x hx => Nat.lt_of_lt_of_le (h.uL x hx) hC.size, ⟨?_, fun x hx => ?_⟩⟩, fun x hx => .inl hx, hC.mono (fun x hx => .inl (hgu x hx))⟩
  · exact h.sep _ hgb (by rw [← List.mem_singleton.1 hm]; exact hx)
  · rw [List.map_set, h.rows]
  · rcases List.mem_or_eq_of_mem_set hx with hx | rfl
    · obtain ⟨k1, k2⟩ := h.keys x hx
      exact ⟨k1.chg hC (fun k hk => hnot k (k2 k hk).2), fun g' hg' => ⟨Nat.lt_of_lt_of_le (k2 g' hg').1 hC.size, (k2 g' hg').2⟩⟩
    · exact ⟨hk.chg hC (fun k hk => hnot k (hkU k hk).2), fun g' hg' => ⟨Nat.lt_of_lt_of_le (hkU g' hg').1 hC.size, (hkU g' hg').2⟩⟩
  · show s.first + 8 * (s.rows.set i r).length ≤ s.d.n
    rw [List.length_set]
    exact h.ok.room
  · rcases List.mem_or_eq_of_mem_set hx with hx | rfl
    · exact h.ok.rows x hx
    · exact hr

/-- The three steps of a head. -/
def h1 : List UInt8 × Int := penNum [] 0 1 1
def h2 (n : Nat) : List UInt8 × Int := penNum h1.1 h1.2 n 2
def h3 (n : Nat) (key : List UInt8) : List UInt8 × Int := penRaw (h2 n).1 (h2 n).2 key
theorem h1_eq : h1 = ([1], 0) := rfl
theorem h2_eq (n : Nat) (hn : n ≤ 448) : h2 n = ([1] ++ beBytes 2 n, 0) := by
  unfold h2
  rw [h1_eq]
  unfold penNum
  dsimp only
  rw [if_neg (by simp), if_neg (by omega)]
  unfold penAdd
  rw [if_neg (by simp), if_neg (by simp [beBytes_len]), Int.toNat_natCast]
theorem h3_eq (n : Nat) (key : List UInt8) (hn : n ≤ 448) (hk : key.length ≤ 40) : h3 n key = ([1] ++ beBytes 2 n ++ (beBytes 2 key.length ++ key), 0) := by
  unfold h3
  rw [h2_eq n hn]
  unfold penRaw
  rw [if_neg (by simp), if_neg (by omega)]
  unfold penAdd
  rw [if_neg (by simp), if_neg (by simp [beBytes_len]; omega)]
theorem head_h3 (n : Nat) (key : List UInt8) : headBytes n key = (h3 n key).1 := rfl
theorem headBytes_len (n : Nat) (key : List UInt8) (hn : n ≤ 448) (hk : key.length ≤ 40) : (headBytes n key).length = 5 + key.length := by
  rw [head_h3, h3_eq n key hn hk]
  simp [beBytes_len]; omega
theorem DS.lays_ok (d : DS) (pos : Nat) (b : List UInt8) : (d.lays pos b).2.n = d.n ∧ (d.lays pos b).2.ops ≤ d.ops + nsec b.length + 1 ∧ (d.lays pos b).2.since.length ≤ d.since.length + nsec b.length := DS.lay_ok _ _ _ _ _
end Go.Proofs.YtdkhmfcfihbjeaaGreatDoor.W

/- Package slot: Put. -/
namespace Go.Proofs.YtdkhmfcfihbjeaaGreatDoor.W
open Go.RowKit
set_option linter.unusedVariables false
set_option linter.unusedSimpArgs false

/-- What a change of the slots answers. -/
def SidPost (w : World) (q p : Nat) (U : List Nat) (r : Int × SS) (e : Ending) (w' : World) : Prop := e = .returned (.int .i64 r.1) ∧ Sid w w' q p U r.2
theorem SidPost.same {w : World} {q p : Nat} {U : List Nat} {s : SS} {c : Int} (h : SlotsAt w q p U s) : SidPost w q p U (c, s) (.returned (.int .i64 c)) w := ⟨rfl, Sid.same h⟩

theorem SlotsOk.keep0 {w w' : World} {q p : Nat} {S U : List Nat} {s : SS} {rv : Value} {R : List (SRow × Value)} (h : SlotsOk w q p S U s rv R) (hc : Chg [] w w') : SlotsOk w' q p S U s rv R :=
  ⟨h.obj.keep hc (by simp), h.disk.keep hc (by simp), h.rows, h.sep, fun x hx => ⟨(h.keys x hx).1.chg hc (by simp), fun g hg => ⟨Nat.lt_of_lt_of_le ((h.keys x hx).2 g hg).1 hc.size, ((h.keys x hx).2 g hg).2⟩⟩, h.uS, h.uB, fun x hx => Nat.lt_of_lt_of_le (h.uL x hx) hc.size, h.ok⟩

set_option maxHeartbeats 8000000 in
set_option maxRecDepth 100000 in
theorem sput_any (q p : Nat) (U : List Nat) (s : SS) (i : Int) (kv bv : Value) (key b : List UInt8) (w : World) (h : SlotsAt w q p U s) (hk : BytesAt w kv key) (hkU : key ≠ [] → ∀ k, kv.ownBlock = some k → k ∉ U) (hb : BytesAt w bv b) (hbU : b ≠ [] → ∀ k, bv.ownBlock = some k → k ∉ U)
    (hkl : key.length ≤ 1000000) (hbl : b.length ≤ 1000000) (ho : s.d.ops ≤ 900000000) (hw : s.d.since.length ≤ 900000) :
    Calls Tryz.prog 147 #[.pointer (some ⟨q, 0, none⟩), .int .i64 i, kv, bv] w (SidPost w q p U (s.put i key b)) := by
  have CH := Lib.hid (shas_any q p U s i w h)
  have HS := Lib.hid h
  have HK := Lib.hid hk
  have HB := Lib.hid hb
  obtain ⟨S, rv, R, H⟩ := h
  have c0 : w.cell? ⟨q, 0, none⟩ = some (.pointer (some ⟨p, 0, none⟩)) := blk_cell H.obj.head 0 _ rfl
  have c2 : w.cell? ⟨q, 2, none⟩ = some rv := blk_cell H.obj.head 2 _ rfl
  obtain ⟨ka, kc, rfl⟩ := hk.slice
  obtain ⟨ba, bc, rfl⟩ := hb.slice
  by_cases hi : s.has i
  · rw [decide_eq_true hi] at CH
    have hi' := hi
    obtain ⟨h0, h1⟩ := hi'
    obtain ⟨j, rfl⟩ := Int.eq_ofNat_of_zero_le h0
    have hjl : j < s.rows.length := by omega
    by_cases hlong : 40 < key.length ∨ 448 < b.length
    · have hg : s.put (j : Int) key b = (3, s) := by unfold SS.put; rw [if_neg (by simpa using hi), if_pos hlong]
      have HP := Lib.hid (SidPost.same (c := 3) HS.out)
      have HG := Lib.hid hg
      rw [HG.out]
      clear H hi hg hk hb hkU hbU c2
      by_cases hk40 : 40 < key.length
      · have hz : (40 : Int) < (key.length : Int) := by omega
        clear hlong hk40
        go_enter Tryz.func147, Tryz.ntmps147
        go_wp2_with (go_at_call 137; refine CH.out.mono ?_; rintro e w' ⟨rfl, hq⟩; subst hq)
        go_ret
        exact HP.out
      · have hz : ¬ (40 : Int) < (key.length : Int) := by omega
        have hz2 : (448 : Int) < (b.length : Int) := by omega
        clear hlong hk40
        go_enter Tryz.func147, Tryz.ntmps147
        go_wp2_with (go_at_call 137; refine CH.out.mono ?_; rintro e w' ⟨rfl, hq⟩; subst hq)
        go_ret
        exact HP.out
    · obtain ⟨hk40, hb448⟩ : key.length ≤ 40 ∧ b.length ≤ 448 := by omega
      obtain ⟨g, cap, kv0, hrv, hcap, hcm, hR, k0, k1, k2, k3, k4⟩ := H.at j hjl
      have hfew := H.few
      have hrow : s.row (j : Int) = s.rows.getD j noRow := rfl
      have hz1 : ¬ (40 : Int) < (key.length : Int) := by omega
      have hz2 : ¬ (448 : Int) < (b.length : Int) := by omega
      by_cases hu : (s.row (j : Int)).used = true
      · have hg : s.put (j : Int) key b = (7, s) := by unfold SS.put; rw [if_neg (by simpa using hi), if_neg hlong, if_pos hu]
        have HP := Lib.hid (SidPost.same (c := 7) HS.out)
        have HG := Lib.hid hg
        rw [HG.out]
        rw [hrow] at hu
        rw [hu] at k0
        subst hrv
        generalize s.rows.getD j noRow = r at *
        generalize s.rows.length = n at *
        have hjz : (j : Int) < (n : Int) := by omega
        have hjz1 : (j : Int).toNat = j := by omega
        clear H hR k1 k2 k3 k4 hu hg hi hrow hlong hk hb hkU hbU
        go_enter Tryz.func147, Tryz.ntmps147
        go_wp2_with (go_at_call 137; refine CH.out.mono ?_; rintro e w' ⟨rfl, hq⟩; subst hq)
        go_ret
        exact HP.out
      · have hu' : (s.rows.getD j noRow).used = false := by rw [← hrow]; simpa using hu
        have hg : s.put (j : Int) key b = if (s.d.lays (s.pos j + 1) b).1 ≠ 0 then ((s.d.lays (s.pos j + 1) b).1, { s with d := (s.d.lays (s.pos j + 1) b).2 }) else
            if ((s.d.lays (s.pos j + 1) b).2.lays (s.pos j) (headBytes b.length key)).1 ≠ 0 then (((s.d.lays (s.pos j + 1) b).2.lays (s.pos j) (headBytes b.length key)).1, { s with d := ((s.d.lays (s.pos j + 1) b).2.lays (s.pos j) (headBytes b.length key)).2 }) else
            (0, { s with d := ((s.d.lays (s.pos j + 1) b).2.lays (s.pos j) (headBytes b.length key)).2, rows := s.rows.set j ⟨true, b.length, key⟩ }) := by
          unfold SS.put
          rw [if_neg (by simpa using hi), if_neg hlong, if_neg hu]
          rfl
        rw [hu'] at k0
        have hpos : s.pos (j : Int) = s.first + 8 * j := rfl
        have hroom := H.ok.room
        have hns : nsec b.length ≤ 7 := by unfold nsec; omega
        have hns2 : nsec (headBytes b.length key).length = 1 := by rw [headBytes_len _ _ hb448 hk40]; unfold nsec; omega
        have CA := Lib.hid (sat_any q p U s j w HS.out (by omega))
        have CL1 := Lib.hid (slay_any q p U s (s.pos j + 1) _ b w HS.out HB.out hbU (by omega) (by omega) (by omega) (by omega))
        have CA2 : Hid (∀ U' d' w', SlotsAt w' q p U' { s with d := d' } → Calls Tryz.prog 162 #[.pointer (some ⟨q, 0, none⟩), .int .i64 (j : Int)] w' fun e w'' => e = .returned (.int .i64 ((s.pos (j : Int) : Nat) : Int)) ∧ w' = w'') := Lib.hid (fun U' d' w' h' => sat_any q p U' { s with d := d' } j w' h' (by omega))
        have CL2 := Lib.hid (fun U' d' v w' (h' : SlotsAt w' q p U' { s with d := d' }) (hn : d'.n = s.d.n) (hv : BytesAt w' v (headBytes b.length key)) hvU ho' hw' => slay_any q p U' { s with d := d' } (s.pos j) v (headBytes b.length key) w' h' hv hvU (by rw [hns2]; show _ ≤ d'.n; omega) (by rw [headBytes_len _ _ hb448 hk40]; omega) ho' hw')
        have hok1 := s.d.lays_ok (s.pos j + 1) b
        have hok2 := (s.d.lays (s.pos j + 1) b).2.lays_ok (s.pos j) (headBytes b.length key)
        rw [hns2] at hok2
        obtain ⟨Z, hZ⟩ : ∃ Z, Z = s.put (j : Int) key b := ⟨_, rfl⟩
        rw [← hZ] at hg ⊢
        have HKU := Lib.hid hkU
        have HBU := Lib.hid hbU
        have HN2 := Lib.hid hns2
        have hjz : (j : Int) < (s.rows.length : Int) := by omega
        have hjz1 : (j : Int).toNat = j := by omega
        have hpl : s.pos (j : Int) ≤ 4160 := by omega
        subst hrv
        have H3 : Hid ((h2 b.length).2 = 0 ∧ (h3 b.length key).2 = 0) := Lib.hid ⟨by rw [h2_eq _ hb448], by rw [h3_eq _ _ hb448 hk40]⟩
        clear H hR k1 k2 k3 k4 hu hu' hi hrow hlong hk hb hkU hbU hpos hroom hns2 hZ
        generalize s.d.lays (s.pos j + 1) b = z1 at *
        obtain ⟨r1, d1⟩ := z1
        dsimp only at CL1 CL2 hok1 hok2 hg
        obtain ⟨pos, hps⟩ : ∃ pos, pos = s.pos (j : Int) := ⟨_, rfl⟩
        rw [← hps] at CL1 CL2 CA CA2 hpl hok2 hg
        have HG := Lib.hid hg
        clear hg
        have HPS := Lib.hid hps
        obtain ⟨n, hn⟩ : ∃ n, n = s.rows.length := ⟨_, rfl⟩
        rw [← hn] at c2 hjz hcap hjl
        have HN := Lib.hid hn
        clear hps hn h1 hfew
        go_enter Tryz.func147, Tryz.ntmps147
        go_wp2_with (first
          | (go_at_call 137; refine CH.out.mono ?_; rintro e w' ⟨rfl, hq⟩; subst hq)
          | (go_at_call 162; refine CA.out.mono ?_; rintro e w' ⟨rfl, hq⟩; subst hq))
        refine CL1.out.mono ?_
        rintro e w1 ⟨rfl, hs1⟩
        by_cases hr1 : r1 = 0
        · subst hr1
          have HG1 := Lib.hid HG.out
          rw [if_neg (show ¬ (0 : Int) ≠ 0 by simp)] at HG1
          obtain ⟨U1, hS1, hU1, hC1⟩ := hs1
          obtain ⟨w2, hw2⟩ : ∃ w2, w2 = w1.alloc (.cells #[.slice none 0 0, .int .i64 0] 110) := ⟨_, rfl⟩
          have hc2 : Chg [] w1 w2 := by rw [hw2]; exact (Chg.refl _ _).alloc _
          have hp2 : PenAt 110 w2 w1.heap.size none [] 0 := ⟨.slice none 0 0, by rw [hw2]; exact heap_alloc_new w1 _, BRow.nil _, rfl, by simp, by simp⟩
          have HS1 := Lib.hid hS1
          have HU1 := Lib.hid hU1
          have HC1 := Lib.hid hC1
          have HW2 := Lib.hid hw2
          have CN1 := Lib.hid (pnum_any w1.heap.size none [] 0 1 1 w2 hp2 (by omega) (by omega))
          rw [show penNum [] 0 1 (1 : Int).toNat = h1 from rfl] at CN1
          have HC2 := Lib.hid hc2
          clear hS1 hU1 hC1 hw2 hp2 hc2 CL1
          go_wp2_with fail
          rw [← HW2.out]
          refine CN1.out.mono ?_
          rintro e w3 ⟨rfl, hw3⟩
          obtain ⟨g3, hp3, hg3, hc3⟩ := hw3
          have HC3 : Hid (Chg [] w1 w3) := Lib.hid (HC2.out.trans hc3 (fun x hx => .inr (by
            have : x = w1.heap.size := by simpa using hx
            omega)))
          have hge3 : ∀ k, g3 = some k → w1.heap.size ≤ k := by
            intro k hk
            rcases hg3 with rfl | ⟨k', rfl, h'⟩
            · cases hk
            · obtain rfl : k' = k := by simpa using hk
              exact Nat.le_trans HC2.out.size h'
          have CN2 := Lib.hid (pnum_any w1.heap.size g3 h1.1 h1.2 (b.length : Int) 2 w3 hp3 (by omega) (by omega))
          rw [show penNum h1.1 h1.2 (b.length : Int) (2 : Int).toNat = h2 b.length from rfl] at CN2
          have HGE3 := Lib.hid hge3
          clear hp3 hg3 hc3 hge3 CN1
          go_wp2_with fail
          refine CN2.out.mono ?_
          rintro e w4 ⟨rfl, hw4⟩
          obtain ⟨g4, hp4, hg4, hc4⟩ := hw4
          have HC4 : Hid (Chg [] w1 w4) := Lib.hid (HC3.out.trans hc4 (fun x hx => .inr (by
            rcases List.mem_cons.1 hx with rfl | hx
            · exact Nat.le_refl _
            · exact HGE3.out x (by simpa using hx))))
          have hge4 : ∀ k, g4 = some k → w1.heap.size ≤ k := by
            intro k hk
            rcases hg4 with rfl | ⟨k', rfl, h'⟩
            · exact HGE3.out k hk
            · obtain rfl : k' = k := by simpa using hk
              exact Nat.le_trans HC3.out.size h'
          have hkey4 : BytesAt w4 (.slice ka key.length kc) key := (HK.out.chgW HC1.out HKU.out).chg HC4.out (by simp)
          have CR := Lib.hid (praw_any w1.heap.size g4 (h2 b.length).1 (h2 b.length).2 _ key w4 hp4 hkey4 (by omega))
          rw [show penRaw (h2 b.length).1 (h2 b.length).2 key = h3 b.length key from rfl] at CR
          have HGE4 := Lib.hid hge4
          clear hp4 hg4 hc4 hge4 CN2 hkey4
          go_wp2_with fail
          refine CR.out.mono ?_
          rintro e w5 ⟨rfl, hw5⟩
          obtain ⟨g5, hp5, hg5, hc5⟩ := hw5
          have HC5 : Hid (Chg [] w1 w5) := Lib.hid (HC4.out.trans hc5 (fun x hx => .inr (by
            rcases List.mem_cons.1 hx with rfl | hx
            · exact Nat.le_refl _
            · exact HGE4.out x (by simpa using hx))))
          rw [H3.out.2] at hp5
          have CB := Lib.hid (pbytes_any w1.heap.size g5 (h3 b.length key).1 w5 hp5)
          rw [← head_h3] at CB
          clear hp5 hg5 hc5 CR
          go_wp2_with fail
          refine CB.out.mono ?_
          rintro e w6 ⟨v6, rfl, hr6, ho6, hc6⟩
          have HC6 : Hid (Chg [] w1 w6) := Lib.hid (HC5.out.trans hc6 (by simp))
          have hS6 : SlotsAt w6 q p U1 { s with d := d1 } := HS1.out.keep0 HC6.out
          have hv6 : headBytes b.length key ≠ [] → ∀ k, v6.ownBlock = some k → k ∉ U1 := fun _ k hk hm => by
            have a1 := ho6 k hk
            obtain ⟨_, _, _, H1⟩ := HS1.out
            have a2 := H1.uL k hm
            have a3 := HC5.out.size
            omega
          have CAT := Lib.hid (CA2.out U1 d1 w6 hS6)
          have CL := Lib.hid (CL2.out U1 d1 v6 w6 hS6 hok1.1 hr6.bytes hv6 (by rw [HN2.out]; show d1.ops + 1 + 1 ≤ _; omega) (by rw [HN2.out]; show d1.since.length + 1 ≤ _; omega))
          clear CL2 CA2 hS6 hv6 hr6 ho6 hc6 CB
          generalize d1.lays pos (headBytes b.length key) = z2 at *
          obtain ⟨r2, d2⟩ := z2
          dsimp only at CL hok2 HG1
          go_wp2_with (go_at_call 162; refine CAT.out.mono ?_; rintro e w' ⟨rfl, hq⟩; subst hq)
          refine CL.out.mono ?_
          rintro e w7 ⟨rfl, hs7⟩
          have hs7' := Sid.glue HU1.out HC1.out (Sid.pre HC6.out hs7)
          by_cases hr2 : r2 = 0
          · subst hr2
            rw [if_neg (show ¬ (0 : Int) ≠ 0 by simp)] at HG1
            obtain ⟨U7, ⟨S7, rv7, R7, H7⟩, hU7, hC7⟩ := hs7'
            have c07 : w7.cell? ⟨q, 0, none⟩ = some (.pointer (some ⟨p, 0, none⟩)) := blk_cell H7.obj.head 0 _ rfl
            obtain ⟨g7, cap7, kv7, hrv7, hcap7, hcm7, hR7, _, _, _, _, _⟩ := H7.at j (by rw [HN.out] at hjl; exact hjl)
            have c27 : w7.cell? ⟨q, 2, none⟩ = some rv7 := blk_cell H7.obj.head 2 _ rfl
            rw [show ({ s with d := d2 } : SS).rows.length = s.rows.length from rfl, ← HN.out] at hrv7 hcap7
            have CC := Lib.hid (clone_any _ key w7.drew ((HK.out.chgW hC7 HKU.out).chg (by exact (Chg.refl [] w7).drew) (by simp)) (by omega))
            have HH7 := Lib.hid H7
            have HU7 := Lib.hid hU7
            have HC7 := Lib.hid hC7
            have HRV : Hid (∃ x, x = rv7 ∧ x = .slice (some ⟨g7, 0, none⟩) n cap7) := Lib.hid ⟨rv7, rfl, hrv7⟩
            subst hrv7
            clear H7 hU7 hC7 hs7 hR7 CL CAT
            go_wp2_with fail
            refine wp_region_L [(11, fun w' => w'.cell? ⟨q, 2, none⟩ = some (.slice (some ⟨g7, 0, none⟩) n cap7))] (by kernel_rfl) ?_ (fun hHeld => ?_)
            · exact (HoldC.cons (c27) HoldC.nil)
            refine wpAnyL_take (i := 0) (oi := _) (v := ?_) rfl (by kernel_rfl) (by kernel_rfl) (by kernel_rfl) (by kernel_rfl) (by kernel_rfl) (fun _ _ _ h => h) (Or.inl ⟨by rfl, ?_⟩) (by assumption) (fun hNew => ?_)
            rotate_left
            · intro w _
              go_simp
              try with_reducible rfl
            clear hHeld
            have hHeld := hNew
            clear hNew
            try simp only [List.getElem_toArray, List.getElem_cons_succ, List.getElem_cons_zero, Act.put, List.setIfInBounds_toArray, List.set_cons_zero, List.set_cons_succ]
            refine wpAnyL_take (i := 1) (oi := _) (v := ?_) rfl (by kernel_rfl) (by kernel_rfl) (by kernel_rfl) (by kernel_rfl) (by kernel_rfl) (fun _ _ _ h => h) (Or.inl ⟨by rfl, ?_⟩) (by assumption) (fun hNew => ?_)
            rotate_left
            · intro w _
              go_simp
              try with_reducible rfl
            clear hHeld
            have hHeld := hNew
            clear hNew
            try simp only [List.getElem_toArray, List.getElem_cons_succ, List.getElem_cons_zero, Act.put, List.setIfInBounds_toArray, List.set_cons_zero, List.set_cons_succ]
            refine wpAnyL_take (i := 2) (oi := _) (v := ?_) rfl (by kernel_rfl) (by kernel_rfl) (by kernel_rfl) (by kernel_rfl) (by kernel_rfl) (fun _ _ _ h => h) (Or.inl ⟨by rfl, ?_⟩) (by assumption) (fun hNew => ?_)
            rotate_left
            · intro w _
              go_simp
              try with_reducible rfl
            clear hHeld
            have hHeld := hNew
            clear hNew
            try simp only [List.getElem_toArray, List.getElem_cons_succ, List.getElem_cons_zero, Act.put, List.setIfInBounds_toArray, List.set_cons_zero, List.set_cons_succ]
            refine wpAnyL_load 0 (i := 3) (oi := _) (v := ?_) rfl rfl (by kernel_rfl) (by kernel_rfl) (by kernel_rfl) (by kernel_rfl) (by kernel_rfl) (by kernel_rfl) (fun _ _ _ h => h) (Or.inl ⟨by rfl, ?_⟩) (by assumption) (fun hNew => ?_)
            rotate_left
            · intro w hSw
              (try dsimp only at hSw)
              go_simp
              try with_reducible rfl
            clear hHeld
            have hHeld := hNew
            clear hNew
            try simp only [List.getElem_toArray, List.getElem_cons_succ, List.getElem_cons_zero, Act.put, List.setIfInBounds_toArray, List.set_cons_zero, List.set_cons_succ]
            refine wpAnyL_take (i := 4) (oi := _) (v := ?_) rfl (by kernel_rfl) (by kernel_rfl) (by kernel_rfl) (by kernel_rfl) (by kernel_rfl) (fun _ _ _ h => h) (Or.inl ⟨by rfl, ?_⟩) (by assumption) (fun hNew => ?_)
            rotate_left
            · intro w _
              go_simp
              try with_reducible rfl
            clear hHeld
            have hHeld := hNew
            clear hNew
            try simp only [List.getElem_toArray, List.getElem_cons_succ, List.getElem_cons_zero, Act.put, List.setIfInBounds_toArray, List.set_cons_zero, List.set_cons_succ]
            refine wpAnyL_take (i := 5) (oi := _) (v := ?_) rfl (by kernel_rfl) (by kernel_rfl) (by kernel_rfl) (by kernel_rfl) (by kernel_rfl) (fun _ _ _ h => h) (Or.inl ⟨by rfl, ?_⟩) (by assumption) (fun hNew => ?_)
            rotate_left
            · intro w _
              go_simp
              try with_reducible rfl
            clear hHeld
            have hHeld := hNew
            clear hNew
            try simp only [List.getElem_toArray, List.getElem_cons_succ, List.getElem_cons_zero, Act.put, List.setIfInBounds_toArray, List.set_cons_zero, List.set_cons_succ]
            refine wpAnyL_take (i := 6) (oi := _) (v := ?_) rfl (by kernel_rfl) (by kernel_rfl) (by kernel_rfl) (by kernel_rfl) (by kernel_rfl) (fun _ _ _ h => h) (Or.inl ⟨by rfl, ?_⟩) (by assumption) (fun hNew => ?_)
            rotate_left
            · intro w _
              go_simp
              try with_reducible rfl
            clear hHeld
            have hHeld := hNew
            clear hNew
            try simp only [List.getElem_toArray, List.getElem_cons_succ, List.getElem_cons_zero, Act.put, List.setIfInBounds_toArray, List.set_cons_zero, List.set_cons_succ]
            refine wpAnyL_take (i := 7) (oi := _) (v := ?_) rfl (by kernel_rfl) (by kernel_rfl) (by kernel_rfl) (by kernel_rfl) (by kernel_rfl) (fun _ _ _ h => h) (Or.inl ⟨by rfl, ?_⟩) (by assumption) (fun hNew => ?_)
            rotate_left
            · intro w _
              go_simp
              try with_reducible rfl
            clear hHeld
            have hHeld := hNew
            clear hNew
            try simp only [List.getElem_toArray, List.getElem_cons_succ, List.getElem_cons_zero, Act.put, List.setIfInBounds_toArray, List.set_cons_zero, List.set_cons_succ]
            refine wpAnyL_ready (rs := [8]) (by kernel_rfl) (by simp) ?_
            refine AllReadyL.cons (o := _) rfl (fun K hK => ?_) AllReadyL.nil
            try simp only [List.getElem_toArray, List.getElem_cons_succ, List.getElem_cons_zero]
            go_simp
            refine CC.out.mono ?_
            rintro e w8 ⟨v8, rfl, hr8, ho8, hc8⟩
            have HC8 : Hid (Chg [] w7 w8) := Lib.hid ((by exact (Chg.refl [] w7).drew : Chg [] w7 w7.drew).trans hc8 (by simp))
            obtain ⟨a8, c8, rfl⟩ := hr8.bytes.slice
            have H8 := HH7.out.keep0 HC8.out
            have HSR := Lib.hid (H8.setRow j (by rw [HN.out] at hjl; exact hjl) g7 cap7 (by rw [HN.out]) ⟨true, b.length, key⟩ _ hr8.bytes (fun k hk => ⟨hr8.lt k hk, fun hm => by
              have a1 := ho8 k hk
              have a2 := HH7.out.uL k hm
              have a3 : w7.drew.heap.size = w7.heap.size := rfl
              omega⟩) ⟨hb448, hk40⟩)
            have TH := Lib.hid (H8.there j (by rw [HN.out] at hjl; exact hjl) g7 cap7 (by rw [HN.out]))
            clear H8 hr8 ho8 hc8 CC
            have c28 := HC8.out.cell c27 (by simp)
            try go_wp2_with fail
            clear hHeld
            refine hK.out _ _ ?_ (fun hHeld => ?_)
            · exact (HoldC.cons (c28) HoldC.nil)
            clear hK K
            try simp only [List.getElem_toArray, List.getElem_cons_succ, List.getElem_cons_zero, Act.put, List.setIfInBounds_toArray, List.set_cons_zero, List.set_cons_succ]
            refine wpAnyL_take (i := 9) (oi := _) (v := ?_) rfl (by kernel_rfl) (by kernel_rfl) (by kernel_rfl) (by kernel_rfl) (by kernel_rfl) (fun _ _ _ h => h) (Or.inl ⟨by rfl, ?_⟩) (by assumption) (fun hNew => ?_)
            rotate_left
            · intro w _
              go_simp
              try with_reducible rfl
            clear hHeld
            have hHeld := hNew
            clear hNew
            try simp only [List.getElem_toArray, List.getElem_cons_succ, List.getElem_cons_zero, Act.put, List.setIfInBounds_toArray, List.set_cons_zero, List.set_cons_succ]
            refine wpAnyL_take (i := 10) (oi := _) (v := ?_) rfl (by kernel_rfl) (by kernel_rfl) (by kernel_rfl) (by kernel_rfl) (by kernel_rfl) (fun _ _ _ h => h) (Or.inl ⟨by rfl, ?_⟩) (by assumption) (fun hNew => ?_)
            rotate_left
            · intro w _
              go_simp
              try with_reducible rfl
            clear hHeld
            have hHeld := hNew
            clear hNew
            try simp only [List.getElem_toArray, List.getElem_cons_succ, List.getElem_cons_zero, Act.put, List.setIfInBounds_toArray, List.set_cons_zero, List.set_cons_succ]
            refine wpAnyL_ready (rs := [11]) (by kernel_rfl) (by simp) ?_
            refine AllReadyL.cons (o := _) rfl (fun K hK => ?_) AllReadyL.nil
            try simp only [List.getElem_toArray, List.getElem_cons_succ, List.getElem_cons_zero]
            rw [if_pos (by rfl)]
            refine wp_store_mid 192 (.tmp 92) (.tmp 91) (by rfl) g7 (j * 3) #[.bool true, .int .i64 (b.length : Int), .slice a8 key.length c8] (by rfl) (by rfl) TH.out (by kernel_rfl) (by simp [Value.oneCell']) ?_
            clear hHeld
            refine hK.out _ _ ?_ (fun hHeld => ?_)
            · exact (HoldC.past (by kernel_rfl) HoldC.nil)
            clear hK K
            try simp only [List.getElem_toArray, List.getElem_cons_succ, List.getElem_cons_zero, Act.put, List.setIfInBounds_toArray, List.set_cons_zero, List.set_cons_succ]
            refine wpAnyL_done (by kernel_rfl) ?_ _
            clear hHeld
            go_wp2
            go_ret
            rw [HG1.out]
            exact ⟨rfl, Sid.glue HU7.out HC7.out (Sid.pre HC8.out HSR.out)⟩
          · have q2 : (r2 != 0) = true := by simp [hr2]
            have HG2 : Hid (Z = (r2, { s with d := d2 })) := Lib.hid (by rw [HG1.out, if_pos hr2])
            have HS7 := Lib.hid hs7'
            clear hs7' hs7 hr2
            go_wp2
            go_ret
            rw [HG2.out]
            exact ⟨rfl, HS7.out⟩
        · have q1 : (r1 != 0) = true := by simp [hr1]
          have HG1 : Hid (Z = (r1, { s with d := d1 })) := Lib.hid (by rw [HG.out, if_pos hr1])
          have HS1 := Lib.hid hs1
          clear hs1 CL1 CL2 hr1
          go_wp2
          go_ret
          rw [HG1.out]
          exact ⟨rfl, HS1.out⟩
  · have hg : s.put i key b = (1, s) := by unfold SS.put; rw [if_pos (by simpa using hi)]
    have HP := Lib.hid (SidPost.same (c := 1) HS.out)
    rw [decide_eq_false hi] at CH
    have HG := Lib.hid hg
    rw [HG.out]
    clear H hi hg hk hb hkU hbU c2
    go_enter Tryz.func147, Tryz.ntmps147
    go_wp2_with (go_at_call 137; refine CH.out.mono ?_; rintro e w' ⟨rfl, hq⟩; subst hq)
    go_ret
    exact HP.out
end Go.Proofs.YtdkhmfcfihbjeaaGreatDoor.W

/- Package slot: Clear. -/
namespace Go.Proofs.YtdkhmfcfihbjeaaGreatDoor.W
open Go.RowKit
set_option linter.unusedVariables false
set_option linter.unusedSimpArgs false

set_option maxHeartbeats 8000000 in
set_option maxRecDepth 100000 in
theorem sclear_any (q p : Nat) (U : List Nat) (s : SS) (i : Int) (w : World) (h : SlotsAt w q p U s) (ho : s.d.ops ≤ 900000000) (hw : s.d.since.length ≤ 900000) :
    Calls Tryz.prog 148 #[.pointer (some ⟨q, 0, none⟩), .int .i64 i] w (SidPost w q p U (s.clear i)) := by
  have CH := Lib.hid (shas_any q p U s i w h)
  have HS := Lib.hid h
  obtain ⟨S, rv, R, H⟩ := h
  have c0 : w.cell? ⟨q, 0, none⟩ = some (.pointer (some ⟨p, 0, none⟩)) := blk_cell H.obj.head 0 _ rfl
  have c2 : w.cell? ⟨q, 2, none⟩ = some rv := blk_cell H.obj.head 2 _ rfl
  by_cases hi : s.has i
  · rw [decide_eq_true hi] at CH
    have hi' := hi
    obtain ⟨h0, h1⟩ := hi'
    obtain ⟨j, rfl⟩ := Int.eq_ofNat_of_zero_le h0
    have hjl : j < s.rows.length := by omega
    obtain ⟨g, cap, kv0, hrv, hcap, hcm, hR, k0, k1, k2, k3, k4⟩ := H.at j hjl
    have hfew := H.few
    have hrow : s.row (j : Int) = s.rows.getD j noRow := rfl
    by_cases hu : (s.row (j : Int)).used = false
    · have hg : s.clear (j : Int) = (6, s) := by unfold SS.clear; rw [if_neg (by simpa using hi), if_pos hu]
      have HP := Lib.hid (SidPost.same (c := 6) HS.out)
      have HG := Lib.hid hg
      rw [HG.out]
      rw [hrow] at hu
      rw [hu] at k0
      subst hrv
      generalize s.rows.getD j noRow = r at *
      generalize s.rows.length = n at *
      have hjz : (j : Int) < (n : Int) := by omega
      have hjz1 : (j : Int).toNat = j := by omega
      clear H hR k1 k2 k3 k4 hu hg hi hrow
      go_enter Tryz.func148, Tryz.ntmps148
      go_wp2_with (go_at_call 137; refine CH.out.mono ?_; rintro e w' ⟨rfl, hq⟩; subst hq)
      go_ret
      exact HP.out
    · have hu' : (s.rows.getD j noRow).used = true := by rw [← hrow]; simpa using hu
      have hg : s.clear (j : Int) = if (s.d.lays (s.pos j) (zeros 64)).1 ≠ 0 then ((s.d.lays (s.pos j) (zeros 64)).1, { s with d := (s.d.lays (s.pos j) (zeros 64)).2 }) else
            (0, { s with d := (s.d.lays (s.pos j) (zeros 64)).2, rows := s.rows.set j noRow }) := by
        unfold SS.clear
        rw [if_neg (by simpa using hi), if_neg hu]
        rfl
      rw [hu'] at k0
      have hpos : s.pos (j : Int) = s.first + 8 * j := rfl
      have hroom := H.ok.room
      have hns : nsec (zeros 64).length = 1 := rfl
      have hzl : (zeros 64).length = 64 := rfl
      have CA : Hid (∀ w', SlotsAt w' q p U s → Calls Tryz.prog 162 #[.pointer (some ⟨q, 0, none⟩), .int .i64 (j : Int)] w' fun e w'' => e = .returned (.int .i64 ((s.pos (j : Int) : Nat) : Int)) ∧ w' = w'') := Lib.hid (fun w' h' => sat_any q p U s j w' h' (by omega))
      have CL : Hid (∀ w', SlotsAt w' q p U s → ∀ N, w'.heap[N]? = some (.cells Z64 5 (0, 0)) → N ∉ U → Calls Tryz.prog 163 #[.pointer (some ⟨q, 0, none⟩), .int .i64 ((s.pos (j : Int) : Nat) : Int), .slice (some ⟨N, 0, none⟩) 64 64] w' fun e w'' => e = .returned (.int .i64 (s.d.lays (s.pos j) (zeros 64)).1) ∧ Sid w' w'' q p U { s with d := (s.d.lays (s.pos j) (zeros 64)).2 }) := Lib.hid (fun w' h' N hN hNU => by
        have hr : BRow w' (.slice (some ⟨N, 0, none⟩) (zeros 64).length (zeros 64).length) (zeros 64) := row_of_block hN (by rw [hzl]; unfold maxLen; omega)
        rw [hzl] at hr
        exact slay_any q p U s (s.pos j) _ (zeros 64) w' h' hr.bytes (fun _ k hk => by
          obtain rfl : N = k := by simpa [Value.ownBlock] using hk
          exact hNU) (by rw [hns]; omega) (by rw [hzl]; omega) (by rw [hns]; omega) (by rw [hns]; omega))
      have hok1 := s.d.lays_ok (s.pos j) (zeros 64)
      obtain ⟨Z, hZ⟩ : ∃ Z, Z = s.clear (j : Int) := ⟨_, rfl⟩
      rw [← hZ] at hg ⊢
      have hjz : (j : Int) < (s.rows.length : Int) := by omega
      have hjz1 : (j : Int).toNat = j := by omega
      have hpl : s.pos (j : Int) ≤ 4160 := by omega
      subst hrv
      have HUL := Lib.hid H.uL
      clear H hR k1 k2 k3 k4 hu hu' hi hrow hpos hroom hns hzl hZ
      generalize s.d.lays (s.pos j) (zeros 64) = z1 at *
      obtain ⟨r1, d1⟩ := z1
      dsimp only at CL hok1 hg
      obtain ⟨pos, hps⟩ : ∃ pos, pos = s.pos (j : Int) := ⟨_, rfl⟩
      rw [← hps] at CL CA hpl
      have HG := Lib.hid hg
      obtain ⟨n, hn⟩ : ∃ n, n = s.rows.length := ⟨_, rfl⟩
      rw [← hn] at c2 hjz hcap hjl
      have HN := Lib.hid hn
      have hmk := make_64
      have HC0 := Lib.hid c0
      have HC2 := Lib.hid c2
      clear hps hn h1 hfew hg
      go_enter Tryz.func148, Tryz.ntmps148
      go_wp2_with (go_at_call 137; refine CH.out.mono ?_; rintro e w' ⟨rfl, hq⟩; subst hq)
      have HSD := Lib.hid (HS.out.keep0 (by exact (Chg.refl [] w).drew))
      have HC6 : Hid (Chg [] w (w.drew.alloc (.cells Z64 5))) := Lib.hid (by exact ((Chg.refl [] w).drew).alloc _)
      have HSA := Lib.hid (HS.out.keep0 HC6.out)
      have CL1 := Lib.hid (CL.out _ HSA.out w.drew.heap.size (heap_alloc_new w.drew _) (fun hm => by
        have a1 := HUL.out _ hm
        have a2 : w.drew.heap.size = w.heap.size := rfl
        omega))
      go_wp2_with fail
      refine wp_region_L [] (by kernel_rfl) ?_ (fun hHeld => ?_)
      · exact HoldC.nil
      refine wpAnyL_take (i := 0) (oi := _) (v := ?_) rfl (by kernel_rfl) (by kernel_rfl) (by kernel_rfl) (by kernel_rfl) (by kernel_rfl) (fun _ _ _ h => h) (Or.inl ⟨by rfl, ?_⟩) (by assumption) (fun hNew => ?_)
      rotate_left
      · intro w _
        go_simp
        try with_reducible rfl
      clear hHeld
      have hHeld := hNew
      clear hNew
      try simp only [List.getElem_toArray, List.getElem_cons_succ, List.getElem_cons_zero, Act.put, List.setIfInBounds_toArray, List.set_cons_zero, List.set_cons_succ]
      refine wpAnyL_take (i := 1) (oi := _) (v := ?_) rfl (by kernel_rfl) (by kernel_rfl) (by kernel_rfl) (by kernel_rfl) (by kernel_rfl) (fun _ _ _ h => h) (Or.inl ⟨by rfl, ?_⟩) (by assumption) (fun hNew => ?_)
      rotate_left
      · intro w _
        go_simp
        try with_reducible rfl
      clear hHeld
      have hHeld := hNew
      clear hNew
      try simp only [List.getElem_toArray, List.getElem_cons_succ, List.getElem_cons_zero, Act.put, List.setIfInBounds_toArray, List.set_cons_zero, List.set_cons_succ]
      refine wpAnyL_take (i := 2) (oi := _) (v := ?_) rfl (by kernel_rfl) (by kernel_rfl) (by kernel_rfl) (by kernel_rfl) (by kernel_rfl) (fun _ _ _ h => h) (Or.inl ⟨by rfl, ?_⟩) (by assumption) (fun hNew => ?_)
      rotate_left
      · intro w _
        go_simp
        try with_reducible rfl
      clear hHeld
      have hHeld := hNew
      clear hNew
      try simp only [List.getElem_toArray, List.getElem_cons_succ, List.getElem_cons_zero, Act.put, List.setIfInBounds_toArray, List.set_cons_zero, List.set_cons_succ]
      refine wpAnyL_ready (rs := [3, 4]) (by kernel_rfl) (by simp) ?_
      refine AllReadyL.cons (o := _) rfl (fun K hK => ?_) (AllReadyL.cons (o := _) rfl (fun K hK => ?_) AllReadyL.nil)
      · try simp only [List.getElem_toArray, List.getElem_cons_succ, List.getElem_cons_zero]
        go_simp
        refine (CA.out w.drew HSD.out).mono ?_
        rintro e w' ⟨rfl, hq⟩
        subst hq
        try go_wp2_with fail
        clear hHeld
        refine hK.out _ _ ?_ (fun hHeld => ?_)
        · exact HoldC.nil
        clear hK K
        try simp only [List.getElem_toArray, List.getElem_cons_succ, List.getElem_cons_zero, Act.put, List.setIfInBounds_toArray, List.set_cons_zero, List.set_cons_succ]
        refine wpAnyL_ready (rs := [4]) (by kernel_rfl) (by simp) ?_
        refine AllReadyL.cons (o := _) rfl (fun K hK => ?_) AllReadyL.nil
        try simp only [List.getElem_toArray, List.getElem_cons_succ, List.getElem_cons_zero]
        go_simp
        clear hHeld
        refine hK.out _ _ ?_ (fun hHeld => ?_)
        · exact HoldC.nil
        clear hK K
        try simp only [List.getElem_toArray, List.getElem_cons_succ, List.getElem_cons_zero, Act.put, List.setIfInBounds_toArray, List.set_cons_zero, List.set_cons_succ]
        refine wpAnyL_ready (rs := [5]) (by kernel_rfl) (by simp) ?_
        refine AllReadyL.cons (o := _) rfl (fun K hK => ?_) AllReadyL.nil
        try simp only [List.getElem_toArray, List.getElem_cons_succ, List.getElem_cons_zero]
        go_simp
        refine CL1.out.mono ?_
        rintro e w7 ⟨rfl, hs7⟩
        have hs7' := Sid.pre HC6.out hs7
        try go_wp2_with fail
        clear hHeld
        refine hK.out _ _ ?_ (fun hHeld => ?_)
        · exact HoldC.nil
        clear hK K
        try simp only [List.getElem_toArray, List.getElem_cons_succ, List.getElem_cons_zero, Act.put, List.setIfInBounds_toArray, List.set_cons_zero, List.set_cons_succ]
        refine wpAnyL_take (i := 6) (oi := _) (v := ?_) rfl (by kernel_rfl) (by kernel_rfl) (by kernel_rfl) (by kernel_rfl) (by kernel_rfl) (fun _ _ _ h => h) (Or.inl ⟨by rfl, ?_⟩) (by assumption) (fun hNew => ?_)
        rotate_left
        · intro w _
          go_simp
          try with_reducible rfl
        clear hHeld
        have hHeld := hNew
        clear hNew
        try simp only [List.getElem_toArray, List.getElem_cons_succ, List.getElem_cons_zero, Act.put, List.setIfInBounds_toArray, List.set_cons_zero, List.set_cons_succ]
        refine wpAnyL_done (by kernel_rfl) ?_ _
        clear hHeld
        by_cases hr1 : r1 = 0
        · subst hr1
          have HG1 := Lib.hid HG.out
          rw [if_neg (show ¬ (0 : Int) ≠ 0 by simp)] at HG1
          obtain ⟨U7, ⟨S7, rv7, R7, H7⟩, hU7, hC7⟩ := hs7'
          have c27 : w7.cell? ⟨q, 2, none⟩ = some rv7 := blk_cell H7.obj.head 2 _ rfl
          obtain ⟨g7, cap7, kv7, hrv7, hcap7, hcm7, hR7, _, _, _, _, _⟩ := H7.at j (by rw [HN.out] at hjl; exact hjl)
          rw [show ({ s with d := d1 } : SS).rows.length = s.rows.length from rfl, ← HN.out] at hrv7 hcap7
          have HSR := Lib.hid (H7.setRow j (by rw [HN.out] at hjl; exact hjl) g7 cap7 (by rw [hrv7, HN.out]) noRow (.slice none 0 0) (BytesAt.nil _) (by simp [Value.ownBlock]) ⟨by decide, by decide⟩)
          have TH := Lib.hid (H7.there j (by rw [HN.out] at hjl; exact hjl) g7 cap7 (by rw [hrv7, HN.out]))
          have HU7 := Lib.hid hU7
          have HC7 := Lib.hid hC7
          subst hrv7
          clear H7 hU7 hC7 hs7 hR7 CL CL1
          go_wp2_with (refine wpList_store_mid (by rfl) 192 (.tmp 46) (.tmp 45) (by rfl) g7 (j * 3) #[.bool false, .int .i64 0, .slice none 0 0] (by rfl) (by rfl) TH.out (by kernel_rfl) (by simp [Value.oneCell']) ?_)
          go_ret
          rw [HG1.out]
          exact ⟨rfl, Sid.glue HU7.out HC7.out HSR.out⟩
        · have q1 : (r1 != 0) = true := by simp [hr1]
          have HG1 : Hid (Z = (r1, { s with d := d1 })) := Lib.hid (by rw [HG.out, if_pos hr1])
          have HS7 := Lib.hid hs7'
          clear hs7' hs7 hr1 CL CL1
          go_wp2
          go_ret
          rw [HG1.out]
          exact ⟨rfl, HS7.out⟩
      · try simp only [List.getElem_toArray, List.getElem_cons_succ, List.getElem_cons_zero]
        go_simp
        clear hHeld
        refine hK.out _ _ ?_ (fun hHeld => ?_)
        · exact HoldC.nil
        clear hK K
        try simp only [List.getElem_toArray, List.getElem_cons_succ, List.getElem_cons_zero, Act.put, List.setIfInBounds_toArray, List.set_cons_zero, List.set_cons_succ]
        refine wpAnyL_ready (rs := [3]) (by kernel_rfl) (by simp) ?_
        refine AllReadyL.cons (o := _) rfl (fun K hK => ?_) AllReadyL.nil
        try simp only [List.getElem_toArray, List.getElem_cons_succ, List.getElem_cons_zero]
        go_simp
        refine (CA.out _ HSA.out).mono ?_
        rintro e w' ⟨rfl, hq⟩
        subst hq
        try go_wp2_with fail
        clear hHeld
        refine hK.out _ _ ?_ (fun hHeld => ?_)
        · exact HoldC.nil
        clear hK K
        try simp only [List.getElem_toArray, List.getElem_cons_succ, List.getElem_cons_zero, Act.put, List.setIfInBounds_toArray, List.set_cons_zero, List.set_cons_succ]
        refine wpAnyL_ready (rs := [5]) (by kernel_rfl) (by simp) ?_
        refine AllReadyL.cons (o := _) rfl (fun K hK => ?_) AllReadyL.nil
        try simp only [List.getElem_toArray, List.getElem_cons_succ, List.getElem_cons_zero]
        go_simp
        refine CL1.out.mono ?_
        rintro e w7 ⟨rfl, hs7⟩
        have hs7' := Sid.pre HC6.out hs7
        try go_wp2_with fail
        clear hHeld
        refine hK.out _ _ ?_ (fun hHeld => ?_)
        · exact HoldC.nil
        clear hK K
        try simp only [List.getElem_toArray, List.getElem_cons_succ, List.getElem_cons_zero, Act.put, List.setIfInBounds_toArray, List.set_cons_zero, List.set_cons_succ]
        refine wpAnyL_take (i := 6) (oi := _) (v := ?_) rfl (by kernel_rfl) (by kernel_rfl) (by kernel_rfl) (by kernel_rfl) (by kernel_rfl) (fun _ _ _ h => h) (Or.inl ⟨by rfl, ?_⟩) (by assumption) (fun hNew => ?_)
        rotate_left
        · intro w _
          go_simp
          try with_reducible rfl
        clear hHeld
        have hHeld := hNew
        clear hNew
        try simp only [List.getElem_toArray, List.getElem_cons_succ, List.getElem_cons_zero, Act.put, List.setIfInBounds_toArray, List.set_cons_zero, List.set_cons_succ]
        refine wpAnyL_done (by kernel_rfl) ?_ _
        clear hHeld
        by_cases hr1 : r1 = 0
        · subst hr1
          have HG1 := Lib.hid HG.out
          rw [if_neg (show ¬ (0 : Int) ≠ 0 by simp)] at HG1
          obtain ⟨U7, ⟨S7, rv7, R7, H7⟩, hU7, hC7⟩ := hs7'
          have c27 : w7.cell? ⟨q, 2, none⟩ = some rv7 := blk_cell H7.obj.head 2 _ rfl
          obtain ⟨g7, cap7, kv7, hrv7, hcap7, hcm7, hR7, _, _, _, _, _⟩ := H7.at j (by rw [HN.out] at hjl; exact hjl)
          rw [show ({ s with d := d1 } : SS).rows.length = s.rows.length from rfl, ← HN.out] at hrv7 hcap7
          have HSR := Lib.hid (H7.setRow j (by rw [HN.out] at hjl; exact hjl) g7 cap7 (by rw [hrv7, HN.out]) noRow (.slice none 0 0) (BytesAt.nil _) (by simp [Value.ownBlock]) ⟨by decide, by decide⟩)
          have TH := Lib.hid (H7.there j (by rw [HN.out] at hjl; exact hjl) g7 cap7 (by rw [hrv7, HN.out]))
          have HU7 := Lib.hid hU7
          have HC7 := Lib.hid hC7
          subst hrv7
          clear H7 hU7 hC7 hs7 hR7 CL CL1
          go_wp2_with (refine wpList_store_mid (by rfl) 192 (.tmp 46) (.tmp 45) (by rfl) g7 (j * 3) #[.bool false, .int .i64 0, .slice none 0 0] (by rfl) (by rfl) TH.out (by kernel_rfl) (by simp [Value.oneCell']) ?_)
          go_ret
          rw [HG1.out]
          exact ⟨rfl, Sid.glue HU7.out HC7.out HSR.out⟩
        · have q1 : (r1 != 0) = true := by simp [hr1]
          have HG1 : Hid (Z = (r1, { s with d := d1 })) := Lib.hid (by rw [HG.out, if_pos hr1])
          have HS7 := Lib.hid hs7'
          clear hs7' hs7 hr1 CL CL1
          go_wp2
          go_ret
          rw [HG1.out]
          exact ⟨rfl, HS7.out⟩
  · have hg : s.clear i = (1, s) := by unfold SS.clear; rw [if_pos (by simpa using hi)]
    have HP := Lib.hid (SidPost.same (c := 1) HS.out)
    rw [decide_eq_false hi] at CH
    have HG := Lib.hid hg
    rw [HG.out]
    clear H hi hg c2
    go_enter Tryz.func148, Tryz.ntmps148
    go_wp2_with (go_at_call 137; refine CH.out.mono ?_; rintro e w' ⟨rfl, hq⟩; subst hq)
    go_ret
    exact HP.out
end Go.Proofs.YtdkhmfcfihbjeaaGreatDoor.W
