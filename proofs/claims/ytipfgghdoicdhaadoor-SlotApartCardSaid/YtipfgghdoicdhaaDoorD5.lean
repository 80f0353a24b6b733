/- Package disk: Write. -/
import Derived.Test.YtipfgghdoicdhaaDoorD4
import Derived.Test.YtipfgghdoicdhaaDoorRegL
import Derived.Deep.CutBlock
import Derived.Deep.DeepCutAuto
namespace Go.Proofs.YtipfgghdoicdhaaDoor.W
open Go.RowKit
set_option linter.unusedVariables false
set_option linter.unusedSimpArgs false

set_option maxHeartbeats 8000000 in
set_option maxRecDepth 100000 in
theorem dwrite_ok (p : Nat) (S : List Nat) (d : DS) (j : Nat) (g o cap : Nat) (b : List UInt8) (w : World) (h : DiskAt w p S d) (ho : d.ops ≤ 1000000000) (hw : d.since.length ≤ 1000000)
    (hd : d.dead = false) (hj : j < d.n) (hb : b.length = 64) (hB : w.rangeAt g o (bvs b)) :
    Calls Tryd.prog 12 #[.pointer (some ⟨p, 0, none⟩), .int .i64 (j : Int), .slice (some ⟨g, o, none⟩) 64 cap] w fun e w' => e = .returned (.int .i64 (d.write (j : Int) b).1) ∧ Did w w' p S (d.write (j : Int) b).2 := by
  have CG := Lib.hid (dgone_any p S d w h)
  have CH := Lib.hid (dhas_any p S d (j : Int) w h)
  rw [hd] at CG
  rw [decide_eq_true (by omega)] at CH
  have HB := Lib.hid hB
  have hz : Hid ((Tryd.prog.info? 75).map (·.size) = some (bvs b).length) := Lib.hid (by rw [bvs_len, hb]; kernel_rfl)
  have hzs : Hid ((Tryd.prog.info? 77).map (·.size) = some (bvs b).length) := Lib.hid (by rw [bvs_len, hb]; kernel_rfl)
  have hzw : Hid ((Tryd.prog.info? 79).map (·.size) = some (wcells (j, b)).length) := Lib.hid (by rw [wcells_len _ hb]; kernel_rfl)
  have hb1 : Hid ((Instr.build 77 #[(0, .agg (bvs b).toArray)]).run Tryd.prog w = .ok (.agg (bvs b).toArray) w) := Lib.hid (build_sec _ (by simp [bvs_len, hb]) w)
  have hb2 : Hid ((Instr.build 79 #[(0, .int .i64 (j : Int)), (1, .agg (bvs b).toArray)]).run Tryd.prog w = .ok (.agg (wcells (j, b)).toArray) w) := Lib.hid (build_wr _ _ (by rw [bvs_len, hb]) w)
  obtain ⟨iw, zw, hiw, hzw1, hzw2, hzw3, hzw4⟩ := info_three facts_wr
  have hW : (wcells (j, b)).toArray.size = 65 := by simpa using wcells_len (j, b) hb
  have h1c : (wcells (j, b)).toArray.all (·.oneCell') = true := all_oneCell_toArray (wcells_one _)
  have hat : ∀ w, (Instr.arrayAt 75 (.slice (some ⟨g, o, none⟩) 64 cap)).run Tryd.prog w = .ok (.pointer (some ⟨g, o, none⟩)) w := fun w => run_arrayAt w 75 _ 64 _ 64 cap Tryd.underlying75 (Nat.le_refl _)
  have HD := Lib.hid h
  have hlim := h.lim
  obtain ⟨gn, gl, cn, cl, v, H⟩ := h
  have HK := Lib.hid H
  -- the world with the variable
  obtain ⟨N, hN⟩ : ∃ N, N = w.heap.size := ⟨_, rfl⟩
  obtain ⟨w1, hw1⟩ : ∃ w1, w1 = w.alloc (.cells (wcells (j, b)).toArray 79) := ⟨_, rfl⟩
  have hc1 : Chg [] w w1 := by rw [hw1]; exact (Chg.refl _ _).alloc _
  have HC1 := Lib.hid hc1
  have r1 : w1.rangeAt N 0 (wcells (j, b)) := by
    rw [hw1, hN]
    intro k u hu
    rw [Nat.zero_add]
    exact blk_cell (heap_alloc_new w _) k u (by simpa using hu)
  have H1 : DiskOk w1 p S d gn gl cn cl v := by
    obtain ⟨m1, m2, m3, m4⟩ := H.mem
    exact ⟨hc1.keep H.head (by simp), H.now.keep (hc1.block _ H.now.lt (by simp)), H.lasts.keep (hc1.block _ H.lasts.lt (by simp)), row_keep H.since (fun g hg => hc1.block g (World.ownsRow.lt H.since g hg).2 (by simp)),
      H.waits, H.few, H.capn, H.capl, H.fuse, H.ap, H.av, H.mem, fun x hx => Nat.lt_of_lt_of_le (H.lim x hx) hc1.size⟩
  have hN1 : N < w1.heap.size := by rw [hw1, hN]; simp
  have HN := Lib.hid hN
  have hS : Hid (∀ x ∈ S, x < N) := Lib.hid (by rw [hN]; exact hlim)
  have c2 : w1.cell? ⟨p, 2, none⟩ = some v := blk_cell H1.head 2 _ rfl
  have f2 := blk_frozen H1.head 2
  have hpl := blk_lt H1.head
  have HK1 := Lib.hid H1
  have HR1 := Lib.hid r1
  have HA := Lib.hid hw1
  have HW := Lib.hid hW
  have HDD := Lib.hid hd
  have HBL := Lib.hid hb
  have HIW := Lib.hid hiw
  have HZ1 := Lib.hid hzw1
  have HZ2 : Hid (zw.cells.size = (wcells (j, b)).toArray.size) := Lib.hid (by rw [hW]; exact hzw2)
  have HZ3 : Hid (iw.size = (wcells (j, b)).toArray.size) := Lib.hid (by rw [hW]; exact hzw3)
  have H1C := Lib.hid h1c
  clear hB H H1 hlim hc1 r1 hw1 hiw hzw1 hzw2 hzw3 hzw4 h1c hW hb hd hN
  go_enter Tryd.func12, Tryd.ntmps12
  go_wp2_with (first
    | (go_at_call 35; refine CG.out.mono ?_; rintro e w' ⟨rfl, hq⟩; subst hq)
    | (go_at_call 36; refine CH.out.mono ?_; rintro e w' ⟨rfl, hq⟩; subst hq)
    | (refine wpList_load_mid (by rfl) 75 (.tmp 23) (by rfl) g o (by rfl) (bvs b) _ HB.out Tryd.underlying75 rfl hz.out ?_)
    | (refine wpList_build1 (by rfl) 77 0 (.tmp 24) (by rfl) (.agg (bvs b).toArray) (.agg (bvs b).toArray) (by rfl) hb1.out ?_)
    | (refine wpList_build2 (by rfl) 79 0 1 (.tmp 21) (.tmp 25) (by rfl) (.int .i64 (j : Int)) (.agg (bvs b).toArray) (.agg (wcells (j, b)).toArray) (by rfl) (by rfl) hb2.out ?_)
    | (refine wpList_var (by rfl) (by rfl) 79 (.tmp 7) (.tmp 26) (by rfl) (by rfl) N HN.out.symm (wcells (j, b)).toArray (by rfl) (by rfl) iw zw HIW.out HZ1.out HZ2.out HZ3.out H1C.out ?_; rw [← HA.out]))
  refine wp_region_L [(7, fun w' => w'.cell? ⟨p, 2, none⟩ = some v), (6, fun w' => w'.rangeAt N 0 (wcells (j, b)))] (by kernel_rfl) ?_ (fun hHeld => ?_)
  · exact (HoldC.cons (c2) (HoldC.cons (HR1.out) HoldC.nil))
  refine wpAnyL_take (i := 0) (oi := _) (v := ?_) rfl (by kernel_rfl) (by kernel_rfl) (by kernel_rfl) (by kernel_rfl) (by kernel_rfl) (fun _ _ _ h => h) (Or.inl ⟨by rfl, ?_⟩) (by assumption) (fun hNew => ?_)
  rotate_left
  · intro w _
    go_simp
    try with_reducible rfl
  clear hHeld
  have hHeld := hNew
  clear hNew
  try simp only [List.getElem_toArray, List.getElem_cons_succ, List.getElem_cons_zero, Act.put, List.setIfInBounds_toArray, List.set_cons_zero, List.set_cons_succ]
  refine wpAnyL_take (i := 1) (oi := _) (v := ?_) rfl (by kernel_rfl) (by kernel_rfl) (by kernel_rfl) (by kernel_rfl) (by kernel_rfl) (fun _ _ _ h => h) (Or.inl ⟨by rfl, ?_⟩) (by assumption) (fun hNew => ?_)
  rotate_left
  · intro w _
    go_simp
    try with_reducible rfl
  clear hHeld
  have hHeld := hNew
  clear hNew
  try simp only [List.getElem_toArray, List.getElem_cons_succ, List.getElem_cons_zero, Act.put, List.setIfInBounds_toArray, List.set_cons_zero, List.set_cons_succ]
  refine wpAnyL_take (i := 2) (oi := _) (v := ?_) rfl (by kernel_rfl) (by kernel_rfl) (by kernel_rfl) (by kernel_rfl) (by kernel_rfl) (fun _ _ _ h => h) (Or.inl ⟨by rfl, ?_⟩) (by assumption) (fun hNew => ?_)
  rotate_left
  · intro w _
    go_simp
    try with_reducible rfl
  clear hHeld
  have hHeld := hNew
  clear hNew
  try simp only [List.getElem_toArray, List.getElem_cons_succ, List.getElem_cons_zero, Act.put, List.setIfInBounds_toArray, List.set_cons_zero, List.set_cons_succ]
  refine wpAnyL_take (i := 3) (oi := _) (v := ?_) rfl (by kernel_rfl) (by kernel_rfl) (by kernel_rfl) (by kernel_rfl) (by kernel_rfl) (fun _ _ _ h => h) (Or.inl ⟨by rfl, ?_⟩) (by assumption) (fun hNew => ?_)
  rotate_left
  · intro w _
    go_simp
    try with_reducible rfl
  clear hHeld
  have hHeld := hNew
  clear hNew
  try simp only [List.getElem_toArray, List.getElem_cons_succ, List.getElem_cons_zero, Act.put, List.setIfInBounds_toArray, List.set_cons_zero, List.set_cons_succ]
  refine wpAnyL_load 0 (i := 4) (oi := _) (v := ?_) rfl rfl (by kernel_rfl) (by kernel_rfl) (by kernel_rfl) (by kernel_rfl) (by kernel_rfl) (by kernel_rfl) (fun _ _ _ h => h) (Or.inl ⟨by rfl, ?_⟩) (by assumption) (fun hNew => ?_)
  rotate_left
  · intro w hSw
    (try dsimp only at hSw)
    go_simp
    try with_reducible rfl
  clear hHeld
  have hHeld := hNew
  clear hNew
  try simp only [List.getElem_toArray, List.getElem_cons_succ, List.getElem_cons_zero, Act.put, List.setIfInBounds_toArray, List.set_cons_zero, List.set_cons_succ]
  refine wpAnyL_load 1 (i := 5) (oi := _) (v := .agg (wcells (j, b)).toArray) rfl rfl (by kernel_rfl) (by kernel_rfl) (by kernel_rfl) (by kernel_rfl) (by kernel_rfl) (by kernel_rfl) (fun _ _ _ h => h) (yieldsIf_load_mid (by rfl) 79 (.tmp 7) (by rfl) (N) (0) (by rfl) (wcells (j, b)) _ (fun w hw => hw) Tryd.underlying79 rfl hzw.out) (by assumption) (fun hNew => ?_)
  clear hHeld
  have hHeld := hNew
  clear hNew
  try simp only [List.getElem_toArray, List.getElem_cons_succ, List.getElem_cons_zero, Act.put, List.setIfInBounds_toArray, List.set_cons_zero, List.set_cons_succ]
  refine wpAnyL_ready (rs := [6]) (by kernel_rfl) (by simp) ?_
  refine AllReadyL.cons (o := _) rfl (fun K hK => ?_) AllReadyL.nil
  try simp only [List.getElem_toArray, List.getElem_cons_succ, List.getElem_cons_zero]
  rw [if_pos (by rfl)]
  refine wp_slice1 72 79 (.tmp 32) (by rfl) (wcells (j, b)).toArray (by rfl) iw zw Tryd.underlying72 HIW.out HZ1.out HZ3.out (by rw [HW.out]; omega) (by rw [HW.out]; omega) ?_
  clear hHeld
  refine hK.out _ _ ?_ (fun hHeld => ?_)
  · exact (HoldC.cons ((blk_cell (blk_alloc HK1.out.head) 2 _ rfl)) (HoldC.past (by kernel_rfl) HoldC.nil))
  clear hK K
  try simp only [List.getElem_toArray, List.getElem_cons_succ, List.getElem_cons_zero, Act.put, List.setIfInBounds_toArray, List.set_cons_zero, List.set_cons_succ]
  refine wpAnyL_ready (rs := [7]) (by kernel_rfl) (by simp) ?_
  refine AllReadyL.cons (o := _) rfl (fun K hK => ?_) AllReadyL.nil
  try simp only [List.getElem_toArray, List.getElem_cons_succ, List.getElem_cons_zero]
  rw [if_pos (by rfl)]
  refine wp_app_wr (.tmp 31) (.tmp 33) (by rfl) HK1.out.drew (j, b) ⟨hj, HBL.out⟩ hw (by rfl) (by rfl) ?_
  intro g2 cap2 w2 d2 e2 l2 HD2
  clear hHeld
  refine hK.out _ _ ?_ (fun hHeld => ?_)
  · exact (HoldC.past (by kernel_rfl) (HoldC.past (by kernel_rfl) HoldC.nil))
  clear hK K
  try simp only [List.getElem_toArray, List.getElem_cons_succ, List.getElem_cons_zero, Act.put, List.setIfInBounds_toArray, List.set_cons_zero, List.set_cons_succ]
  refine wpAnyL_take (i := 8) (oi := _) (v := ?_) rfl (by kernel_rfl) (by kernel_rfl) (by kernel_rfl) (by kernel_rfl) (by kernel_rfl) (fun _ _ _ h => h) (Or.inl ⟨by rfl, ?_⟩) (by assumption) (fun hNew => ?_)
  rotate_left
  · intro w _
    go_simp
    try with_reducible rfl
  clear hHeld
  have hHeld := hNew
  clear hNew
  try simp only [List.getElem_toArray, List.getElem_cons_succ, List.getElem_cons_zero, Act.put, List.setIfInBounds_toArray, List.set_cons_zero, List.set_cons_succ]
  refine wpAnyL_take (i := 9) (oi := _) (v := ?_) rfl (by kernel_rfl) (by kernel_rfl) (by kernel_rfl) (by kernel_rfl) (by kernel_rfl) (fun _ _ _ h => h) (Or.inl ⟨by rfl, ?_⟩) (by assumption) (fun hNew => ?_)
  rotate_left
  · intro w _
    go_simp
    try with_reducible rfl
  clear hHeld
  have hHeld := hNew
  clear hNew
  try simp only [List.getElem_toArray, List.getElem_cons_succ, List.getElem_cons_zero, Act.put, List.setIfInBounds_toArray, List.set_cons_zero, List.set_cons_succ]
  refine wpAnyL_ready (rs := [10]) (by kernel_rfl) (by simp) ?_
  refine AllReadyL.cons (o := _) rfl (fun K hK => ?_) AllReadyL.nil
  try simp only [List.getElem_toArray, List.getElem_cons_succ, List.getElem_cons_zero]
  go_simp
  clear hHeld
  refine hK.out _ _ ?_ (fun hHeld => ?_)
  · exact (HoldC.past (by kernel_rfl) (HoldC.past (by kernel_rfl) HoldC.nil))
  clear hK K
  try simp only [List.getElem_toArray, List.getElem_cons_succ, List.getElem_cons_zero, Act.put, List.setIfInBounds_toArray, List.set_cons_zero, List.set_cons_succ]
  refine wpAnyL_done (by kernel_rfl) ?_ _
  clear hHeld
  have hdp : ∀ w', Did w1.drew w' p S { d with since := d.since ++ [(j, b)] } → Did w1 w' p S { d with since := d.since ++ [(j, b)] } := fun w' h => Did.pre (by exact (Chg.refl _ _).drew) h
  have HD3 := Lib.hid (hdp _ HD2.out)
  clear hdp HD2
  generalize w2.setCell ⟨p, 2, none⟩ (.slice (some ⟨g2, 0, none⟩) (d.since.length + 1) cap2) = w4 at *
  clear d2 e2 l2 c2 f2 hpl
  go_wp2_with fail
  obtain ⟨S4, hd4, hs4, hc4⟩ := HD3.out
  have CO := Lib.hid (dop_any p S4 _ w4 hd4 ho)
  have HS4 := Lib.hid hs4
  have HC4 := Lib.hid hc4
  clear hd4 hs4 hc4
  by_cases hf : d.fuse = 0
  · have ho2 : Hid (DS.op { d with since := d.since ++ [(j, b)] } = (false, { d with since := d.since ++ [(j, b)], dead := true })) := Lib.hid (by unfold DS.op; rw [if_pos hf])
    have HWR : Hid (d.write (j : Int) b = (14, { d with since := d.since ++ [(j, b)], dead := true })) := Lib.hid (by
      unfold DS.write
      rw [if_neg (by rw [HDD.out]; simp), if_pos ⟨by omega, by omega, HBL.out⟩]
      simp only [Int.toNat_natCast, ho2.out]
      rfl)
    rw [ho2.out] at CO
    have HF := Lib.hid hf
    clear hf
    refine CO.out.mono ?_
    rintro e w5 ⟨rfl, hd5⟩
    have HD5 := Lib.hid hd5
    clear hd5 CO
    go_wp2
    go_ret
    rw [HWR.out]
    exact ⟨rfl, Did.pre HC1.out (Did.glue HS4.out HC4.out HD5.out)⟩
  · obtain ⟨d5, hd5e, hd5n, hd5w⟩ : ∃ d5 : DS, DS.op { d with since := d.since ++ [(j, b)] } = (true, d5) ∧ d5.n = d.n ∧ d5.now = d.now := by
      unfold DS.op
      rw [if_neg hf]
      exact ⟨_, rfl, rfl, rfl⟩
    have HWR : Hid (d.write (j : Int) b = (0, { d5 with now := upd d5.now j b })) := Lib.hid (by
      unfold DS.write
      rw [if_neg (by rw [HDD.out]; simp), if_pos ⟨by omega, by omega, HBL.out⟩]
      simp only [Int.toNat_natCast, hd5e]
      rfl)
    rw [hd5e] at CO
    dsimp only at CO
    have HF := Lib.hid hf
    have HE := Lib.hid hd5e
    clear hf hd5e
    refine CO.out.mono ?_
    rintro e w5 ⟨rfl, hd5⟩
    obtain ⟨S5, ⟨gn5, gl5, cn5, cl5, v5, H5⟩, hs5, hc5⟩ := hd5
    have hj5 : j < d5.n := by rw [hd5n]; exact hj
    have hlen5 := H5.now.len j hj5
    have hNS : N ∉ S := fun hm => by have := hS.out N hm; omega
    have hNS4 : N ∉ S4 := fun hm => by
      rcases HS4.out N hm with h1 | h1
      · exact hNS h1
      · omega
    have hb5 : w5.heap[N]? = w1.heap[N]? := (hc5.block N (Nat.lt_of_lt_of_le hN1 HC4.out.size) hNS4).trans (HC4.out.block N hN1 hNS)
    have r5 : w5.rangeAt N 1 (bvs b) := range_tail (range_keep HR1.out hb5)
    have q5 : w5.rangeAt gn5 (j * 64) (bvs (d5.now j)) := H5.now.range j hj5
    have hrow : d5.n ≤ cn5 ∧ cn5 ≤ maxLen := H5.capn
    have c50 : w5.cell? ⟨p, 0, none⟩ = some (.slice (some ⟨gn5, 0, none⟩) d5.n cn5) := blk_cell H5.head 0 _ rfl
    have th5 : Hid (w5.drew.drew.there gn5 (j * 64) (bvs b).toArray.size) := Lib.hid (by
      have h1 := H5.drew.drew.now.there j hj5
      have h2 : (bvs b).toArray.size = 64 := by simp [bvs_len, HBL.out]
      rw [h2]; exact h1)
    have hone := Lib.hid (all_oneCell_toArray (bvs_one b))
    have hzt : Hid ((Tryd.prog.info? 77).map (·.size) = some (bvs b).toArray.size) := Lib.hid (by rw [show (bvs b).toArray.size = (bvs b).length by simp]; exact hzs.out)
    have HD5n : Hid (Did w5 (w5.drew.drew.setCells gn5 (j * 64) (bvs b)) p S5 { d5 with now := upd d5.now j b }) := Lib.hid (Did.pre (w := w5.drew.drew) (by exact (Chg.refl _ _).drew.drew) (H5.drew.drew.put_now j b hj5 HBL.out))
    have HD5s : Hid (Did w5 w5.drew p S5 d5) := Lib.hid (Did.pre (w := w5.drew) (by exact (Chg.refl _ _).drew) (Did.same ⟨_, _, _, _, _, H5.drew⟩))
    have hz5 : Hid ((Tryd.prog.info? 77).map (·.size) = some (bvs (d5.now j)).length) := Lib.hid (by rw [bvs_len, hlen5]; kernel_rfl)
    have hneq := neq_sec (d5.now j) b hlen5 HBL.out
    have HS5 := Lib.hid hs5
    have HC5 := Lib.hid hc5
    have HR5 := Lib.hid r5
    have HQ5 := Lib.hid q5
    have HNW := Lib.hid hd5w
    have hfin : Hid (∀ w', Did w5 w' p S5 { d5 with now := upd d5.now j b } → Did w w' p S (d.write (j : Int) b).2) := Lib.hid (fun w' h => by
      rw [HWR.out]
      exact Did.pre HC1.out (Did.glue HS4.out HC4.out (Did.glue HS5.out HC5.out h)))
    obtain ⟨n5, hn5⟩ : ∃ n5, n5 = d5.n := ⟨_, rfl⟩
    rw [← hn5] at c50 hrow hj5
    obtain ⟨b0, hb0⟩ : ∃ b0, b0 = d5.now j := ⟨_, rfl⟩
    rw [← hb0] at hneq HQ5 hz5
    have HB0 := Lib.hid hb0
    have hjz : (j : Int) < (n5 : Int) := by omega
    have hjz0 : (0 : Int) ≤ (j : Int) := by omega
    have hjz1 : (j : Int).toNat = j := by omega
    have HRW : Hid ((d.write (j : Int) b).1 = 0) := Lib.hid (by rw [HWR.out])
    clear H5 hs5 hc5 hb5 r5 q5 hlen5 hd5n hd5w CO hNS hNS4 hn5 hb0
    by_cases heq : b0 = b
    · have hneq2 : ∀ w, (binOp .neq 77 (.agg (bvs b0).toArray) (.agg (bvs b).toArray)).run Tryd.prog w = .ok (.bool false) w := fun w => by rw [hneq w]; simp [heq]
      have HU : Hid ({ d5 with now := upd d5.now j b } = d5) := Lib.hid (by rw [upd_same _ _ _ (by rw [← HB0.out, heq])])
      clear hneq heq
      go_wp2_with fail
      refine wp_region_L [(9, fun w' => w'.cell? ⟨p, 0, none⟩ = some (.slice (some ⟨gn5, 0, none⟩) n5 cn5)), (9, fun w' => w'.rangeAt gn5 (j * 64) (bvs b0)), (9, fun w' => w'.rangeAt N 1 (bvs b))] (by kernel_rfl) ?_ (fun hHeld => ?_)
      · exact (HoldC.cons (c50) (HoldC.cons (HQ5.out) (HoldC.cons (HR5.out) HoldC.nil)))
      refine wpAnyL_take (i := 0) (oi := _) (v := ?_) rfl (by kernel_rfl) (by kernel_rfl) (by kernel_rfl) (by kernel_rfl) (by kernel_rfl) (fun _ _ _ h => h) (Or.inl ⟨by rfl, ?_⟩) (by assumption) (fun hNew => ?_)
      rotate_left
      · intro w _
        go_simp
        try with_reducible rfl
      clear hHeld
      have hHeld := hNew
      clear hNew
      try simp only [List.getElem_toArray, List.getElem_cons_succ, List.getElem_cons_zero, Act.put, List.setIfInBounds_toArray, List.set_cons_zero, List.set_cons_succ]
      refine wpAnyL_take (i := 1) (oi := _) (v := ?_) rfl (by kernel_rfl) (by kernel_rfl) (by kernel_rfl) (by kernel_rfl) (by kernel_rfl) (fun _ _ _ h => h) (Or.inl ⟨by rfl, ?_⟩) (by assumption) (fun hNew => ?_)
      rotate_left
      · intro w _
        go_simp
        try with_reducible rfl
      clear hHeld
      have hHeld := hNew
      clear hNew
      try simp only [List.getElem_toArray, List.getElem_cons_succ, List.getElem_cons_zero, Act.put, List.setIfInBounds_toArray, List.set_cons_zero, List.set_cons_succ]
      refine wpAnyL_take (i := 2) (oi := _) (v := ?_) rfl (by kernel_rfl) (by kernel_rfl) (by kernel_rfl) (by kernel_rfl) (by kernel_rfl) (fun _ _ _ h => h) (Or.inl ⟨by rfl, ?_⟩) (by assumption) (fun hNew => ?_)
      rotate_left
      · intro w _
        go_simp
        try with_reducible rfl
      clear hHeld
      have hHeld := hNew
      clear hNew
      try simp only [List.getElem_toArray, List.getElem_cons_succ, List.getElem_cons_zero, Act.put, List.setIfInBounds_toArray, List.set_cons_zero, List.set_cons_succ]
      refine wpAnyL_load 0 (i := 3) (oi := _) (v := ?_) rfl rfl (by kernel_rfl) (by kernel_rfl) (by kernel_rfl) (by kernel_rfl) (by kernel_rfl) (by kernel_rfl) (fun _ _ _ h => h) (Or.inl ⟨by rfl, ?_⟩) (by assumption) (fun hNew => ?_)
      rotate_left
      · intro w hSw
        (try dsimp only at hSw)
        go_simp
        try with_reducible rfl
      clear hHeld
      have hHeld := hNew
      clear hNew
      try simp only [List.getElem_toArray, List.getElem_cons_succ, List.getElem_cons_zero, Act.put, List.setIfInBounds_toArray, List.set_cons_zero, List.set_cons_succ]
      refine wpAnyL_take (i := 4) (oi := _) (v := ?_) rfl (by kernel_rfl) (by kernel_rfl) (by kernel_rfl) (by kernel_rfl) (by kernel_rfl) (fun _ _ _ h => h) (Or.inl ⟨by rfl, ?_⟩) (by assumption) (fun hNew => ?_)
      rotate_left
      · intro w _
        go_simp
        try with_reducible rfl
      clear hHeld
      have hHeld := hNew
      clear hNew
      try simp only [List.getElem_toArray, List.getElem_cons_succ, List.getElem_cons_zero, Act.put, List.setIfInBounds_toArray, List.set_cons_zero, List.set_cons_succ]
      refine wpAnyL_take (i := 5) (oi := _) (v := ?_) rfl (by kernel_rfl) (by kernel_rfl) (by kernel_rfl) (by kernel_rfl) (by kernel_rfl) (fun _ _ _ h => h) (Or.inl ⟨by rfl, ?_⟩) (by assumption) (fun hNew => ?_)
      rotate_left
      · intro w _
        go_simp
        try with_reducible rfl
      clear hHeld
      have hHeld := hNew
      clear hNew
      try simp only [List.getElem_toArray, List.getElem_cons_succ, List.getElem_cons_zero, Act.put, List.setIfInBounds_toArray, List.set_cons_zero, List.set_cons_succ]
      refine wpAnyL_load 1 (i := 6) (oi := _) (v := .agg (bvs b0).toArray) rfl rfl (by kernel_rfl) (by kernel_rfl) (by kernel_rfl) (by kernel_rfl) (by kernel_rfl) (by kernel_rfl) (fun _ _ _ h => h) (yieldsIf_load_mid (by rfl) 77 (.tmp 45) (by rfl) (gn5) (j * 64) (by rfl) (bvs b0) _ (fun w hw => hw) Tryd.underlying77 rfl hz5.out) (by assumption) (fun hNew => ?_)
      clear hHeld
      have hHeld := hNew
      clear hNew
      try simp only [List.getElem_toArray, List.getElem_cons_succ, List.getElem_cons_zero, Act.put, List.setIfInBounds_toArray, List.set_cons_zero, List.set_cons_succ]
      refine wpAnyL_take (i := 7) (oi := _) (v := ?_) rfl (by kernel_rfl) (by kernel_rfl) (by kernel_rfl) (by kernel_rfl) (by kernel_rfl) (fun _ _ _ h => h) (Or.inl ⟨by rfl, ?_⟩) (by assumption) (fun hNew => ?_)
      rotate_left
      · intro w _
        go_simp
        try with_reducible rfl
      clear hHeld
      have hHeld := hNew
      clear hNew
      try simp only [List.getElem_toArray, List.getElem_cons_succ, List.getElem_cons_zero, Act.put, List.setIfInBounds_toArray, List.set_cons_zero, List.set_cons_succ]
      refine wpAnyL_load 2 (i := 8) (oi := _) (v := .agg (bvs b).toArray) rfl rfl (by kernel_rfl) (by kernel_rfl) (by kernel_rfl) (by kernel_rfl) (by kernel_rfl) (by kernel_rfl) (fun _ _ _ h => h) (yieldsIf_load_mid (by rfl) 77 (.tmp 47) (by rfl) (N) (1) (by rfl) (bvs b) _ (fun w hw => hw) Tryd.underlying77 rfl hzs.out) (by assumption) (fun hNew => ?_)
      clear hHeld
      have hHeld := hNew
      clear hNew
      try simp only [List.getElem_toArray, List.getElem_cons_succ, List.getElem_cons_zero, Act.put, List.setIfInBounds_toArray, List.set_cons_zero, List.set_cons_succ]
      refine wpAnyL_ready (rs := [9]) (by kernel_rfl) (by simp) ?_
      refine AllReadyL.cons (o := _) rfl (fun K hK => ?_) AllReadyL.nil
      try simp only [List.getElem_toArray, List.getElem_cons_succ, List.getElem_cons_zero]
      go_simp
      clear hHeld
      refine hK.out _ _ ?_ (fun hHeld => ?_)
      · exact (HoldC.past (by kernel_rfl) (HoldC.past (by kernel_rfl) (HoldC.past (by kernel_rfl) HoldC.nil)))
      clear hK K
      try simp only [List.getElem_toArray, List.getElem_cons_succ, List.getElem_cons_zero, Act.put, List.setIfInBounds_toArray, List.set_cons_zero, List.set_cons_succ]
      refine wpAnyL_done (by kernel_rfl) ?_ _
      clear hHeld
      go_wp2
      go_ret
      exact ⟨by rw [HRW.out]; rfl, hfin.out _ (by rw [HU.out]; exact HD5s.out)⟩
    · have hneq2 : ∀ w, (binOp .neq 77 (.agg (bvs b0).toArray) (.agg (bvs b).toArray)).run Tryd.prog w = .ok (.bool true) w := fun w => by rw [hneq w]; simp [heq]
      clear hneq heq
      go_wp2_with fail
      refine wp_region_L [(9, fun w' => w'.cell? ⟨p, 0, none⟩ = some (.slice (some ⟨gn5, 0, none⟩) n5 cn5)), (9, fun w' => w'.rangeAt gn5 (j * 64) (bvs b0)), (9, fun w' => w'.rangeAt N 1 (bvs b))] (by kernel_rfl) ?_ (fun hHeld => ?_)
      · exact (HoldC.cons (c50) (HoldC.cons (HQ5.out) (HoldC.cons (HR5.out) HoldC.nil)))
      refine wpAnyL_take (i := 0) (oi := _) (v := ?_) rfl (by kernel_rfl) (by kernel_rfl) (by kernel_rfl) (by kernel_rfl) (by kernel_rfl) (fun _ _ _ h => h) (Or.inl ⟨by rfl, ?_⟩) (by assumption) (fun hNew => ?_)
      rotate_left
      · intro w _
        go_simp
        try with_reducible rfl
      clear hHeld
      have hHeld := hNew
      clear hNew
      try simp only [List.getElem_toArray, List.getElem_cons_succ, List.getElem_cons_zero, Act.put, List.setIfInBounds_toArray, List.set_cons_zero, List.set_cons_succ]
      refine wpAnyL_take (i := 1) (oi := _) (v := ?_) rfl (by kernel_rfl) (by kernel_rfl) (by kernel_rfl) (by kernel_rfl) (by kernel_rfl) (fun _ _ _ h => h) (Or.inl ⟨by rfl, ?_⟩) (by assumption) (fun hNew => ?_)
      rotate_left
      · intro w _
        go_simp
        try with_reducible rfl
      clear hHeld
      have hHeld := hNew
      clear hNew
      try simp only [List.getElem_toArray, List.getElem_cons_succ, List.getElem_cons_zero, Act.put, List.setIfInBounds_toArray, List.set_cons_zero, List.set_cons_succ]
      refine wpAnyL_take (i := 2) (oi := _) (v := ?_) rfl (by kernel_rfl) (by kernel_rfl) (by kernel_rfl) (by kernel_rfl) (by kernel_rfl) (fun _ _ _ h => h) (Or.inl ⟨by rfl, ?_⟩) (by assumption) (fun hNew => ?_)
      rotate_left
      · intro w _
        go_simp
        try with_reducible rfl
      clear hHeld
      have hHeld := hNew
      clear hNew
      try simp only [List.getElem_toArray, List.getElem_cons_succ, List.getElem_cons_zero, Act.put, List.setIfInBounds_toArray, List.set_cons_zero, List.set_cons_succ]
      refine wpAnyL_load 0 (i := 3) (oi := _) (v := ?_) rfl rfl (by kernel_rfl) (by kernel_rfl) (by kernel_rfl) (by kernel_rfl) (by kernel_rfl) (by kernel_rfl) (fun _ _ _ h => h) (Or.inl ⟨by rfl, ?_⟩) (by assumption) (fun hNew => ?_)
      rotate_left
      · intro w hSw
        (try dsimp only at hSw)
        go_simp
        try with_reducible rfl
      clear hHeld
      have hHeld := hNew
      clear hNew
      try simp only [List.getElem_toArray, List.getElem_cons_succ, List.getElem_cons_zero, Act.put, List.setIfInBounds_toArray, List.set_cons_zero, List.set_cons_succ]
      refine wpAnyL_take (i := 4) (oi := _) (v := ?_) rfl (by kernel_rfl) (by kernel_rfl) (by kernel_rfl) (by kernel_rfl) (by kernel_rfl) (fun _ _ _ h => h) (Or.inl ⟨by rfl, ?_⟩) (by assumption) (fun hNew => ?_)
      rotate_left
      · intro w _
        go_simp
        try with_reducible rfl
      clear hHeld
      have hHeld := hNew
      clear hNew
      try simp only [List.getElem_toArray, List.getElem_cons_succ, List.getElem_cons_zero, Act.put, List.setIfInBounds_toArray, List.set_cons_zero, List.set_cons_succ]
      refine wpAnyL_take (i := 5) (oi := _) (v := ?_) rfl (by kernel_rfl) (by kernel_rfl) (by kernel_rfl) (by kernel_rfl) (by kernel_rfl) (fun _ _ _ h => h) (Or.inl ⟨by rfl, ?_⟩) (by assumption) (fun hNew => ?_)
      rotate_left
      · intro w _
        go_simp
        try with_reducible rfl
      clear hHeld
      have hHeld := hNew
      clear hNew
      try simp only [List.getElem_toArray, List.getElem_cons_succ, List.getElem_cons_zero, Act.put, List.setIfInBounds_toArray, List.set_cons_zero, List.set_cons_succ]
      refine wpAnyL_load 1 (i := 6) (oi := _) (v := .agg (bvs b0).toArray) rfl rfl (by kernel_rfl) (by kernel_rfl) (by kernel_rfl) (by kernel_rfl) (by kernel_rfl) (by kernel_rfl) (fun _ _ _ h => h) (yieldsIf_load_mid (by rfl) 77 (.tmp 45) (by rfl) (gn5) (j * 64) (by rfl) (bvs b0) _ (fun w hw => hw) Tryd.underlying77 rfl hz5.out) (by assumption) (fun hNew => ?_)
      clear hHeld
      have hHeld := hNew
      clear hNew
      try simp only [List.getElem_toArray, List.getElem_cons_succ, List.getElem_cons_zero, Act.put, List.setIfInBounds_toArray, List.set_cons_zero, List.set_cons_succ]
      refine wpAnyL_take (i := 7) (oi := _) (v := ?_) rfl (by kernel_rfl) (by kernel_rfl) (by kernel_rfl) (by kernel_rfl) (by kernel_rfl) (fun _ _ _ h => h) (Or.inl ⟨by rfl, ?_⟩) (by assumption) (fun hNew => ?_)
      rotate_left
      · intro w _
        go_simp
        try with_reducible rfl
      clear hHeld
      have hHeld := hNew
      clear hNew
      try simp only [List.getElem_toArray, List.getElem_cons_succ, List.getElem_cons_zero, Act.put, List.setIfInBounds_toArray, List.set_cons_zero, List.set_cons_succ]
      refine wpAnyL_load 2 (i := 8) (oi := _) (v := .agg (bvs b).toArray) rfl rfl (by kernel_rfl) (by kernel_rfl) (by kernel_rfl) (by kernel_rfl) (by kernel_rfl) (by kernel_rfl) (fun _ _ _ h => h) (yieldsIf_load_mid (by rfl) 77 (.tmp 47) (by rfl) (N) (1) (by rfl) (bvs b) _ (fun w hw => hw) Tryd.underlying77 rfl hzs.out) (by assumption) (fun hNew => ?_)
      clear hHeld
      have hHeld := hNew
      clear hNew
      try simp only [List.getElem_toArray, List.getElem_cons_succ, List.getElem_cons_zero, Act.put, List.setIfInBounds_toArray, List.set_cons_zero, List.set_cons_succ]
      refine wpAnyL_ready (rs := [9]) (by kernel_rfl) (by simp) ?_
      refine AllReadyL.cons (o := _) rfl (fun K hK => ?_) AllReadyL.nil
      try simp only [List.getElem_toArray, List.getElem_cons_succ, List.getElem_cons_zero]
      go_simp
      clear hHeld
      refine hK.out _ _ ?_ (fun hHeld => ?_)
      · exact (HoldC.past (by kernel_rfl) (HoldC.past (by kernel_rfl) (HoldC.past (by kernel_rfl) HoldC.nil)))
      clear hK K
      try simp only [List.getElem_toArray, List.getElem_cons_succ, List.getElem_cons_zero, Act.put, List.setIfInBounds_toArray, List.set_cons_zero, List.set_cons_succ]
      refine wpAnyL_done (by kernel_rfl) ?_ _
      clear hHeld
      go_wp2_with fail
      refine wp_region_L [(8, fun w' => w'.cell? ⟨p, 0, none⟩ = some (.slice (some ⟨gn5, 0, none⟩) n5 cn5)), (8, fun w' => w'.rangeAt N 1 (bvs b))] (by kernel_rfl) ?_ (fun hHeld => ?_)
      · exact (HoldC.cons (c50) (HoldC.cons (HR5.out) HoldC.nil))
      refine wpAnyL_take (i := 0) (oi := _) (v := ?_) rfl (by kernel_rfl) (by kernel_rfl) (by kernel_rfl) (by kernel_rfl) (by kernel_rfl) (fun _ _ _ h => h) (Or.inl ⟨by rfl, ?_⟩) (by assumption) (fun hNew => ?_)
      rotate_left
      · intro w _
        go_simp
        try with_reducible rfl
      clear hHeld
      have hHeld := hNew
      clear hNew
      try simp only [List.getElem_toArray, List.getElem_cons_succ, List.getElem_cons_zero, Act.put, List.setIfInBounds_toArray, List.set_cons_zero, List.set_cons_succ]
      refine wpAnyL_take (i := 1) (oi := _) (v := ?_) rfl (by kernel_rfl) (by kernel_rfl) (by kernel_rfl) (by kernel_rfl) (by kernel_rfl) (fun _ _ _ h => h) (Or.inl ⟨by rfl, ?_⟩) (by assumption) (fun hNew => ?_)
      rotate_left
      · intro w _
        go_simp
        try with_reducible rfl
      clear hHeld
      have hHeld := hNew
      clear hNew
      try simp only [List.getElem_toArray, List.getElem_cons_succ, List.getElem_cons_zero, Act.put, List.setIfInBounds_toArray, List.set_cons_zero, List.set_cons_succ]
      refine wpAnyL_take (i := 2) (oi := _) (v := ?_) rfl (by kernel_rfl) (by kernel_rfl) (by kernel_rfl) (by kernel_rfl) (by kernel_rfl) (fun _ _ _ h => h) (Or.inl ⟨by rfl, ?_⟩) (by assumption) (fun hNew => ?_)
      rotate_left
      · intro w _
        go_simp
        try with_reducible rfl
      clear hHeld
      have hHeld := hNew
      clear hNew
      try simp only [List.getElem_toArray, List.getElem_cons_succ, List.getElem_cons_zero, Act.put, List.setIfInBounds_toArray, List.set_cons_zero, List.set_cons_succ]
      refine wpAnyL_load 0 (i := 3) (oi := _) (v := ?_) rfl rfl (by kernel_rfl) (by kernel_rfl) (by kernel_rfl) (by kernel_rfl) (by kernel_rfl) (by kernel_rfl) (fun _ _ _ h => h) (Or.inl ⟨by rfl, ?_⟩) (by assumption) (fun hNew => ?_)
      rotate_left
      · intro w hSw
        (try dsimp only at hSw)
        go_simp
        try with_reducible rfl
      clear hHeld
      have hHeld := hNew
      clear hNew
      try simp only [List.getElem_toArray, List.getElem_cons_succ, List.getElem_cons_zero, Act.put, List.setIfInBounds_toArray, List.set_cons_zero, List.set_cons_succ]
      refine wpAnyL_take (i := 4) (oi := _) (v := ?_) rfl (by kernel_rfl) (by kernel_rfl) (by kernel_rfl) (by kernel_rfl) (by kernel_rfl) (fun _ _ _ h => h) (Or.inl ⟨by rfl, ?_⟩) (by assumption) (fun hNew => ?_)
      rotate_left
      · intro w _
        go_simp
        try with_reducible rfl
      clear hHeld
      have hHeld := hNew
      clear hNew
      try simp only [List.getElem_toArray, List.getElem_cons_succ, List.getElem_cons_zero, Act.put, List.setIfInBounds_toArray, List.set_cons_zero, List.set_cons_succ]
      refine wpAnyL_take (i := 5) (oi := _) (v := ?_) rfl (by kernel_rfl) (by kernel_rfl) (by kernel_rfl) (by kernel_rfl) (by kernel_rfl) (fun _ _ _ h => h) (Or.inl ⟨by rfl, ?_⟩) (by assumption) (fun hNew => ?_)
      rotate_left
      · intro w _
        go_simp
        try with_reducible rfl
      clear hHeld
      have hHeld := hNew
      clear hNew
      try simp only [List.getElem_toArray, List.getElem_cons_succ, List.getElem_cons_zero, Act.put, List.setIfInBounds_toArray, List.set_cons_zero, List.set_cons_succ]
      refine wpAnyL_load 1 (i := 6) (oi := _) (v := .agg (bvs b).toArray) rfl rfl (by kernel_rfl) (by kernel_rfl) (by kernel_rfl) (by kernel_rfl) (by kernel_rfl) (by kernel_rfl) (fun _ _ _ h => h) (yieldsIf_load_mid (by rfl) 77 (.tmp 55) (by rfl) (N) (1) (by rfl) (bvs b) _ (fun w hw => hw) Tryd.underlying77 rfl hzs.out) (by assumption) (fun hNew => ?_)
      clear hHeld
      have hHeld := hNew
      clear hNew
      try simp only [List.getElem_toArray, List.getElem_cons_succ, List.getElem_cons_zero, Act.put, List.setIfInBounds_toArray, List.set_cons_zero, List.set_cons_succ]
      refine wpAnyL_take (i := 7) (oi := _) (v := ?_) rfl (by kernel_rfl) (by kernel_rfl) (by kernel_rfl) (by kernel_rfl) (by kernel_rfl) (fun _ _ _ h => h) (Or.inl ⟨by rfl, ?_⟩) (by assumption) (fun hNew => ?_)
      rotate_left
      · intro w _
        go_simp
        try with_reducible rfl
      clear hHeld
      have hHeld := hNew
      clear hNew
      try simp only [List.getElem_toArray, List.getElem_cons_succ, List.getElem_cons_zero, Act.put, List.setIfInBounds_toArray, List.set_cons_zero, List.set_cons_succ]
      refine wpAnyL_ready (rs := [8]) (by kernel_rfl) (by simp) ?_
      refine AllReadyL.cons (o := _) rfl (fun K hK => ?_) AllReadyL.nil
      try simp only [List.getElem_toArray, List.getElem_cons_succ, List.getElem_cons_zero]
      rw [if_pos (by rfl)]
      refine wp_store_mid 77 (.tmp 57) (.tmp 56) (by rfl) gn5 (j * 64) (bvs b).toArray (by rfl) (by rfl) th5.out hzt.out hone.out ?_
      clear hHeld
      refine hK.out _ _ ?_ (fun hHeld => ?_)
      · exact (HoldC.past (by kernel_rfl) (HoldC.past (by kernel_rfl) HoldC.nil))
      clear hK K
      try simp only [List.getElem_toArray, List.getElem_cons_succ, List.getElem_cons_zero, Act.put, List.setIfInBounds_toArray, List.set_cons_zero, List.set_cons_succ]
      refine wpAnyL_done (by kernel_rfl) ?_ _
      clear hHeld
      go_wp2
      go_ret
      exact ⟨by rw [HRW.out]; rfl, hfin.out _ HD5n.out⟩
end Go.Proofs.YtipfgghdoicdhaaDoor.W
