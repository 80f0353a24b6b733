/- Package disk: Sync. -/
import Derived.Test.YtipfgghdoicdhaaDoorWaits
namespace Go.Proofs.YtipfgghdoicdhaaDoor.W
open Go.RowKit Go.Shelf
set_option linter.unusedVariables false
set_option linter.unusedSimpArgs false
attribute [local go_sem] Oper.semAt_some

theorem cells_ne {W : World} {r k t : Nat} {cs : Array Value} {o : Obj} {fr : Nat × Nat} (h : W.heap[k]? = some (.cells cs t fr)) (hr : W.heap[r]? = some o) (ho : o.isCells = false) : k ≠ r := by
  rintro rfl
  rw [h] at hr; cases hr; cases ho
theorem row_turn {W W' : World} {row : Option Nat} {base e size n : Nat} {v : Value} {xs : List Value} (h : W.ownsRow base e size v n xs) (hg : W.grownBy W' row) (hr : ∀ r, row = some r → ∃ o : Obj, W.heap[r]? = some o ∧ o.isCells = false) : W'.ownsRow base e size v n xs := by
  rcases h.2 with h1 | ⟨g, cap, cur, rfl, hbg, hgb, rest⟩
  · exact ⟨h.1, .inl h1⟩
  · refine row_keep h (fun g' hg' => ?_)
    simp [Value.ownBlock] at hg'
    subst hg'
    refine hg.block g (blk_lt hgb) (fun e => ?_)
    obtain ⟨o, ho, hc⟩ := hr g e.symm
    exact cells_ne hgb ho hc rfl
theorem blk_turn {W W' : World} {row : Option Nat} {k t : Nat} {cs : Array Value} {fr : Nat × Nat} (h : W.heap[k]? = some (.cells cs t fr)) (hg : W.grownBy W' row) (hr : ∀ r, row = some r → ∃ o : Obj, W.heap[r]? = some o ∧ o.isCells = false) : W'.heap[k]? = W.heap[k]? :=
  hg.block k (blk_lt h) (fun e => by obtain ⟨o, ho, hc⟩ := hr k e.symm; exact cells_ne h ho hc rfl)
/-- A block that holds no cells is turned. -/
theorem DiskOk.turn {W W' : World} {row : Option Nat} {p : Nat} {S : List Nat} {d : DS} {gn gl cn cl : Nat} {v : Value} (h : DiskOk W p S d gn gl cn cl v) (hg : W.grownBy W' row) (hr : ∀ r, row = some r → ∃ o : Obj, W.heap[r]? = some o ∧ o.isCells = false) : DiskOk W' p S d gn gl cn cl v := by
  have hn := h.now
  obtain ⟨cs, h1, h2⟩ := h.now
  obtain ⟨cs2, h3, h4⟩ := h.lasts
  exact ⟨(blk_turn h.head hg hr).trans h.head, h.now.keep (blk_turn h1 hg hr), h.lasts.keep (blk_turn h3 hg hr), row_turn h.since hg hr, h.waits, h.few, h.capn, h.capl, h.fuse, h.ap, h.av, h.mem, fun x hx => Nat.lt_of_lt_of_le (h.lim x hx) hg.size⟩
theorem chg_turn {S : List Nat} {w W W' : World} {row : Option Nat} (h : Chg S w W) (hg : W.grownBy W' row) (hr : ∀ r, row = some r → w.heap.size ≤ r) : Chg S w W' := h.grown hg (fun k hk => .inr (hr k hk))

/-- A sector comes to last. -/
theorem DiskOk.put_lasts {w : World} {p : Nat} {S : List Nat} {d : DS} {gn gl cn cl : Nat} {v : Value} (h : DiskOk w p S d gn gl cn cl v) (k : Nat) (s : List UInt8) (hk : k < d.n) (hs : s.length = 64) :
    DiskOk (w.setCells gl (k * 64) (bvs s)) p S { d with lasts := upd d.lasts k s } gn gl cn cl v := by
  obtain ⟨m1, m2, m3, m4⟩ := h.mem
  have hc : Chg [gl] w (w.setCells gl (k * 64) (bvs s)) := (Chg.refl _ w).setCells (.inl (by simp)) _
  exact ⟨hc.keep h.head (by simp; exact h.ap.2.1), h.now.keep (setCells_far _ _ _ _ h.ap.2.2), h.lasts.set k s hk hs, row_keep h.since (fun g hg => setCells_far _ _ _ _ (h.av g hg).2.2),
    h.waits, h.few, h.capn, h.capl, h.fuse, h.ap, h.av, h.mem, fun x hx => Nat.lt_of_lt_of_le (h.lim x hx) hc.size⟩
/-- Nothing waits any more. -/
theorem DiskOk.none_waits {w : World} {p : Nat} {S : List Nat} {d : DS} {gn gl cn cl : Nat} {v : Value} (h : DiskOk w p S d gn gl cn cl v) : DiskOk (w.setCell ⟨p, 2, none⟩ (.slice none 0 0)) p S { d with since := [] } gn gl cn cl (.slice none 0 0) := by
  obtain ⟨m1, m2, m3, m4⟩ := h.mem
  have hc : Chg [p] w (w.setCell ⟨p, 2, none⟩ (.slice none 0 0)) := (Chg.refl _ w).setCell (.inl (by simp)) _
  exact ⟨set_blk h.head, h.now.keep (hc.block _ h.now.lt (by simp; exact h.ap.1.symm)), h.lasts.keep (hc.block _ h.lasts.lt (by simp; exact h.ap.2.1.symm)), World.ownsRow_nil _ _ _ _,
    by simp, h.few, h.capn, h.capl, h.fuse, h.ap, by simp [Value.ownBlock], ⟨m1, m2, m3, by simp [Value.ownBlock]⟩, fun x hx => Nat.lt_of_lt_of_le (h.lim x hx) hc.size⟩
theorem applied_snoc (l : List (Nat × List UInt8)) (x : Nat × List UInt8) (f : Nat → List UInt8) : applied (l ++ [x]) f = upd (applied l f) x.1 x.2 := by simp [applied]

theorem dwaits_any (p : Nat) (w : World) : Calls Tryd.prog 57 #[.pointer (some ⟨p, 0, none⟩)] w fun e w' => e = .returned (.func (.func 75) #[] #[.pointer (some ⟨w.heap.size, 0, none⟩)]) ∧ w' = w.alloc (.cells #[.pointer (some ⟨p, 0, none⟩)] 24) := by
  have hmf : ∀ (fn : Fn) (first cap : Array Value) (w : World), (Instr.makeFunc fn first cap).run Tryd.prog w = .ok (.func fn first cap) w := fun _ _ _ _ => rfl
  go_enter Tryd.func57, Tryd.ntmps57
  go_wp2
  go_ret
  exact ⟨rfl, rfl⟩

theorem dwaits_stops (n Bd p N : Nat) (hn : 1 ≤ n) (v : Value) (xs : List (Wt N)) (hxs : xs.length ≤ 1000000) (w : World) (hBd : w.cell? ⟨Bd, 0, none⟩ = some (.pointer (some ⟨p, 0, none⟩))) (h2 : w.cell? ⟨p, 2, none⟩ = some v) (hrow : w.ownsRow 0 79 65 v xs.length (wsCells (wcs xs))) :
    SeqStopsK Fence.wide n Tryd.prog 75 #[.pointer (some ⟨Bd, 0, none⟩)] (wenc (N := N)) (KpRow v) (fun ys => ys = xs) (fun _ => True) xs.length w := fun l J Jx W hW hJ hJx hY h0 =>
  dwaits1_in n hn l Bd p N v xs hxs J Jx W hJ hY ((hW.cell (p := ⟨Bd, 0, none⟩) (World.block_lt_of_cell? w _ hBd)).trans hBd) ((hW.cell (p := ⟨p, 2, none⟩) (World.block_lt_of_cell? w _ h2)).trans h2)
    (row_keep hrow (fun g hg => hW.block g (World.ownsRow.lt hrow g hg).2)) h0

set_option maxHeartbeats 4000000 in
set_option maxRecDepth 100000 in
theorem dsync_ok (p : Nat) (S : List Nat) (d : DS) (w : World) (h : DiskAt w p S d) (ho : d.ops ≤ 1000000000) (hw : d.since.length ≤ 1000000) (hd : d.dead = false) (hf : d.fuse ≠ 0) :
    Calls Tryd.prog 72 #[.pointer (some ⟨p, 0, none⟩)] w fun e w' => e = .returned (.int .i64 (d.sync).1) ∧ Did w w' p S (d.sync).2 := by
  obtain ⟨w1, hw1⟩ : ∃ w1, w1 = w.alloc (.cells #[.pointer (some ⟨p, 0, none⟩)] 24) := ⟨_, rfl⟩
  have hc1 : Chg [] w w1 := by rw [hw1]; exact (Chg.refl _ _).alloc _
  have h1 : DiskAt w1 p S d := h.keep hc1 (by simp)
  have hB0 : w1.cell? ⟨w.heap.size, 0, none⟩ = some (.pointer (some ⟨p, 0, none⟩)) := by rw [hw1]; exact blk_cell (heap_alloc_new w _) 0 _ rfl
  have hB0S : w.heap.size ∉ S := fun hm => by have := h.lim _ hm; omega
  have CG := Lib.hid (dgone_any p S d w1 h1)
  have CO := Lib.hid (dop_any p S d w1 h1 ho)
  obtain ⟨d2, hd2, hd2n, hd2l, hd2s⟩ : ∃ d2 : DS, d.op = (true, d2) ∧ d2.n = d.n ∧ d2.lasts = d.lasts ∧ d2.since = d.since := by
    unfold DS.op
    rw [if_neg hf]
    exact ⟨_, rfl, rfl, rfl, rfl⟩
  have HSY : Hid (d.sync = (0, { d2 with lasts := applied d2.since d2.lasts, since := [] })) := Lib.hid (by
    unfold DS.sync
    rw [if_neg (by rw [hd]; simp), hd2]
    rfl)
  rw [hd] at CG
  rw [hd2] at CO
  dsimp only at CO
  have HW1 := Lib.hid hw1
  have HC1 := Lib.hid hc1
  clear h h1 hd hf hd2 hc1
  refine (callsIn_wide (n := 5)).1 ?_
  refine callsIn_of_wp_marks Tryd.func72 rfl trivial ?_ rfl
  simp only [Tryd.ntmps72, List.size_toArray, List.length_cons, List.length_nil, Nat.reduceAdd, Nat.reduceSub, Array.replicate_succ, Array.replicate_zero, List.push_toArray, List.append_toArray, List.nil_append, List.cons_append]
  gi_wp2_with fail
  rw [← HW1.out]
  clear hw1
  refine ⟨trivial, (wide_w.calls CG.out).mono ?_⟩
  rintro e w' ⟨rfl, hq⟩
  subst hq
  gi_wp2_with fail
  refine ⟨trivial, (wide_w.calls CO.out).mono ?_⟩
  rintro e w2 ⟨rfl, S2, ⟨gn, gl, cn, cl, v, H2⟩, hs2, hc2⟩
  have hB0l := World.block_lt_of_cell? w1 _ hB0
  have hB2 : w2.cell? ⟨w.heap.size, 0, none⟩ = some (.pointer (some ⟨p, 0, none⟩)) := hc2.cell hB0 hB0S
  have hB0S2 : w.heap.size ∉ S2 := fun hm => by
    rcases hs2 _ hm with h | h
    · exact hB0S h
    · have := hB0l; simp at this; omega
  have HC2 := Lib.hid hc2
  have HS2 := Lib.hid hs2
  have HD2 := Lib.hid H2
  clear hc2 hs2 H2 CG CO
  gi_wp2_with fail
  refine ⟨trivial, (wide_w.calls (dwaits_any p w2)).mono ?_⟩
  rintro e w3 ⟨rfl, hw3⟩
  have hc3 : Chg [] w2 w3 := by rw [hw3]; exact (Chg.refl _ _).alloc _
  have hB1 : w3.cell? ⟨w2.heap.size, 0, none⟩ = some (.pointer (some ⟨p, 0, none⟩)) := by rw [hw3]; exact blk_cell (heap_alloc_new w2 _) 0 _ rfl
  have hB3 : w3.cell? ⟨w.heap.size, 0, none⟩ = some (.pointer (some ⟨p, 0, none⟩)) := hc3.cell hB2 (by simp)
  have H3 : DiskOk w3 p S2 d2 gn gl cn cl v := by
    have H := HD2.out
    obtain ⟨m1, m2, m3, m4⟩ := H.mem
    exact ⟨hc3.keep H.head (by simp), H.now.keep (hc3.block _ H.now.lt (by simp)), H.lasts.keep (hc3.block _ H.lasts.lt (by simp)), row_keep H.since (fun g hg => hc3.block g (World.ownsRow.lt H.since g hg).2 (by simp)),
      H.waits, H.few, H.capn, H.capl, H.fuse, H.ap, H.av, H.mem, fun x hx => Nat.lt_of_lt_of_le (H.lim x hx) hc3.size⟩
  have HC3 := Lib.hid hc3
  have HD3 := Lib.hid H3
  have h32 : w3.cell? ⟨p, 2, none⟩ = some v := blk_cell H3.head 2 _ rfl
  obtain ⟨xs, hxs⟩ := wcs_of (N := d2.n) d2.since (fun x hx => H3.waits x hx)
  have hxl : xs.length = d2.since.length := by rw [← hxs, wcs_len]
  have hrow : w3.ownsRow 0 79 65 v xs.length (wsCells (wcs xs)) := by rw [hxs, hxl]; exact H3.since
  have hxn : xs.length ≤ 1000000 := by rw [hxl, hd2s]; exact hw
  have hvl : ∀ g, v.ownBlock = some g → g < w3.heap.size := fun g hg => (World.ownsRow.lt H3.since g hg).2
  have hpl := blk_lt H3.head
  have hgll := H3.lasts.lt
  have hav := H3.av
  have hap := H3.ap
  obtain ⟨iw, zw, hiw, hzw1, hzw2, hzw3, hzw4⟩ := info_three facts_wr
  have HIW := Lib.hid hiw
  have HZ1 := Lib.hid hzw1
  have HZ2 := Lib.hid hzw2
  have HZ3 := Lib.hid hzw3
  have HXS := Lib.hid hxs
  have HXN := Lib.hid hxn
  have HROW := Lib.hid hrow
  have HVL := Lib.hid hvl
  have HAV := Lib.hid hav
  have HAP := Lib.hid hap
  clear hw3 hc3 H3 hB2 hxs hxl hrow hxn hvl hav hap hiw hzw1 hzw2 hzw3 hzw4 hd2n hd2l hd2s
  gi_wp2_with fail
  refine wpIn_rangeFunc_ownH rfl (by omega) (gf := 75) (lb := #[.pointer (some ⟨w2.heap.size, 0, none⟩)]) rfl trivial (enters_of Tryd.func75 (by kernel_rfl) rfl)
    (dwaits_stops 4 w2.heap.size p d2.n (by omega) v xs HXN.out w3 hB1 h32 HROW.out) (fun h1 h2 g hg => (h2 g hg).trans (h1 g hg))
    (fun W l o o' hl hh _ _ g hg => World.putObj_heap_other (fun e => by have := HVL.out g hg; omega)) (Below.refl _ _) (fun _ => rfl)
    (fun pre W => DiskOk W p S2 { d2 with lasts := applied (wcs pre) d2.lasts } gn gl cn cl v ∧ Chg S2 w3 W) (fun _ _ _ => False)
    (fun s A B row hs hg hr => ⟨hs.1.turn hg (fun r e => (hr r e).2), chg_turn hs.2 hg (fun r e => (hr r e).1)⟩) (fun c s A B row hs _ _ => hs)
    ⟨HD3.out, Chg.refl _ _⟩
    (fun x a' W => ∃ Bx, w3.heap.size ≤ Bx ∧ W.heap[Bx]? = some (.cells (wcells x.1).toArray 79 (0, 0)) ∧ a' = { tmps := #[.pointer (some ⟨p, 0, none⟩), .pointer (some ⟨w.heap.size, 0, none⟩), .int .i64 0, .pointer (some ⟨Bx, 0, none⟩), .pointer (some ⟨p, 0, none⟩), .bool false, .bool false, .pointer (some ⟨p, 0, none⟩), .bool true, .bool false, .bool false, .pointer (some ⟨p, 0, none⟩), .func (.func 75) #[] #[.pointer (some ⟨w2.heap.size, 0, none⟩)], .agg (wcells x.1).toArray, undef, undef, undef, undef, undef, undef, undef, undef, undef, undef, undef, undef], defers := [] })
    (fun x a' s A B row ⟨Bx, h1, h2, h3⟩ hg hr => ⟨Bx, h1, (blk_turn h2 hg (fun r e => (hr r e).2)).trans h2, h3⟩) ?assign ?body ?done ?stop
  case stop =>
    rintro D c pre W _ _ h _
    exact h.elim
  case assign =>
    rintro l pre x W K ⟨hI1, hI2⟩ hK
    have HXL := Lib.hid (wcells_len x.1 x.2.2)
    have hone := Lib.hid (all_oneCell_toArray (wcells_one x.1))
    have HZ2b : Hid (zw.cells.size = (wcells x.1).toArray.size) := Lib.hid (by rw [HZ2.out]; simp [HXL.out])
    have HZ3b : Hid (iw.size = (wcells x.1).toArray.size) := Lib.hid (by rw [HZ3.out]; simp [HXL.out])
    have hsz3 : w3.heap.size ≤ W.heap.size := hI2.size
    have hne : ∀ r, (none : Option Nat) = some r → ∃ o : Obj, W.heap[r]? = some o ∧ o.isCells = false := fun r e => by cases e
    have HN := Lib.hid (hK { tmps := #[.pointer (some ⟨p, 0, none⟩), .pointer (some ⟨w.heap.size, 0, none⟩), .int .i64 0, .pointer (some ⟨W.heap.size, 0, none⟩), .pointer (some ⟨p, 0, none⟩), .bool false, .bool false, .pointer (some ⟨p, 0, none⟩), .bool true, .bool false, .bool false, .pointer (some ⟨p, 0, none⟩), .func (.func 75) #[] #[.pointer (some ⟨w2.heap.size, 0, none⟩)], .agg (wcells x.1).toArray, undef, undef, undef, undef, undef, undef, undef, undef, undef, undef, undef, undef], defers := [] } (W.alloc (.cells (wcells x.1).toArray 79)) ((KeepsOthers.alloc _ _).from _)
      (fun g hg => Below.heap_alloc W _ g (Nat.lt_of_lt_of_le (HVL.out g hg) hsz3)) ⟨hI1.turn (World.grownBy_alloc W _ none) hne, hI2.alloc _⟩ ⟨W.heap.size, hsz3, heap_alloc_new W _, rfl⟩)
    clear hK hI1 hI2 hne
    refine wpIn_region_lit ?_
    simp [wenc]
    (refine wpListIn_varW (wide_r l) (by rfl) (by rfl) 79 (.tmp 3) (.tmp 13) (by rfl) (by rfl) W.heap.size rfl (wcells x.1).toArray (by rfl) (by rfl) iw zw HIW.out HZ1.out HZ2b.out HZ3b.out hone.out ?_)
    exact HN.out
  case body =>
    rintro l pre x a' W hl ⟨r, hr⟩ ⟨hD, hC⟩ ⟨Bx, hBx, bX, rfl⟩ hlt
    have hB3W : W.cell? ⟨w.heap.size, 0, none⟩ = some (.pointer (some ⟨p, 0, none⟩)) := hC.cell hB3 hB0S2
    have c1 : W.cell? ⟨p, 1, none⟩ = some (.slice (some ⟨gl, 0, none⟩) d2.n cl) := blk_cell hD.head 1 _ rfl
    have cx : W.cell? ⟨Bx, 0, none⟩ = some (.int .i64 (x.1.1 : Int)) := blk_cell bX 0 _ rfl
    have hxr : W.rangeAt Bx 0 (wcells x.1) := fun j u hu => by rw [Nat.zero_add]; exact blk_cell bX j u (by simpa using hu)
    have HXR := Lib.hid (range_tail hxr)
    have hx1 := x.2.1
    have HXS2 := Lib.hid x.2.2
    have hzs : Hid ((Tryd.prog.info? 77).map (·.size) = some (bvs x.1.2).length) := Lib.hid (by rw [bvs_len, HXS2.out]; kernel_rfl)
    have hzt : Hid ((Tryd.prog.info? 77).map (·.size) = some (bvs x.1.2).toArray.size) := Lib.hid (by rw [show (bvs x.1.2).toArray.size = (bvs x.1.2).length by simp]; exact hzs.out)
    have th : Hid (W.drew.there gl (x.1.1 * 64) (bvs x.1.2).toArray.size) := Lib.hid (by
      have h1 := hD.drew.lasts.there x.1.1 hx1
      have h2 : (bvs x.1.2).toArray.size = 64 := by simp [bvs_len, HXS2.out]
      rw [h2]; exact h1)
    have hone := Lib.hid (all_oneCell_toArray (bvs_one x.1.2))
    have hsz3 : w3.heap.size ≤ W.heap.size := hC.size
    have HP := Lib.hid (hD.drew.put_lasts x.1.1 x.1.2 hx1 x.2.2)
    have hap2 : Hid (upd (applied (wcs pre) d2.lasts) x.1.1 x.1.2 = applied (wcs (pre ++ [x])) d2.lasts) := Lib.hid (by
      rw [show wcs (pre ++ [x]) = wcs pre ++ [x.1] by simp [wcs], applied_snoc])
    have HC := Lib.hid hC
    have HLM := Lib.hid hD.mem
    have hcap := hD.capl
    have HN : Hid (ownPostG w3.heap.size (KpRow v) (fun pre W => DiskOk W p S2 { d2 with lasts := applied (wcs pre) d2.lasts } gn gl cn cl v ∧ Chg S2 w3 W) (fun _ _ _ => False) (pre ++ [x]) W Exit.normal { tmps := #[], defers := [] } (W.drew.setCells gl (x.1.1 * 64) (bvs x.1.2))) := Lib.hid (by
      refine ⟨⟨by rw [setCells_size]; exact Nat.le_refl _, fun k o hk ho _ => ?_⟩, fun g hg => ?_, ?_, (HC.out.drew).setCells (.inl HLM.out.2.2.1) _⟩
      · rw [setCells_far _ _ _ _ (by omega)]; exact ho
      · rw [setCells_far _ _ _ _ (HAV.out g hg).2.2]; rfl
      · rw [← hap2.out]; exact HP.out)
    have hjz : ((x.1.1 : Nat) : Int) < (d2.n : Int) := by omega
    have hjz0 : (0 : Int) ≤ ((x.1.1 : Nat) : Int) := by omega
    have hjz1 : ((x.1.1 : Nat) : Int).toNat = x.1.1 := by omega
    clear hD hC bX hxr hr
    gi_wp2_with fail
    refine wpIn_region_L (wide_r l) (by rintro ⟨_, _, h⟩; exact h) (by kernel_rfl) [(9, fun w' => w'.cell? ⟨w.heap.size, 0, none⟩ = some (.pointer (some ⟨p, 0, none⟩))), (9, fun w' => w'.cell? ⟨p, 1, none⟩ = some (.slice (some ⟨gl, 0, none⟩) d2.n cl)), (9, fun w' => w'.cell? ⟨Bx, 0, none⟩ = some (.int .i64 (x.1.1 : Int))), (9, fun w' => w'.rangeAt Bx (0 + 1) (bvs x.1.2))] (by kernel_rfl) ?_ (fun hHeld => ?_)
    · exact (HoldC.cons (hB3W) (HoldC.cons (c1) (HoldC.cons (cx) (HoldC.cons (HXR.out) HoldC.nil))))
    refine wpAnyL_load 0 (i := 0) (oi := _) (v := ?_) rfl rfl (by kernel_rfl) (by kernel_rfl) (by kernel_rfl) (by kernel_rfl) (by kernel_rfl) (by kernel_rfl) (fun _ _ _ h => h) (Or.inl ⟨by rfl, ?_⟩) (by assumption) (fun hNew => ?_)
    rotate_left
    · intro w hSw
      (try dsimp only at hSw)
      go_simp
      try with_reducible rfl
    clear hHeld
    have hHeld := hNew
    clear hNew
    try simp only [List.getElem_toArray, List.getElem_cons_succ, List.getElem_cons_zero, Act.put, List.setIfInBounds_toArray, List.set_cons_zero, List.set_cons_succ]
    refine wpAnyL_take (i := 1) (oi := _) (v := ?_) rfl (by kernel_rfl) (by kernel_rfl) (by kernel_rfl) (by kernel_rfl) (by kernel_rfl) (fun _ _ _ h => h) (Or.inl ⟨by rfl, ?_⟩) (by assumption) (fun hNew => ?_)
    rotate_left
    · intro w _
      go_simp
      try with_reducible rfl
    clear hHeld
    have hHeld := hNew
    clear hNew
    try simp only [List.getElem_toArray, List.getElem_cons_succ, List.getElem_cons_zero, Act.put, List.setIfInBounds_toArray, List.set_cons_zero, List.set_cons_succ]
    refine wpAnyL_take (i := 2) (oi := _) (v := ?_) rfl (by kernel_rfl) (by kernel_rfl) (by kernel_rfl) (by kernel_rfl) (by kernel_rfl) (fun _ _ _ h => h) (Or.inl ⟨by rfl, ?_⟩) (by assumption) (fun hNew => ?_)
    rotate_left
    · intro w _
      go_simp
      try with_reducible rfl
    clear hHeld
    have hHeld := hNew
    clear hNew
    try simp only [List.getElem_toArray, List.getElem_cons_succ, List.getElem_cons_zero, Act.put, List.setIfInBounds_toArray, List.set_cons_zero, List.set_cons_succ]
    refine wpAnyL_load 1 (i := 3) (oi := _) (v := ?_) rfl rfl (by kernel_rfl) (by kernel_rfl) (by kernel_rfl) (by kernel_rfl) (by kernel_rfl) (by kernel_rfl) (fun _ _ _ h => h) (Or.inl ⟨by rfl, ?_⟩) (by assumption) (fun hNew => ?_)
    rotate_left
    · intro w hSw
      (try dsimp only at hSw)
      go_simp
      try with_reducible rfl
    clear hHeld
    have hHeld := hNew
    clear hNew
    try simp only [List.getElem_toArray, List.getElem_cons_succ, List.getElem_cons_zero, Act.put, List.setIfInBounds_toArray, List.set_cons_zero, List.set_cons_succ]
    refine wpAnyL_take (i := 4) (oi := _) (v := ?_) rfl (by kernel_rfl) (by kernel_rfl) (by kernel_rfl) (by kernel_rfl) (by kernel_rfl) (fun _ _ _ h => h) (Or.inl ⟨by rfl, ?_⟩) (by assumption) (fun hNew => ?_)
    rotate_left
    · intro w _
      go_simp
      try with_reducible rfl
    clear hHeld
    have hHeld := hNew
    clear hNew
    try simp only [List.getElem_toArray, List.getElem_cons_succ, List.getElem_cons_zero, Act.put, List.setIfInBounds_toArray, List.set_cons_zero, List.set_cons_succ]
    refine wpAnyL_load 2 (i := 5) (oi := _) (v := ?_) rfl rfl (by kernel_rfl) (by kernel_rfl) (by kernel_rfl) (by kernel_rfl) (by kernel_rfl) (by kernel_rfl) (fun _ _ _ h => h) (Or.inl ⟨by rfl, ?_⟩) (by assumption) (fun hNew => ?_)
    rotate_left
    · intro w hSw
      (try dsimp only at hSw)
      go_simp
      try with_reducible rfl
    clear hHeld
    have hHeld := hNew
    clear hNew
    try simp only [List.getElem_toArray, List.getElem_cons_succ, List.getElem_cons_zero, Act.put, List.setIfInBounds_toArray, List.set_cons_zero, List.set_cons_succ]
    refine wpAnyL_take (i := 6) (oi := _) (v := ?_) rfl (by kernel_rfl) (by kernel_rfl) (by kernel_rfl) (by kernel_rfl) (by kernel_rfl) (fun _ _ _ h => h) (Or.inl ⟨by rfl, ?_⟩) (by assumption) (fun hNew => ?_)
    rotate_left
    · intro w _
      go_simp
      try with_reducible rfl
    clear hHeld
    have hHeld := hNew
    clear hNew
    try simp only [List.getElem_toArray, List.getElem_cons_succ, List.getElem_cons_zero, Act.put, List.setIfInBounds_toArray, List.set_cons_zero, List.set_cons_succ]
    refine wpAnyL_load 3 (i := 7) (oi := _) (v := .agg (bvs x.1.2).toArray) rfl rfl (by kernel_rfl) (by kernel_rfl) (by kernel_rfl) (by kernel_rfl) (by kernel_rfl) (by kernel_rfl) (fun _ _ _ h => h) (yieldsIf_load_mid (by rfl) 77 (.tmp 20) (by rfl) (Bx) (0 + 1) (by rfl) (bvs x.1.2) _ (fun w hw => hw) Tryd.underlying77 rfl hzs.out) (by assumption) (fun hNew => ?_)
    clear hHeld
    have hHeld := hNew
    clear hNew
    try simp only [List.getElem_toArray, List.getElem_cons_succ, List.getElem_cons_zero, Act.put, List.setIfInBounds_toArray, List.set_cons_zero, List.set_cons_succ]
    refine wpAnyL_take (i := 8) (oi := _) (v := ?_) rfl (by kernel_rfl) (by kernel_rfl) (by kernel_rfl) (by kernel_rfl) (by kernel_rfl) (fun _ _ _ h => h) (Or.inl ⟨by rfl, ?_⟩) (by assumption) (fun hNew => ?_)
    rotate_left
    · intro w _
      go_simp
      try with_reducible rfl
    clear hHeld
    have hHeld := hNew
    clear hNew
    try simp only [List.getElem_toArray, List.getElem_cons_succ, List.getElem_cons_zero, Act.put, List.setIfInBounds_toArray, List.set_cons_zero, List.set_cons_succ]
    refine wpAnyL_ready (rs := [9]) (by kernel_rfl) (by simp) ?_
    refine AllReadyL.cons (o := _) rfl (fun K hK => ?_) AllReadyL.nil
    try simp only [List.getElem_toArray, List.getElem_cons_succ, List.getElem_cons_zero]
    rw [if_pos (by rfl)]
    refine wp_store_mid 77 (.tmp 22) (.tmp 21) (by rfl) gl (x.1.1 * 64) (bvs x.1.2).toArray (by rfl) (by rfl) th.out hzt.out hone.out ?_
    clear hHeld
    refine hK.out _ _ ?_ (fun hHeld => ?_)
    · exact (HoldC.past (by kernel_rfl) (HoldC.past (by kernel_rfl) (HoldC.past (by kernel_rfl) (HoldC.past (by kernel_rfl) HoldC.nil))))
    clear hK K
    try simp only [List.getElem_toArray, List.getElem_cons_succ, List.getElem_cons_zero, Act.put, List.setIfInBounds_toArray, List.set_cons_zero, List.set_cons_succ]
    refine wpAnyL_done (by kernel_rfl) ?_ _
    clear hHeld
    gi_wp2
    exact HN.out
  case done =>
    rintro D ys W hDs rfl ⟨hD, hC⟩ hK
    have hB3W : W.cell? ⟨w.heap.size, 0, none⟩ = some (.pointer (some ⟨p, 0, none⟩)) := hC.cell hB3 hB0S2
    have c2 : W.cell? ⟨p, 2, none⟩ = some v := blk_cell hD.head 2 _ rfl
    have f2 : W.frozen? ⟨p, 2, none⟩ = false := blk_frozen hD.head 2
    have hpW := blk_lt hD.head
    have hpD : p ≠ D := cells_ne hD.head hK rfl
    have hK' : (W.setCell ⟨p, 2, none⟩ (.slice none 0 0)).heap[D]? = some (.deferred (some [])) := (Below.heap_setCell W ⟨p, 2, none⟩ _ D (fun e => hpD e.symm)).trans hK
    have hfin : Hid (Did w ((W.setCell ⟨p, 2, none⟩ (.slice none 0 0)).putObj D (.deferred none)) p S (d.sync).2) := Lib.hid (by
      rw [HSY.out]
      refine Did.pre HC1.out (Did.glue HS2.out HC2.out (Did.pre HC3.out ?_))
      have h1 := hD.none_waits
      rw [HXS.out] at h1
      have h2 := h1.turn (grownBy_putObj' _ D (.deferred none)) (fun r e => by cases e; exact ⟨_, hK', rfl⟩)
      have h3 : Chg S2 w3 (W.setCell ⟨p, 2, none⟩ (.slice none 0 0)) := hC.setCell (.inl hD.mem.1) _
      have h4 := chg_turn h3 (grownBy_putObj' _ D (.deferred none)) (fun r e => by cases e; exact hDs)
      exact ⟨S2, ⟨_, _, _, _, _, h2⟩, fun x hx => .inl hx, h4⟩)
    have HSY0 : Hid ((d.sync).1 = 0) := Lib.hid (by rw [HSY.out])
    have HK' := Lib.hid hK'
    clear hD hC hK' hK
    gi_wp2
    refine ⟨by simp, .inl ⟨_, _, rfl, run_takeDeferred HK'.out, ?_⟩⟩
    exact ⟨_, results_tmp rfl _ _ _, by rw [HSY0.out]; rfl, hfin.out⟩
end Go.Proofs.YtipfgghdoicdhaaDoor.W
