/- Texts laid together. -/
import Derived.Test.YtdkhmfcfihbjeaaGreatDoorLL1
import Derived.WalkKit
import Derived.Deep.CutBlock
import Derived.Deep.DeepCutAuto
import Derived.Laws.MakeOwn
import Derived.Laws.IdiomStrings
import Derived.Laws.BytesArg
import Derived.Laws.CopyOwn
/- Package disk: waits, the loop over what waits. -/
namespace Go.Proofs.YtdkhmfcfihbjeaaGreatDoor.W
open Go.RowKit Go.Shelf
set_option linter.unusedVariables false
set_option linter.unusedSimpArgs false
attribute [local go_sem] Oper.semAt_some

/-- What waits for a disk of N sectors. -/
abbrev Wt (N : Nat) := { x : Nat × List UInt8 // x.1 < N ∧ x.2.length = 64 }
def wcs {N : Nat} (l : List (Wt N)) : List (Nat × List UInt8) := l.map (·.1)
theorem wcs_len {N : Nat} (l : List (Wt N)) : (wcs l).length = l.length := by simp [wcs]
theorem wcs_of {N : Nat} (l : List (Nat × List UInt8)) (h : ∀ x ∈ l, x.1 < N ∧ x.2.length = 64) : ∃ l' : List (Wt N), wcs l' = l := by
  refine ⟨l.attach.map (fun x => ⟨x.1, h x.1 x.2⟩), ?_⟩
  unfold wcs
  rw [List.map_map]
  exact List.attach_map_subtype_val l
def wenc {N : Nat} (x : Wt N) : Array Value := #[.agg (wcells x.1).toArray]
theorem wsCells_at : ∀ (l : List (Nat × List UInt8)), (∀ x ∈ l, x.2.length = 64) → ∀ (k j : Nat) (x : Nat × List UInt8), l[k]? = some x → j < 65 → (wsCells l)[k * 65 + j]? = (wcells x)[j]?
  | [], _, k, j, x, h, _ => by simp at h
  | y :: l, hl, k, j, x, h, hj => by
    have hy : (wcells y).length = 65 := wcells_len y (hl y (by simp))
    have e : wsCells (y :: l) = wcells y ++ wsCells l := rfl
    rw [e]
    cases k with
    | zero =>
      simp at h
      subst h
      rw [Nat.zero_mul, Nat.zero_add, List.getElem?_append_left (by omega)]
    | succ k =>
      rw [List.getElem?_append_right (by omega), hy]
      have : (k + 1) * 65 + j - 65 = k * 65 + j := by omega
      rw [this]
      exact wsCells_at l (fun x hx => hl x (by simp [hx])) k j x (by simpa using h) hj
theorem wait_range {w : World} {g cap : Nat} {l : List (Nat × List UInt8)} (h : w.ownsRow 0 105 65 (.slice (some ⟨g, 0, none⟩) l.length cap) l.length (wsCells l)) (hl : ∀ x ∈ l, x.2.length = 64) (k : Nat) (x : Nat × List UInt8) (hx : l[k]? = some x) :
    w.rangeAt g (k * 65) (wcells x) := fun j u hu => by
  have hxl : x.2.length = 64 := hl x (List.mem_of_getElem? hx)
  have hj : j < 65 := by
    have := (List.getElem?_eq_some_iff.1 hu).1
    rw [wcells_len x hxl] at this; exact this
  have := h.cells (g := g) rfl (k * 65 + j) u (by rw [wsCells_at l hl k j x hx hj]; exact hu)
  rwa [add_none, Nat.zero_add] at this

/-- The rows that wait lie as they lay. -/
def KpRow (v : Value) (W W' : World) : Prop := ∀ g, v.ownBlock = some g → W'.heap[g]? = W.heap[g]?

set_option maxHeartbeats 4000000 in
set_option maxRecDepth 100000 in
theorem dwaits1_in (n : Nat) (hn : 1 ≤ n) (l Bd p N : Nat) (v : Value) (xs : List (Wt N)) (hxs : xs.length ≤ 1000000) (J Jx : List (Wt N) → World → Prop) (W : World) (hJ : AbidesFrom W.heap.size J)
    (hY : ∀ pre x W1, J pre W1 → pre.length < xs.length → YieldAt Fence.wide (n - 1) Tryz.prog l (wenc x) W1 fun e W' =>
      (e = .returned (.bool true) ∧ J (pre ++ [x]) W' ∧ KpRow v W1 W') ∨ (e = .returned (.bool false) ∧ Jx (pre ++ [x]) W'))
    (hBd : W.cell? ⟨Bd, 0, none⟩ = some (.pointer (some ⟨p, 0, none⟩))) (h2 : W.cell? ⟨p, 2, none⟩ = some v) (hrow : W.ownsRow 0 105 65 v xs.length (wsCells (wcs xs))) (h0 : J [] W) :
    CallsIn Fence.wide n Tryz.prog 96 #[.func (.yield l) #[] #[], .pointer (some ⟨Bd, 0, none⟩)] W fun e W' => (∃ v, e = .returned v) ∧
      ((∃ ys, ys = xs ∧ J ys W') ∨ (∃ pre, True ∧ Jx pre W')) := by
  obtain ⟨iw, zw, hiw, hzw1, hzw2, hzw3, hzw4⟩ := info_three facts_wr
  have HROW := Lib.hid hrow
  have HJ := Lib.hid hJ
  have HY := Lib.hid hY
  have HIW := Lib.hid hiw
  have HZ1 := Lib.hid hzw1
  have HZ2 := Lib.hid hzw2
  have HZ3 := Lib.hid hzw3
  have hform : (v = .slice none 0 0 ∧ xs.length = 0) ∨ ∃ g cap, v = .slice (some ⟨g, 0, none⟩) xs.length cap ∧ xs.length ≤ cap ∧ cap ≤ maxLen := by
    rcases hrow.2 with ⟨h1, h2⟩ | ⟨g, cap, cur, h1, _, _, h3, h4, _⟩
    · exact .inl ⟨h1, h2⟩
    · exact .inr ⟨g, cap, h1, h3, h4⟩
  clear hiw hzw1 hzw2 hzw3 hzw4 hrow hJ hY
  refine callsIn_of_wp Tryz.func96 rfl trivial ?_ rfl
  simp only [Tryz.ntmps96, List.size_toArray, List.length_cons, List.length_nil, Nat.reduceAdd, Nat.reduceSub, Array.replicate_succ, Array.replicate_zero, List.push_toArray, List.append_toArray, List.nil_append, List.cons_append]
  rcases hform with ⟨rfl, hx0⟩ | ⟨g, cap, rfl, hlc, hcm⟩
  · obtain rfl := List.eq_nil_of_length_eq_zero hx0
    clear hx0 hxs
    gi_wp2
    gi_loopw [10] (fun i wr => i = .int .i64 0 ∧ J [] wr) (fun _ _ => 0)
    case atStart => exact ⟨rfl, h0⟩
    case round =>
      obtain ⟨rfl, hJs⟩ := hrel
      gi_wp2
      go_end0
      exact ⟨⟨_, rfl⟩, .inl ⟨_, rfl, hJs⟩⟩
  · gi_wp2
    gi_loopw [10] (fun i wr => ∃ k : Nat, k ≤ xs.length ∧ i = .int .i64 k ∧ J (xs.take k) wr ∧ wr.heap[g]? = W.heap[g]?) (fun i _ => xs.length - (intOf i).toNat)
    case atStart => exact ⟨0, Nat.zero_le _, rfl, by simpa using h0, rfl⟩
    case round =>
      obtain ⟨k, hk, rfl, hJs, hkeep⟩ := hrel
      by_cases hlt : k < xs.length
      · obtain ⟨x, hx⟩ : ∃ x, xs[k]? = some x := ⟨xs[k], List.getElem?_eq_getElem hlt⟩
        have hxw : (wcs xs)[k]? = some x.1 := by simp [wcs, hx]
        have hlen64 : ∀ y ∈ wcs xs, y.2.length = 64 := by
          intro y hy
          obtain ⟨z, _, rfl⟩ := List.mem_map.1 hy
          exact z.2.2
        have hgl : g < W.heap.size := (World.ownsRow.lt HROW.out g rfl).2
        have hglr : g < wr.heap.size := by
          have h1 := Array.getElem?_eq_getElem hgl
          rw [h1] at hkeep
          exact blk_lt hkeep
        have hR : wr.ownsRow 0 105 65 (.slice (some ⟨g, 0, none⟩) (wcs xs).length cap) (wcs xs).length (wsCells (wcs xs)) := by
          rw [wcs_len]
          exact row_keep HROW.out (fun g' hg' => by simp [Value.ownBlock] at hg'; subst hg'; exact hkeep)
        have HRG := Lib.hid (wait_range hR hlen64 k x.1 hxw)
        have HXL := Lib.hid (wcells_len x.1 x.2.2)
        have hone := Lib.hid (all_oneCell_toArray (wcells_one x.1))
        have hzw : Hid ((Tryz.prog.info? 105).map (·.size) = some (wcells x.1).length) := Lib.hid (by rw [HXL.out]; kernel_rfl)
        have HZ2b : Hid (zw.cells.size = (wcells x.1).toArray.size) := Lib.hid (by rw [HZ2.out]; simp [HXL.out])
        have HZ3b : Hid (iw.size = (wcells x.1).toArray.size) := Lib.hid (by rw [HZ3.out]; simp [HXL.out])
        obtain ⟨w1, hw1⟩ : ∃ w1, w1 = wr.alloc (.cells (wcells x.1).toArray 105) := ⟨_, rfl⟩
        have hJ1 : J (xs.take k) w1 := by
          rw [hw1]
          exact HJ.out _ wr _ none hJs (World.grownBy_alloc wr _ none) (fun r e => by cases e)
        have HR1 : Hid (w1.rangeAt wr.heap.size 0 (wcells x.1)) := Lib.hid (by
          rw [hw1]
          intro j u hu
          rw [Nat.zero_add]
          exact blk_cell (heap_alloc_new wr _) j u (by simpa using hu))
        have hk1 : w1.heap[g]? = W.heap[g]? := by
          rw [hw1]
          exact (Below.heap_alloc wr _ g hglr).trans hkeep
        have htk : xs.take (k + 1) = xs.take k ++ [x] := by
          rw [List.take_add_one, hx]; rfl
        obtain ⟨fn, tmps, assign, body, hy, hR⟩ := HY.out _ x w1 hJ1 (by rw [List.length_take]; omega)
        unfold wenc at hy
        have HRn := Lib.hid hR
        have HK1 := Lib.hid hk1
        have HTK := Lib.hid htk
        have HW1 := Lib.hid hw1
        have HX := Lib.hid hx
        have hkz : (k : Int) < (xs.length : Int) := by omega
        have hkz1 : (k : Int).toNat = k := by omega
        clear hR hk1 htk hw1 hx hxw hlen64 hkeep hJs
        gi_wp2_with (first
          | (refine wpListIn_load_midW wide_w (by rfl) 105 (.tmp 12) (by rfl) g (k * 65) (by rfl) (wcells x.1) _ HRG.out Tryz.underlying105 rfl hzw.out ?_)
          | (refine wpListIn_varW wide_w (by rfl) (by rfl) 105 (.tmp 4) (.tmp 13) (by rfl) (by rfl) wr.heap.size rfl (wcells x.1).toArray (by rfl) (by rfl) iw zw HIW.out HZ1.out HZ2b.out HZ3b.out hone.out ?_; rw [← HW1.out])
          | (refine wpListIn_load_midW wide_w (by rfl) 105 (.tmp 4) (by rfl) wr.heap.size 0 (by rfl) (wcells x.1) _ HR1.out Tryz.underlying105 rfl hzw.out ?_))
        refine HRn.out.mono ?_
        rintro e W3 (⟨rfl, hJ3, hk3⟩ | ⟨rfl, hJx3⟩)
        · have hk4 : W3.heap[g]? = W.heap[g]? := (hk3 g rfl).trans HK1.out
          have HJ3 := Lib.hid hJ3
          have HK4 := Lib.hid hk4
          clear hJ3 hk3 hk4 hy
          gi_wp2
          go_roundw
          case rel => exact ⟨k + 1, by omega, by go_num, by rw [HTK.out]; exact HJ3.out, HK4.out⟩
          case measure => simp [intOf]; omega
        · clear hy
          gi_wp2
          refine bodyPost_ret (results_none rfl _ _ _) rfl ?_
          exact ⟨⟨_, rfl⟩, .inr ⟨_, trivial, hJx3⟩⟩
      · obtain rfl : k = xs.length := by omega
        gi_wp2
        go_end0
        exact ⟨⟨_, rfl⟩, .inl ⟨_, rfl, by rwa [List.take_length] at hJs⟩⟩
end Go.Proofs.YtdkhmfcfihbjeaaGreatDoor.W

/- Package disk: Sync. -/
namespace Go.Proofs.YtdkhmfcfihbjeaaGreatDoor.W
open Go.RowKit Go.Shelf
set_option linter.unusedVariables false
set_option linter.unusedSimpArgs false
attribute [local go_sem] Oper.semAt_some

theorem cells_ne {W : World} {r k t : Nat} {cs : Array Value} {o : Obj} {fr : Nat × Nat} (h : W.heap[k]? = some (.cells cs t fr)) (hr : W.heap[r]? = some o) (ho : o.isCells = false) : k ≠ r := by
  rintro rfl
  rw [h] at hr; cases hr; cases ho
theorem row_turn {W W' : World} {row : Option Nat} {base e size n : Nat} {v : Value} {xs : List Value} (h : W.ownsRow base e size v n xs) (hg : W.grownBy W' row) (hr : ∀ r, row = some r → ∃ o : Obj, W.heap[r]? = some o ∧ o.isCells = false) : W'.ownsRow base e size v n xs := by
  rcases h.2 with h1 | ⟨g, cap, cur, rfl, hbg, hgb, rest⟩
  · exact ⟨h.1, .inl h1⟩
  · refine row_keep h (fun g' hg' => ?_)
    simp [Value.ownBlock] at hg'
    subst hg'
    refine hg.block g (blk_lt hgb) (fun e => ?_)
    obtain ⟨o, ho, hc⟩ := hr g e.symm
    exact cells_ne hgb ho hc rfl
theorem blk_turn {W W' : World} {row : Option Nat} {k t : Nat} {cs : Array Value} {fr : Nat × Nat} (h : W.heap[k]? = some (.cells cs t fr)) (hg : W.grownBy W' row) (hr : ∀ r, row = some r → ∃ o : Obj, W.heap[r]? = some o ∧ o.isCells = false) : W'.heap[k]? = W.heap[k]? :=
  hg.block k (blk_lt h) (fun e => by obtain ⟨o, ho, hc⟩ := hr k e.symm; exact cells_ne h ho hc rfl)
/-- A block that holds no cells is turned. -/
theorem DiskOk.turn {W W' : World} {row : Option Nat} {p : Nat} {S : List Nat} {d : DS} {gn gl cn cl : Nat} {v : Value} (h : DiskOk W p S d gn gl cn cl v) (hg : W.grownBy W' row) (hr : ∀ r, row = some r → ∃ o : Obj, W.heap[r]? = some o ∧ o.isCells = false) : DiskOk W' p S d gn gl cn cl v := by
  have hn := h.now
  obtain ⟨cs, h1, h2⟩ := h.now
  obtain ⟨cs2, h3, h4⟩ := h.lasts
  exact ⟨(blk_turn h.head hg hr).trans h.head, h.now.keep (blk_turn h1 hg hr), h.lasts.keep (blk_turn h3 hg hr), row_turn h.since hg hr, h.waits, h.few, h.capn, h.capl, h.fuse, h.ap, h.av, h.mem, fun x hx => Nat.lt_of_lt_of_le (h.lim x hx) hg.size⟩
theorem chg_turn {S : List Nat} {w W W' : World} {row : Option Nat} (h : Chg S w W) (hg : W.grownBy W' row) (hr : ∀ r, row = some r → w.heap.size ≤ r) : Chg S w W' := h.grown hg (fun k hk => .inr (hr k hk))

/-- A sector comes to last. -/
theorem DiskOk.put_lasts {w : World} {p : Nat} {S : List Nat} {d : DS} {gn gl cn cl : Nat} {v : Value} (h : DiskOk w p S d gn gl cn cl v) (k : Nat) (s : List UInt8) (hk : k < d.n) (hs : s.length = 64) :
    DiskOk (w.setCells gl (k * 64) (bvs s)) p S { d with lasts := upd d.lasts k s } gn gl cn cl v := by
  obtain ⟨m1, m2, m3, m4⟩ := h.mem
  have hc : Chg [gl] w (w.setCells gl (k * 64) (bvs s)) := (Chg.refl _ w).setCells (.inl (by simp)) _
  exact ⟨hc.keep h.head (by simp; exact h.ap.2.1), h.now.keep (setCells_far _ _ _ _ h.ap.2.2), h.lasts.set k s hk hs, row_keep h.since (fun g hg => setCells_far _ _ _ _ (h.av g hg).2.2),
    h.waits, h.few, h.capn, h.capl, h.fuse, h.ap, h.av, h.mem, fun x hx => Nat.lt_of_lt_of_le (h.lim x hx) hc.size⟩
/-- Nothing waits any more. -/
theorem DiskOk.none_waits {w : World} {p : Nat} {S : List Nat} {d : DS} {gn gl cn cl : Nat} {v : Value} (h : DiskOk w p S d gn gl cn cl v) : DiskOk (w.setCell ⟨p, 2, none⟩ (.slice none 0 0)) p S { d with since := [] } gn gl cn cl (.slice none 0 0) := by
  obtain ⟨m1, m2, m3, m4⟩ := h.mem
  have hc : Chg [p] w (w.setCell ⟨p, 2, none⟩ (.slice none 0 0)) := (Chg.refl _ w).setCell (.inl (by simp)) _
  exact ⟨set_blk h.head, h.now.keep (hc.block _ h.now.lt (by simp; exact h.ap.1.symm)), h.lasts.keep (hc.block _ h.lasts.lt (by simp; exact h.ap.2.1.symm)), World.ownsRow_nil _ _ _ _,
    by simp, h.few, h.capn, h.capl, h.fuse, h.ap, by simp [Value.ownBlock], ⟨m1, m2, m3, by simp [Value.ownBlock]⟩, fun x hx => Nat.lt_of_lt_of_le (h.lim x hx) hc.size⟩
theorem applied_snoc (l : List (Nat × List UInt8)) (x : Nat × List UInt8) (f : Nat → List UInt8) : applied (l ++ [x]) f = upd (applied l f) x.1 x.2 := by simp [applied]

theorem dwaits_any (p : Nat) (w : World) : Calls Tryz.prog 41 #[.pointer (some ⟨p, 0, none⟩)] w fun e w' => e = .returned (.func (.func 96) #[] #[.pointer (some ⟨w.heap.size, 0, none⟩)]) ∧ w' = w.alloc (.cells #[.pointer (some ⟨p, 0, none⟩)] 44) := by
  have hmf : ∀ (fn : Fn) (first cap : Array Value) (w : World), (Instr.makeFunc fn first cap).run Tryz.prog w = .ok (.func fn first cap) w := fun _ _ _ _ => rfl
  go_enter Tryz.func41, Tryz.ntmps41
  go_wp2
  go_ret
  exact ⟨rfl, rfl⟩

theorem dwaits_stops (n Bd p N : Nat) (hn : 1 ≤ n) (v : Value) (xs : List (Wt N)) (hxs : xs.length ≤ 1000000) (w : World) (hBd : w.cell? ⟨Bd, 0, none⟩ = some (.pointer (some ⟨p, 0, none⟩))) (h2 : w.cell? ⟨p, 2, none⟩ = some v) (hrow : w.ownsRow 0 105 65 v xs.length (wsCells (wcs xs))) :
    SeqStopsK Fence.wide n Tryz.prog 96 #[.pointer (some ⟨Bd, 0, none⟩)] (wenc (N := N)) (KpRow v) (fun ys => ys = xs) (fun _ => True) xs.length w := fun l J Jx W hW hJ hJx hY h0 =>
  dwaits1_in n hn l Bd p N v xs hxs J Jx W hJ hY ((hW.cell (p := ⟨Bd, 0, none⟩) (World.block_lt_of_cell? w _ hBd)).trans hBd) ((hW.cell (p := ⟨p, 2, none⟩) (World.block_lt_of_cell? w _ h2)).trans h2)
    (row_keep hrow (fun g hg => hW.block g (World.ownsRow.lt hrow g hg).2)) h0

set_option maxHeartbeats 4000000 in
set_option maxRecDepth 100000 in
theorem dsync_ok (p : Nat) (S : List Nat) (d : DS) (w : World) (h : DiskAt w p S d) (ho : d.ops ≤ 1000000000) (hw : d.since.length ≤ 1000000) (hd : d.dead = false) (hf : d.fuse ≠ 0) :
    Calls Tryz.prog 80 #[.pointer (some ⟨p, 0, none⟩)] w fun e w' => e = .returned (.int .i64 (d.sync).1) ∧ Did w w' p S (d.sync).2 := by
  obtain ⟨w1, hw1⟩ : ∃ w1, w1 = w.alloc (.cells #[.pointer (some ⟨p, 0, none⟩)] 44) := ⟨_, rfl⟩
  have hc1 : Chg [] w w1 := by rw [hw1]; exact (Chg.refl _ _).alloc _
  have h1 : DiskAt w1 p S d := h.keep hc1 (by simp)
  have hB0 : w1.cell? ⟨w.heap.size, 0, none⟩ = some (.pointer (some ⟨p, 0, none⟩)) := by rw [hw1]; exact blk_cell (heap_alloc_new w _) 0 _ rfl
  have hB0S : w.heap.size ∉ S := fun hm => by have := h.lim _ hm; omega
  have CG := Lib.hid (dgone_any p S d w1 h1)
  have CO := Lib.hid (dop_any p S d w1 h1 ho)
  obtain ⟨d2, hd2, hd2n, hd2l, hd2s⟩ : ∃ d2 : DS, d.op = (true, d2) ∧ d2.n = d.n ∧ d2.lasts = d.lasts ∧ d2.since = d.since := by
    unfold DS.op
    rw [if_neg hf]
    exact ⟨_, rfl, rfl, rfl, rfl⟩
  have HSY : Hid (d.sync = (0, { d2 with lasts := applied d2.since d2.lasts, since := [] })) := Lib.hid (by
    unfold DS.sync
    rw [if_neg (by rw [hd]; simp), hd2]
    rfl)
  rw [hd] at CG
  rw [hd2] at CO
  dsimp only at CO
  have HW1 := Lib.hid hw1
  have HC1 := Lib.hid hc1
  clear h h1 hd hf hd2 hc1
  refine (callsIn_wide (n := 5)).1 ?_
  refine callsIn_of_wp_marks Tryz.func80 rfl trivial ?_ rfl
  simp only [Tryz.ntmps80, List.size_toArray, List.length_cons, List.length_nil, Nat.reduceAdd, Nat.reduceSub, Array.replicate_succ, Array.replicate_zero, List.push_toArray, List.append_toArray, List.nil_append, List.cons_append]
  gi_wp2_with fail
  rw [← HW1.out]
  clear hw1
  refine ⟨trivial, (wide_w.calls CG.out).mono ?_⟩
  rintro e w' ⟨rfl, hq⟩
  subst hq
  gi_wp2_with fail
  refine ⟨trivial, (wide_w.calls CO.out).mono ?_⟩
  rintro e w2 ⟨rfl, S2, ⟨gn, gl, cn, cl, v, H2⟩, hs2, hc2⟩
  have hB0l := World.block_lt_of_cell? w1 _ hB0
  have hB2 : w2.cell? ⟨w.heap.size, 0, none⟩ = some (.pointer (some ⟨p, 0, none⟩)) := hc2.cell hB0 hB0S
  have hB0S2 : w.heap.size ∉ S2 := fun hm => by
    rcases hs2 _ hm with h | h
    · exact hB0S h
    · have := hB0l; simp at this; omega
  have HC2 := Lib.hid hc2
  have HS2 := Lib.hid hs2
  have HD2 := Lib.hid H2
  clear hc2 hs2 H2 CG CO
  gi_wp2_with fail
  refine ⟨trivial, (wide_w.calls (dwaits_any p w2)).mono ?_⟩
  rintro e w3 ⟨rfl, hw3⟩
  have hc3 : Chg [] w2 w3 := by rw [hw3]; exact (Chg.refl _ _).alloc _
  have hB1 : w3.cell? ⟨w2.heap.size, 0, none⟩ = some (.pointer (some ⟨p, 0, none⟩)) := by rw [hw3]; exact blk_cell (heap_alloc_new w2 _) 0 _ rfl
  have hB3 : w3.cell? ⟨w.heap.size, 0, none⟩ = some (.pointer (some ⟨p, 0, none⟩)) := hc3.cell hB2 (by simp)
  have H3 : DiskOk w3 p S2 d2 gn gl cn cl v := by
    have H := HD2.out
    obtain ⟨m1, m2, m3, m4⟩ := H.mem
    exact ⟨hc3.keep H.head (by simp), H.now.keep (hc3.block _ H.now.lt (by simp)), H.lasts.keep (hc3.block _ H.lasts.lt (by simp)), row_keep H.since (fun g hg => hc3.block g (World.ownsRow.lt H.since g hg).2 (by simp)),
      H.waits, H.few, H.capn, H.capl, H.fuse, H.ap, H.av, H.mem, fun x hx => Nat.lt_of_lt_of_le (H.lim x hx) hc3.size⟩
  have HC3 := Lib.hid hc3
  have HD3 := Lib.hid H3
  have h32 : w3.cell? ⟨p, 2, none⟩ = some v := blk_cell H3.head 2 _ rfl
  obtain ⟨xs, hxs⟩ := wcs_of (N := d2.n) d2.since (fun x hx => H3.waits x hx)
  have hxl : xs.length = d2.since.length := by rw [← hxs, wcs_len]
  have hrow : w3.ownsRow 0 105 65 v xs.length (wsCells (wcs xs)) := by rw [hxs, hxl]; exact H3.since
  have hxn : xs.length ≤ 1000000 := by rw [hxl, hd2s]; exact hw
  have hvl : ∀ g, v.ownBlock = some g → g < w3.heap.size := fun g hg => (World.ownsRow.lt H3.since g hg).2
  have hpl := blk_lt H3.head
  have hgll := H3.lasts.lt
  have hav := H3.av
  have hap := H3.ap
  obtain ⟨iw, zw, hiw, hzw1, hzw2, hzw3, hzw4⟩ := info_three facts_wr
  have HIW := Lib.hid hiw
  have HZ1 := Lib.hid hzw1
  have HZ2 := Lib.hid hzw2
  have HZ3 := Lib.hid hzw3
  have HXS := Lib.hid hxs
  have HXN := Lib.hid hxn
  have HROW := Lib.hid hrow
  have HVL := Lib.hid hvl
  have HAV := Lib.hid hav
  have HAP := Lib.hid hap
  clear hw3 hc3 H3 hB2 hxs hxl hrow hxn hvl hav hap hiw hzw1 hzw2 hzw3 hzw4 hd2n hd2l hd2s
  gi_wp2_with fail
  refine wpIn_rangeFunc_ownH rfl (by omega) (gf := 96) (lb := #[.pointer (some ⟨w2.heap.size, 0, none⟩)]) rfl trivial (enters_of Tryz.func96 (by kernel_rfl) rfl)
    (dwaits_stops 4 w2.heap.size p d2.n (by omega) v xs HXN.out w3 hB1 h32 HROW.out) (fun h1 h2 g hg => (h2 g hg).trans (h1 g hg))
    (fun W l o o' hl hh _ _ g hg => World.putObj_heap_other (fun e => by have := HVL.out g hg; omega)) (Below.refl _ _) (fun _ => rfl)
    (fun pre W => DiskOk W p S2 { d2 with lasts := applied (wcs pre) d2.lasts } gn gl cn cl v ∧ Chg S2 w3 W) (fun _ _ _ => False)
    (fun s A B row hs hg hr => ⟨hs.1.turn hg (fun r e => (hr r e).2), chg_turn hs.2 hg (fun r e => (hr r e).1)⟩) (fun c s A B row hs _ _ => hs)
    ⟨HD3.out, Chg.refl _ _⟩
    (fun x a' W => ∃ Bx, w3.heap.size ≤ Bx ∧ W.heap[Bx]? = some (.cells (wcells x.1).toArray 105 (0, 0)) ∧ a' = { tmps := #[.pointer (some ⟨p, 0, none⟩), .pointer (some ⟨w.heap.size, 0, none⟩), .int .i64 0, .pointer (some ⟨Bx, 0, none⟩), .pointer (some ⟨p, 0, none⟩), .bool false, .bool false, .pointer (some ⟨p, 0, none⟩), .bool true, .bool false, .bool false, .pointer (some ⟨p, 0, none⟩), .func (.func 96) #[] #[.pointer (some ⟨w2.heap.size, 0, none⟩)], .agg (wcells x.1).toArray, undef, undef, undef, undef, undef, undef, undef, undef, undef, undef, undef, undef], defers := [] })
    (fun x a' s A B row ⟨Bx, h1, h2, h3⟩ hg hr => ⟨Bx, h1, (blk_turn h2 hg (fun r e => (hr r e).2)).trans h2, h3⟩) ?assign ?body ?done ?stop
  case stop =>
    rintro D c pre W _ _ h _
    exact h.elim
  case assign =>
    rintro l pre x W K ⟨hI1, hI2⟩ hK
    have HXL := Lib.hid (wcells_len x.1 x.2.2)
    have hone := Lib.hid (all_oneCell_toArray (wcells_one x.1))
    have HZ2b : Hid (zw.cells.size = (wcells x.1).toArray.size) := Lib.hid (by rw [HZ2.out]; simp [HXL.out])
    have HZ3b : Hid (iw.size = (wcells x.1).toArray.size) := Lib.hid (by rw [HZ3.out]; simp [HXL.out])
    have hsz3 : w3.heap.size ≤ W.heap.size := hI2.size
    have hne : ∀ r, (none : Option Nat) = some r → ∃ o : Obj, W.heap[r]? = some o ∧ o.isCells = false := fun r e => by cases e
    have HN := Lib.hid (hK { tmps := #[.pointer (some ⟨p, 0, none⟩), .pointer (some ⟨w.heap.size, 0, none⟩), .int .i64 0, .pointer (some ⟨W.heap.size, 0, none⟩), .pointer (some ⟨p, 0, none⟩), .bool false, .bool false, .pointer (some ⟨p, 0, none⟩), .bool true, .bool false, .bool false, .pointer (some ⟨p, 0, none⟩), .func (.func 96) #[] #[.pointer (some ⟨w2.heap.size, 0, none⟩)], .agg (wcells x.1).toArray, undef, undef, undef, undef, undef, undef, undef, undef, undef, undef, undef, undef], defers := [] } (W.alloc (.cells (wcells x.1).toArray 105)) ((KeepsOthers.alloc _ _).from _)
      (fun g hg => Below.heap_alloc W _ g (Nat.lt_of_lt_of_le (HVL.out g hg) hsz3)) ⟨hI1.turn (World.grownBy_alloc W _ none) hne, hI2.alloc _⟩ ⟨W.heap.size, hsz3, heap_alloc_new W _, rfl⟩)
    clear hK hI1 hI2 hne
    refine wpIn_region_lit ?_
    simp [wenc]
    (refine wpListIn_varW (wide_r l) (by rfl) (by rfl) 105 (.tmp 3) (.tmp 13) (by rfl) (by rfl) W.heap.size rfl (wcells x.1).toArray (by rfl) (by rfl) iw zw HIW.out HZ1.out HZ2b.out HZ3b.out hone.out ?_)
    exact HN.out
  case body =>
    rintro l pre x a' W hl ⟨r, hr⟩ ⟨hD, hC⟩ ⟨Bx, hBx, bX, rfl⟩ hlt
    have hB3W : W.cell? ⟨w.heap.size, 0, none⟩ = some (.pointer (some ⟨p, 0, none⟩)) := hC.cell hB3 hB0S2
    have c1 : W.cell? ⟨p, 1, none⟩ = some (.slice (some ⟨gl, 0, none⟩) d2.n cl) := blk_cell hD.head 1 _ rfl
    have cx : W.cell? ⟨Bx, 0, none⟩ = some (.int .i64 (x.1.1 : Int)) := blk_cell bX 0 _ rfl
    have hxr : W.rangeAt Bx 0 (wcells x.1) := fun j u hu => by rw [Nat.zero_add]; exact blk_cell bX j u (by simpa using hu)
    have HXR := Lib.hid (range_tail hxr)
    have hx1 := x.2.1
    have HXS2 := Lib.hid x.2.2
    have hzs : Hid ((Tryz.prog.info? 103).map (·.size) = some (bvs x.1.2).length) := Lib.hid (by rw [bvs_len, HXS2.out]; kernel_rfl)
    have hzt : Hid ((Tryz.prog.info? 103).map (·.size) = some (bvs x.1.2).toArray.size) := Lib.hid (by rw [show (bvs x.1.2).toArray.size = (bvs x.1.2).length by simp]; exact hzs.out)
    have th : Hid (W.drew.there gl (x.1.1 * 64) (bvs x.1.2).toArray.size) := Lib.hid (by
      have h1 := hD.drew.lasts.there x.1.1 hx1
      have h2 : (bvs x.1.2).toArray.size = 64 := by simp [bvs_len, HXS2.out]
      rw [h2]; exact h1)
    have hone := Lib.hid (all_oneCell_toArray (bvs_one x.1.2))
    have hsz3 : w3.heap.size ≤ W.heap.size := hC.size
    have HP := Lib.hid (hD.drew.put_lasts x.1.1 x.1.2 hx1 x.2.2)
    have hap2 : Hid (upd (applied (wcs pre) d2.lasts) x.1.1 x.1.2 = applied (wcs (pre ++ [x])) d2.lasts) := Lib.hid (by
      rw [show wcs (pre ++ [x]) = wcs pre ++ [x.1] by simp [wcs], applied_snoc])
    have HC := Lib.hid hC
    have HLM := Lib.hid hD.mem
    have hcap := hD.capl
    have HN : Hid (ownPostG w3.heap.size (KpRow v) (fun pre W => DiskOk W p S2 { d2 with lasts := applied (wcs pre) d2.lasts } gn gl cn cl v ∧ Chg S2 w3 W) (fun _ _ _ => False) (pre ++ [x]) W Exit.normal { tmps := #[], defers := [] } (W.drew.setCells gl (x.1.1 * 64) (bvs x.1.2))) := Lib.hid (by
      refine ⟨⟨by rw [setCells_size]; exact Nat.le_refl _, fun k o hk ho _ => ?_⟩, fun g hg => ?_, ?_, (HC.out.drew).setCells (.inl HLM.out.2.2.1) _⟩
      · rw [setCells_far _ _ _ _ (by omega)]; exact ho
      · rw [setCells_far _ _ _ _ (HAV.out g hg).2.2]; rfl
      · rw [← hap2.out]; exact HP.out)
    have hjz : ((x.1.1 : Nat) : Int) < (d2.n : Int) := by omega
    have hjz0 : (0 : Int) ≤ ((x.1.1 : Nat) : Int) := by omega
    have hjz1 : ((x.1.1 : Nat) : Int).toNat = x.1.1 := by omega
    clear hD hC bX hxr hr
    gi_wp2_with fail
    refine wpIn_region_L (wide_r l) (by rintro ⟨_, _, h⟩; exact h) (by kernel_rfl) [(9, fun w' => w'.cell? ⟨w.heap.size, 0, none⟩ = some (.pointer (some ⟨p, 0, none⟩))), (9, fun w' => w'.cell? ⟨p, 1, none⟩ = some (.slice (some ⟨gl, 0, none⟩) d2.n cl)), (9, fun w' => w'.cell? ⟨Bx, 0, none⟩ = some (.int .i64 (x.1.1 : Int))), (9, fun w' => w'.rangeAt Bx (0 + 1) (bvs x.1.2))] (by kernel_rfl) ?_ (fun hHeld => ?_)
    · exact (HoldC.cons (hB3W) (HoldC.cons (c1) (HoldC.cons (cx) (HoldC.cons (HXR.out) HoldC.nil))))
    refine wpAnyL_load 0 (i := 0) (oi := _) (v := ?_) rfl rfl (by kernel_rfl) (by kernel_rfl) (by kernel_rfl) (by kernel_rfl) (by kernel_rfl) (by kernel_rfl) (fun _ _ _ h => h) (Or.inl ⟨by rfl, ?_⟩) (by assumption) (fun hNew => ?_)
    rotate_left
    · intro w hSw
      (try dsimp only at hSw)
      go_simp
      try with_reducible rfl
    clear hHeld
    have hHeld := hNew
    clear hNew
    try simp only [List.getElem_toArray, List.getElem_cons_succ, List.getElem_cons_zero, Act.put, List.setIfInBounds_toArray, List.set_cons_zero, List.set_cons_succ]
    refine wpAnyL_take (i := 1) (oi := _) (v := ?_) rfl (by kernel_rfl) (by kernel_rfl) (by kernel_rfl) (by kernel_rfl) (by kernel_rfl) (fun _ _ _ h => h) (Or.inl ⟨by rfl, ?_⟩) (by assumption) (fun hNew => ?_)
    rotate_left
    · intro w _
      go_simp
      try with_reducible rfl
    clear hHeld
    have hHeld := hNew
    clear hNew
    try simp only [List.getElem_toArray, List.getElem_cons_succ, List.getElem_cons_zero, Act.put, List.setIfInBounds_toArray, List.set_cons_zero, List.set_cons_succ]
    refine wpAnyL_take (i := 2) (oi := _) (v := ?_) rfl (by kernel_rfl) (by kernel_rfl) (by kernel_rfl) (by kernel_rfl) (by kernel_rfl) (fun _ _ _ h => h) (Or.inl ⟨by rfl, ?_⟩) (by assumption) (fun hNew => ?_)
    rotate_left
    · intro w _
      go_simp
      try with_reducible rfl
    clear hHeld
    have hHeld := hNew
    clear hNew
    try simp only [List.getElem_toArray, List.getElem_cons_succ, List.getElem_cons_zero, Act.put, List.setIfInBounds_toArray, List.set_cons_zero, List.set_cons_succ]
    refine wpAnyL_load 1 (i := 3) (oi := _) (v := ?_) rfl rfl (by kernel_rfl) (by kernel_rfl) (by kernel_rfl) (by kernel_rfl) (by kernel_rfl) (by kernel_rfl) (fun _ _ _ h => h) (Or.inl ⟨by rfl, ?_⟩) (by assumption) (fun hNew => ?_)
    rotate_left
    · intro w hSw
      (try dsimp only at hSw)
      go_simp
      try with_reducible rfl
    clear hHeld
    have hHeld := hNew
    clear hNew
    try simp only [List.getElem_toArray, List.getElem_cons_succ, List.getElem_cons_zero, Act.put, List.setIfInBounds_toArray, List.set_cons_zero, List.set_cons_succ]
    refine wpAnyL_take (i := 4) (oi := _) (v := ?_) rfl (by kernel_rfl) (by kernel_rfl) (by kernel_rfl) (by kernel_rfl) (by kernel_rfl) (fun _ _ _ h => h) (Or.inl ⟨by rfl, ?_⟩) (by assumption) (fun hNew => ?_)
    rotate_left
    · intro w _
      go_simp
      try with_reducible rfl
    clear hHeld
    have hHeld := hNew
    clear hNew
    try simp only [List.getElem_toArray, List.getElem_cons_succ, List.getElem_cons_zero, Act.put, List.setIfInBounds_toArray, List.set_cons_zero, List.set_cons_succ]
    refine wpAnyL_load 2 (i := 5) (oi := _) (v := ?_) rfl rfl (by kernel_rfl) (by kernel_rfl) (by kernel_rfl) (by kernel_rfl) (by kernel_rfl) (by kernel_rfl) (fun _ _ _ h => h) (Or.inl ⟨by rfl, ?_⟩) (by assumption) (fun hNew => ?_)
    rotate_left
    · intro w hSw
      (try dsimp only at hSw)
      go_simp
      try with_reducible rfl
    clear hHeld
    have hHeld := hNew
    clear hNew
    try simp only [List.getElem_toArray, List.getElem_cons_succ, List.getElem_cons_zero, Act.put, List.setIfInBounds_toArray, List.set_cons_zero, List.set_cons_succ]
    refine wpAnyL_take (i := 6) (oi := _) (v := ?_) rfl (by kernel_rfl) (by kernel_rfl) (by kernel_rfl) (by kernel_rfl) (by kernel_rfl) (fun _ _ _ h => h) (Or.inl ⟨by rfl, ?_⟩) (by assumption) (fun hNew => ?_)
    rotate_left
    · intro w _
      go_simp
      try with_reducible rfl
    clear hHeld
    have hHeld := hNew
    clear hNew
    try simp only [List.getElem_toArray, List.getElem_cons_succ, List.getElem_cons_zero, Act.put, List.setIfInBounds_toArray, List.set_cons_zero, List.set_cons_succ]
    refine wpAnyL_load 3 (i := 7) (oi := _) (v := .agg (bvs x.1.2).toArray) rfl rfl (by kernel_rfl) (by kernel_rfl) (by kernel_rfl) (by kernel_rfl) (by kernel_rfl) (by kernel_rfl) (fun _ _ _ h => h) (yieldsIf_load_mid (by rfl) 103 (.tmp 20) (by rfl) (Bx) (0 + 1) (by rfl) (bvs x.1.2) _ (fun w hw => hw) Tryz.underlying103 rfl hzs.out) (by assumption) (fun hNew => ?_)
    clear hHeld
    have hHeld := hNew
    clear hNew
    try simp only [List.getElem_toArray, List.getElem_cons_succ, List.getElem_cons_zero, Act.put, List.setIfInBounds_toArray, List.set_cons_zero, List.set_cons_succ]
    refine wpAnyL_take (i := 8) (oi := _) (v := ?_) rfl (by kernel_rfl) (by kernel_rfl) (by kernel_rfl) (by kernel_rfl) (by kernel_rfl) (fun _ _ _ h => h) (Or.inl ⟨by rfl, ?_⟩) (by assumption) (fun hNew => ?_)
    rotate_left
    · intro w _
      go_simp
      try with_reducible rfl
    clear hHeld
    have hHeld := hNew
    clear hNew
    try simp only [List.getElem_toArray, List.getElem_cons_succ, List.getElem_cons_zero, Act.put, List.setIfInBounds_toArray, List.set_cons_zero, List.set_cons_succ]
    refine wpAnyL_ready (rs := [9]) (by kernel_rfl) (by simp) ?_
    refine AllReadyL.cons (o := _) rfl (fun K hK => ?_) AllReadyL.nil
    try simp only [List.getElem_toArray, List.getElem_cons_succ, List.getElem_cons_zero]
    rw [if_pos (by rfl)]
    refine wp_store_mid 103 (.tmp 22) (.tmp 21) (by rfl) gl (x.1.1 * 64) (bvs x.1.2).toArray (by rfl) (by rfl) th.out hzt.out hone.out ?_
    clear hHeld
    refine hK.out _ _ ?_ (fun hHeld => ?_)
    · exact (HoldC.past (by kernel_rfl) (HoldC.past (by kernel_rfl) (HoldC.past (by kernel_rfl) (HoldC.past (by kernel_rfl) HoldC.nil))))
    clear hK K
    try simp only [List.getElem_toArray, List.getElem_cons_succ, List.getElem_cons_zero, Act.put, List.setIfInBounds_toArray, List.set_cons_zero, List.set_cons_succ]
    refine wpAnyL_done (by kernel_rfl) ?_ _
    clear hHeld
    gi_wp2
    exact HN.out
  case done =>
    rintro D ys W hDs rfl ⟨hD, hC⟩ hK
    have hB3W : W.cell? ⟨w.heap.size, 0, none⟩ = some (.pointer (some ⟨p, 0, none⟩)) := hC.cell hB3 hB0S2
    have c2 : W.cell? ⟨p, 2, none⟩ = some v := blk_cell hD.head 2 _ rfl
    have f2 : W.frozen? ⟨p, 2, none⟩ = false := blk_frozen hD.head 2
    have hpW := blk_lt hD.head
    have hpD : p ≠ D := cells_ne hD.head hK rfl
    have hK' : (W.setCell ⟨p, 2, none⟩ (.slice none 0 0)).heap[D]? = some (.deferred (some [])) := (Below.heap_setCell W ⟨p, 2, none⟩ _ D (fun e => hpD e.symm)).trans hK
    have hfin : Hid (Did w ((W.setCell ⟨p, 2, none⟩ (.slice none 0 0)).putObj D (.deferred none)) p S (d.sync).2) := Lib.hid (by
      rw [HSY.out]
      refine Did.pre HC1.out (Did.glue HS2.out HC2.out (Did.pre HC3.out ?_))
      have h1 := hD.none_waits
      rw [HXS.out] at h1
      have h2 := h1.turn (grownBy_putObj' _ D (.deferred none)) (fun r e => by cases e; exact ⟨_, hK', rfl⟩)
      have h3 : Chg S2 w3 (W.setCell ⟨p, 2, none⟩ (.slice none 0 0)) := hC.setCell (.inl hD.mem.1) _
      have h4 := chg_turn h3 (grownBy_putObj' _ D (.deferred none)) (fun r e => by cases e; exact hDs)
      exact ⟨S2, ⟨_, _, _, _, _, h2⟩, fun x hx => .inl hx, h4⟩)
    have HSY0 : Hid ((d.sync).1 = 0) := Lib.hid (by rw [HSY.out])
    have HK' := Lib.hid hK'
    clear hD hC hK' hK
    gi_wp2
    refine ⟨by simp, .inl ⟨_, _, rfl, run_takeDeferred HK'.out, ?_⟩⟩
    exact ⟨_, results_tmp rfl _ _ _, by rw [HSY0.out]; rfl, hfin.out⟩
end Go.Proofs.YtdkhmfcfihbjeaaGreatDoor.W

/- Package disk: Write. -/
namespace Go.Proofs.YtdkhmfcfihbjeaaGreatDoor.W
open Go.RowKit
set_option linter.unusedVariables false
set_option linter.unusedSimpArgs false

set_option maxHeartbeats 8000000 in
set_option maxRecDepth 100000 in
theorem dwrite_ok (p : Nat) (S : List Nat) (d : DS) (j : Nat) (g o cap : Nat) (b : List UInt8) (w : World) (h : DiskAt w p S d) (ho : d.ops ≤ 1000000000) (hw : d.since.length ≤ 1000000)
    (hd : d.dead = false) (hj : j < d.n) (hb : b.length = 64) (hB : w.rangeAt g o (bvs b)) :
    Calls Tryz.prog 79 #[.pointer (some ⟨p, 0, none⟩), .int .i64 (j : Int), .slice (some ⟨g, o, none⟩) 64 cap] w fun e w' => e = .returned (.int .i64 (d.write (j : Int) b).1) ∧ Did w w' p S (d.write (j : Int) b).2 := by
  have CG := Lib.hid (dgone_any p S d w h)
  have CH := Lib.hid (dhas_any p S d (j : Int) w h)
  rw [hd] at CG
  rw [decide_eq_true (by omega)] at CH
  have HB := Lib.hid hB
  have hz : Hid ((Tryz.prog.info? 101).map (·.size) = some (bvs b).length) := Lib.hid (by rw [bvs_len, hb]; kernel_rfl)
  have hzs : Hid ((Tryz.prog.info? 103).map (·.size) = some (bvs b).length) := Lib.hid (by rw [bvs_len, hb]; kernel_rfl)
  have hzw : Hid ((Tryz.prog.info? 105).map (·.size) = some (wcells (j, b)).length) := Lib.hid (by rw [wcells_len _ hb]; kernel_rfl)
  have hb1 : Hid ((Instr.build 103 #[(0, .agg (bvs b).toArray)]).run Tryz.prog w = .ok (.agg (bvs b).toArray) w) := Lib.hid (build_sec _ (by simp [bvs_len, hb]) w)
  have hb2 : Hid ((Instr.build 105 #[(0, .int .i64 (j : Int)), (1, .agg (bvs b).toArray)]).run Tryz.prog w = .ok (.agg (wcells (j, b)).toArray) w) := Lib.hid (build_wr _ _ (by rw [bvs_len, hb]) w)
  obtain ⟨iw, zw, hiw, hzw1, hzw2, hzw3, hzw4⟩ := info_three facts_wr
  have hW : (wcells (j, b)).toArray.size = 65 := by simpa using wcells_len (j, b) hb
  have h1c : (wcells (j, b)).toArray.all (·.oneCell') = true := all_oneCell_toArray (wcells_one _)
  have hat : ∀ w, (Instr.arrayAt 101 (.slice (some ⟨g, o, none⟩) 64 cap)).run Tryz.prog w = .ok (.pointer (some ⟨g, o, none⟩)) w := fun w => run_arrayAt w 101 _ 64 _ 64 cap Tryz.underlying101 (Nat.le_refl _)
  have HD := Lib.hid h
  have hlim := h.lim
  obtain ⟨gn, gl, cn, cl, v, H⟩ := h
  have HK := Lib.hid H
  -- the world with the variable
  obtain ⟨N, hN⟩ : ∃ N, N = w.heap.size := ⟨_, rfl⟩
  obtain ⟨w1, hw1⟩ : ∃ w1, w1 = w.alloc (.cells (wcells (j, b)).toArray 105) := ⟨_, rfl⟩
  have hc1 : Chg [] w w1 := by rw [hw1]; exact (Chg.refl _ _).alloc _
  have HC1 := Lib.hid hc1
  have r1 : w1.rangeAt N 0 (wcells (j, b)) := by
    rw [hw1, hN]
    intro k u hu
    rw [Nat.zero_add]
    exact blk_cell (heap_alloc_new w _) k u (by simpa using hu)
  have H1 : DiskOk w1 p S d gn gl cn cl v := by
    obtain ⟨m1, m2, m3, m4⟩ := H.mem
    exact ⟨hc1.keep H.head (by simp), H.now.keep (hc1.block _ H.now.lt (by simp)), H.lasts.keep (hc1.block _ H.lasts.lt (by simp)), row_keep H.since (fun g hg => hc1.block g (World.ownsRow.lt H.since g hg).2 (by simp)),
      H.waits, H.few, H.capn, H.capl, H.fuse, H.ap, H.av, H.mem, fun x hx => Nat.lt_of_lt_of_le (H.lim x hx) hc1.size⟩
  have hN1 : N < w1.heap.size := by rw [hw1, hN]; simp
  have HN := Lib.hid hN
  have hS : Hid (∀ x ∈ S, x < N) := Lib.hid (by rw [hN]; exact hlim)
  have c2 : w1.cell? ⟨p, 2, none⟩ = some v := blk_cell H1.head 2 _ rfl
  have f2 := blk_frozen H1.head 2
  have hpl := blk_lt H1.head
  have HK1 := Lib.hid H1
  have HR1 := Lib.hid r1
  have HA := Lib.hid hw1
  have HW := Lib.hid hW
  have HDD := Lib.hid hd
  have HBL := Lib.hid hb
  have HIW := Lib.hid hiw
  have HZ1 := Lib.hid hzw1
  have HZ2 : Hid (zw.cells.size = (wcells (j, b)).toArray.size) := Lib.hid (by rw [hW]; exact hzw2)
  have HZ3 : Hid (iw.size = (wcells (j, b)).toArray.size) := Lib.hid (by rw [hW]; exact hzw3)
  have H1C := Lib.hid h1c
  clear hB H H1 hlim hc1 r1 hw1 hiw hzw1 hzw2 hzw3 hzw4 h1c hW hb hd hN
  go_enter Tryz.func79, Tryz.ntmps79
  go_wp2_with (first
    | (go_at_call 118; refine CG.out.mono ?_; rintro e w' ⟨rfl, hq⟩; subst hq)
    | (go_at_call 119; refine CH.out.mono ?_; rintro e w' ⟨rfl, hq⟩; subst hq)
    | (refine wpList_load_mid (by rfl) 101 (.tmp 23) (by rfl) g o (by rfl) (bvs b) _ HB.out Tryz.underlying101 rfl hz.out ?_)
    | (refine wpList_build1 (by rfl) 103 0 (.tmp 24) (by rfl) (.agg (bvs b).toArray) (.agg (bvs b).toArray) (by rfl) hb1.out ?_)
    | (refine wpList_build2 (by rfl) 105 0 1 (.tmp 21) (.tmp 25) (by rfl) (.int .i64 (j : Int)) (.agg (bvs b).toArray) (.agg (wcells (j, b)).toArray) (by rfl) (by rfl) hb2.out ?_)
    | (refine wpList_var (by rfl) (by rfl) 105 (.tmp 7) (.tmp 26) (by rfl) (by rfl) N HN.out.symm (wcells (j, b)).toArray (by rfl) (by rfl) iw zw HIW.out HZ1.out HZ2.out HZ3.out H1C.out ?_; rw [← HA.out]))
  refine wp_region_L [(7, fun w' => w'.cell? ⟨p, 2, none⟩ = some v), (6, fun w' => w'.rangeAt N 0 (wcells (j, b)))] (by kernel_rfl) ?_ (fun hHeld => ?_)
  · exact (HoldC.cons (c2) (HoldC.cons (HR1.out) HoldC.nil))
  refine wpAnyL_take (i := 0) (oi := _) (v := ?_) rfl (by kernel_rfl) (by kernel_rfl) (by kernel_rfl) (by kernel_rfl) (by kernel_rfl) (fun _ _ _ h => h) (Or.inl ⟨by rfl, ?_⟩) (by assumption) (fun hNew => ?_)
  rotate_left
  · intro w _
    go_simp
    try with_reducible rfl
  clear hHeld
  have hHeld := hNew
  clear hNew
  try simp only [List.getElem_toArray, List.getElem_cons_succ, List.getElem_cons_zero, Act.put, List.setIfInBounds_toArray, List.set_cons_zero, List.set_cons_succ]
  refine wpAnyL_take (i := 1) (oi := _) (v := ?_) rfl (by kernel_rfl) (by kernel_rfl) (by kernel_rfl) (by kernel_rfl) (by kernel_rfl) (fun _ _ _ h => h) (Or.inl ⟨by rfl, ?_⟩) (by assumption) (fun hNew => ?_)
  rotate_left
  · intro w _
    go_simp
    try with_reducible rfl
  clear hHeld
  have hHeld := hNew
  clear hNew
  try simp only [List.getElem_toArray, List.getElem_cons_succ, List.getElem_cons_zero, Act.put, List.setIfInBounds_toArray, List.set_cons_zero, List.set_cons_succ]
  refine wpAnyL_take (i := 2) (oi := _) (v := ?_) rfl (by kernel_rfl) (by kernel_rfl) (by kernel_rfl) (by kernel_rfl) (by kernel_rfl) (fun _ _ _ h => h) (Or.inl ⟨by rfl, ?_⟩) (by assumption) (fun hNew => ?_)
  rotate_left
  · intro w _
    go_simp
    try with_reducible rfl
  clear hHeld
  have hHeld := hNew
  clear hNew
  try simp only [List.getElem_toArray, List.getElem_cons_succ, List.getElem_cons_zero, Act.put, List.setIfInBounds_toArray, List.set_cons_zero, List.set_cons_succ]
  refine wpAnyL_take (i := 3) (oi := _) (v := ?_) rfl (by kernel_rfl) (by kernel_rfl) (by kernel_rfl) (by kernel_rfl) (by kernel_rfl) (fun _ _ _ h => h) (Or.inl ⟨by rfl, ?_⟩) (by assumption) (fun hNew => ?_)
  rotate_left
  · intro w _
    go_simp
    try with_reducible rfl
  clear hHeld
  have hHeld := hNew
  clear hNew
  try simp only [List.getElem_toArray, List.getElem_cons_succ, List.getElem_cons_zero, Act.put, List.setIfInBounds_toArray, List.set_cons_zero, List.set_cons_succ]
  refine wpAnyL_load 0 (i := 4) (oi := _) (v := ?_) rfl rfl (by kernel_rfl) (by kernel_rfl) (by kernel_rfl) (by kernel_rfl) (by kernel_rfl) (by kernel_rfl) (fun _ _ _ h => h) (Or.inl ⟨by rfl, ?_⟩) (by assumption) (fun hNew => ?_)
  rotate_left
  · intro w hSw
    (try dsimp only at hSw)
    go_simp
    try with_reducible rfl
  clear hHeld
  have hHeld := hNew
  clear hNew
  try simp only [List.getElem_toArray, List.getElem_cons_succ, List.getElem_cons_zero, Act.put, List.setIfInBounds_toArray, List.set_cons_zero, List.set_cons_succ]
  refine wpAnyL_load 1 (i := 5) (oi := _) (v := .agg (wcells (j, b)).toArray) rfl rfl (by kernel_rfl) (by kernel_rfl) (by kernel_rfl) (by kernel_rfl) (by kernel_rfl) (by kernel_rfl) (fun _ _ _ h => h) (yieldsIf_load_mid (by rfl) 105 (.tmp 7) (by rfl) (N) (0) (by rfl) (wcells (j, b)) _ (fun w hw => hw) Tryz.underlying105 rfl hzw.out) (by assumption) (fun hNew => ?_)
  clear hHeld
  have hHeld := hNew
  clear hNew
  try simp only [List.getElem_toArray, List.getElem_cons_succ, List.getElem_cons_zero, Act.put, List.setIfInBounds_toArray, List.set_cons_zero, List.set_cons_succ]
  refine wpAnyL_ready (rs := [6]) (by kernel_rfl) (by simp) ?_
  refine AllReadyL.cons (o := _) rfl (fun K hK => ?_) AllReadyL.nil
  try simp only [List.getElem_toArray, List.getElem_cons_succ, List.getElem_cons_zero]
  rw [if_pos (by rfl)]
  refine wp_slice1 92 105 (.tmp 32) (by rfl) (wcells (j, b)).toArray (by rfl) iw zw Tryz.underlying92 HIW.out HZ1.out HZ3.out (by rw [HW.out]; omega) (by rw [HW.out]; omega) ?_
  clear hHeld
  refine hK.out _ _ ?_ (fun hHeld => ?_)
  · exact (HoldC.cons ((blk_cell (blk_alloc HK1.out.head) 2 _ rfl)) (HoldC.past (by kernel_rfl) HoldC.nil))
  clear hK K
  try simp only [List.getElem_toArray, List.getElem_cons_succ, List.getElem_cons_zero, Act.put, List.setIfInBounds_toArray, List.set_cons_zero, List.set_cons_succ]
  refine wpAnyL_ready (rs := [7]) (by kernel_rfl) (by simp) ?_
  refine AllReadyL.cons (o := _) rfl (fun K hK => ?_) AllReadyL.nil
  try simp only [List.getElem_toArray, List.getElem_cons_succ, List.getElem_cons_zero]
  rw [if_pos (by rfl)]
  refine wp_app_wr (.tmp 31) (.tmp 33) (by rfl) HK1.out.drew (j, b) ⟨hj, HBL.out⟩ hw (by rfl) (by rfl) ?_
  intro g2 cap2 w2 d2 e2 l2 HD2
  clear hHeld
  refine hK.out _ _ ?_ (fun hHeld => ?_)
  · exact (HoldC.past (by kernel_rfl) (HoldC.past (by kernel_rfl) HoldC.nil))
  clear hK K
  try simp only [List.getElem_toArray, List.getElem_cons_succ, List.getElem_cons_zero, Act.put, List.setIfInBounds_toArray, List.set_cons_zero, List.set_cons_succ]
  refine wpAnyL_take (i := 8) (oi := _) (v := ?_) rfl (by kernel_rfl) (by kernel_rfl) (by kernel_rfl) (by kernel_rfl) (by kernel_rfl) (fun _ _ _ h => h) (Or.inl ⟨by rfl, ?_⟩) (by assumption) (fun hNew => ?_)
  rotate_left
  · intro w _
    go_simp
    try with_reducible rfl
  clear hHeld
  have hHeld := hNew
  clear hNew
  try simp only [List.getElem_toArray, List.getElem_cons_succ, List.getElem_cons_zero, Act.put, List.setIfInBounds_toArray, List.set_cons_zero, List.set_cons_succ]
  refine wpAnyL_take (i := 9) (oi := _) (v := ?_) rfl (by kernel_rfl) (by kernel_rfl) (by kernel_rfl) (by kernel_rfl) (by kernel_rfl) (fun _ _ _ h => h) (Or.inl ⟨by rfl, ?_⟩) (by assumption) (fun hNew => ?_)
  rotate_left
  · intro w _
    go_simp
    try with_reducible rfl
  clear hHeld
  have hHeld := hNew
  clear hNew
  try simp only [List.getElem_toArray, List.getElem_cons_succ, List.getElem_cons_zero, Act.put, List.setIfInBounds_toArray, List.set_cons_zero, List.set_cons_succ]
  refine wpAnyL_ready (rs := [10]) (by kernel_rfl) (by simp) ?_
  refine AllReadyL.cons (o := _) rfl (fun K hK => ?_) AllReadyL.nil
  try simp only [List.getElem_toArray, List.getElem_cons_succ, List.getElem_cons_zero]
  go_simp
  clear hHeld
  refine hK.out _ _ ?_ (fun hHeld => ?_)
  · exact (HoldC.past (by kernel_rfl) (HoldC.past (by kernel_rfl) HoldC.nil))
  clear hK K
  try simp only [List.getElem_toArray, List.getElem_cons_succ, List.getElem_cons_zero, Act.put, List.setIfInBounds_toArray, List.set_cons_zero, List.set_cons_succ]
  refine wpAnyL_done (by kernel_rfl) ?_ _
  clear hHeld
  have hdp : ∀ w', Did w1.drew w' p S { d with since := d.since ++ [(j, b)] } → Did w1 w' p S { d with since := d.since ++ [(j, b)] } := fun w' h => Did.pre (by exact (Chg.refl _ _).drew) h
  have HD3 := Lib.hid (hdp _ HD2.out)
  clear hdp HD2
  generalize w2.setCell ⟨p, 2, none⟩ (.slice (some ⟨g2, 0, none⟩) (d.since.length + 1) cap2) = w4 at *
  clear d2 e2 l2 c2 f2 hpl
  go_wp2_with fail
  obtain ⟨S4, hd4, hs4, hc4⟩ := HD3.out
  have CO := Lib.hid (dop_any p S4 _ w4 hd4 ho)
  have HS4 := Lib.hid hs4
  have HC4 := Lib.hid hc4
  clear hd4 hs4 hc4
  by_cases hf : d.fuse = 0
  · have ho2 : Hid (DS.op { d with since := d.since ++ [(j, b)] } = (false, { d with since := d.since ++ [(j, b)], dead := true })) := Lib.hid (by unfold DS.op; rw [if_pos hf])
    have HWR : Hid (d.write (j : Int) b = (14, { d with since := d.since ++ [(j, b)], dead := true })) := Lib.hid (by
      unfold DS.write
      rw [if_neg (by rw [HDD.out]; simp), if_pos ⟨by omega, by omega, HBL.out⟩]
      simp only [Int.toNat_natCast, ho2.out]
      rfl)
    rw [ho2.out] at CO
    have HF := Lib.hid hf
    clear hf
    refine CO.out.mono ?_
    rintro e w5 ⟨rfl, hd5⟩
    have HD5 := Lib.hid hd5
    clear hd5 CO
    go_wp2
    go_ret
    rw [HWR.out]
    exact ⟨rfl, Did.pre HC1.out (Did.glue HS4.out HC4.out HD5.out)⟩
  · obtain ⟨d5, hd5e, hd5n, hd5w⟩ : ∃ d5 : DS, DS.op { d with since := d.since ++ [(j, b)] } = (true, d5) ∧ d5.n = d.n ∧ d5.now = d.now := by
      unfold DS.op
      rw [if_neg hf]
      exact ⟨_, rfl, rfl, rfl⟩
    have HWR : Hid (d.write (j : Int) b = (0, { d5 with now := upd d5.now j b })) := Lib.hid (by
      unfold DS.write
      rw [if_neg (by rw [HDD.out]; simp), if_pos ⟨by omega, by omega, HBL.out⟩]
      simp only [Int.toNat_natCast, hd5e]
      rfl)
    rw [hd5e] at CO
    dsimp only at CO
    have HF := Lib.hid hf
    have HE := Lib.hid hd5e
    clear hf hd5e
    refine CO.out.mono ?_
    rintro e w5 ⟨rfl, hd5⟩
    obtain ⟨S5, ⟨gn5, gl5, cn5, cl5, v5, H5⟩, hs5, hc5⟩ := hd5
    have hj5 : j < d5.n := by rw [hd5n]; exact hj
    have hlen5 := H5.now.len j hj5
    have hNS : N ∉ S := fun hm => by have := hS.out N hm; omega
    have hNS4 : N ∉ S4 := fun hm => by
      rcases HS4.out N hm with h1 | h1
      · exact hNS h1
      · omega
    have hb5 : w5.heap[N]? = w1.heap[N]? := (hc5.block N (Nat.lt_of_lt_of_le hN1 HC4.out.size) hNS4).trans (HC4.out.block N hN1 hNS)
    have r5 : w5.rangeAt N 1 (bvs b) := range_tail (range_keep HR1.out hb5)
    have q5 : w5.rangeAt gn5 (j * 64) (bvs (d5.now j)) := H5.now.range j hj5
    have hrow : d5.n ≤ cn5 ∧ cn5 ≤ maxLen := H5.capn
    have c50 : w5.cell? ⟨p, 0, none⟩ = some (.slice (some ⟨gn5, 0, none⟩) d5.n cn5) := blk_cell H5.head 0 _ rfl
    have th5 : Hid (w5.drew.drew.there gn5 (j * 64) (bvs b).toArray.size) := Lib.hid (by
      have h1 := H5.drew.drew.now.there j hj5
      have h2 : (bvs b).toArray.size = 64 := by simp [bvs_len, HBL.out]
      rw [h2]; exact h1)
    have hone := Lib.hid (all_oneCell_toArray (bvs_one b))
    have hzt : Hid ((Tryz.prog.info? 103).map (·.size) = some (bvs b).toArray.size) := Lib.hid (by rw [show (bvs b).toArray.size = (bvs b).length by simp]; exact hzs.out)
    have HD5n : Hid (Did w5 (w5.drew.drew.setCells gn5 (j * 64) (bvs b)) p S5 { d5 with now := upd d5.now j b }) := Lib.hid (Did.pre (w := w5.drew.drew) (by exact (Chg.refl _ _).drew.drew) (H5.drew.drew.put_now j b hj5 HBL.out))
    have HD5s : Hid (Did w5 w5.drew p S5 d5) := Lib.hid (Did.pre (w := w5.drew) (by exact (Chg.refl _ _).drew) (Did.same ⟨_, _, _, _, _, H5.drew⟩))
    have hz5 : Hid ((Tryz.prog.info? 103).map (·.size) = some (bvs (d5.now j)).length) := Lib.hid (by rw [bvs_len, hlen5]; kernel_rfl)
    have hneq := neq_sec (d5.now j) b hlen5 HBL.out
    have HS5 := Lib.hid hs5
    have HC5 := Lib.hid hc5
    have HR5 := Lib.hid r5
    have HQ5 := Lib.hid q5
    have HNW := Lib.hid hd5w
    have hfin : Hid (∀ w', Did w5 w' p S5 { d5 with now := upd d5.now j b } → Did w w' p S (d.write (j : Int) b).2) := Lib.hid (fun w' h => by
      rw [HWR.out]
      exact Did.pre HC1.out (Did.glue HS4.out HC4.out (Did.glue HS5.out HC5.out h)))
    obtain ⟨n5, hn5⟩ : ∃ n5, n5 = d5.n := ⟨_, rfl⟩
    rw [← hn5] at c50 hrow hj5
    obtain ⟨b0, hb0⟩ : ∃ b0, b0 = d5.now j := ⟨_, rfl⟩
    rw [← hb0] at hneq HQ5 hz5
    have HB0 := Lib.hid hb0
    have hjz : (j : Int) < (n5 : Int) := by omega
    have hjz0 : (0 : Int) ≤ (j : Int) := by omega
    have hjz1 : (j : Int).toNat = j := by omega
    have HRW : Hid ((d.write (j : Int) b).1 = 0) := Lib.hid (by rw [HWR.out])
    clear H5 hs5 hc5 hb5 r5 q5 hlen5 hd5n hd5w CO hNS hNS4 hn5 hb0
    by_cases heq : b0 = b
    · have hneq2 : ∀ w, (binOp .neq 103 (.agg (bvs b0).toArray) (.agg (bvs b).toArray)).run Tryz.prog w = .ok (.bool false) w := fun w => by rw [hneq w]; simp [heq]
      have HU : Hid ({ d5 with now := upd d5.now j b } = d5) := Lib.hid (by rw [upd_same _ _ _ (by rw [← HB0.out, heq])])
      clear hneq heq
      go_wp2_with fail
      refine wp_region_L [(9, fun w' => w'.cell? ⟨p, 0, none⟩ = some (.slice (some ⟨gn5, 0, none⟩) n5 cn5)), (9, fun w' => w'.rangeAt gn5 (j * 64) (bvs b0)), (9, fun w' => w'.rangeAt N 1 (bvs b))] (by kernel_rfl) ?_ (fun hHeld => ?_)
      · exact (HoldC.cons (c50) (HoldC.cons (HQ5.out) (HoldC.cons (HR5.out) HoldC.nil)))
      refine wpAnyL_take (i := 0) (oi := _) (v := ?_) rfl (by kernel_rfl) (by kernel_rfl) (by kernel_rfl) (by kernel_rfl) (by kernel_rfl) (fun _ _ _ h => h) (Or.inl ⟨by rfl, ?_⟩) (by assumption) (fun hNew => ?_)
      rotate_left
      · intro w _
        go_simp
        try with_reducible rfl
      clear hHeld
      have hHeld := hNew
      clear hNew
      try simp only [List.getElem_toArray, List.getElem_cons_succ, List.getElem_cons_zero, Act.put, List.setIfInBounds_toArray, List.set_cons_zero, List.set_cons_succ]
      refine wpAnyL_take (i := 1) (oi := _) (v := ?_) rfl (by kernel_rfl) (by kernel_rfl) (by kernel_rfl) (by kernel_rfl) (by kernel_rfl) (fun _ _ _ h => h) (Or.inl ⟨by rfl, ?_⟩) (by assumption) (fun hNew => ?_)
      rotate_left
      · intro w _
        go_simp
        try with_reducible rfl
      clear hHeld
      have hHeld := hNew
      clear hNew
      try simp only [List.getElem_toArray, List.getElem_cons_succ, List.getElem_cons_zero, Act.put, List.setIfInBounds_toArray, List.set_cons_zero, List.set_cons_succ]
      refine wpAnyL_take (i := 2) (oi := _) (v := ?_) rfl (by kernel_rfl) (by kernel_rfl) (by kernel_rfl) (by kernel_rfl) (by kernel_rfl) (fun _ _ _ h => h) (Or.inl ⟨by rfl, ?_⟩) (by assumption) (fun hNew => ?_)
      rotate_left
      · intro w _
        go_simp
        try with_reducible rfl
      clear hHeld
      have hHeld := hNew
      clear hNew
      try simp only [List.getElem_toArray, List.getElem_cons_succ, List.getElem_cons_zero, Act.put, List.setIfInBounds_toArray, List.set_cons_zero, List.set_cons_succ]
      refine wpAnyL_load 0 (i := 3) (oi := _) (v := ?_) rfl rfl (by kernel_rfl) (by kernel_rfl) (by kernel_rfl) (by kernel_rfl) (by kernel_rfl) (by kernel_rfl) (fun _ _ _ h => h) (Or.inl ⟨by rfl, ?_⟩) (by assumption) (fun hNew => ?_)
      rotate_left
      · intro w hSw
        (try dsimp only at hSw)
        go_simp
        try with_reducible rfl
      clear hHeld
      have hHeld := hNew
      clear hNew
      try simp only [List.getElem_toArray, List.getElem_cons_succ, List.getElem_cons_zero, Act.put, List.setIfInBounds_toArray, List.set_cons_zero, List.set_cons_succ]
      refine wpAnyL_take (i := 4) (oi := _) (v := ?_) rfl (by kernel_rfl) (by kernel_rfl) (by kernel_rfl) (by kernel_rfl) (by kernel_rfl) (fun _ _ _ h => h) (Or.inl ⟨by rfl, ?_⟩) (by assumption) (fun hNew => ?_)
      rotate_left
      · intro w _
        go_simp
        try with_reducible rfl
      clear hHeld
      have hHeld := hNew
      clear hNew
      try simp only [List.getElem_toArray, List.getElem_cons_succ, List.getElem_cons_zero, Act.put, List.setIfInBounds_toArray, List.set_cons_zero, List.set_cons_succ]
      refine wpAnyL_take (i := 5) (oi := _) (v := ?_) rfl (by kernel_rfl) (by kernel_rfl) (by kernel_rfl) (by kernel_rfl) (by kernel_rfl) (fun _ _ _ h => h) (Or.inl ⟨by rfl, ?_⟩) (by assumption) (fun hNew => ?_)
      rotate_left
      · intro w _
        go_simp
        try with_reducible rfl
      clear hHeld
      have hHeld := hNew
      clear hNew
      try simp only [List.getElem_toArray, List.getElem_cons_succ, List.getElem_cons_zero, Act.put, List.setIfInBounds_toArray, List.set_cons_zero, List.set_cons_succ]
      refine wpAnyL_load 1 (i := 6) (oi := _) (v := .agg (bvs b0).toArray) rfl rfl (by kernel_rfl) (by kernel_rfl) (by kernel_rfl) (by kernel_rfl) (by kernel_rfl) (by kernel_rfl) (fun _ _ _ h => h) (yieldsIf_load_mid (by rfl) 103 (.tmp 45) (by rfl) (gn5) (j * 64) (by rfl) (bvs b0) _ (fun w hw => hw) Tryz.underlying103 rfl hz5.out) (by assumption) (fun hNew => ?_)
      clear hHeld
      have hHeld := hNew
      clear hNew
      try simp only [List.getElem_toArray, List.getElem_cons_succ, List.getElem_cons_zero, Act.put, List.setIfInBounds_toArray, List.set_cons_zero, List.set_cons_succ]
      refine wpAnyL_take (i := 7) (oi := _) (v := ?_) rfl (by kernel_rfl) (by kernel_rfl) (by kernel_rfl) (by kernel_rfl) (by kernel_rfl) (fun _ _ _ h => h) (Or.inl ⟨by rfl, ?_⟩) (by assumption) (fun hNew => ?_)
      rotate_left
      · intro w _
        go_simp
        try with_reducible rfl
      clear hHeld
      have hHeld := hNew
      clear hNew
      try simp only [List.getElem_toArray, List.getElem_cons_succ, List.getElem_cons_zero, Act.put, List.setIfInBounds_toArray, List.set_cons_zero, List.set_cons_succ]
      refine wpAnyL_load 2 (i := 8) (oi := _) (v := .agg (bvs b).toArray) rfl rfl (by kernel_rfl) (by kernel_rfl) (by kernel_rfl) (by kernel_rfl) (by kernel_rfl) (by kernel_rfl) (fun _ _ _ h => h) (yieldsIf_load_mid (by rfl) 103 (.tmp 47) (by rfl) (N) (1) (by rfl) (bvs b) _ (fun w hw => hw) Tryz.underlying103 rfl hzs.out) (by assumption) (fun hNew => ?_)
      clear hHeld
      have hHeld := hNew
      clear hNew
      try simp only [List.getElem_toArray, List.getElem_cons_succ, List.getElem_cons_zero, Act.put, List.setIfInBounds_toArray, List.set_cons_zero, List.set_cons_succ]
      refine wpAnyL_ready (rs := [9]) (by kernel_rfl) (by simp) ?_
      refine AllReadyL.cons (o := _) rfl (fun K hK => ?_) AllReadyL.nil
      try simp only [List.getElem_toArray, List.getElem_cons_succ, List.getElem_cons_zero]
      go_simp
      clear hHeld
      refine hK.out _ _ ?_ (fun hHeld => ?_)
      · exact (HoldC.past (by kernel_rfl) (HoldC.past (by kernel_rfl) (HoldC.past (by kernel_rfl) HoldC.nil)))
      clear hK K
      try simp only [List.getElem_toArray, List.getElem_cons_succ, List.getElem_cons_zero, Act.put, List.setIfInBounds_toArray, List.set_cons_zero, List.set_cons_succ]
      refine wpAnyL_done (by kernel_rfl) ?_ _
      clear hHeld
      go_wp2
      go_ret
      exact ⟨by rw [HRW.out]; rfl, hfin.out _ (by rw [HU.out]; exact HD5s.out)⟩
    · have hneq2 : ∀ w, (binOp .neq 103 (.agg (bvs b0).toArray) (.agg (bvs b).toArray)).run Tryz.prog w = .ok (.bool true) w := fun w => by rw [hneq w]; simp [heq]
      clear hneq heq
      go_wp2_with fail
      refine wp_region_L [(9, fun w' => w'.cell? ⟨p, 0, none⟩ = some (.slice (some ⟨gn5, 0, none⟩) n5 cn5)), (9, fun w' => w'.rangeAt gn5 (j * 64) (bvs b0)), (9, fun w' => w'.rangeAt N 1 (bvs b))] (by kernel_rfl) ?_ (fun hHeld => ?_)
      · exact (HoldC.cons (c50) (HoldC.cons (HQ5.out) (HoldC.cons (HR5.out) HoldC.nil)))
      refine wpAnyL_take (i := 0) (oi := _) (v := ?_) rfl (by kernel_rfl) (by kernel_rfl) (by kernel_rfl) (by kernel_rfl) (by kernel_rfl) (fun _ _ _ h => h) (Or.inl ⟨by rfl, ?_⟩) (by assumption) (fun hNew => ?_)
      rotate_left
      · intro w _
        go_simp
        try with_reducible rfl
      clear hHeld
      have hHeld := hNew
      clear hNew
      try simp only [List.getElem_toArray, List.getElem_cons_succ, List.getElem_cons_zero, Act.put, List.setIfInBounds_toArray, List.set_cons_zero, List.set_cons_succ]
      refine wpAnyL_take (i := 1) (oi := _) (v := ?_) rfl (by kernel_rfl) (by kernel_rfl) (by kernel_rfl) (by kernel_rfl) (by kernel_rfl) (fun _ _ _ h => h) (Or.inl ⟨by rfl, ?_⟩) (by assumption) (fun hNew => ?_)
      rotate_left
      · intro w _
        go_simp
        try with_reducible rfl
      clear hHeld
      have hHeld := hNew
      clear hNew
      try simp only [List.getElem_toArray, List.getElem_cons_succ, List.getElem_cons_zero, Act.put, List.setIfInBounds_toArray, List.set_cons_zero, List.set_cons_succ]
      refine wpAnyL_take (i := 2) (oi := _) (v := ?_) rfl (by kernel_rfl) (by kernel_rfl) (by kernel_rfl) (by kernel_rfl) (by kernel_rfl) (fun _ _ _ h => h) (Or.inl ⟨by rfl, ?_⟩) (by assumption) (fun hNew => ?_)
      rotate_left
      · intro w _
        go_simp
        try with_reducible rfl
      clear hHeld
      have hHeld := hNew
      clear hNew
      try simp only [List.getElem_toArray, List.getElem_cons_succ, List.getElem_cons_zero, Act.put, List.setIfInBounds_toArray, List.set_cons_zero, List.set_cons_succ]
      refine wpAnyL_load 0 (i := 3) (oi := _) (v := ?_) rfl rfl (by kernel_rfl) (by kernel_rfl) (by kernel_rfl) (by kernel_rfl) (by kernel_rfl) (by kernel_rfl) (fun _ _ _ h => h) (Or.inl ⟨by rfl, ?_⟩) (by assumption) (fun hNew => ?_)
      rotate_left
      · intro w hSw
        (try dsimp only at hSw)
        go_simp
        try with_reducible rfl
      clear hHeld
      have hHeld := hNew
      clear hNew
      try simp only [List.getElem_toArray, List.getElem_cons_succ, List.getElem_cons_zero, Act.put, List.setIfInBounds_toArray, List.set_cons_zero, List.set_cons_succ]
      refine wpAnyL_take (i := 4) (oi := _) (v := ?_) rfl (by kernel_rfl) (by kernel_rfl) (by kernel_rfl) (by kernel_rfl) (by kernel_rfl) (fun _ _ _ h => h) (Or.inl ⟨by rfl, ?_⟩) (by assumption) (fun hNew => ?_)
      rotate_left
      · intro w _
        go_simp
        try with_reducible rfl
      clear hHeld
      have hHeld := hNew
      clear hNew
      try simp only [List.getElem_toArray, List.getElem_cons_succ, List.getElem_cons_zero, Act.put, List.setIfInBounds_toArray, List.set_cons_zero, List.set_cons_succ]
      refine wpAnyL_take (i := 5) (oi := _) (v := ?_) rfl (by kernel_rfl) (by kernel_rfl) (by kernel_rfl) (by kernel_rfl) (by kernel_rfl) (fun _ _ _ h => h) (Or.inl ⟨by rfl, ?_⟩) (by assumption) (fun hNew => ?_)
      rotate_left
      · intro w _
        go_simp
        try with_reducible rfl
      clear hHeld
      have hHeld := hNew
      clear hNew
      try simp only [List.getElem_toArray, List.getElem_cons_succ, List.getElem_cons_zero, Act.put, List.setIfInBounds_toArray, List.set_cons_zero, List.set_cons_succ]
      refine wpAnyL_load 1 (i := 6) (oi := _) (v := .agg (bvs b0).toArray) rfl rfl (by kernel_rfl) (by kernel_rfl) (by kernel_rfl) (by kernel_rfl) (by kernel_rfl) (by kernel_rfl) (fun _ _ _ h => h) (yieldsIf_load_mid (by rfl) 103 (.tmp 45) (by rfl) (gn5) (j * 64) (by rfl) (bvs b0) _ (fun w hw => hw) Tryz.underlying103 rfl hz5.out) (by assumption) (fun hNew => ?_)
      clear hHeld
      have hHeld := hNew
      clear hNew
      try simp only [List.getElem_toArray, List.getElem_cons_succ, List.getElem_cons_zero, Act.put, List.setIfInBounds_toArray, List.set_cons_zero, List.set_cons_succ]
      refine wpAnyL_take (i := 7) (oi := _) (v := ?_) rfl (by kernel_rfl) (by kernel_rfl) (by kernel_rfl) (by kernel_rfl) (by kernel_rfl) (fun _ _ _ h => h) (Or.inl ⟨by rfl, ?_⟩) (by assumption) (fun hNew => ?_)
      rotate_left
      · intro w _
        go_simp
        try with_reducible rfl
      clear hHeld
      have hHeld := hNew
      clear hNew
      try simp only [List.getElem_toArray, List.getElem_cons_succ, List.getElem_cons_zero, Act.put, List.setIfInBounds_toArray, List.set_cons_zero, List.set_cons_succ]
      refine wpAnyL_load 2 (i := 8) (oi := _) (v := .agg (bvs b).toArray) rfl rfl (by kernel_rfl) (by kernel_rfl) (by kernel_rfl) (by kernel_rfl) (by kernel_rfl) (by kernel_rfl) (fun _ _ _ h => h) (yieldsIf_load_mid (by rfl) 103 (.tmp 47) (by rfl) (N) (1) (by rfl) (bvs b) _ (fun w hw => hw) Tryz.underlying103 rfl hzs.out) (by assumption) (fun hNew => ?_)
      clear hHeld
      have hHeld := hNew
      clear hNew
      try simp only [List.getElem_toArray, List.getElem_cons_succ, List.getElem_cons_zero, Act.put, List.setIfInBounds_toArray, List.set_cons_zero, List.set_cons_succ]
      refine wpAnyL_ready (rs := [9]) (by kernel_rfl) (by simp) ?_
      refine AllReadyL.cons (o := _) rfl (fun K hK => ?_) AllReadyL.nil
      try simp only [List.getElem_toArray, List.getElem_cons_succ, List.getElem_cons_zero]
      go_simp
      clear hHeld
      refine hK.out _ _ ?_ (fun hHeld => ?_)
      · exact (HoldC.past (by kernel_rfl) (HoldC.past (by kernel_rfl) (HoldC.past (by kernel_rfl) HoldC.nil)))
      clear hK K
      try simp only [List.getElem_toArray, List.getElem_cons_succ, List.getElem_cons_zero, Act.put, List.setIfInBounds_toArray, List.set_cons_zero, List.set_cons_succ]
      refine wpAnyL_done (by kernel_rfl) ?_ _
      clear hHeld
      go_wp2_with fail
      refine wp_region_L [(8, fun w' => w'.cell? ⟨p, 0, none⟩ = some (.slice (some ⟨gn5, 0, none⟩) n5 cn5)), (8, fun w' => w'.rangeAt N 1 (bvs b))] (by kernel_rfl) ?_ (fun hHeld => ?_)
      · exact (HoldC.cons (c50) (HoldC.cons (HR5.out) HoldC.nil))
      refine wpAnyL_take (i := 0) (oi := _) (v := ?_) rfl (by kernel_rfl) (by kernel_rfl) (by kernel_rfl) (by kernel_rfl) (by kernel_rfl) (fun _ _ _ h => h) (Or.inl ⟨by rfl, ?_⟩) (by assumption) (fun hNew => ?_)
      rotate_left
      · intro w _
        go_simp
        try with_reducible rfl
      clear hHeld
      have hHeld := hNew
      clear hNew
      try simp only [List.getElem_toArray, List.getElem_cons_succ, List.getElem_cons_zero, Act.put, List.setIfInBounds_toArray, List.set_cons_zero, List.set_cons_succ]
      refine wpAnyL_take (i := 1) (oi := _) (v := ?_) rfl (by kernel_rfl) (by kernel_rfl) (by kernel_rfl) (by kernel_rfl) (by kernel_rfl) (fun _ _ _ h => h) (Or.inl ⟨by rfl, ?_⟩) (by assumption) (fun hNew => ?_)
      rotate_left
      · intro w _
        go_simp
        try with_reducible rfl
      clear hHeld
      have hHeld := hNew
      clear hNew
      try simp only [List.getElem_toArray, List.getElem_cons_succ, List.getElem_cons_zero, Act.put, List.setIfInBounds_toArray, List.set_cons_zero, List.set_cons_succ]
      refine wpAnyL_take (i := 2) (oi := _) (v := ?_) rfl (by kernel_rfl) (by kernel_rfl) (by kernel_rfl) (by kernel_rfl) (by kernel_rfl) (fun _ _ _ h => h) (Or.inl ⟨by rfl, ?_⟩) (by assumption) (fun hNew => ?_)
      rotate_left
      · intro w _
        go_simp
        try with_reducible rfl
      clear hHeld
      have hHeld := hNew
      clear hNew
      try simp only [List.getElem_toArray, List.getElem_cons_succ, List.getElem_cons_zero, Act.put, List.setIfInBounds_toArray, List.set_cons_zero, List.set_cons_succ]
      refine wpAnyL_load 0 (i := 3) (oi := _) (v := ?_) rfl rfl (by kernel_rfl) (by kernel_rfl) (by kernel_rfl) (by kernel_rfl) (by kernel_rfl) (by kernel_rfl) (fun _ _ _ h => h) (Or.inl ⟨by rfl, ?_⟩) (by assumption) (fun hNew => ?_)
      rotate_left
      · intro w hSw
        (try dsimp only at hSw)
        go_simp
        try with_reducible rfl
      clear hHeld
      have hHeld := hNew
      clear hNew
      try simp only [List.getElem_toArray, List.getElem_cons_succ, List.getElem_cons_zero, Act.put, List.setIfInBounds_toArray, List.set_cons_zero, List.set_cons_succ]
      refine wpAnyL_take (i := 4) (oi := _) (v := ?_) rfl (by kernel_rfl) (by kernel_rfl) (by kernel_rfl) (by kernel_rfl) (by kernel_rfl) (fun _ _ _ h => h) (Or.inl ⟨by rfl, ?_⟩) (by assumption) (fun hNew => ?_)
      rotate_left
      · intro w _
        go_simp
        try with_reducible rfl
      clear hHeld
      have hHeld := hNew
      clear hNew
      try simp only [List.getElem_toArray, List.getElem_cons_succ, List.getElem_cons_zero, Act.put, List.setIfInBounds_toArray, List.set_cons_zero, List.set_cons_succ]
      refine wpAnyL_take (i := 5) (oi := _) (v := ?_) rfl (by kernel_rfl) (by kernel_rfl) (by kernel_rfl) (by kernel_rfl) (by kernel_rfl) (fun _ _ _ h => h) (Or.inl ⟨by rfl, ?_⟩) (by assumption) (fun hNew => ?_)
      rotate_left
      · intro w _
        go_simp
        try with_reducible rfl
      clear hHeld
      have hHeld := hNew
      clear hNew
      try simp only [List.getElem_toArray, List.getElem_cons_succ, List.getElem_cons_zero, Act.put, List.setIfInBounds_toArray, List.set_cons_zero, List.set_cons_succ]
      refine wpAnyL_load 1 (i := 6) (oi := _) (v := .agg (bvs b).toArray) rfl rfl (by kernel_rfl) (by kernel_rfl) (by kernel_rfl) (by kernel_rfl) (by kernel_rfl) (by kernel_rfl) (fun _ _ _ h => h) (yieldsIf_load_mid (by rfl) 103 (.tmp 55) (by rfl) (N) (1) (by rfl) (bvs b) _ (fun w hw => hw) Tryz.underlying103 rfl hzs.out) (by assumption) (fun hNew => ?_)
      clear hHeld
      have hHeld := hNew
      clear hNew
      try simp only [List.getElem_toArray, List.getElem_cons_succ, List.getElem_cons_zero, Act.put, List.setIfInBounds_toArray, List.set_cons_zero, List.set_cons_succ]
      refine wpAnyL_take (i := 7) (oi := _) (v := ?_) rfl (by kernel_rfl) (by kernel_rfl) (by kernel_rfl) (by kernel_rfl) (by kernel_rfl) (fun _ _ _ h => h) (Or.inl ⟨by rfl, ?_⟩) (by assumption) (fun hNew => ?_)
      rotate_left
      · intro w _
        go_simp
        try with_reducible rfl
      clear hHeld
      have hHeld := hNew
      clear hNew
      try simp only [List.getElem_toArray, List.getElem_cons_succ, List.getElem_cons_zero, Act.put, List.setIfInBounds_toArray, List.set_cons_zero, List.set_cons_succ]
      refine wpAnyL_ready (rs := [8]) (by kernel_rfl) (by simp) ?_
      refine AllReadyL.cons (o := _) rfl (fun K hK => ?_) AllReadyL.nil
      try simp only [List.getElem_toArray, List.getElem_cons_succ, List.getElem_cons_zero]
      rw [if_pos (by rfl)]
      refine wp_store_mid 103 (.tmp 57) (.tmp 56) (by rfl) gn5 (j * 64) (bvs b).toArray (by rfl) (by rfl) th5.out hzt.out hone.out ?_
      clear hHeld
      refine hK.out _ _ ?_ (fun hHeld => ?_)
      · exact (HoldC.past (by kernel_rfl) (HoldC.past (by kernel_rfl) HoldC.nil))
      clear hK K
      try simp only [List.getElem_toArray, List.getElem_cons_succ, List.getElem_cons_zero, Act.put, List.setIfInBounds_toArray, List.set_cons_zero, List.set_cons_succ]
      refine wpAnyL_done (by kernel_rfl) ?_ _
      clear hHeld
      go_wp2
      go_ret
      exact ⟨by rw [HRW.out]; rfl, hfin.out _ HD5n.out⟩
end Go.Proofs.YtdkhmfcfihbjeaaGreatDoor.W

/- Package disk: Sync, Write of whatever disk; Fuse, Ops. -/
namespace Go.Proofs.YtdkhmfcfihbjeaaGreatDoor.W
open Go.RowKit
set_option linter.unusedVariables false
set_option linter.unusedSimpArgs false

set_option maxHeartbeats 4000000 in
set_option maxRecDepth 100000 in
theorem dsync_any (p : Nat) (S : List Nat) (d : DS) (w : World) (h : DiskAt w p S d) (ho : d.ops ≤ 1000000000) (hw : d.since.length ≤ 1000000) :
    Calls Tryz.prog 80 #[.pointer (some ⟨p, 0, none⟩)] w fun e w' => e = .returned (.int .i64 (d.sync).1) ∧ Did w w' p S (d.sync).2 := by
  obtain ⟨w1, hw1⟩ : ∃ w1, w1 = w.alloc (.cells #[.pointer (some ⟨p, 0, none⟩)] 44) := ⟨_, rfl⟩
  have hc1 : Chg [] w w1 := by rw [hw1]; exact (Chg.refl _ _).alloc _
  have h1 : DiskAt w1 p S d := h.keep hc1 (by simp)
  have hB0 : w1.cell? ⟨w.heap.size, 0, none⟩ = some (.pointer (some ⟨p, 0, none⟩)) := by rw [hw1]; exact blk_cell (heap_alloc_new w _) 0 _ rfl
  have CG := Lib.hid (dgone_any p S d w1 h1)
  have CO := Lib.hid (dop_any p S d w1 h1 ho)
  have HW1 := Lib.hid hw1
  by_cases hd : d.dead = true
  · have HS : Hid (d.sync = (14, d)) := Lib.hid (by unfold DS.sync; rw [if_pos hd])
    have HF : Hid (Did w w1 p S d) := Lib.hid (Did.pre hc1 (Did.same h1))
    rw [hd] at CG
    rw [HS.out]
    clear hd h h1 hc1 hw1 CO
    go_enter Tryz.func80, Tryz.ntmps80
    go_wp2_with fail
    rw [← HW1.out]
    refine CG.out.mono ?_
    rintro e w' ⟨rfl, hq⟩
    subst hq
    go_wp2
    go_ret
    exact ⟨rfl, HF.out⟩
  · by_cases hf : d.fuse = 0
    · have hd' : d.dead = false := by simpa using hd
      have ho2 : d.op = (false, { d with dead := true }) := by unfold DS.op; rw [if_pos hf]
      have HS : Hid (d.sync = (14, { d with dead := true })) := Lib.hid (by unfold DS.sync; rw [if_neg hd, ho2]; rfl)
      rw [hd'] at CG
      rw [ho2] at CO
      dsimp only at CO
      rw [HS.out]
      have HC1 := Lib.hid hc1
      clear hd h h1 hc1 hw1 hf hd' ho2
      go_enter Tryz.func80, Tryz.ntmps80
      go_wp2_with fail
      rw [← HW1.out]
      refine CG.out.mono ?_
      rintro e w' ⟨rfl, hq⟩
      subst hq
      go_wp2_with fail
      refine CO.out.mono ?_
      rintro e w' ⟨rfl, hq⟩
      have HF := Lib.hid (Did.pre HC1.out hq)
      clear hq
      go_wp2
      go_ret
      exact ⟨rfl, HF.out⟩
    · exact dsync_ok p S d w h ho hw (by simpa using hd) hf

set_option maxHeartbeats 4000000 in
set_option maxRecDepth 100000 in
theorem dwrite_dead (p : Nat) (S : List Nat) (d : DS) (k : Int) (v : Value) (b : List UInt8) (w : World) (h : DiskAt w p S d) (hd : d.dead = true) :
    Calls Tryz.prog 79 #[.pointer (some ⟨p, 0, none⟩), .int .i64 k, v] w fun e w' => e = .returned (.int .i64 (d.write k b).1) ∧ Did w w' p S (d.write k b).2 := by
  have CG := Lib.hid (dgone_any p S d w h)
  have HW : Hid (d.write k b = (14, d)) := Lib.hid (by unfold DS.write; rw [if_pos hd])
  have HF := Lib.hid (Did.same h)
  rw [hd] at CG
  rw [HW.out]
  clear hd h
  go_enter Tryz.func79, Tryz.ntmps79
  go_wp2_with (go_at_call 118; refine CG.out.mono ?_; rintro e w' ⟨rfl, hq⟩; subst hq)
  go_ret
  exact ⟨rfl, HF.out⟩
theorem dwrite_any (p : Nat) (S : List Nat) (d : DS) (k : Int) (v : Value) (b : List UInt8) (w : World) (h : DiskAt w p S d) (ho : d.ops ≤ 1000000000) (hw : d.since.length ≤ 1000000) (hk : 0 ≤ k ∧ k < d.n) (hb : b.length = 64) (hv : BytesAt w v b) :
    Calls Tryz.prog 79 #[.pointer (some ⟨p, 0, none⟩), .int .i64 k, v] w fun e w' => e = .returned (.int .i64 (d.write k b).1) ∧ Did w w' p S (d.write k b).2 := by
  by_cases hd : d.dead = true
  · exact dwrite_dead p S d k v b w h hd
  · obtain ⟨j, rfl⟩ := Int.eq_ofNat_of_zero_le hk.1
    obtain ⟨a, cap, rfl, h1, h2, h3⟩ := hv
    rcases h3 with ⟨rfl, _⟩ | ⟨g, o, rfl, hc⟩
    · simp at hb
    · rw [hb]
      refine dwrite_ok p S d j g o cap b w h ho hw (by simpa using hd) (by omega) hb (fun i u hu => ?_)
      have hi : i < b.length := by
        have := (List.getElem?_eq_some_iff.1 hu).1
        rwa [bvs_len] at this
      rw [bvs_at b i hi] at hu
      cases hu
      exact hc i hi

def DS.setFuse (d : DS) (n : Int) : DS := { d with fuse := max n (-1) }
set_option maxHeartbeats 4000000 in
set_option maxRecDepth 100000 in
theorem dfuse_any (p : Nat) (S : List Nat) (d : DS) (n : Int) (w : World) (h : DiskAt w p S d) (hn : n ≤ 9223372036854775807) :
    Calls Tryz.prog 18 #[.pointer (some ⟨p, 0, none⟩), .int .i64 n] w fun e w' => e = .returned (.tuple #[]) ∧ Did w w' p S (d.setFuse n) := by
  obtain ⟨gn, gl, cn, cl, v, H⟩ := h
  have c3 := blk_cell H.head 3 _ rfl
  have f3 := blk_frozen H.head 3
  have hlt := blk_lt H.head
  have HF : Hid (Did w (w.setCell ⟨p, 3, none⟩ (.int .i64 (max n (-1)))) p S (d.setFuse n)) := Lib.hid
    (H.put (d' := d.setFuse n) ((Chg.refl _ _).setCell (.inl (by simp)) _) (set_blk H.head) rfl rfl rfl rfl (by show -1 ≤ max n (-1) ∧ max n (-1) ≤ 9223372036854775807; omega))
  clear H
  go_enter Tryz.func18, Tryz.ntmps18
  go_wp2
  go_end0
  exact ⟨rfl, HF.out⟩

end Go.Proofs.YtdkhmfcfihbjeaaGreatDoor.W

/- Package disk: New. -/
namespace Go.Proofs.YtdkhmfcfihbjeaaGreatDoor.W
open Go.RowKit
set_option linter.unusedVariables false
set_option linter.unusedSimpArgs false

def DS.new (n : Nat) : DS := { n := n, now := fun _ => zeros 64, lasts := fun _ => zeros 64, since := [], fuse := -1, ops := 0, dead := false }
theorem zero_sec : (Tryz.prog.info? 103).map (fun i => (i.zero.map (·.cells), i.size, i.bytes)) = some (some (Array.replicate 64 (.int .u8 0)), 64, 64) := by kernel_rfl
def secZ (n : Nat) : Array Value := madeCells (Array.replicate 64 (.int .u8 0)) (n * 64)
theorem secZ_size (n : Nat) : (secZ n).size = n * 64 := size_madeCells _ _
theorem secZ_at (n i : Nat) (h : i < n * 64) : (secZ n)[i]? = some (bv 0) := by
  unfold secZ madeCells
  have h2 : i % 64 < 64 := Nat.mod_lt _ (by omega)
  have h3 : (Array.replicate 64 (Value.int .u8 0))[i % 64]! = Value.int .u8 0 := by
    rw [getElem!_pos _ _ (by simpa using h2), Array.getElem_replicate]
  simp [h, bv, h3]
theorem make_secs (n : Nat) (hn : n ≤ 100000) (w : World) : (Instr.makeSlice 91 (.int .i64 (n : Int)) (.int .i64 (n : Int))).run Tryz.prog w = .ok (.slice (some ⟨w.heap.size, 0, none⟩) n n) (w.alloc (.cells (secZ n) 103)) := by
  obtain ⟨i, hi, hz⟩ := Option.map_eq_some_iff.1 zero_sec
  simp only [Prod.mk.injEq, Option.map_eq_some_iff] at hz
  obtain ⟨⟨z, hz1, hz2⟩, h3, h4⟩ := hz
  have h := run_make (P := Tryz.prog) w 91 103 i z Tryz.underlying91 hi hz1 .i64 .i64 n n (by omega) (Int.le_refl _) (by rw [h4]; omega) (by omega)
  simp only [Int.toNat_natCast, hz2, h3] at h
  exact h
theorem zeros_getD (n i : Nat) : (zeros n).getD i 0 = 0 := by
  unfold zeros
  rw [List.getD_eq_getElem?_getD, List.getElem?_replicate]
  split <;> rfl
theorem secs_made {w : World} {g n : Nat} (h : w.heap[g]? = some (.cells (secZ n) 103 (0, 0))) : SecsAt w g n (fun _ => zeros 64) :=
  ⟨_, h, by rw [secZ_size]; exact Nat.le_refl _, fun k hk => ⟨by simp [zeros], fun i hi => by rw [secZ_at _ _ (by omega), zeros_getD]⟩⟩

/-- A new disk. -/
def Newly (w w' : World) (p : Nat) (S : List Nat) (d : DS) : Prop := DiskAt w' p S d ∧ (∀ x ∈ S, w.heap.size ≤ x) ∧ Chg [] w w'
theorem newly_of {w w' : World} {gn gl p n : Nat} (hp : w'.heap[p]? = some (.cells #[.slice (some ⟨gn, 0, none⟩) n n, .slice (some ⟨gl, 0, none⟩) n n, .slice none 0 0, .int .i64 (-1), .int .i64 0, .bool false] 94 (0, 0)))
    (h1 : w'.heap[gn]? = some (.cells (secZ n) 103 (0, 0))) (h2 : w'.heap[gl]? = some (.cells (secZ n) 103 (0, 0))) (hn : n ≤ 4160) (ha : p ≠ gn ∧ p ≠ gl ∧ gn ≠ gl) (hb : w.heap.size ≤ p ∧ w.heap.size ≤ gn ∧ w.heap.size ≤ gl) (hc : Chg [] w w') :
    Newly w w' p [p, gn, gl] (DS.new n) := by
  refine ⟨⟨gn, gl, n, n, .slice none 0 0, ⟨hp, secs_made h1, secs_made h2, World.ownsRow_nil _ _ _ _, by simp [DS.new], hn, ⟨Nat.le_refl _, by show n ≤ maxLen; unfold maxLen; omega⟩, ⟨Nat.le_refl _, by show n ≤ maxLen; unfold maxLen; omega⟩, ⟨by simp [DS.new], by simp [DS.new]⟩, ha, by simp [Value.ownBlock],
    ⟨by simp, by simp, by simp, by simp [Value.ownBlock]⟩, ?_⟩⟩, ?_, hc⟩
  · intro x hx
    simp at hx
    rcases hx with rfl | rfl | rfl
    · exact blk_lt hp
    · exact blk_lt h1
    · exact blk_lt h2
  · intro x hx
    simp at hx
    rcases hx with rfl | rfl | rfl
    · exact hb.1
    · exact hb.2.1
    · exact hb.2.2

theorem heap_at {w : World} {o : Obj} {k : Nat} (h : k = w.heap.size) : (w.alloc o).heap[k]? = some o := by rw [h]; exact heap_alloc_new w o
theorem three_new (w : World) (o1 o2 o3 : Obj) : (((w.alloc o1).alloc o2).alloc o3).heap[w.heap.size]? = some o1 ∧ (((w.alloc o1).alloc o2).alloc o3).heap[w.heap.size + 1]? = some o2 ∧ (((w.alloc o1).alloc o2).alloc o3).heap[w.heap.size + 1 + 1]? = some o3 ∧ Chg [] w (((w.alloc o1).alloc o2).alloc o3) :=
  ⟨blk_alloc (blk_alloc (heap_alloc_new w o1)), blk_alloc (heap_at (by simp)), heap_at (by simp), (((Chg.refl [] w).alloc _).alloc _).alloc _⟩

set_option maxHeartbeats 4000000 in
set_option maxRecDepth 100000 in
theorem dnew_any (n : Nat) (w : World) (h2 : 2 ≤ n) (hm : n ≤ 4160) :
    Calls Tryz.prog 14 #[.int .i64 (n : Int)] w fun e w' => ∃ p S, e = .returned (.tuple #[.pointer (some ⟨p, 0, none⟩), .int .i64 0]) ∧ Newly w w' p S (DS.new n) := by
  have q1 : decide ((n : Int) < 2) = false := decide_eq_false (by omega)
  have q2 : decide ((n : Int) > 4160) = false := decide_eq_false (by omega)
  have hmk := make_secs n (by omega)
  have HS := Lib.hid (secZ_size n)
  generalize hz : secZ n = Z at *
  have HZ := Lib.hid hz
  clear hz
  go_enter Tryz.func14, Tryz.ntmps14
  go_wp2_with fail
  refine wp_region_L [] (by kernel_rfl) ?_ (fun hHeld => ?_)
  · exact HoldC.nil
  refine wpAnyL_take (i := 0) (oi := _) (v := ?_) rfl (by kernel_rfl) (by kernel_rfl) (by kernel_rfl) (by kernel_rfl) (by kernel_rfl) (fun _ _ _ h => h) (Or.inl ⟨by rfl, ?_⟩) (by assumption) (fun hNew => ?_)
  rotate_left
  · intro w _
    go_simp
    try with_reducible rfl
  clear hHeld
  have hHeld := hNew
  clear hNew
  try simp only [List.getElem_toArray, List.getElem_cons_succ, List.getElem_cons_zero, Act.put, List.setIfInBounds_toArray, List.set_cons_zero, List.set_cons_succ]
  refine wpAnyL_take (i := 2) (oi := _) (v := ?_) rfl (by kernel_rfl) (by kernel_rfl) (by kernel_rfl) (by kernel_rfl) (by kernel_rfl) (fun _ _ _ h => h) (Or.inl ⟨by rfl, ?_⟩) (by assumption) (fun hNew => ?_)
  rotate_left
  · intro w _
    go_simp
    try with_reducible rfl
  clear hHeld
  have hHeld := hNew
  clear hNew
  try simp only [List.getElem_toArray, List.getElem_cons_succ, List.getElem_cons_zero, Act.put, List.setIfInBounds_toArray, List.set_cons_zero, List.set_cons_succ]
  refine wpAnyL_ready (rs := [1, 3]) (by kernel_rfl) (by simp) ?_
  refine AllReadyL.cons (o := _) rfl (fun K hK => ?_) (AllReadyL.cons (o := _) rfl (fun K hK => ?_) AllReadyL.nil)
  · try simp only [List.getElem_toArray, List.getElem_cons_succ, List.getElem_cons_zero]
    go_simp
    clear hHeld
    refine hK.out _ _ ?_ (fun hHeld => ?_)
    · exact HoldC.nil
    clear hK K
    try simp only [List.getElem_toArray, List.getElem_cons_succ, List.getElem_cons_zero, Act.put, List.setIfInBounds_toArray, List.set_cons_zero, List.set_cons_succ]
    refine wpAnyL_ready (rs := [3]) (by kernel_rfl) (by simp) ?_
    refine AllReadyL.cons (o := _) rfl (fun K hK => ?_) AllReadyL.nil
    try simp only [List.getElem_toArray, List.getElem_cons_succ, List.getElem_cons_zero]
    go_simp
    clear hHeld
    refine hK.out _ _ ?_ (fun hHeld => ?_)
    · exact HoldC.nil
    clear hK K
    try simp only [List.getElem_toArray, List.getElem_cons_succ, List.getElem_cons_zero, Act.put, List.setIfInBounds_toArray, List.set_cons_zero, List.set_cons_succ]
    refine wpAnyL_take (i := 4) (oi := _) (v := ?_) rfl (by kernel_rfl) (by kernel_rfl) (by kernel_rfl) (by kernel_rfl) (by kernel_rfl) (fun _ _ _ h => h) (Or.inl ⟨by rfl, ?_⟩) (by assumption) (fun hNew => ?_)
    rotate_left
    · intro w _
      go_simp
      try with_reducible rfl
    clear hHeld
    have hHeld := hNew
    clear hNew
    try simp only [List.getElem_toArray, List.getElem_cons_succ, List.getElem_cons_zero, Act.put, List.setIfInBounds_toArray, List.set_cons_zero, List.set_cons_succ]
    refine wpAnyL_ready (rs := [5]) (by kernel_rfl) (by simp) ?_
    refine AllReadyL.cons (o := _) rfl (fun K hK => ?_) AllReadyL.nil
    try simp only [List.getElem_toArray, List.getElem_cons_succ, List.getElem_cons_zero]
    go_simp
    clear hHeld
    refine hK.out _ _ ?_ (fun hHeld => ?_)
    · exact HoldC.nil
    clear hK K
    try simp only [List.getElem_toArray, List.getElem_cons_succ, List.getElem_cons_zero, Act.put, List.setIfInBounds_toArray, List.set_cons_zero, List.set_cons_succ]
    refine wpAnyL_take (i := 6) (oi := _) (v := ?_) rfl (by kernel_rfl) (by kernel_rfl) (by kernel_rfl) (by kernel_rfl) (by kernel_rfl) (fun _ _ _ h => h) (Or.inl ⟨by rfl, ?_⟩) (by assumption) (fun hNew => ?_)
    rotate_left
    · intro w _
      go_simp
      try with_reducible rfl
    clear hHeld
    have hHeld := hNew
    clear hNew
    try simp only [List.getElem_toArray, List.getElem_cons_succ, List.getElem_cons_zero, Act.put, List.setIfInBounds_toArray, List.set_cons_zero, List.set_cons_succ]
    refine wpAnyL_take (i := 7) (oi := _) (v := ?_) rfl (by kernel_rfl) (by kernel_rfl) (by kernel_rfl) (by kernel_rfl) (by kernel_rfl) (fun _ _ _ h => h) (Or.inl ⟨by rfl, ?_⟩) (by assumption) (fun hNew => ?_)
    rotate_left
    · intro w _
      go_simp
      try with_reducible rfl
    clear hHeld
    have hHeld := hNew
    clear hNew
    try simp only [List.getElem_toArray, List.getElem_cons_succ, List.getElem_cons_zero, Act.put, List.setIfInBounds_toArray, List.set_cons_zero, List.set_cons_succ]
    refine wpAnyL_done (by kernel_rfl) ?_ _
    clear hHeld
    go_wp2
    go_ret2
    obtain ⟨h1, h2', h3, hc⟩ := three_new w (.cells Z 103) (.cells Z 103) (.cells #[.slice (some ⟨w.heap.size, 0, none⟩) n n, .slice (some ⟨w.heap.size + 1, 0, none⟩) n n, .slice none 0 0, .int .i64 (-1), .int .i64 0, .bool false] 94)
    rw [← HZ.out] at *
    exact ⟨w.heap.size + 1 + 1, _, rfl, newly_of h3 h1 h2' hm (by omega) (by omega) hc.drew⟩
  · try simp only [List.getElem_toArray, List.getElem_cons_succ, List.getElem_cons_zero]
    go_simp
    clear hHeld
    refine hK.out _ _ ?_ (fun hHeld => ?_)
    · exact HoldC.nil
    clear hK K
    try simp only [List.getElem_toArray, List.getElem_cons_succ, List.getElem_cons_zero, Act.put, List.setIfInBounds_toArray, List.set_cons_zero, List.set_cons_succ]
    refine wpAnyL_ready (rs := [1]) (by kernel_rfl) (by simp) ?_
    refine AllReadyL.cons (o := _) rfl (fun K hK => ?_) AllReadyL.nil
    try simp only [List.getElem_toArray, List.getElem_cons_succ, List.getElem_cons_zero]
    go_simp
    clear hHeld
    refine hK.out _ _ ?_ (fun hHeld => ?_)
    · exact HoldC.nil
    clear hK K
    try simp only [List.getElem_toArray, List.getElem_cons_succ, List.getElem_cons_zero, Act.put, List.setIfInBounds_toArray, List.set_cons_zero, List.set_cons_succ]
    refine wpAnyL_take (i := 4) (oi := _) (v := ?_) rfl (by kernel_rfl) (by kernel_rfl) (by kernel_rfl) (by kernel_rfl) (by kernel_rfl) (fun _ _ _ h => h) (Or.inl ⟨by rfl, ?_⟩) (by assumption) (fun hNew => ?_)
    rotate_left
    · intro w _
      go_simp
      try with_reducible rfl
    clear hHeld
    have hHeld := hNew
    clear hNew
    try simp only [List.getElem_toArray, List.getElem_cons_succ, List.getElem_cons_zero, Act.put, List.setIfInBounds_toArray, List.set_cons_zero, List.set_cons_succ]
    refine wpAnyL_ready (rs := [5]) (by kernel_rfl) (by simp) ?_
    refine AllReadyL.cons (o := _) rfl (fun K hK => ?_) AllReadyL.nil
    try simp only [List.getElem_toArray, List.getElem_cons_succ, List.getElem_cons_zero]
    go_simp
    clear hHeld
    refine hK.out _ _ ?_ (fun hHeld => ?_)
    · exact HoldC.nil
    clear hK K
    try simp only [List.getElem_toArray, List.getElem_cons_succ, List.getElem_cons_zero, Act.put, List.setIfInBounds_toArray, List.set_cons_zero, List.set_cons_succ]
    refine wpAnyL_take (i := 6) (oi := _) (v := ?_) rfl (by kernel_rfl) (by kernel_rfl) (by kernel_rfl) (by kernel_rfl) (by kernel_rfl) (fun _ _ _ h => h) (Or.inl ⟨by rfl, ?_⟩) (by assumption) (fun hNew => ?_)
    rotate_left
    · intro w _
      go_simp
      try with_reducible rfl
    clear hHeld
    have hHeld := hNew
    clear hNew
    try simp only [List.getElem_toArray, List.getElem_cons_succ, List.getElem_cons_zero, Act.put, List.setIfInBounds_toArray, List.set_cons_zero, List.set_cons_succ]
    refine wpAnyL_take (i := 7) (oi := _) (v := ?_) rfl (by kernel_rfl) (by kernel_rfl) (by kernel_rfl) (by kernel_rfl) (by kernel_rfl) (fun _ _ _ h => h) (Or.inl ⟨by rfl, ?_⟩) (by assumption) (fun hNew => ?_)
    rotate_left
    · intro w _
      go_simp
      try with_reducible rfl
    clear hHeld
    have hHeld := hNew
    clear hNew
    try simp only [List.getElem_toArray, List.getElem_cons_succ, List.getElem_cons_zero, Act.put, List.setIfInBounds_toArray, List.set_cons_zero, List.set_cons_succ]
    refine wpAnyL_done (by kernel_rfl) ?_ _
    clear hHeld
    go_wp2
    go_ret2
    obtain ⟨h1, h2', h3, hc⟩ := three_new w (.cells Z 103) (.cells Z 103) (.cells #[.slice (some ⟨w.heap.size + 1, 0, none⟩) n n, .slice (some ⟨w.heap.size, 0, none⟩) n n, .slice none 0 0, .int .i64 (-1), .int .i64 0, .bool false] 94)
    rw [← HZ.out] at *
    exact ⟨w.heap.size + 1 + 1, _, rfl, newly_of h3 h2' h1 hm (by omega) (by omega) hc.drew⟩
end Go.Proofs.YtdkhmfcfihbjeaaGreatDoor.W

/- Package disk: Image. -/
namespace Go.Proofs.YtdkhmfcfihbjeaaGreatDoor.W
open Go.RowKit
set_option linter.unusedVariables false
set_option linter.unusedSimpArgs false

/-- The first k sectors in a row. -/
def flat (k : Nat) (f : Nat → List UInt8) : List UInt8 := (List.range k).flatMap f
theorem flat_succ (k : Nat) (f : Nat → List UInt8) : flat (k + 1) f = flat k f ++ f k := by simp [flat, List.range_succ]
theorem flat_len (k : Nat) (f : Nat → List UInt8) (h : ∀ i, i < k → (f i).length = 64) : (flat k f).length = k * 64 := by
  induction k with
  | zero => rfl
  | succ k ih => rw [flat_succ, List.length_append, ih (fun i hi => h i (by omega)), h k (by omega)]; omega

end Go.Proofs.YtdkhmfcfihbjeaaGreatDoor.W

/- The pens of package wire and of the reference. -/
namespace Go.Proofs.YtdkhmfcfihbjeaaGreatDoor.W
open Go.RowKit
set_option linter.unusedVariables false
set_option linter.unusedSimpArgs false

def penAdd (l : List UInt8) (bad : Int) (m : List UInt8) : List UInt8 × Int :=
  if bad ≠ 0 then (l, bad) else if 65536 < l.length + m.length then (l, 3) else (l ++ m, 0)
def beBytes : Nat → Nat → List UInt8
  | 0, _ => []
  | n + 1, x => UInt8.ofNat (x / 256 ^ n) :: beBytes n x
theorem beBytes_len (n x : Nat) : (beBytes n x).length = n := by
  induction n with
  | zero => rfl
  | succ n ih => simp [beBytes, ih]
def penNum (l : List UInt8) (bad : Int) (x : Int) (n : Nat) : List UInt8 × Int :=
  if bad ≠ 0 then (l, bad) else if x < 0 ∨ ((256 ^ n : Nat) : Int) ≤ x then (l, 1) else penAdd l bad (beBytes n x.toNat)
/-- A pen in block b: of type t, its bytes a row of our own in another block. -/
def PenAt (t : TypeId) (w : World) (b : Nat) (g : Option Nat) (l : List UInt8) (bad : Int) : Prop :=
  ∃ v, w.heap[b]? = some (.cells #[v, .int .i64 bad] t (0, 0)) ∧ BRow w v l ∧ v.ownBlock = g ∧ g ≠ some b ∧ l.length ≤ 65536
theorem PenAt.keep {t : TypeId} {w w' : World} {b : Nat} {g : Option Nat} {l : List UInt8} {bad : Int} {S : List Nat} (h : PenAt t w b g l bad) (hc : Chg S w w') (hb : b ∉ S) (hg : ∀ k, g = some k → k ∉ S) : PenAt t w' b g l bad := by
  obtain ⟨v, h1, h2, h3, h4, h5⟩ := h
  exact ⟨v, hc.keep h1 hb, h2.keep (fun k hk => hc.block k (h2.lt k hk) (hg k (h3.symm.trans hk))), h3, h4, h5⟩
theorem PenAt.lt {t : TypeId} {w : World} {b : Nat} {g : Option Nat} {l : List UInt8} {bad : Int} (h : PenAt t w b g l bad) : b < w.heap.size ∧ ∀ k, g = some k → k < w.heap.size := by
  obtain ⟨v, h1, h2, h3, h4, h5⟩ := h
  exact ⟨blk_lt h1, fun k hk => h2.lt k (h3.trans hk)⟩
/-- What writing with a pen leaves. -/
def Wrote (t : TypeId) (w w' : World) (b : Nat) (g : Option Nat) (r : List UInt8 × Int) : Prop :=
  ∃ g', PenAt t w' b g' r.1 r.2 ∧ (g' = g ∨ ∃ k, g' = some k ∧ w.heap.size ≤ k) ∧ Chg (b :: g.toList) w w'
theorem Wrote.same {t : TypeId} {w : World} {b : Nat} {g : Option Nat} {l : List UInt8} {bad : Int} (h : PenAt t w b g l bad) : Wrote t w w b g (l, bad) := ⟨g, h, .inl rfl, Chg.refl _ _⟩
theorem Wrote.trans {t : TypeId} {w w1 w2 : World} {b : Nat} {g : Option Nat} {r1 r2 : List UInt8 × Int} (h1 : Wrote t w w1 b g r1) (h2 : ∀ g1, PenAt t w1 b g1 r1.1 r1.2 → Wrote t w1 w2 b g1 r2) : Wrote t w w2 b g r2 := by
  obtain ⟨g1, hp, hg, hc⟩ := h1
  obtain ⟨g2, hp2, hg2, hc2⟩ := h2 g1 hp
  refine ⟨g2, hp2, ?_, hc.trans hc2 ?_⟩
  · rcases hg2 with rfl | ⟨k, rfl, hk⟩
    · exact hg
    · exact .inr ⟨k, rfl, Nat.le_trans hc.size hk⟩
  · intro x hx
    rcases List.mem_cons.1 hx with rfl | hx
    · exact .inl (List.mem_cons_self ..)
    · rcases hg with rfl | ⟨k, rfl, hk⟩
      · exact .inl (List.mem_cons_of_mem _ hx)
      · obtain rfl : x = k := by simpa using hx
        exact .inr hk
theorem PenAt.stored {t : TypeId} {w w1 : World} {b : Nat} {g : Option Nat} {l' : List UInt8} {bad : Int} {v v' : Value} (hb : w.heap[b]? = some (.cells #[v, .int .i64 bad] t (0, 0))) (hg : v.ownBlock = g) (hne : g ≠ some b)
    (hr : BRow w1 v' l') (hgr : w.grownBy w1 v.ownBlock) (hat : v'.ownBlock = v.ownBlock ∨ v'.ownBlock = some w.heap.size) (hl : l'.length ≤ 65536) : Wrote t w (w1.setCell ⟨b, 0, none⟩ v') b g (l', bad) := by
  have hbl := blk_lt hb
  have hb1 : w1.heap[b]? = some (.cells #[v, .int .i64 bad] t (0, 0)) := (hgr.block b hbl (fun e => hne (by rw [← hg]; exact e.symm))).trans hb
  have hne' : v'.ownBlock ≠ some b := by
    rcases hat with h | h
    · rw [h, hg]; exact hne
    · rw [h]; intro e; simp at e; omega
  refine ⟨v'.ownBlock, ⟨v', set_blk hb1, hr.keep (fun k hk => Below.heap_setCell w1 _ _ k (fun e => hne' (by rw [hk, e]))), rfl, hne', hl⟩, ?_, ?_⟩
  · rcases hat with h | h
    · exact .inl (h.trans hg)
    · exact .inr ⟨_, h, Nat.le_refl _⟩
  · refine ((Chg.refl _ w).grown hgr (fun k hk => .inl ?_)).setCell (p := ⟨b, 0, none⟩) (.inl (List.mem_cons_self ..)) _
    rw [hg] at hk; rw [hk]; simp
theorem BRow.slice {w : World} {v : Value} {l : List UInt8} (h : BRow w v l) : ∃ a cap, v = .slice a l.length cap := by
  obtain ⟨a, cap, h, _⟩ := h.bytes
  exact ⟨a, cap, h⟩

theorem PenAt.app {t : TypeId} {w w1 : World} {b : Nat} {g : Option Nat} {l m : List UInt8} {bad : Int} {v v' : Value} (hb : w.heap[b]? = some (.cells #[v, .int .i64 bad] t (0, 0))) (hg : v.ownBlock = g) (hne : g ≠ some b) (hlong : ¬ 65536 < l.length + m.length)
    (hr : BRow w1 v' (l ++ m)) (hgr : w.grownBy w1 v.ownBlock) (hat : v'.ownBlock = v.ownBlock ∨ v'.ownBlock = some w.heap.size) :
    Hid (Wrote t w (w1.setCell ⟨b, 0, none⟩ v') b g (l ++ m, bad)) ∧ w1.cell? ⟨b, 0, none⟩ = some v ∧ w1.frozen? ⟨b, 0, none⟩ = false ∧ ∃ a c, v' = .slice a (l.length + m.length) c := by
  have hb1 : w1.heap[b]? = some (.cells #[v, .int .i64 bad] t (0, 0)) := (hgr.block b (blk_lt hb) (fun e => hne (by rw [← hg]; exact e.symm))).trans hb
  refine ⟨PenAt.stored hb hg hne hr hgr hat (by rw [List.length_append]; omega), blk_cell hb1 0 _ rfl, blk_frozen hb1 0, ?_⟩
  obtain ⟨a, c, h⟩ := hr.slice
  exact ⟨a, c, by rw [h, List.length_append]⟩

set_option maxHeartbeats 2000000 in
set_option maxRecDepth 100000 in
theorem put_any (b : Nat) (g : Option Nat) (l : List UInt8) (bad : Int) (a : Option Addr) (cap : Nat) (m : List UInt8) (w : World) (h : PenAt 110 w b g l bad) (hm : BytesAt w (.slice a m.length cap) m) (hml : m.length ≤ 1000000) :
    Calls Tryz.prog 98 #[.pointer (some ⟨b, 0, none⟩), .int .i64 0, .slice a m.length cap] w fun e w' => e = .returned (.tuple #[]) ∧ Wrote 110 w w' b g (penAdd l bad m) := by
  have hP := Lib.hid h
  obtain ⟨v, hb, hr, hg, hne, hl⟩ := h
  have b0 := blk_cell hb 0 _ rfl
  have b1 := blk_cell hb 1 _ rfl
  have f0 := blk_frozen hb 0
  have f1 := blk_frozen hb 1
  have hbl := blk_lt hb
  by_cases hbad : bad = 0
  · subst hbad
    obtain ⟨av, cv, rfl⟩ := hr.slice
    by_cases hlong : 65536 < l.length + m.length
    · have HR : Hid (penAdd l 0 m = (l, 3)) := Lib.hid (by unfold penAdd; rw [if_neg (by simp), if_pos hlong])
      have HF : Hid (Wrote 110 w (w.setCell ⟨b, 1, none⟩ (.int .i64 3)) b g (l, 3)) := by
        have hc := (Chg.refl (b :: g.toList) w).setCell (p := ⟨b, 1, none⟩) (.inl (by simp)) (.int .i64 3)
        exact ⟨g, ⟨_, set_blk hb, hr.keep (fun k hk => Below.heap_setCell w _ _ k (fun e => hne (by rw [← hg, hk, e]))), hg, hne, hl⟩, .inl rfl, hc⟩
      have q1 : decide ((65536 : Int) - (l.length : Int) < (m.length : Int)) = true := by simp; omega
      have h3 : (65536 : Int) - (l.length : Int) < (m.length : Int) := by omega
      rw [HR.out]
      clear hb hr hm hg
      go_enter Tryz.func98, Tryz.ntmps98
      go_wp2
      go_end0
      exact ⟨rfl, HF.out⟩
    · have HR : Hid (penAdd l 0 m = (l ++ m, 0)) := Lib.hid (by unfold penAdd; rw [if_neg (by simp), if_neg hlong])
      have h3 : ¬ ((65536 : Int) - (l.length : Int) < (m.length : Int)) := by omega
      have HRow := Lib.hid hr
      have HB := Lib.hid hb
      have HG := Lib.hid hg
      have HM := Lib.hid hm
      rw [HR.out]
      clear hb hr hm hg
      go_enter Tryz.func98, Tryz.ntmps98
      go_wp2_with (at_builtin; refine wpList_appB rfl _ _ rfl _ l rfl HRow.out _ m rfl HM.out (by omega) ?_; intro v1 w1 ho1 hg1 hat1
                   obtain ⟨HF, d0, e0, a1, c1, rfl⟩ := PenAt.app HB.out HG.out hne hlong ho1 hg1 hat1
                   clear ho1 hg1 hat1)
      go_end0
      exact ⟨rfl, HF.out⟩
  · have HR : Hid (penAdd l bad m = (l, bad)) := Lib.hid (by unfold penAdd; rw [if_pos hbad])
    have q2 : (bad != 0) = true := by simp [hbad]
    rw [HR.out]
    clear hb hr hbad hm hg
    go_enter Tryz.func98, Tryz.ntmps98
    go_wp2
    go_end0
    exact ⟨rfl, Wrote.same hP.out⟩

set_option maxHeartbeats 2000000 in
set_option maxRecDepth 100000 in
theorem put_err (b : Nat) (g : Option Nat) (l : List UInt8) (bad x : Int) (v3 : Value) (w : World) (h : PenAt 110 w b g l bad) (hx : x ≠ 0) :
    Calls Tryz.prog 98 #[.pointer (some ⟨b, 0, none⟩), .int .i64 x, v3] w fun e w' => e = .returned (.tuple #[]) ∧ Wrote 110 w w' b g (l, if bad ≠ 0 then bad else x) := by
  have hP := Lib.hid h
  obtain ⟨v, hb, hr, hg, hne, hl⟩ := h
  have b1 := blk_cell hb 1 _ rfl
  have f1 := blk_frozen hb 1
  have hbl := blk_lt hb
  have q3 : (x != 0) = true := by simp [hx]
  by_cases hbad : bad = 0
  · subst hbad
    have HF : Hid (Wrote 110 w (w.setCell ⟨b, 1, none⟩ (.int .i64 x)) b g (l, x)) := by
      have hc := (Chg.refl (b :: g.toList) w).setCell (p := ⟨b, 1, none⟩) (.inl (by simp)) (.int .i64 x)
      exact ⟨g, ⟨_, set_blk hb, hr.keep (fun k hk => Below.heap_setCell w _ _ k (fun e => hne (by rw [← hg, hk, e]))), hg, hne, hl⟩, .inl rfl, hc⟩
    rw [if_neg (by simp)]
    clear hb hr hg hx
    go_enter Tryz.func98, Tryz.ntmps98
    go_wp2
    go_end0
    exact ⟨rfl, HF.out⟩
  · rw [if_pos hbad]
    have q2 : (bad != 0) = true := by simp [hbad]
    clear hb hr hbad hg hx
    go_enter Tryz.func98, Tryz.ntmps98
    go_wp2
    go_end0
    exact ⟨rfl, Wrote.same hP.out⟩

set_option maxHeartbeats 2000000 in
set_option maxRecDepth 100000 in
/-- The reference's add. -/
theorem radd_any (b : Nat) (g : Option Nat) (l : List UInt8) (bad : Int) (a : Option Addr) (cap : Nat) (m : List UInt8) (w : World) (h : PenAt 117 w b g l bad) (hm : BytesAt w (.slice a m.length cap) m) (hml : m.length ≤ 1000000) :
    Calls Tryz.prog 99 #[.pointer (some ⟨b, 0, none⟩), .slice a m.length cap] w fun e w' => e = .returned (.tuple #[]) ∧ Wrote 117 w w' b g (penAdd l bad m) := by
  have hP := Lib.hid h
  obtain ⟨v, hb, hr, hg, hne, hl⟩ := h
  have b0 := blk_cell hb 0 _ rfl
  have b1 := blk_cell hb 1 _ rfl
  have f0 := blk_frozen hb 0
  have f1 := blk_frozen hb 1
  have hbl := blk_lt hb
  by_cases hbad : bad = 0
  · subst hbad
    obtain ⟨av, cv, rfl⟩ := hr.slice
    by_cases hlong : 65536 < l.length + m.length
    · have HR : Hid (penAdd l 0 m = (l, 3)) := Lib.hid (by unfold penAdd; rw [if_neg (by simp), if_pos hlong])
      have HF : Hid (Wrote 117 w (w.setCell ⟨b, 1, none⟩ (.int .i64 3)) b g (l, 3)) := by
        have hc := (Chg.refl (b :: g.toList) w).setCell (p := ⟨b, 1, none⟩) (.inl (by simp)) (.int .i64 3)
        exact ⟨g, ⟨_, set_blk hb, hr.keep (fun k hk => Below.heap_setCell w _ _ k (fun e => hne (by rw [← hg, hk, e]))), hg, hne, hl⟩, .inl rfl, hc⟩
      have h3 : (65536 : Int) < (l.length : Int) + (m.length : Int) := by omega
      rw [HR.out]
      clear hb hr hm hg
      go_enter Tryz.func99, Tryz.ntmps99
      go_wp2
      go_end0
      exact ⟨rfl, HF.out⟩
    · have HR : Hid (penAdd l 0 m = (l ++ m, 0)) := Lib.hid (by unfold penAdd; rw [if_neg (by simp), if_neg hlong])
      have h3 : ¬ ((65536 : Int) < (l.length : Int) + (m.length : Int)) := by omega
      have HRow := Lib.hid hr
      have HB := Lib.hid hb
      have HG := Lib.hid hg
      have HM := Lib.hid hm
      rw [HR.out]
      clear hb hr hm hg
      go_enter Tryz.func99, Tryz.ntmps99
      go_wp2_with (at_builtin; refine wpList_appB rfl _ _ rfl _ l rfl HRow.out _ m rfl HM.out (by omega) ?_; intro v1 w1 ho1 hg1 hat1
                   obtain ⟨HF, d0, e0, a1, c1, rfl⟩ := PenAt.app HB.out HG.out hne hlong ho1 hg1 hat1
                   clear ho1 hg1 hat1)
      go_end0
      exact ⟨rfl, HF.out⟩
  · have HR : Hid (penAdd l bad m = (l, bad)) := Lib.hid (by unfold penAdd; rw [if_pos hbad])
    have q2 : (bad == 0) = false := by simp [hbad]
    rw [HR.out]
    clear hb hr hbad hm hg
    go_enter Tryz.func99, Tryz.ntmps99
    go_wp2
    go_end0
    exact ⟨rfl, Wrote.same hP.out⟩
end Go.Proofs.YtdkhmfcfihbjeaaGreatDoor.W

/- The pens' Num. -/
namespace Go.Proofs.YtdkhmfcfihbjeaaGreatDoor.W
open Go.RowKit
set_option linter.unusedVariables false
set_option linter.unusedSimpArgs false

theorem pow_wrap (n : Nat) (h : n ≤ 7) : ∃ M : Nat, M = 256 ^ n ∧ wrap64 ((2 : Int) ^ (8 * n)) = (M : Int) := by
  have hp : (256 : Nat) ^ n = 2 ^ (8 * n) := by rw [show (256 : Nat) = 2 ^ 8 from rfl, ← Nat.pow_mul]
  have hle : (2 : Nat) ^ (8 * n) ≤ 2 ^ 56 := Nat.pow_le_pow_right (by omega) (by omega)
  refine ⟨_, rfl, ?_⟩
  rw [hp]
  have : ((2 : Int) ^ (8 * n)) = ((2 ^ (8 * n) : Nat) : Int) := by push_cast; rfl
  rw [this]
  generalize (2 : Nat) ^ (8 * n) = z at *
  rw [wrap64]
  omega
theorem byte_of (x k : Nat) : bv (UInt8.ofNat (x / 256 ^ k)) = .int .u8 ((x : Int) / 2 ^ (8 * k) % 256) := by
  unfold bv
  rw [UInt8.toNat_ofNat', show (256 : Nat) ^ k = 2 ^ (8 * k) by rw [show (256 : Nat) = 2 ^ 8 from rfl, ← Nat.pow_mul]]
  congr 1
theorem one_byte (w : World) (c : UInt8) (v : Value) (hv : bv c = v) : BytesAt (w.alloc (.cells #[v] 5)) (.slice (some ⟨w.heap.size, 0, none⟩) 1 1) [c] := by
  refine ⟨_, 1, rfl, by simp, by unfold maxLen; omega, .inr ⟨_, 0, rfl, fun i hi => ?_⟩⟩
  have : i = 0 := by simpa using hi
  subst this
  have h := blk_cell (heap_alloc_new w (.cells #[v] 5)) 0 v rfl
  rw [hv.symm] at h
  rw [← hv]
  exact h
theorem Wrote.before {t : TypeId} {w0 w w' : World} {b : Nat} {g : Option Nat} {r : List UInt8 × Int} (h : Wrote t w w' b g r) (hc : Chg [] w0 w) : Wrote t w0 w' b g r := by
  obtain ⟨g', h1, h2, h3⟩ := h
  refine ⟨g', h1, ?_, (hc.mono (by simp)).trans h3 (fun x hx => .inl hx)⟩
  rcases h2 with h2 | ⟨k, h2, h4⟩
  · exact .inl h2
  · exact .inr ⟨k, h2, Nat.le_trans hc.size h4⟩

set_option maxHeartbeats 4000000 in
set_option maxRecDepth 100000 in
/-- Num. -/
theorem pnum_ok (b : Nat) (g : Option Nat) (l : List UInt8) (bad : Int) (x n : Nat) (w : World) (h : PenAt 110 w b g l bad) (h1 : 1 ≤ n) (h7 : n ≤ 7) (hx : x < 256 ^ n) :
    Calls Tryz.prog 45 #[.pointer (some ⟨b, 0, none⟩), .int .i64 x, .int .i64 n] w fun e w' => e = .returned (.tuple #[]) ∧ Wrote 110 w w' b g (penAdd l bad (beBytes n x)) := by
  have HP := Lib.hid h
  have hbl := h.lt.1
  have hp : (256 : Nat) ^ n = 2 ^ (8 * n) := by rw [show (256 : Nat) = 2 ^ 8 from rfl, ← Nat.pow_mul]
  have hq : (((x : Int) / 2 ^ (8 * n)) != 0) = false := by
    rw [bne_eq_false_iff_eq]
    have : x / 2 ^ (8 * n) = 0 := Nat.div_eq_of_lt (by rw [← hp]; exact hx)
    exact_mod_cast this
  have hx0 : (0 : Int) ≤ (x : Int) := by omega
  have HX := Lib.hid hx
  clear h hp hx
  go_enter Tryz.func45, Tryz.ntmps45
  go_wp2_with (go_at_call 97; refine (wmay_yes _ _ (by omega) (by omega)).mono ?_; rintro e w' ⟨rfl, rfl⟩)
  go_loopg [6, 7] n (fun g' s6 s7 wr => ∃ (m : Nat) (o : List UInt8), s7 = .int .i64 ((m : Int) - 1) ∧ m ≤ n ∧ m ≤ g' ∧ Hid (BRow wr s6 o) ∧ Hid (o ++ beBytes m x = beBytes n x) ∧ Chg [] w wr ∧ (∀ k, s6.ownBlock = some k → w.heap.size ≤ k) ∧ o.length + m ≤ 10)
  case atStart => exact ⟨n, [], rfl, by omega, by omega, BRow.nil _, Lib.hid (List.nil_append _), Chg.refl _ _, by simp [Value.ownBlock], by simp; omega⟩
  case round =>
    obtain ⟨m, o, rfl, hm, hmg, HR, HE, hc, hfr, hol⟩ := hrel
    have HC := Lib.hid hc
    have HF := Lib.hid hfr
    have hws := hc.size
    clear hc hfr
    cases m with
    | zero =>
      obtain ⟨a6, c6, rfl⟩ := HR.out.slice
      have ho : o = beBytes n x := by simpa [beBytes] using HE.out
      have CP := Lib.hid (put_any b g l bad a6 c6 o wr (HP.out.keep HC.out (by simp) (by simp)) HR.out.bytes (by omega))
      rw [ho] at CP
      have HO := Lib.hid ho
      have h00 : ((0 : Nat) : Int) - 1 = -1 := by omega
      rw [← ho] at CP
      clear ho
      go_wp2_with fail
      refine CP.out.mono ?_
      rintro e w2 ⟨rfl, HW⟩
      have HW2 := Lib.hid HW
      clear HW
      go_wp2
      go_end0
      rw [← HO.out]
      refine ⟨rfl, Wrote.before HW2.out HC.out⟩
    | succ k =>
      rw [show (((k + 1 : Nat) : Int) - 1) = (k : Int) from by omega]
      have hk0 : (0 : Int) ≤ (k : Int) := by omega
      have hv : bv (UInt8.ofNat (x / 256 ^ k)) = .int .u8 ((x : Int) / 2 ^ (8 * k) % 256) := byte_of x k
      have HB := Lib.hid (one_byte wr _ _ hv)
      have HE2 : Hid ((o ++ [UInt8.ofNat (x / 256 ^ k)]) ++ beBytes k x = beBytes n x) := Lib.hid (by rw [List.append_assoc]; exact HE.out)
      have HR2 := Lib.hid (HR.out.keep (w' := wr.alloc (.cells #[.int .u8 ((x : Int) / 2 ^ (8 * k) % 256)] 5)) (fun g hg => heap_alloc_old wr _ (HR.out.lt g hg)))
      clear hv
      go_wp2_with (at_builtin; refine wpList_appB rfl _ _ rfl _ o rfl HR2.out _ _ rfl HB.out (by simp; omega) ?_; intro v1 w1 ho1 hg1 hat1)
      go_roundg (gk - 1)
      case measure => omega
      case rel =>
        refine ⟨k, _, rfl, by omega, by omega, ho1, HE2.out, (HC.out.alloc _).grown hg1 (fun q hq => .inr (HF.out q hq)), ?_, by simp; omega⟩
        intro q hq
        rcases hat1 with h | h
        · exact HF.out q (h.symm.trans hq)
        · have : wr.heap.size + 1 = q := by
            have := h.symm.trans hq
            simpa using this
          omega

set_option maxHeartbeats 4000000 in
set_option maxRecDepth 100000 in
theorem pnum_bad (b : Nat) (g : Option Nat) (l : List UInt8) (bad : Int) (x : Int) (n : Nat) (w : World) (h : PenAt 110 w b g l bad) (h1 : 1 ≤ n) (h7 : n ≤ 7) (hx : x < 0 ∨ ((256 ^ n : Nat) : Int) ≤ x) :
    Calls Tryz.prog 45 #[.pointer (some ⟨b, 0, none⟩), .int .i64 x, .int .i64 n] w fun e w' => e = .returned (.tuple #[]) ∧ Wrote 110 w w' b g (l, if bad ≠ 0 then bad else 1) := by
  have CP := Lib.hid (put_err b g l bad 1 (.slice none 0 0) w h (by omega))
  generalize (if bad ≠ 0 then bad else (1 : Int)) = x1 at *
  clear h
  by_cases h0 : x < 0
  · clear hx
    go_enter Tryz.func45, Tryz.ntmps45
    go_wp2_with (go_at_call 97; refine (wmay_yes _ _ (by omega) (by omega)).mono ?_; rintro e w' ⟨rfl, rfl⟩)
    refine CP.out.mono ?_
    rintro e w2 ⟨rfl, HW⟩
    have HW2 := Lib.hid HW
    clear HW
    go_wp2
    refine bodyPost_ret (results_none rfl _ _ _) rfl ?_
    exact ⟨rfl, HW2.out⟩
  · have hp : (256 : Nat) ^ n = 2 ^ (8 * n) := by rw [show (256 : Nat) = 2 ^ 8 from rfl, ← Nat.pow_mul]
    obtain ⟨y, rfl⟩ := Int.eq_ofNat_of_zero_le (show 0 ≤ x by omega)
    have hy : 256 ^ n ≤ y := by omega
    have hq : (((y : Int) / 2 ^ (8 * n)) != 0) = true := by
      rw [bne_iff_ne]
      intro e
      have e' : y / 2 ^ (8 * n) = 0 := by exact_mod_cast e
      rw [Nat.div_eq_zero_iff] at e'
      have := Nat.two_pow_pos (8 * n)
      omega
    clear hp hx hy
    go_enter Tryz.func45, Tryz.ntmps45
    go_wp2_with (go_at_call 97; refine (wmay_yes _ _ (by omega) (by omega)).mono ?_; rintro e w' ⟨rfl, rfl⟩)
    refine CP.out.mono ?_
    rintro e w2 ⟨rfl, HW⟩
    have HW2 := Lib.hid HW
    clear HW
    go_wp2
    refine bodyPost_ret (results_none rfl _ _ _) rfl ?_
    exact ⟨rfl, HW2.out⟩

/-- Num. -/
theorem pnum_any (b : Nat) (g : Option Nat) (l : List UInt8) (bad : Int) (x width : Int) (w : World) (h : PenAt 110 w b g l bad) (h1 : 1 ≤ width) (h7 : width ≤ 7) :
    Calls Tryz.prog 45 #[.pointer (some ⟨b, 0, none⟩), .int .i64 x, .int .i64 width] w fun e w' => e = .returned (.tuple #[]) ∧ Wrote 110 w w' b g (penNum l bad x width.toNat) := by
  obtain ⟨n, rfl⟩ := Int.eq_ofNat_of_zero_le (show 0 ≤ width by omega)
  rw [Int.toNat_natCast]
  by_cases hx : x < 0 ∨ ((256 ^ n : Nat) : Int) ≤ x
  · have e : penNum l bad x n = (l, if bad ≠ 0 then bad else 1) := by
      unfold penNum
      rw [if_pos hx]
      split <;> rfl
    rw [e]
    exact pnum_bad b g l bad x n w h (by omega) (by omega) hx
  · obtain ⟨y, rfl⟩ := Int.eq_ofNat_of_zero_le (show 0 ≤ x by omega)
    have e : penNum l bad y n = penAdd l bad (beBytes n y) := by
      unfold penNum
      rw [if_neg hx, Int.toNat_natCast]
      split
      · unfold penAdd; rw [if_pos (by assumption)]
      · rfl
    rw [e]
    exact pnum_ok b g l bad y n w h (by omega) (by omega) (by omega)

set_option maxHeartbeats 4000000 in
set_option maxRecDepth 100000 in
/-- The reference's Num. -/
theorem rpnum_ok (b : Nat) (g : Option Nat) (l : List UInt8) (x n : Nat) (w : World) (h : PenAt 117 w b g l 0) (h1 : 1 ≤ n) (h7 : n ≤ 7) (hx : x < 256 ^ n) :
    Calls Tryz.prog 49 #[.pointer (some ⟨b, 0, none⟩), .int .i64 x, .int .i64 n] w fun e w' => e = .returned (.tuple #[]) ∧ Wrote 117 w w' b g (penAdd l 0 (beBytes n x)) := by
  have HP := Lib.hid h
  have hbl := h.lt.1
  obtain ⟨v, hb, _⟩ := h
  have b1 := blk_cell hb 1 _ rfl
  have hx0 : (0 : Int) ≤ (x : Int) := by omega
  have q1 : decide ((n : Int) < 1) = false := by simp; omega
  have q7 : decide ((7 : Int) < (n : Int)) = false := by simp; omega
  have q0 : decide ((x : Int) < 0) = false := by simp
  obtain ⟨M, hM, hw⟩ := pow_wrap n h7
  have hlt : (x : Int) < (M : Int) := by omega
  have hlt' : ¬ ((M : Int) ≤ (x : Int)) := by omega
  have f1 := blk_frozen hb 1
  clear hb hx hM
  go_enter Tryz.func49, Tryz.ntmps49
  go_wp2_with fail
  go_loopg [6, 7] n (fun g' s6 s7 wr => ∃ (m : Nat) (o : List UInt8), s7 = .int .i64 ((m : Int) - 1) ∧ m ≤ n ∧ m ≤ g' ∧ Hid (BRow wr s6 o) ∧ Hid (o ++ beBytes m x = beBytes n x) ∧ Chg [] w wr ∧ (∀ k, s6.ownBlock = some k → w.heap.size ≤ k) ∧ o.length + m ≤ 10)
  case atStart => exact ⟨n, [], rfl, by omega, by omega, BRow.nil _, Lib.hid (List.nil_append _), Chg.refl _ _, by simp [Value.ownBlock], by simp; omega⟩
  case round =>
    obtain ⟨m, o, rfl, hm, hmg, HR, HE, hc, hfr, hol⟩ := hrel
    have HC := Lib.hid hc
    have HF := Lib.hid hfr
    have hws := hc.size
    clear hc hfr
    cases m with
    | zero =>
      obtain ⟨a6, c6, rfl⟩ := HR.out.slice
      have ho : o = beBytes n x := by simpa [beBytes] using HE.out
      have CP := Lib.hid (radd_any b g l 0 a6 c6 o wr (HP.out.keep HC.out (by simp) (by simp)) HR.out.bytes (by omega))
      rw [ho] at CP
      have HO := Lib.hid ho
      have h00 : ((0 : Nat) : Int) - 1 = -1 := by omega
      rw [← ho] at CP
      clear ho
      go_wp2_with fail
      refine CP.out.mono ?_
      rintro e w2 ⟨rfl, HW⟩
      have HW2 := Lib.hid HW
      clear HW
      go_wp2
      go_end0
      rw [← HO.out]
      refine ⟨rfl, Wrote.before HW2.out HC.out⟩
    | succ k =>
      rw [show (((k + 1 : Nat) : Int) - 1) = (k : Int) from by omega]
      have hk0 : (0 : Int) ≤ (k : Int) := by omega
      have hv : bv (UInt8.ofNat (x / 256 ^ k)) = .int .u8 ((x : Int) / 2 ^ (8 * k) % 256) := byte_of x k
      have HB := Lib.hid (one_byte wr _ _ hv)
      have HE2 : Hid ((o ++ [UInt8.ofNat (x / 256 ^ k)]) ++ beBytes k x = beBytes n x) := Lib.hid (by rw [List.append_assoc]; exact HE.out)
      have HR2 := Lib.hid (HR.out.keep (w' := wr.alloc (.cells #[.int .u8 ((x : Int) / 2 ^ (8 * k) % 256)] 5)) (fun g hg => heap_alloc_old wr _ (HR.out.lt g hg)))
      clear hv
      go_wp2_with (at_builtin; refine wpList_appB rfl _ _ rfl _ o rfl HR2.out _ _ rfl HB.out (by simp; omega) ?_; intro v1 w1 ho1 hg1 hat1)
      go_roundg (gk - 1)
      case measure => omega
      case rel =>
        refine ⟨k, _, rfl, by omega, by omega, ho1, HE2.out, (HC.out.alloc _).grown hg1 (fun q hq => .inr (HF.out q hq)), ?_, by simp; omega⟩
        intro q hq
        rcases hat1 with h | h
        · exact HF.out q (h.symm.trans hq)
        · have : wr.heap.size + 1 = q := by
            have := h.symm.trans hq
            simpa using this
          omega

set_option maxHeartbeats 4000000 in
set_option maxRecDepth 100000 in
theorem rpnum_bad (b : Nat) (g : Option Nat) (l : List UInt8) (bad : Int) (x : Int) (n : Nat) (w : World) (h : PenAt 117 w b g l bad) (h1 : 1 ≤ n) (h7 : n ≤ 7) (hx : bad ≠ 0 ∨ x < 0 ∨ ((256 ^ n : Nat) : Int) ≤ x) :
    Calls Tryz.prog 49 #[.pointer (some ⟨b, 0, none⟩), .int .i64 x, .int .i64 n] w fun e w' => e = .returned (.tuple #[]) ∧ Wrote 117 w w' b g (l, if bad ≠ 0 then bad else 1) := by
  have hP := Lib.hid h
  obtain ⟨v, hb, hr, hg, hne, hl⟩ := h
  have b1 := blk_cell hb 1 _ rfl
  have f1 := blk_frozen hb 1
  have hbl := blk_lt hb
  by_cases hbad : bad = 0
  · subst hbad
    have HF : Hid (Wrote 117 w (w.setCell ⟨b, 1, none⟩ (.int .i64 1)) b g (l, 1)) := by
      have hc := (Chg.refl (b :: g.toList) w).setCell (p := ⟨b, 1, none⟩) (.inl (by simp)) (.int .i64 1)
      exact ⟨g, ⟨_, set_blk hb, hr.keep (fun k hk => Below.heap_setCell w _ _ k (fun e => hne (by rw [← hg, hk, e]))), hg, hne, hl⟩, .inl rfl, hc⟩
    rw [if_neg (by simp)]
    have q1 : decide ((n : Int) < 1) = false := by simp; omega
    have q7 : decide ((7 : Int) < (n : Int)) = false := by simp; omega
    obtain ⟨M, hM, hw⟩ := pow_wrap n h7
    rw [← hM] at hx
    have hx2 : x < 0 ∨ (M : Int) ≤ x := by
      rcases hx with h | h
      · exact absurd rfl h
      · exact h
    clear hb hr hM hx hg
    by_cases h0 : x < 0
    · have q0 : decide (x < 0) = true := by simpa using h0
      clear hx2
      go_enter Tryz.func49, Tryz.ntmps49
      go_wp2_with fail
      refine bodyPost_ret (results_none rfl _ _ _) rfl ?_
      exact ⟨rfl, HF.out⟩
    · have q0 : decide (x < 0) = false := by simpa using h0
      have hlt : (M : Int) ≤ x := by omega
      clear hx2
      go_enter Tryz.func49, Tryz.ntmps49
      go_wp2_with fail
      refine bodyPost_ret (results_none rfl _ _ _) rfl ?_
      exact ⟨rfl, HF.out⟩
  · rw [if_pos hbad]
    have q1 : (bad == 0) = false := by simp [hbad]
    have q2 : (bad != 0) = true := by simp [hbad]
    clear hb hr hbad hg hx
    go_enter Tryz.func49, Tryz.ntmps49
    go_wp2_with fail
    refine bodyPost_ret (results_none rfl _ _ _) rfl ?_
    exact ⟨rfl, Wrote.same hP.out⟩

/-- The reference's Num. -/
theorem rpnum_any (b : Nat) (g : Option Nat) (l : List UInt8) (bad : Int) (x width : Int) (w : World) (h : PenAt 117 w b g l bad) (h1 : 1 ≤ width) (h7 : width ≤ 7) :
    Calls Tryz.prog 49 #[.pointer (some ⟨b, 0, none⟩), .int .i64 x, .int .i64 width] w fun e w' => e = .returned (.tuple #[]) ∧ Wrote 117 w w' b g (penNum l bad x width.toNat) := by
  obtain ⟨n, rfl⟩ := Int.eq_ofNat_of_zero_le (show 0 ≤ width by omega)
  rw [Int.toNat_natCast]
  by_cases hx : bad ≠ 0 ∨ x < 0 ∨ ((256 ^ n : Nat) : Int) ≤ x
  · have e : penNum l bad x n = (l, if bad ≠ 0 then bad else 1) := by
      unfold penNum
      by_cases hb : bad ≠ 0
      · rw [if_pos hb, if_pos hb]
      · rw [if_neg hb, if_neg hb, if_pos (by rcases hx with h | h; exact absurd h hb; exact h)]
    rw [e]
    exact rpnum_bad b g l bad x n w h (by omega) (by omega) hx
  · obtain ⟨y, rfl⟩ := Int.eq_ofNat_of_zero_le (show 0 ≤ x by omega)
    obtain rfl : bad = 0 := by omega
    have e : penNum l 0 y n = penAdd l 0 (beBytes n y) := by
      unfold penNum
      rw [if_neg (by simp), if_neg (by omega), Int.toNat_natCast]
    rw [e]
    exact rpnum_ok b g l y n w h (by omega) (by omega) (by omega)

set_option maxHeartbeats 4000000 in
set_option maxRecDepth 100000 in
/-- Bytes, of a pen that has not failed. -/
theorem pbytes_any (b : Nat) (g : Option Nat) (l : List UInt8) (w : World) (h : PenAt 110 w b g l 0) :
    Calls Tryz.prog 48 #[.pointer (some ⟨b, 0, none⟩)] w fun e w' => ∃ v', e = .returned (.tuple #[v', .int .i64 0]) ∧ BRow w' v' l ∧ (∀ g, v'.ownBlock = some g → w.heap.size ≤ g) ∧ Chg [] w w' := by
  obtain ⟨v, hb, hr, hg, hne, hl⟩ := h
  obtain ⟨av, cv, rfl⟩ := hr.slice
  have b0 := blk_cell hb 0 _ rfl
  have b1 := blk_cell hb 1 _ rfl
  have CC := Lib.hid (clone_any _ l w hr.bytes (by omega))
  clear hb hr hg
  go_enter Tryz.func48, Tryz.ntmps48
  go_wp2_with fail
  refine CC.out.mono ?_
  rintro e w1 ⟨v1, rfl, h1, h2, h3⟩
  have H := Lib.hid (And.intro h1 (And.intro h2 h3))
  clear h1 h2 h3
  go_wp2
  go_ret2
  exact ⟨_, rfl, H.out⟩
end Go.Proofs.YtdkhmfcfihbjeaaGreatDoor.W

/- The reference's Copy. -/
namespace Go.Proofs.YtdkhmfcfihbjeaaGreatDoor.W
open Go.RowKit
set_option linter.unusedVariables false
set_option linter.unusedSimpArgs false

end Go.Proofs.YtdkhmfcfihbjeaaGreatDoor.W

/- The pens' Raw. -/
namespace Go.Proofs.YtdkhmfcfihbjeaaGreatDoor.W
open Go.RowKit
set_option linter.unusedVariables false
set_option linter.unusedSimpArgs false

/-- Raw of a pen. -/
def penRaw (l : List UInt8) (bad : Int) (m : List UInt8) : List UInt8 × Int :=
  if bad ≠ 0 then (l, bad) else if 65535 < m.length then (l, 3) else penAdd l bad (beBytes 2 m.length ++ m)

theorem two_row (w : World) (a b : UInt8) (va vb : Value) (ha : bv a = va) (hb : bv b = vb) : BRow (w.alloc (.cells #[va, vb] 5)) (.slice (some ⟨w.heap.size, 0, none⟩) 2 2) [a, b] := by
  refine ⟨by simp [bvs], .inr ⟨w.heap.size, 2, #[va, vb], rfl, Nat.zero_le _, heap_alloc_new w _, by simp, by unfold maxLen; omega, rfl, ?_⟩⟩
  simp [bvs, ha, hb]

set_option maxHeartbeats 4000000 in
set_option maxRecDepth 100000 in
theorem praw_any (b : Nat) (g : Option Nat) (l : List UInt8) (bad : Int) (v : Value) (m : List UInt8) (w : World) (h : PenAt 110 w b g l bad) (hm : BytesAt w v m) (hml : m.length ≤ 900000) :
    Calls Tryz.prog 47 #[.pointer (some ⟨b, 0, none⟩), v] w fun e w' => e = .returned (.tuple #[]) ∧ Wrote 110 w w' b g (penRaw l bad m) := by
  obtain ⟨a, cap, rfl, h1, h2, h3⟩ := hm
  have HM := Lib.hid (show BytesAt w (.slice a m.length cap) m from ⟨a, cap, rfl, h1, h2, h3⟩)
  have HP := Lib.hid h
  have hbl := h.lt.1
  by_cases hlong : 65535 < m.length
  · have HR : Hid (penRaw l bad m = (l, if bad ≠ 0 then bad else 3)) := Lib.hid (by
      unfold penRaw
      by_cases hb : bad = 0
      · rw [if_neg (by simp [hb]), if_pos hlong, if_neg (by simp [hb])]
      · rw [if_pos hb, if_pos hb])
    have CP := Lib.hid (put_err b g l bad 3 (.slice none 0 0) w h (by omega))
    rw [HR.out]
    generalize (if bad ≠ 0 then bad else (3 : Int)) = x1 at *
    have hlz : (65535 : Int) < (m.length : Int) := by omega
    clear h h3
    go_enter Tryz.func47, Tryz.ntmps47
    go_wp2_with fail
    refine CP.out.mono ?_
    rintro e w2 ⟨rfl, HW⟩
    have HW2 := Lib.hid HW
    clear HW
    go_wp2
    refine bodyPost_ret (results_none rfl _ _ _) rfl ?_
    exact ⟨rfl, HW2.out⟩
  · have hlz : ¬ (65535 : Int) < (m.length : Int) := by omega
    obtain ⟨n, hn⟩ : ∃ n, n = m.length := ⟨_, rfl⟩
    have hv1 : bv (UInt8.ofNat (n / 256)) = .int .u8 ((n : Int) / 256) := by
      have h0 := byte_of n 1
      rw [show ((n : Int) / 2 ^ (8 * 1) % 256) = (n : Int) / 256 by omega] at h0
      simpa using h0
    have hv2 : bv (UInt8.ofNat n) = .int .u8 ((n : Int) % 256) := by
      have := byte_of n 0
      simpa using this
    have hbe : beBytes 2 n = [UInt8.ofNat (n / 256), UInt8.ofNat n] := by simp [beBytes]
    obtain ⟨w1, hw1⟩ : ∃ w1, w1 = w.alloc (.cells #[.int .u8 ((n : Int) / 256), .int .u8 ((n : Int) % 256)] 5) := ⟨_, rfl⟩
    have hc1 : Chg [] w w1 := by rw [hw1]; exact (Chg.refl _ _).alloc _
    have HT : Hid (BRow w1 (.slice (some ⟨w.heap.size, 0, none⟩) 2 2) (beBytes 2 n)) := Lib.hid (by rw [hw1, hbe]; exact two_row w _ _ _ _ hv1 hv2)
    have HM1 : Hid (BytesAt w1 (.slice a m.length cap) m) := Lib.hid (by
      refine ⟨a, cap, rfl, h1, h2, ?_⟩
      rcases h3 with h3 | ⟨g, o, e, hcell⟩
      · exact .inl h3
      · exact .inr ⟨g, o, e, fun i hi => hc1.cell (hcell i hi) (by simp)⟩)
    have HW1 := Lib.hid hw1
    have HC1 := Lib.hid hc1
    have HN := Lib.hid hn
    have hlb : Hid ((beBytes 2 n).length = 2) := Lib.hid (by rw [beBytes_len])
    have HR : Hid (penRaw l bad m = penAdd l bad (beBytes 2 n ++ m)) := Lib.hid (by
      unfold penRaw
      by_cases hb : bad = 0
      · rw [if_neg (by simp [hb]), if_neg hlong, hn]
      · rw [if_pos hb]; unfold penAdd; rw [if_pos hb])
    have hsz : Hid ((beBytes 2 n).length + m.length ≤ 140737488355328) := Lib.hid (by rw [beBytes_len]; omega)
    rw [HR.out]
    rw [← hn] at hlz h1
    have hn0 : (0 : Int) ≤ (n : Int) := by omega
    have hn1 : (n : Int) ≤ 65535 := by omega
    rw [← hn]
    clear h h3 hw1 hc1 hv1 hv2 hbe hn
    go_enter Tryz.func47, Tryz.ntmps47
    go_wp2_with (at_builtin; rw [← HW1.out]; refine wpList_appB rfl (.tmp 17) (.tmp 18) rfl (.slice (some ⟨w.heap.size, 0, none⟩) 2 2) (beBytes 2 n) rfl HT.out _ m (by rw [← HN.out]; rfl) HM1.out hsz.out ?_; intro v1 w2 ho1 hg1 hat1)
    have hc2 : Chg [] w w2 := HC1.out.grown hg1 (fun k hk => .inr (by
      have : w.heap.size = k := by simpa [Value.ownBlock] using hk
      omega))
    have hl12 : (beBytes 2 n ++ m).length = 2 + m.length := by rw [List.length_append, hlb.out]
    obtain ⟨a1, c1, he1, _⟩ := ho1.bytes
    have CP := Lib.hid (put_any b g l bad a1 c1 (beBytes 2 n ++ m) w2 (HP.out.keep hc2 (by simp) (by simp)) (by rw [← he1]; exact ho1.bytes) (by rw [hl12]; omega))
    rw [← he1] at CP
    have HC2 := Lib.hid hc2
    clear ho1 hg1 hat1 he1 hc2 hl12
    refine CP.out.mono ?_
    rintro e w3 ⟨rfl, HW⟩
    have HW3 := Lib.hid (Wrote.before HW HC2.out)
    clear HW CP
    go_wp2
    go_end0
    exact ⟨rfl, HW3.out⟩

theorem Wrote.glue {t : TypeId} {w w1 w2 : World} {b : Nat} {g g1 : Option Nat} {r : List UInt8 × Int} (hg : g1 = g ∨ ∃ k, g1 = some k ∧ w.heap.size ≤ k) (hc : Chg (b :: g.toList) w w1) (h : Wrote t w1 w2 b g1 r) : Wrote t w w2 b g r := by
  obtain ⟨g2, hp2, hg2, hc2⟩ := h
  refine ⟨g2, hp2, ?_, hc.trans hc2 ?_⟩
  · rcases hg2 with rfl | ⟨k, rfl, hk⟩
    · exact hg
    · exact .inr ⟨k, rfl, Nat.le_trans hc.size hk⟩
  · intro x hx
    rcases List.mem_cons.1 hx with rfl | hx
    · exact .inl (List.mem_cons_self ..)
    · rcases hg with rfl | ⟨k, rfl, hk⟩
      · exact .inl (List.mem_cons_of_mem _ hx)
      · obtain rfl : x = k := by simpa using hx
        exact .inr hk
end Go.Proofs.YtdkhmfcfihbjeaaGreatDoor.W

/- Slots, plainly. -/
namespace Go.Proofs.YtdkhmfcfihbjeaaGreatDoor.W
set_option linter.unusedVariables false
set_option linter.unusedSimpArgs false

/-- How many sectors so many bytes need. -/
def nsec (n : Nat) : Nat := (n + 63) / 64
/-- The sector k of bytes that are laid: noughts behind the end. -/
def secAt (b : List UInt8) (k : Nat) : List UInt8 := (b.drop (k * 64)).take 64 ++ zeros (64 - ((b.drop (k * 64)).take 64).length)
theorem secAt_len (b : List UInt8) (k : Nat) : (secAt b k).length = 64 := by
  unfold secAt zeros
  rw [List.length_append, List.length_replicate, List.length_take]
  omega
/-- Laying the sectors j .. m-1 of b from sector 'at' on, then a sync. -/
def DS.lay (d : DS) (pos : Nat) (b : List UInt8) : Nat → Nat → Int × DS
  | 0, _ => d.sync
  | k + 1, j => if (d.write (pos + j : Nat) (secAt b j)).1 ≠ 0 then d.write (pos + j : Nat) (secAt b j) else (d.write (pos + j : Nat) (secAt b j)).2.lay pos b k (j + 1)
def DS.lays (d : DS) (pos : Nat) (b : List UInt8) : Int × DS := d.lay pos b (nsec b.length) 0

structure SS where
  d : DS
  first : Nat
  rows : List SRow
def SS.has (s : SS) (i : Int) : Prop := 0 ≤ i ∧ i < s.rows.length
instance (s : SS) (i : Int) : Decidable (s.has i) := inferInstanceAs (Decidable (_ ∧ _))
def SS.row (s : SS) (i : Int) : SRow := s.rows.getD i.toNat noRow
def SS.used (s : SS) (i : Int) : Bool := decide (s.has i) && (s.row i).used
def SS.key (s : SS) (i : Int) : List UInt8 := if s.used i then (s.row i).key else []
def SS.pos (s : SS) (i : Int) : Nat := s.first + 8 * i.toNat
/-- What a slot holds. -/
def SS.data (s : SS) (i : Int) : List UInt8 := (flat (nsec (s.row i).n) (fun k => s.d.now (s.pos i + 1 + k))).take (s.row i).n
def SS.get (s : SS) (i : Int) : List UInt8 × Int :=
  if ¬ s.has i then ([], 1) else if (s.row i).used = false then ([], 6) else if s.d.dead then ([], 14) else (s.data i, 0)
/-- The bytes of a head. -/
def headBytes (n : Nat) (key : List UInt8) : List UInt8 := (penRaw (penNum (penNum [] 0 1 1).1 (penNum [] 0 1 1).2 n 2).1 (penNum (penNum [] 0 1 1).1 (penNum [] 0 1 1).2 n 2).2 key).1
def SS.put (s : SS) (i : Int) (key b : List UInt8) : Int × SS :=
  if ¬ s.has i then (1, s) else if 40 < key.length ∨ 448 < b.length then (3, s) else if (s.row i).used then (7, s) else
    if (s.d.lays (s.pos i + 1) b).1 ≠ 0 then ((s.d.lays (s.pos i + 1) b).1, { s with d := (s.d.lays (s.pos i + 1) b).2 }) else
    if ((s.d.lays (s.pos i + 1) b).2.lays (s.pos i) (headBytes b.length key)).1 ≠ 0 then (((s.d.lays (s.pos i + 1) b).2.lays (s.pos i) (headBytes b.length key)).1, { s with d := ((s.d.lays (s.pos i + 1) b).2.lays (s.pos i) (headBytes b.length key)).2 }) else
    (0, { s with d := ((s.d.lays (s.pos i + 1) b).2.lays (s.pos i) (headBytes b.length key)).2, rows := s.rows.set i.toNat ⟨true, b.length, key⟩ })
def SS.clear (s : SS) (i : Int) : Int × SS :=
  if ¬ s.has i then (1, s) else if (s.row i).used = false then (6, s) else
    if (s.d.lays (s.pos i) (zeros 64)).1 ≠ 0 then ((s.d.lays (s.pos i) (zeros 64)).1, { s with d := (s.d.lays (s.pos i) (zeros 64)).2 }) else
    (0, { s with d := (s.d.lays (s.pos i) (zeros 64)).2, rows := s.rows.set i.toNat noRow })
def rowFree : List SRow → Nat → Int
  | [], _ => -1
  | r :: rs, k => if r.used = false then (k : Int) else rowFree rs (k + 1)
def SS.free (s : SS) : Int := rowFree s.rows 0
/-- Slots that may be. -/
structure SS.Ok (s : SS) : Prop where
  room : s.first + 8 * s.rows.length ≤ s.d.n
  rows : ∀ r ∈ s.rows, r.n ≤ 448 ∧ r.key.length ≤ 40
end Go.Proofs.YtdkhmfcfihbjeaaGreatDoor.W

/- An object in memory: a block of fields, and rows of its own. -/
namespace Go.Proofs.YtdkhmfcfihbjeaaGreatDoor.W
open Go.RowKit
set_option linter.unusedVariables false
set_option linter.unusedSimpArgs false

/-- A row of an object's own. -/
structure RowD where
  e : TypeId
  size : Nat
  v : Value
  n : Nat
  xs : List Value
def RowD.At (w : World) (r : RowD) : Prop := w.ownsRow 0 r.e r.size r.v r.n r.xs
def blks (p : Nat) (rs : List RowD) : List Nat := p :: rs.filterMap (·.v.ownBlock)
structure ObjAt (w : World) (p t : Nat) (cs : Array Value) (rs : List RowD) : Prop where
  head : w.heap[p]? = some (.cells cs t (0, 0))
  rows : ∀ r ∈ rs, r.At w
  apart : (blks p rs).Nodup
theorem mem_blks {p k : Nat} {rs : List RowD} (h : k ∈ blks p rs) : k = p ∨ ∃ r ∈ rs, r.v.ownBlock = some k := by
  rcases List.mem_cons.1 h with h | h
  · exact .inl h
  · obtain ⟨r, hr, he⟩ := List.mem_filterMap.1 h
    exact .inr ⟨r, hr, he⟩
theorem blks_row {p k : Nat} {rs : List RowD} {r : RowD} (h : r ∈ rs) (hk : r.v.ownBlock = some k) : k ∈ blks p rs := List.mem_cons_of_mem _ (List.mem_filterMap.2 ⟨r, h, hk⟩)
theorem blks_head {p : Nat} {rs : List RowD} : p ∈ blks p rs := List.mem_cons_self ..
theorem ObjAt.lim {w : World} {p t : Nat} {cs : Array Value} {rs : List RowD} (h : ObjAt w p t cs rs) : ∀ x ∈ blks p rs, x < w.heap.size := fun x hx => by
  rcases mem_blks hx with rfl | ⟨r, hr, he⟩
  · exact blk_lt h.head
  · exact (World.ownsRow.lt (h.rows r hr) x he).2
theorem ObjAt.keep {w w' : World} {p t : Nat} {cs : Array Value} {rs : List RowD} {T : List Nat} (h : ObjAt w p t cs rs) (hc : Chg T w w') (ha : ∀ x ∈ blks p rs, x ∉ T) : ObjAt w' p t cs rs :=
  ⟨hc.keep h.head (ha p blks_head), fun r hr => row_keep (h.rows r hr) (fun g hg => hc.block g (World.ownsRow.lt (h.rows r hr) g hg).2 (ha g (blks_row hr hg))), h.apart⟩
theorem ObjAt.row_ne {w : World} {p t : Nat} {cs : Array Value} {rs : List RowD} (h : ObjAt w p t cs rs) {r : RowD} (hr : r ∈ rs) {k : Nat} (hk : r.v.ownBlock = some k) : k ≠ p := fun e => by
  have := (List.nodup_cons.1 h.apart).1
  exact this (List.mem_filterMap.2 ⟨r, hr, by rw [hk, e]⟩)
/-- A store into a field that is no row. -/
theorem ObjAt.setHead {w : World} {p t : Nat} {cs : Array Value} {rs : List RowD} (h : ObjAt w p t cs rs) (j : Nat) (u : Value) : ObjAt (w.setCell ⟨p, j, none⟩ u) p t (cs.setIfInBounds j u) rs :=
  ⟨set_blk h.head, fun r hr => row_keep (h.rows r hr) (fun g hg => Below.heap_setCell w ⟨p, j, none⟩ u g (h.row_ne hr hg)), h.apart⟩
/-- One row is another: its blocks are the old ones, but for one that may be new. -/
theorem row_swap {p : Nat} {a b : List RowD} {r r' : RowD} {N : Nat} (h : (blks p (a ++ r :: b)).Nodup) (hl : ∀ x ∈ blks p (a ++ r :: b), x < N) (hat : ∀ k, r'.v.ownBlock = some k → r.v.ownBlock = some k ∨ N ≤ k) :
    (blks p (a ++ r' :: b)).Nodup ∧ ∀ x ∈ blks p (a ++ r' :: b), x ∈ blks p (a ++ r :: b) ∨ N ≤ x := by
  have hmem : ∀ x ∈ blks p (a ++ r' :: b), x ∈ blks p (a ++ r :: b) ∨ N ≤ x := fun x hx => by
    rcases mem_blks hx with rfl | ⟨q, hq, he⟩
    · exact .inl blks_head
    · rcases List.mem_append.1 hq with hq | hq
      · exact .inl (blks_row (List.mem_append_left _ hq) he)
      · rcases List.mem_cons.1 hq with rfl | hq
        · rcases hat x he with h1 | h1
          · exact .inl (blks_row (List.mem_append_right _ (List.mem_cons_self ..)) h1)
          · exact .inr h1
        · exact .inl (blks_row (List.mem_append_right _ (List.mem_cons_of_mem _ hq)) he)
  refine ⟨?_, hmem⟩
  unfold blks at *
  rw [List.filterMap_append, List.filterMap_cons] at *
  cases hr : r'.v.ownBlock with
  | none =>
    simp only [hr]
    cases hr2 : r.v.ownBlock with
    | none => rw [hr2] at h; exact h
    | some k =>
      rw [hr2] at h
      refine h.sublist ?_
      exact (List.Sublist.append_left (List.sublist_cons_self _ _) _).cons_cons _
  | some k =>
    simp only [hr]
    rcases hat k hr with h1 | h1
    · rw [h1] at h; exact h
    · have hbase : (p :: (a.filterMap (·.v.ownBlock) ++ b.filterMap (·.v.ownBlock))).Nodup := by
        cases hr2 : r.v.ownBlock with
        | none => rw [hr2] at h; exact h
        | some k2 =>
          rw [hr2] at h
          exact h.sublist ((List.Sublist.append_left (List.sublist_cons_self _ _) _).cons_cons _)
      have hlt : ∀ x ∈ p :: (a.filterMap (·.v.ownBlock) ++ b.filterMap (·.v.ownBlock)), x < N := fun x hx => hl x (by
        rcases List.mem_cons.1 hx with rfl | hx
        · exact List.mem_cons_self ..
        · refine List.mem_cons_of_mem _ ?_
          rcases List.mem_append.1 hx with hx | hx
          · exact List.mem_append_left _ hx
          · refine List.mem_append_right _ ?_
            cases hr2 : r.v.ownBlock with
            | none => exact hx
            | some k2 => exact List.mem_cons_of_mem _ hx)
      have hk : k ∉ p :: (a.filterMap (·.v.ownBlock) ++ b.filterMap (·.v.ownBlock)) := fun hm => by have := hlt k hm; omega
      have hperm : (p :: (a.filterMap (·.v.ownBlock) ++ k :: b.filterMap (·.v.ownBlock))).Perm (k :: p :: (a.filterMap (·.v.ownBlock) ++ b.filterMap (·.v.ownBlock))) :=
        ((List.perm_middle).cons p).trans (List.Perm.swap k p _)
      exact hperm.nodup_iff.2 (List.nodup_cons.2 ⟨hk, hbase⟩)
/-- A row grows, or is set. -/
theorem ObjAt.grow {w w2 : World} {p t : Nat} {cs : Array Value} {a b : List RowD} {r r' : RowD} (h : ObjAt w p t cs (a ++ r :: b)) (hg : w.grownBy w2 r.v.ownBlock) (hrow : r'.At w2)
    (hat : ∀ k, r'.v.ownBlock = some k → r.v.ownBlock = some k ∨ w.heap.size ≤ k) : ObjAt w2 p t cs (a ++ r' :: b) ∧ (∀ x ∈ blks p (a ++ r' :: b), x ∈ blks p (a ++ r :: b) ∨ w.heap.size ≤ x) ∧ Chg (blks p (a ++ r :: b)) w w2 := by
  have hmr : r ∈ a ++ r :: b := List.mem_append_right _ (List.mem_cons_self ..)
  obtain ⟨h1, h2⟩ := row_swap (r' := r') h.apart h.lim hat
  have hc : Chg r.v.ownBlock.toList w w2 := (Chg.refl _ w).grown hg (fun k hk => .inl (by rw [hk]; simp))
  refine ⟨⟨hc.keep h.head ?_, fun q hq => ?_, h1⟩, h2, hc.mono (fun x hx => .inl (blks_row hmr (by simpa using hx)))⟩
  · intro hm
    exact h.row_ne hmr (by simpa using hm : r.v.ownBlock = some p) rfl
  · have hother : ∀ q, q ∈ a ∨ q ∈ b → q ∈ a ++ r :: b → q.At w2 := fun q hab hq => row_keep (h.rows q hq) (fun g hgq => hc.block g (World.ownsRow.lt (h.rows q hq) g hgq).2 (by
      intro hm
      have hrg : r.v.ownBlock = some g := by simpa using hm
      have hnd := (List.nodup_cons.1 h.apart).2
      rw [List.filterMap_append, List.filterMap_cons, hrg] at hnd
      simp only at hnd
      have hd := List.nodup_append.1 hnd
      rcases hab with hab | hab
      · exact hd.2.2 g (List.mem_filterMap.2 ⟨q, hab, hgq⟩) g (List.mem_cons_self ..) rfl
      · exact (List.nodup_cons.1 hd.2.1).1 (List.mem_filterMap.2 ⟨q, hab, hgq⟩)))
    rcases List.mem_append.1 hq with hq1 | hq1
    · exact hother q (.inl hq1) (List.mem_append_left _ hq1)
    · rcases List.mem_cons.1 hq1 with rfl | hq1
      · exact hrow
      · exact hother q (.inr hq1) (List.mem_append_right _ (List.mem_cons_of_mem _ hq1))

theorem row_set {w : World} {base e size n g cap : Nat} {xs : List Value} (h : w.ownsRow base e size (.slice (some ⟨g, 0, none⟩) n cap) n xs) (j : Nat) (u : Value) (hj : j < n * size) :
    (w.setCell ⟨g, j, none⟩ u).ownsRow base e size (.slice (some ⟨g, 0, none⟩) n cap) n (xs.set j u) := by
  refine ⟨by rw [List.length_set]; exact h.1, .inr ?_⟩
  rcases h.2 with ⟨h1, _⟩ | ⟨g', cap', cur, hv, hb, hg, h1, h2, h3, h4⟩
  · cases h1
  · obtain ⟨rfl, rfl⟩ : g = g' ∧ cap = cap' := by simpa using hv
    refine ⟨g, cap, cur.setIfInBounds j u, rfl, hb, set_blk hg, h1, h2, by simpa using h3, ?_⟩
    rw [Array.toList_setIfInBounds, ← h4]
    apply List.ext_getElem? (fun i => ?_)
    simp only [List.getElem?_take, List.getElem?_set]
    by_cases hi : i < n * size
    · rw [if_pos hi, if_pos hi]
      by_cases hij : j = i
      · subst hij
        rw [if_pos rfl, if_pos rfl]
        have hlt : j < cur.toList.length := by
          have : n * size ≤ cap * size := Nat.mul_le_mul_right _ h1
          simp; omega
        rw [if_pos hlt, if_pos (by rw [List.length_take]; omega)]
      · rw [if_neg hij, if_neg hij]
    · rw [if_neg hi, if_neg (show ¬ j = i by omega), if_neg hi]
end Go.Proofs.YtdkhmfcfihbjeaaGreatDoor.W

/- Slots in memory; package slot: has, Count, Used, Key, at, sectors. -/
namespace Go.Proofs.YtdkhmfcfihbjeaaGreatDoor.W
open Go.RowKit
set_option linter.unusedVariables false
set_option linter.unusedSimpArgs false

def rcell (x : SRow × Value) : List Value := [.bool x.1.used, .int .i64 (x.1.n : Int), x.2]
def rcells (R : List (SRow × Value)) : List Value := R.flatMap rcell
theorem rcells_at : ∀ (R : List (SRow × Value)) (i j : Nat) (x : SRow × Value), R[i]? = some x → j < 3 → (rcells R)[i * 3 + j]? = (rcell x)[j]?
  | [], i, j, x, h, _ => by simp at h
  | y :: R, i, j, x, h, hj => by
    have e : rcells (y :: R) = rcell y ++ rcells R := rfl
    have hy : (rcell y).length = 3 := rfl
    rw [e]
    cases i with
    | zero =>
      simp at h; subst h
      rw [Nat.zero_mul, Nat.zero_add, List.getElem?_append_left (by omega)]
    | succ i =>
      rw [List.getElem?_append_right (by omega), hy, show (i + 1) * 3 + j - 3 = i * 3 + j by omega]
      exact rcells_at R i j x (by simpa using h) hj
theorem rcells_app (R : List (SRow × Value)) (x : SRow × Value) : rcells (R ++ [x]) = rcells R ++ rcell x := by simp [rcells]
theorem rcells_set : ∀ (R : List (SRow × Value)) (i : Nat) (x : SRow × Value), i < R.length → rcells (R.set i x) = (((rcells R).set (i * 3) (.bool x.1.used)).set (i * 3 + 1) (.int .i64 (x.1.n : Int))).set (i * 3 + 2) x.2
  | [], i, x, h => by simp at h
  | y :: R, i, x, h => by
    have e : ∀ z, rcells (z :: R) = rcell z ++ rcells R := fun _ => rfl
    cases i with
    | zero => rw [List.set_cons_zero, e, e]; rfl
    | succ i =>
      have ih := rcells_set R i x (by simpa using h)
      have e2 : rcells (y :: R.set i x) = rcell y ++ rcells (R.set i x) := rfl
      rw [List.set_cons_succ, e2, ih, e]
      have h3 : (rcell y).length = 3 := rfl
      rw [List.set_append_right _ _ (by omega), List.set_append_right _ _ (by omega), List.set_append_right _ _ (by omega), h3, show (i + 1) * 3 - 3 = i * 3 by omega, show (i + 1) * 3 + 1 - 3 = i * 3 + 1 by omega, show (i + 1) * 3 + 2 - 3 = i * 3 + 2 by omega]
def rowD (rv : Value) (R : List (SRow × Value)) : RowD := ⟨192, 3, rv, R.length, rcells R⟩

/-- Slots in block q over a disk in block p; U: the blocks that may be written. -/
structure SlotsOk (w : World) (q p : Nat) (S U : List Nat) (s : SS) (rv : Value) (R : List (SRow × Value)) : Prop where
  obj : ObjAt w q 190 #[.pointer (some ⟨p, 0, none⟩), .int .i64 (s.first : Int), rv] [rowD rv R]
  disk : DiskAt w p S s.d
  rows : R.map (·.1) = s.rows
  sep : ∀ x ∈ blks q [rowD rv R], x ∉ S
  keys : ∀ x ∈ R, BytesAt w x.2 x.1.key ∧ ∀ g, x.2.ownBlock = some g → g < w.heap.size ∧ g ∉ U
  uS : ∀ x ∈ S, x ∈ U
  uB : ∀ x ∈ blks q [rowD rv R], x ∈ U
  uL : ∀ x ∈ U, x < w.heap.size
  ok : s.Ok
def SlotsAt (w : World) (q p : Nat) (U : List Nat) (s : SS) : Prop := ∃ S rv R, SlotsOk w q p S U s rv R
theorem SlotsAt.keep {w w' : World} {q p : Nat} {U T : List Nat} {s : SS} (h : SlotsAt w q p U s) (hc : Chg T w w') (ha : ∀ x ∈ U, x ∉ T) (hk : T = [] ∨ True) (hT : ∀ x ∈ T, x ∈ U ∨ w.heap.size ≤ x ∨ ∀ S rv R, SlotsOk w q p S U s rv R → ∀ y ∈ R, y.2.ownBlock ≠ some x) : SlotsAt w' q p U s := by
  obtain ⟨S, rv, R, h⟩ := h
  refine ⟨S, rv, R, h.obj.keep hc (fun x hx => ha x (h.uB x hx)), h.disk.keep hc (fun x hx => ha x (h.uS x hx)), h.rows, h.sep, fun x hx => ?_, h.uS, h.uB, fun x hx => Nat.lt_of_lt_of_le (h.uL x hx) hc.size, h.ok⟩
  obtain ⟨h1, h2⟩ := h.keys x hx
  refine ⟨h1.chg hc (fun k hk hm => ?_), fun g hg => ⟨Nat.lt_of_lt_of_le (h2 g hg).1 hc.size, (h2 g hg).2⟩⟩
  rcases hT k hm with h3 | h3 | h3
  · exact (h2 k hk).2 h3
  · have := (h2 k hk).1; omega
  · exact h3 S rv R h x hx hk
theorem SlotsAt.keep0 {w w' : World} {q p : Nat} {U : List Nat} {s : SS} (h : SlotsAt w q p U s) (hc : Chg [] w w') : SlotsAt w' q p U s := h.keep hc (by simp) (.inl rfl) (by simp)
/-- What doing with slots leaves. -/
def Sid (w w' : World) (q p : Nat) (U : List Nat) (s : SS) : Prop := ∃ U', SlotsAt w' q p U' s ∧ (∀ x ∈ U', x ∈ U ∨ w.heap.size ≤ x) ∧ Chg U w w'
theorem Sid.same {w : World} {q p : Nat} {U : List Nat} {s : SS} (h : SlotsAt w q p U s) : Sid w w q p U s := ⟨U, h, fun x hx => .inl hx, Chg.refl _ _⟩

theorem SlotsOk.len {w : World} {q p : Nat} {S U : List Nat} {s : SS} {rv : Value} {R : List (SRow × Value)} (h : SlotsOk w q p S U s rv R) : R.length = s.rows.length := by rw [← h.rows, List.length_map]
theorem SlotsOk.few {w : World} {q p : Nat} {S U : List Nat} {s : SS} {rv : Value} {R : List (SRow × Value)} (h : SlotsOk w q p S U s rv R) : s.first + 8 * s.rows.length ≤ 4160 := by
  obtain ⟨gn, gl, cn, cl, v, hd⟩ := h.disk
  exact Nat.le_trans h.ok.room hd.few
/-- The form of the rows' value. -/
theorem SlotsOk.form {w : World} {q p : Nat} {S U : List Nat} {s : SS} {rv : Value} {R : List (SRow × Value)} (h : SlotsOk w q p S U s rv R) : ∃ a cap, rv = .slice a s.rows.length cap ∧ s.rows.length ≤ cap := by
  rw [← h.len]
  have hr : w.ownsRow 0 192 3 rv R.length (rcells R) := h.obj.rows _ (List.mem_singleton.2 rfl)
  rcases hr.2 with ⟨h1, h2⟩ | ⟨g, cap, cur, h1, _, _, h3, h4, _⟩
  · exact ⟨none, 0, by rw [h1, h2], by omega⟩
  · exact ⟨_, cap, h1, h3⟩
/-- A row that is there. -/
theorem SlotsOk.at {w : World} {q p : Nat} {S U : List Nat} {s : SS} {rv : Value} {R : List (SRow × Value)} (h : SlotsOk w q p S U s rv R) (i : Nat) (hi : i < s.rows.length) :
    ∃ g cap kv, rv = .slice (some ⟨g, 0, none⟩) s.rows.length cap ∧ s.rows.length ≤ cap ∧ cap ≤ maxLen ∧ R[i]? = some (s.rows.getD i noRow, kv) ∧ w.cell? ⟨g, i * 3, none⟩ = some (.bool (s.rows.getD i noRow).used) ∧
      w.cell? ⟨g, i * 3 + 1, none⟩ = some (.int .i64 ((s.rows.getD i noRow).n : Int)) ∧ w.cell? ⟨g, i * 3 + 2, none⟩ = some kv ∧ BytesAt w kv (s.rows.getD i noRow).key ∧ ∀ k, kv.ownBlock = some k → k < w.heap.size ∧ k ∉ U := by
  have hl := h.len
  have hr : w.ownsRow 0 192 3 rv R.length (rcells R) := h.obj.rows _ (List.mem_singleton.2 rfl)
  have hiR : i < R.length := by omega
  have hri : s.rows.getD i noRow = (R[i]).1 := by
    rw [← h.rows, List.getD_eq_getElem?_getD, List.getElem?_map, List.getElem?_eq_getElem hiR]; rfl
  rcases hr.2 with ⟨h1, h2⟩ | ⟨g, cap, cur, h1, _, _, h3, h4, _⟩
  · omega
  · subst h1
    have hcell : ∀ j, j < 3 → ∀ u, (rcell R[i])[j]? = some u → w.cell? ⟨g, i * 3 + j, none⟩ = some u := fun j hj u hu => by
      have := hr.cells (g := g) rfl (i * 3 + j) u (by rw [rcells_at R i j R[i] (List.getElem?_eq_getElem hiR) hj]; exact hu)
      rwa [add_none, Nat.zero_add] at this
    refine ⟨g, cap, (R[i]).2, by rw [hl], by omega, h4, by rw [hri]; exact List.getElem?_eq_getElem hiR, ?_, ?_, ?_, ?_⟩
    · rw [hri]; exact hcell 0 (by omega) _ rfl
    · rw [hri]; exact hcell 1 (by omega) _ rfl
    · exact hcell 2 (by omega) _ rfl
    · rw [hri]; exact h.keys _ (List.getElem_mem hiR)

set_option maxHeartbeats 2000000 in
set_option maxRecDepth 100000 in
theorem shas_any (q p : Nat) (U : List Nat) (s : SS) (i : Int) (w : World) (h : SlotsAt w q p U s) : Calls Tryz.prog 137 #[.pointer (some ⟨q, 0, none⟩), .int .i64 i] w fun e w' => e = .returned (.bool (decide (s.has i))) ∧ w = w' := by
  obtain ⟨S, rv, R, H⟩ := h
  obtain ⟨a, cap, hrv, hcap⟩ := H.form
  have c2 := blk_cell H.obj.head 2 _ rfl
  subst hrv
  have hd : decide (s.has i) = (decide (0 ≤ i) && decide (i < (s.rows.length : Int))) := by
    rw [Bool.eq_iff_iff]
    simp only [decide_eq_true_eq, Bool.and_eq_true]
    exact Iff.rfl
  have HD := Lib.hid hd
  clear H hd
  generalize s.rows.length = n at *
  by_cases h1 : 0 ≤ i
  · have d1 : decide (i ≥ 0) = true := decide_eq_true h1
    have HX : Hid (decide (s.has i) = decide (i < (n : Int))) := Lib.hid (by rw [HD.out, decide_eq_true h1, Bool.true_and])
    go_enter Tryz.func137, Tryz.ntmps137
    go_wp2
    go_ret
    exact ⟨by rw [HX.out]; rfl, rfl⟩
  · have d1 : decide (i ≥ 0) = false := decide_eq_false h1
    have HX : Hid (decide (s.has i) = false) := Lib.hid (by rw [HD.out, decide_eq_false h1, Bool.false_and])
    go_enter Tryz.func137, Tryz.ntmps137
    go_wp2
    go_ret
    exact ⟨by rw [HX.out]; rfl, rfl⟩

set_option maxHeartbeats 2000000 in
set_option maxRecDepth 100000 in
theorem scount_any (q p : Nat) (U : List Nat) (s : SS) (w : World) (h : SlotsAt w q p U s) : Calls Tryz.prog 92 #[.pointer (some ⟨q, 0, none⟩)] w fun e w' => e = .returned (.int .i64 (s.rows.length : Int)) ∧ w = w' := by
  obtain ⟨S, rv, R, H⟩ := h
  obtain ⟨a, cap, hrv, hcap⟩ := H.form
  have c2 := blk_cell H.obj.head 2 _ rfl
  subst hrv
  clear H
  go_enter Tryz.func92, Tryz.ntmps92
  go_wp2
  go_ret
  exact ⟨rfl, rfl⟩

set_option maxHeartbeats 2000000 in
set_option maxRecDepth 100000 in
theorem sat_any (q p : Nat) (U : List Nat) (s : SS) (i : Nat) (w : World) (h : SlotsAt w q p U s) (hi : i ≤ 1000) : Calls Tryz.prog 162 #[.pointer (some ⟨q, 0, none⟩), .int .i64 (i : Int)] w fun e w' => e = .returned (.int .i64 ((s.pos i : Nat) : Int)) ∧ w = w' := by
  obtain ⟨S, rv, R, H⟩ := h
  have c1 := blk_cell H.obj.head 1 _ rfl
  have hfew := H.few
  have HX : Hid ((s.first : Int) + 8 * (i : Int) = ((s.pos i : Nat) : Int)) := Lib.hid (by unfold SS.pos; simp)
  have hf : s.first ≤ 4160 := by omega
  clear H hfew
  generalize s.first = f at *
  go_enter Tryz.func162, Tryz.ntmps162
  go_wp2
  go_ret
  exact ⟨by rw [← HX.out]; rfl, rfl⟩

set_option maxHeartbeats 2000000 in
set_option maxRecDepth 100000 in
theorem ssec_any (n : Nat) (w : World) (hn : n ≤ 1000000000) : Calls Tryz.prog 161 #[.int .i64 (n : Int)] w fun e w' => e = .returned (.int .i64 ((nsec n : Nat) : Int)) ∧ w = w' := by
  have HX : Hid (((n : Int) + 64 - 1) / 64 = ((nsec n : Nat) : Int)) := Lib.hid (by unfold nsec; omega)
  go_enter Tryz.func161, Tryz.ntmps161
  go_wp2
  go_ret
  exact ⟨by rw [← HX.out]; rfl, rfl⟩
end Go.Proofs.YtdkhmfcfihbjeaaGreatDoor.W

/- Package slot: Used, Key, Free, Find; bytes.Equal. -/
namespace Go.Proofs.YtdkhmfcfihbjeaaGreatDoor.W
open Go.RowKit
set_option linter.unusedVariables false
set_option linter.unusedSimpArgs false

theorem SS.used_true {s : SS} {i : Int} (h : s.has i) : s.used i = (s.row i).used := by unfold SS.used; rw [decide_eq_true h, Bool.true_and]
theorem SS.used_false {s : SS} {i : Int} (h : ¬ s.has i) : s.used i = false := by unfold SS.used; rw [decide_eq_false h, Bool.false_and]

set_option maxHeartbeats 2000000 in
set_option maxRecDepth 100000 in
theorem sused_any (q p : Nat) (U : List Nat) (s : SS) (i : Int) (w : World) (h : SlotsAt w q p U s) : Calls Tryz.prog 93 #[.pointer (some ⟨q, 0, none⟩), .int .i64 i] w fun e w' => e = .returned (.bool (s.used i)) ∧ w = w' := by
  have CH := Lib.hid (shas_any q p U s i w h)
  by_cases hi : s.has i
  · rw [decide_eq_true hi] at CH
    obtain ⟨S, rv, R, H⟩ := h
    obtain ⟨h0, h1⟩ := hi
    obtain ⟨j, rfl⟩ := Int.eq_ofNat_of_zero_le h0
    obtain ⟨g, cap, kv, hrv, hcap, hcm, hR, k0, k1, k2, k3, k4⟩ := H.at j (by omega)
    have c2 := blk_cell H.obj.head 2 _ rfl
    subst hrv
    have HX : Hid (s.used (j : Int) = (s.rows.getD j noRow).used) := Lib.hid (by rw [SS.used_true ⟨h0, h1⟩]; rfl)
    rw [HX.out]
    generalize s.rows.getD j noRow = r at *
    generalize s.rows.length = n at *
    have hjz : (j : Int) < (n : Int) := h1
    have hjz1 : (j : Int).toNat = j := by omega
    clear H hR k3 k4
    go_enter Tryz.func93, Tryz.ntmps93
    go_wp2_with (go_at_call 137; refine CH.out.mono ?_; rintro e w' ⟨rfl, hq⟩; subst hq)
    go_ret
    exact ⟨rfl, rfl⟩
  · rw [decide_eq_false hi] at CH
    rw [SS.used_false hi]
    clear hi h
    go_enter Tryz.func93, Tryz.ntmps93
    go_wp2_with (go_at_call 137; refine CH.out.mono ?_; rintro e w' ⟨rfl, hq⟩; subst hq)
    go_ret
    exact ⟨rfl, rfl⟩

set_option maxHeartbeats 2000000 in
set_option maxRecDepth 100000 in
theorem skey_any (q p : Nat) (U : List Nat) (s : SS) (i : Int) (w : World) (h : SlotsAt w q p U s) : Calls Tryz.prog 95 #[.pointer (some ⟨q, 0, none⟩), .int .i64 i] w fun e w' => (∃ v, e = .returned v ∧ BRow w' v (s.key i)) ∧ Chg [] w w' := by
  have CU := Lib.hid (sused_any q p U s i w h)
  by_cases hu : s.used i = true
  · have hi : s.has i := by
      by_cases hi : s.has i
      · exact hi
      · rw [SS.used_false hi] at hu; cases hu
    have hk : s.key i = (s.row i).key := by unfold SS.key; rw [if_pos hu]
    rw [hu] at CU
    obtain ⟨S, rv, R, H⟩ := h
    obtain ⟨h0, h1⟩ := hi
    obtain ⟨j, rfl⟩ := Int.eq_ofNat_of_zero_le h0
    obtain ⟨g, cap, kv, hrv, hcap, hcm, hR, k0, k1, k2, k3, k4⟩ := H.at j (by omega)
    have c2 := blk_cell H.obj.head 2 _ rfl
    subst hrv
    have hkl : (s.rows.getD j noRow).key.length ≤ 40 := by
      rw [List.getD_eq_getElem?_getD, List.getElem?_eq_getElem (show j < s.rows.length by omega)]
      exact (H.ok.rows _ (List.getElem_mem _)).2
    have CC := Lib.hid (clone_any kv _ w k3 (by omega))
    have HX : Hid (s.key (j : Int) = (s.rows.getD j noRow).key) := Lib.hid (by rw [hk]; rfl)
    rw [HX.out]
    generalize s.rows.getD j noRow = r at *
    generalize s.rows.length = n at *
    have hjz : (j : Int) < (n : Int) := h1
    have hjz1 : (j : Int).toNat = j := by omega
    obtain ⟨ak, ck, hkv⟩ := k3.slice
    subst hkv
    clear H hR k3 k4 hu hk hkl
    go_enter Tryz.func95, Tryz.ntmps95
    go_wp2_with (go_at_call 93; refine CU.out.mono ?_; rintro e w' ⟨rfl, hq⟩; subst hq)
    refine CC.out.mono ?_
    rintro e w1 ⟨v1, rfl, hr, hn, hc⟩
    have HR := Lib.hid (And.intro hr hc)
    clear hr hn hc CC
    go_wp2
    go_ret
    exact ⟨⟨_, rfl, HR.out.1⟩, HR.out.2⟩
  · have hu' : s.used i = false := by simpa using hu
    have hk : s.key i = [] := by unfold SS.key; rw [if_neg hu]
    rw [hu'] at CU
    rw [hk]
    clear hu hu' hk h
    go_enter Tryz.func95, Tryz.ntmps95
    go_wp2_with (go_at_call 93; refine CU.out.mono ?_; rintro e w' ⟨rfl, hq⟩; subst hq)
    go_ret
    exact ⟨⟨_, rfl, BRow.nil _⟩, Chg.refl _ _⟩

theorem rowFree_cons (r : SRow) (l : List SRow) (k : Nat) : rowFree (r :: l) k = if r.used = false then (k : Int) else rowFree l (k + 1) := rfl
theorem rowFree_drop (l : List SRow) (k : Nat) (hk : k ≤ l.length) (h : ∀ q, q < k → (l.getD q noRow).used = true) : ∀ j, rowFree l j = rowFree (l.drop k) (j + k) := by
  induction l generalizing k with
  | nil => intro j; simp at hk; subst hk; rfl
  | cons r l ih =>
    intro j
    cases k with
    | zero => rfl
    | succ k =>
      have h0 := h 0 (by omega)
      simp at h0
      rw [List.drop_succ_cons, rowFree_cons, if_neg (by simp [h0]), ih k (by simpa using hk) (fun q hq => by simpa using h (q + 1) (by omega)) (j + 1), show j + 1 + k = j + (k + 1) by omega]
set_option maxHeartbeats 4000000 in
set_option maxRecDepth 100000 in
theorem sfree_any (q p : Nat) (U : List Nat) (s : SS) (w : World) (h : SlotsAt w q p U s) : Calls Tryz.prog 146 #[.pointer (some ⟨q, 0, none⟩)] w fun e w' => e = .returned (.int .i64 s.free) ∧ w = w' := by
  have CC := Lib.hid (scount_any q p U s w h)
  obtain ⟨S, rv, R, H⟩ := h
  have HH := Lib.hid H
  obtain ⟨a, cap0, hrv, hcap⟩ := H.form
  have c2 := blk_cell H.obj.head 2 _ rfl
  have hfew := H.few
  obtain ⟨n, hn⟩ : ∃ n, n = s.rows.length := ⟨_, rfl⟩
  rw [← hn] at CC hrv hcap
  have HN := Lib.hid hn
  have HRV := Lib.hid hrv
  subst hrv
  have hnf : n ≤ 1000 := by omega
  clear H hfew hn
  go_enter Tryz.func146, Tryz.ntmps146
  go_wp2_with (go_at_call 92; refine CC.out.mono ?_; rintro e w' ⟨rfl, hq⟩; subst hq)
  go_loop [6] (fun i => ∃ k : Nat, k ≤ n ∧ i = .int .i64 k ∧ Hid (∀ x, x < k → (s.rows.getD x noRow).used = true)) (fun i => n - (intOf i).toNat)
  case atStart => exact ⟨0, Nat.zero_le _, rfl, Lib.hid (fun q hq => absurd hq (by omega))⟩
  case round =>
    obtain ⟨k, hk, rfl, HZ⟩ := hrel
    by_cases hlt : k < n
    · obtain ⟨g, cap, kv, hrv2, hcap2, hcm, hR, k0, k1, k2, k3, k4⟩ := HH.out.at k (by rw [← HN.out]; exact hlt)
      have hF := rowFree_drop s.rows k (by rw [← HN.out]; omega) HZ.out 0
      rw [List.drop_eq_getElem_cons (by rw [← HN.out]; exact hlt)] at hF
      have hge : s.rows.getD k noRow = s.rows[k]'(by rw [← HN.out]; exact hlt) := by rw [List.getD_eq_getElem?_getD, List.getElem?_eq_getElem]; rfl
      rw [← hge] at hF
      have HRK : Hid (s.rows.getD k noRow = s.rows.getD k noRow) := Lib.hid rfl
      rw [← HN.out] at hrv2
      obtain ⟨rfl, rfl⟩ : a = some ⟨g, 0, none⟩ ∧ cap0 = cap := by
        have := Value.slice.inj hrv2
        exact ⟨this.1, this.2.2⟩
      have hkz : (k : Int) < (n : Int) := by omega
      have hkz1 : (k : Int).toNat = k := by omega
      have hu : ∃ u, u = (s.rows.getD k noRow).used := ⟨_, rfl⟩
      obtain ⟨u, hu⟩ := hu
      rw [← hu] at k0
      have HU := Lib.hid hu
      have HF := Lib.hid hF
      clear hu hF hge hrv2 hR k1 k2 k3 k4
      cases u
      · have HX : Hid (s.free = (k : Int)) := Lib.hid (by
          unfold SS.free
          rw [HF.out, rowFree_cons]
          rw [if_pos HU.out.symm]
          simp)
        go_wp2
        go_ret
        exact ⟨by rw [HX.out]; rfl, rfl⟩
      · have HZ1 : Hid (∀ x, x < k + 1 → (s.rows.getD x noRow).used = true) := Lib.hid (fun x hx => by
          rcases Nat.lt_or_ge x k with h | h
          · exact HZ.out x h
          · obtain rfl : x = k := by omega
            exact HU.out.symm)
        go_wp2
        go_round
        case rel => exact ⟨k + 1, by omega, by go_num, HZ1⟩
        case measure => simp [intOf]; omega
    · have hkn : k = n := by omega
      have HX : Hid (s.free = -1) := Lib.hid (by
        unfold SS.free
        rw [rowFree_drop s.rows k (by rw [hkn, HN.out]; exact Nat.le_refl _) HZ.out 0, List.drop_of_length_le (by rw [hkn, HN.out]; exact Nat.le_refl _)]
        rfl)
      clear hkn
      go_wp2
      go_ret
      exact ⟨by rw [HX.out]; rfl, rfl⟩

theorem bytes_string (w : World) (v : Value) (l : List UInt8) (h : BytesAt w v l) : (convert 30 9 v).run Tryz.prog w = .ok (.string ⟨l.toArray⟩) w := by
  obtain ⟨a, cap, rfl, h1, h2, h3⟩ := h
  rcases h3 with ⟨rfl, rfl⟩ | ⟨g, o, rfl, hc⟩
  · cases a with
    | none => exact run_convert_bytes_nil w 30 5 Tryz.underlying30 Tryz.underlying5 _ _ 9 Tryz.underlying9
    | some a => exact run_convert_bytes_back w 30 9 5 a 0 [] Tryz.underlying30 Tryz.underlying5 Tryz.underlying9 (fun j hj => absurd hj (by simp))
  · refine run_convert_bytes_back w 30 9 5 ⟨g, o, none⟩ cap l Tryz.underlying30 Tryz.underlying5 Tryz.underlying9 (fun j hj => ?_)
    rw [add_none, hc j hj, List.getD_eq_getElem?_getD, List.getElem?_eq_getElem hj]
    rfl

set_option maxHeartbeats 2000000 in
set_option maxRecDepth 100000 in
theorem equal_any (u v : Value) (l m : List UInt8) (w : World) (hu : BytesAt w u l) (hv : BytesAt w v m) :
    Calls Tryz.prog 145 #[u, v] w fun e w' => e = .returned (.bool (decide (l = m))) ∧ w = w' := by
  have h1 := bytes_string w u l hu
  have h2 := bytes_string w v m hv
  clear hu hv
  go_enter Tryz.func145, Tryz.ntmps145
  go_wp2
  go_ret
  exact ⟨ret_bool (show (l == m) = decide (l = m) by rw [Bool.eq_iff_iff]; simp), rfl⟩

end Go.Proofs.YtdkhmfcfihbjeaaGreatDoor.W

/- Package slot: lay. -/
namespace Go.Proofs.YtdkhmfcfihbjeaaGreatDoor.W
open Go.RowKit
set_option linter.unusedVariables false
set_option linter.unusedSimpArgs false

/-! ### Memory of 64 bytes, and what is copied into it -/
def pad (m : List UInt8) : List UInt8 := m.take 64 ++ zeros (64 - (m.take 64).length)
theorem pad_len (m : List UInt8) : (pad m).length = 64 := by
  unfold pad zeros
  rw [List.length_append, List.length_replicate, List.length_take]
  omega
def Z64 : Array Value := (bvs (zeros 64)).toArray
theorem facts_u8 : (Tryz.prog.info? 5).map (fun i => (i.zero, i.size, i.bytes)) = some (some (.int .u8 0), 1, 1) := by kernel_rfl
theorem make_64 (w : World) : (Instr.makeSlice 30 (.int .i64 64) (.int .i64 64)).run Tryz.prog w = .ok (.slice (some ⟨w.heap.size, 0, none⟩) 64 64) (w.alloc (.cells Z64 5)) := by
  obtain ⟨i, hi, h1, h2, h3⟩ := info_parts facts_u8
  have h := run_make (P := Tryz.prog) w 30 5 i _ Tryz.underlying30 hi h1 .i64 .i64 64 64 (by omega) (Int.le_refl _) (by rw [h3]; omega) (by omega)
  rw [h2] at h
  have hz : madeCells (Value.int .u8 0).cells ((64 : Int).toNat * 1) = Z64 := by kernel_rfl
  rw [hz] at h
  exact h
theorem row_of_block {w : World} {N : Nat} {l : List UInt8} (h : w.heap[N]? = some (.cells (bvs l).toArray 5 (0, 0))) (hl : l.length ≤ maxLen) : BRow w (.slice (some ⟨N, 0, none⟩) l.length l.length) l := by
  refine ⟨by simp [bvs_len], .inr ⟨N, l.length, (bvs l).toArray, rfl, Nat.zero_le _, h, Nat.le_refl _, hl, by simp [bvs_len], ?_⟩⟩
  rw [Nat.mul_one, List.take_of_length_le (by simp [bvs_len])]
/-- 'copy(p, src)' into 64 noughts. -/
theorem wpList_pad {w : World} {ops : Array Oper} {rest : List Oper} {o : Oper} {a : Act} {Q : Exit → Act → World → Prop} (hgd : o.guard = none) (d s : Operand)
    (ho : o.op = .call { callee := .builtin .copy, args := #[d, s], argTypes := #[30, 30] }) (N : Nat) (hd : a.eval d = .slice (some ⟨N, 0, none⟩) 64 64) (u : Value) (hs : a.eval s = u) (m : List UInt8) (hm : BytesAt w u m)
    (hN : w.heap[N]? = some (.cells Z64 5 (0, 0)))
    (h : ∀ w' n, BRow w' (.slice (some ⟨N, 0, none⟩) 64 64) (pad m) → Below N w w' → N < w'.heap.size → wpList Tryz.prog ops Q rest (a.put o.dst n) w') : wpList Tryz.prog ops Q (o :: rest) a w := by
  obtain ⟨au, cap, rfl, h1, h2, h3⟩ := hm
  have hlen : (m.take 64).length = Nat.min m.length 64 := by rw [List.length_take]; exact Nat.min_comm _ _
  have hle : Nat.min m.length 64 ≤ 64 := Nat.min_le_right _ _
  refine wpList_copy_splice hgd d s 30 30 ho 5 Tryz.underlying30 (by kernel_rfl) (some ⟨N, 0, none⟩) au 64 64 m.length cap hd hs N 0 (bvs (zeros 64)) 5 hN (bvs (m.take 64)) (by rw [bvs_len, hlen]) ?_ (by rw [bvs_len, bvs_len, hlen]; simp [zeros]; omega) (bvs_one _) N w (Below.refl _ _) (Nat.le_refl _) ?_
  · intro hpos
    refine ⟨rfl, ?_⟩
    rcases h3 with ⟨rfl, _⟩ | ⟨g, o', rfl, hc⟩
    · simp [bvs] at hpos
    · refine ⟨_, rfl, fun j v hv => ?_⟩
      have hj : j < (m.take 64).length := by
        have := (List.getElem?_eq_some_iff.1 hv).1
        rwa [bvs_len] at this
      rw [bvs_at _ j hj] at hv
      cases hv
      rw [add_none, hc j (by rw [List.length_take] at hj; omega), getD_take _ _ _ (by rw [List.length_take] at hj; omega)]
  · intro w' hw' hb
    have hsp : splice (bvs (zeros 64)) 0 (bvs (m.take 64)) = bvs (pad m) := by
      unfold splice pad
      rw [List.take_zero, List.nil_append, Nat.zero_add, bvs_len]
      unfold bvs
      rw [List.map_append]
      congr 1
      rw [← List.map_drop]
      congr 1
      unfold zeros
      rw [List.drop_replicate]
    have hw2 := hw'.out
    rw [hsp] at hw2
    have hr := row_of_block hw2 (by rw [pad_len]; unfold maxLen; omega)
    rw [pad_len] at hr
    exact h w' _ hr hb (blk_lt hw2)

theorem bytes_drop {w : World} {g o cap k : Nat} {l : List UInt8} (h : BytesAt w (.slice (some ⟨g, o, none⟩) l.length cap) l) (hk : k ≤ l.length) (o2 : Nat) (ho : k < l.length → o2 = o + k) : BytesAt w (.slice (some ⟨g, o2, none⟩) (l.length - k) (cap - k)) (l.drop k) := by
  have h1 := BytesAt.tail h (List.drop_suffix k l) o2 (fun hne => by
    rw [List.length_drop]
    have : 0 < (l.drop k).length := List.length_pos_iff.2 hne
    rw [List.length_drop] at this
    rw [ho (by omega)]
    show o + k = o + _
    omega)
  rw [List.length_drop, show l.length - (l.length - k) = k by omega] at h1
  exact h1

theorem chg_pad {w w1 w2 : World} (h : Chg [] w w1) (hb : Below w.heap.size w1 w2) : Chg [] w w2 := Chg.of_below ((Chg.below h (by simp)).trans hb)

/-! ### Laying -/
theorem DS.write_ok (d : DS) (k : Int) (b : List UInt8) : (d.write k b).2.n = d.n ∧ (d.write k b).2.ops ≤ d.ops + 1 ∧ (d.write k b).2.since.length ≤ d.since.length + 1 := by
  unfold DS.write DS.op
  split
  · exact ⟨rfl, Nat.le_succ _, Nat.le_succ _⟩
  · split
    · by_cases hf : d.fuse = 0
      · simp [hf]
      · simp [hf]
    · exact ⟨rfl, Nat.le_succ _, Nat.le_succ _⟩
theorem DS.sync_ok (d : DS) : (d.sync).2.n = d.n ∧ (d.sync).2.ops ≤ d.ops + 1 ∧ (d.sync).2.since.length ≤ d.since.length := by
  unfold DS.sync DS.op
  split
  · exact ⟨rfl, Nat.le_succ _, Nat.le_refl _⟩
  · by_cases hf : d.fuse = 0
    · simp [hf]
    · simp [hf]
theorem DS.lay_ok (pos : Nat) (b : List UInt8) : ∀ (k j : Nat) (d : DS), (d.lay pos b k j).2.n = d.n ∧ (d.lay pos b k j).2.ops ≤ d.ops + k + 1 ∧ (d.lay pos b k j).2.since.length ≤ d.since.length + k
  | 0, j, d => by
    obtain ⟨h1, h2, h3⟩ := d.sync_ok
    exact ⟨h1, by simpa [DS.lay] using h2, by simpa [DS.lay] using h3⟩
  | k + 1, j, d => by
    obtain ⟨h1, h2, h3⟩ := d.write_ok (pos + j : Nat) (secAt b j)
    obtain ⟨g1, g2, g3⟩ := DS.lay_ok pos b k (j + 1) (d.write (pos + j : Nat) (secAt b j)).2
    unfold DS.lay
    split
    · exact ⟨h1, by omega, by omega⟩
    · exact ⟨by rw [g1, h1], by omega, by omega⟩

/-- The disk goes on under the slots. -/
theorem SlotsAt.did {w w' : World} {q p : Nat} {S U : List Nat} {s : SS} {rv : Value} {R : List (SRow × Value)} {d' : DS} (h : SlotsOk w q p S U s rv R) (hd : Did w w' p S d') (hn : d'.n = s.d.n) : Sid w w' q p U { s with d := d' } := by
  obtain ⟨S', h1, h2, h3⟩ := hd
  have hlim := h.obj.lim
  refine ⟨U ++ S', ⟨S', rv, R, h.obj.keep h3 h.sep, h1, h.rows, fun x hx hm => ?_, fun x hx => ?_, fun x hx => List.mem_append_right _ hx, fun x hx => List.mem_append_left _ (h.uB x hx), fun x hx => ?_, ⟨by rw [show ({ s with d := d' } : SS).d.n = s.d.n from hn]; exact h.ok.room, h.ok.rows⟩⟩, fun x hx => ?_, h3.mono (fun x hx => .inl (h.uS x hx))⟩
  · rcases h2 x hm with h4 | h4
    · exact h.sep x hx h4
    · have := hlim x hx; omega
  · obtain ⟨k1, k2⟩ := h.keys x hx
    refine ⟨k1.chg h3 (fun k hk hm => (k2 k hk).2 (h.uS k hm)), fun g hg => ⟨Nat.lt_of_lt_of_le (k2 g hg).1 h3.size, fun hm => ?_⟩⟩
    rcases List.mem_append.1 hm with hm | hm
    · exact (k2 g hg).2 hm
    · rcases h2 g hm with h4 | h4
      · exact (k2 g hg).2 (h.uS g h4)
      · have := (k2 g hg).1; omega
  · rcases List.mem_append.1 hx with hx | hx
    · exact Nat.lt_of_lt_of_le (h.uL x hx) h3.size
    · exact h1.lim x hx
  · rcases List.mem_append.1 hx with hx | hx
    · exact .inl hx
    · rcases h2 x hx with h4 | h4
      · exact .inl (h.uS x h4)
      · exact .inr h4
theorem Sid.trans {w w1 w2 : World} {q p : Nat} {U : List Nat} {s1 s2 : SS} (h1 : Sid w w1 q p U s1) (h2 : ∀ U1, SlotsAt w1 q p U1 s1 → Sid w1 w2 q p U1 s2) : Sid w w2 q p U s2 := by
  obtain ⟨U1, a1, a2, a3⟩ := h1
  obtain ⟨U2, b1, b2, b3⟩ := h2 U1 a1
  refine ⟨U2, b1, fun x hx => ?_, a3.trans b3 a2⟩
  rcases b2 x hx with h | h
  · exact a2 x h
  · exact .inr (Nat.le_trans a3.size h)
theorem Sid.glue {w w1 w2 : World} {q p : Nat} {U U1 : List Nat} {s2 : SS} (hs : ∀ x ∈ U1, x ∈ U ∨ w.heap.size ≤ x) (hc : Chg U w w1) (h : Sid w1 w2 q p U1 s2) : Sid w w2 q p U s2 := by
  obtain ⟨U2, b1, b2, b3⟩ := h
  refine ⟨U2, b1, fun x hx => ?_, hc.trans b3 hs⟩
  rcases b2 x hx with h | h
  · exact hs x h
  · exact .inr (Nat.le_trans hc.size h)
theorem Sid.pre {w0 w w' : World} {q p : Nat} {U : List Nat} {s : SS} (hc : Chg [] w0 w) (h : Sid w w' q p U s) : Sid w0 w' q p U s := Sid.glue (fun x hx => .inl hx) (hc.mono (by simp)) h

set_option maxHeartbeats 4000000 in
set_option maxRecDepth 100000 in
theorem slay_any (q p : Nat) (U : List Nat) (s : SS) (pos : Nat) (v : Value) (b : List UInt8) (w : World) (h : SlotsAt w q p U s) (hb : BytesAt w v b) (hbU : b ≠ [] → ∀ k, v.ownBlock = some k → k ∉ U) (hpos : pos + nsec b.length ≤ s.d.n) (hbl : b.length ≤ 1000000)
    (ho : s.d.ops + nsec b.length + 1 ≤ 1000000000) (hw : s.d.since.length + nsec b.length ≤ 1000000) :
    Calls Tryz.prog 163 #[.pointer (some ⟨q, 0, none⟩), .int .i64 (pos : Int), v] w fun e w' => e = .returned (.int .i64 (s.d.lays pos b).1) ∧ Sid w w' q p U { s with d := (s.d.lays pos b).2 } := by
  have CS := Lib.hid (ssec_any b.length w (by omega))
  obtain ⟨m, hm⟩ : ∃ m, m = nsec b.length := ⟨_, rfl⟩
  rw [← hm] at CS hpos ho hw
  have HM := Lib.hid hm
  have hpn : s.d.n ≤ 4160 := by
    obtain ⟨S, rv, R, H⟩ := h
    obtain ⟨gn, gl, cn, cl, v, hd⟩ := H.disk
    exact hd.few
  have hmb : (0 < m → (m - 1) * 64 < b.length) ∧ m ≤ 4160 := by
    rw [hm]; unfold nsec; rw [hm] at hpos; unfold nsec at hpos; omega
  have HB := Lib.hid hb
  have HBU := Lib.hid hbU
  have HS := Lib.hid h
  have hmk := make_64
  obtain ⟨av, cv, rfl⟩ := hb.slice
  have hcv : b.length ≤ cv ∧ cv ≤ 9223372036854775807 := by
    obtain ⟨a', c', he, h1, h2, _⟩ := hb
    have : cv = c' := (Value.slice.inj he).2.2
    unfold maxLen at h2
    omega
  clear hm hb hbU h
  go_enter Tryz.func163, Tryz.ntmps163
  go_wp2_with (go_at_call 161; refine CS.out.mono ?_; rintro e w' ⟨rfl, hq⟩; subst hq)
  go_loopg [13] m (fun g' s13 wr => ∃ (j : Nat) (dj : DS), s13 = .int .i64 j ∧ j ≤ m ∧ m ≤ j + g' ∧ Hid (Sid w wr q p U { s with d := dj } ∧ dj.n = s.d.n ∧ dj.ops ≤ s.d.ops + j ∧ dj.since.length ≤ s.d.since.length + j ∧ s.d.lay pos b m 0 = dj.lay pos b (m - j) j))
  case atStart => exact ⟨0, s.d, rfl, by omega, by omega, Lib.hid ⟨Sid.same HS.out, rfl, by omega, by omega, rfl⟩⟩
  case round =>
    obtain ⟨j, dj, rfl, hj, hjg, HJ⟩ := hrel
    obtain ⟨⟨Uj, ⟨S, rv, R, H⟩, hUj, hCj⟩, hjn, hjo, hjs, hjl⟩ := HJ.out
    have HUj := Lib.hid hUj
    have HCj := Lib.hid hCj
    have c0 : wr.cell? ⟨q, 0, none⟩ = some (.pointer (some ⟨p, 0, none⟩)) := blk_cell H.obj.head 0 _ rfl
    have HH := Lib.hid H
    have HJL := Lib.hid hjl
    clear H hUj hCj hjl HJ
    have hbUr : b ≠ [] → ∀ k, (Value.slice av b.length cv).ownBlock = some k → k ∉ U := HBU.out
    have hBr : BytesAt wr (.slice av b.length cv) b := HB.out.chgW HCj.out hbUr
    have HBr := Lib.hid hBr
    clear hBr hbUr
    by_cases hlt : j < m
    · obtain ⟨w1, hw1⟩ : ∃ w1, w1 = wr.alloc (.cells Z64 5) := ⟨_, rfl⟩
      have hc1 : Chg [] wr w1 := by rw [hw1]; exact (Chg.refl _ _).alloc _
      have hN1 : Hid (w1.heap[wr.heap.size]? = some (.cells Z64 5 (0, 0))) := Lib.hid (by rw [hw1]; exact heap_alloc_new wr _)
      have hjb : j * 64 < b.length := by
        have h1 : j ≤ m - 1 := by omega
        have h2 := Nat.mul_le_mul_right 64 h1
        have h3 := hmb.1 (by omega)
        omega
      obtain ⟨g, o, rfl⟩ : ∃ g o, av = some ⟨g, o, none⟩ := by
        obtain ⟨a', c', he, _, _, h3⟩ := HBr.out
        obtain rfl : av = a' := (Value.slice.inj he).1
        rcases h3 with ⟨rfl, _⟩ | ⟨g, o, e, _⟩
        · simp at hjb
        · exact ⟨g, o, e⟩
      have hB1 : BytesAt w1 (.slice (some ⟨g, o + j * 64, none⟩) (b.length - j * 64) (cv - j * 64)) (b.drop (j * 64)) := bytes_drop (HBr.out.chg hc1 (by simp)) (by omega) _ (fun _ => rfl)
      have HB1 := Lib.hid hB1
      have HC1 := Lib.hid hc1
      have HW1 := Lib.hid hw1
      have hcj : j * 64 < cv := by omega
      have hcj2 : ¬ cv = j * 64 := by omega
      have hjz : (j : Int) < (m : Int) := by omega
      have hj64 : ((j : Int) * 64) = ((j * 64 : Nat) : Int) := by push_cast; rfl
      have hmj : m - j = (m - (j + 1)) + 1 := by omega
      have HLS : Hid (s.d.lays pos b = if (dj.write (pos + j : Nat) (secAt b j)).1 ≠ 0 then dj.write (pos + j : Nat) (secAt b j) else (dj.write (pos + j : Nat) (secAt b j)).2.lay pos b (m - (j + 1)) (j + 1)) := Lib.hid (by
        unfold DS.lays
        rw [← HM.out, HJL.out, hmj]
        rfl)
      clear hB1 hw1 hc1 hj64 hmj
      go_wp2_with (rw [← HW1.out]; refine wpList_pad (by rfl) (.tmp 17) (.tmp 21) (by rfl) wr.heap.size (by rfl) _ (by rfl) (b.drop (j * 64)) HB1.out hN1.out ?_; intro w2 np hr2 hb2 hl2
                   have hc2 := chg_pad HC1.out hb2
                   have c02 := hc2.cell c0 (by simp)
                   have HR2 := Lib.hid hr2
                   have HC2 := Lib.hid hc2
                   clear hr2 hb2 hc2)
      have hpj : ((pos + j : Nat) : Int) = (pos : Int) + (j : Int) := by push_cast; rfl
      rw [hpj] at HLS
      have CW := Lib.hid (dwrite_any p S dj ((pos : Int) + (j : Int)) _ (secAt b j) w2 (HH.out.disk.keep HC2.out (by simp)) (by omega) (by omega) ⟨by omega, by omega⟩ (secAt_len b j) HR2.out.bytes)
      have hwok := dj.write_ok ((pos : Int) + (j : Int)) (secAt b j)
      generalize dj.write ((pos : Int) + (j : Int)) (secAt b j) = r at *
      obtain ⟨r1, d1⟩ := r
      dsimp only at CW HLS hwok
      have HPJ := Lib.hid hpj
      clear hpj
      refine CW.out.mono ?_
      rintro e w3 ⟨rfl, hd3⟩
      have HD3 := Lib.hid (Did.pre HC2.out hd3)
      clear hd3 CW
      have hsid : Sid w w3 q p U { s with d := d1 } := Sid.glue HUj.out HCj.out (SlotsAt.did (s := { s with d := dj }) HH.out HD3.out hwok.1)
      have HSID := Lib.hid hsid
      clear hsid
      by_cases hr0 : r1 = 0
      · subst hr0
        have HL2 : Hid (s.d.lay pos b m 0 = d1.lay pos b (m - (j + 1)) (j + 1)) := Lib.hid (by
          have h1 := HLS.out
          rw [if_neg (by simp)] at h1
          rw [← h1]
          unfold DS.lays
          rw [← HM.out])
        go_wp2
        go_roundg (gk - 1)
        case measure => omega
        case rel => exact ⟨j + 1, d1, by go_num, by omega, by omega, Lib.hid ⟨HSID.out, by rw [hwok.1, hjn], by omega, by omega, HL2.out⟩⟩
      · have HL2 : Hid (s.d.lays pos b = (r1, d1)) := Lib.hid (by rw [HLS.out, if_pos hr0])
        have q1 : (r1 != 0) = true := by simp [hr0]
        clear hr0
        go_wp2
        go_ret
        rw [HL2.out]
        exact ⟨rfl, HSID.out⟩
    · have hjm : j = m := by omega
      have HL2 : Hid (s.d.lays pos b = dj.sync) := Lib.hid (by
        unfold DS.lays
        rw [← HM.out, HJL.out, hjm, Nat.sub_self]
        rfl)
      have hsok := dj.sync_ok
      have CY := Lib.hid (dsync_any p S dj wr HH.out.disk (by omega) (by omega))
      clear hjm
      go_wp2_with fail
      refine CY.out.mono ?_
      rintro e w3 ⟨rfl, hd3⟩
      have HSID : Hid (Sid w w3 q p U { s with d := (dj.sync).2 }) := Lib.hid (Sid.glue HUj.out HCj.out (SlotsAt.did (s := { s with d := dj }) HH.out hd3 hsok.1))
      clear hd3 CY
      go_wp2
      go_ret
      rw [HL2.out]
      exact ⟨rfl, HSID.out⟩
end Go.Proofs.YtdkhmfcfihbjeaaGreatDoor.W
