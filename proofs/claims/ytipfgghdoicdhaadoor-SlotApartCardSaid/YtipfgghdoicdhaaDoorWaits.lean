/- Package disk: waits, the loop over what waits. -/
import Derived.Test.YtipfgghdoicdhaaDoorIn
import Derived.WalkKit
namespace Go.Proofs.YtipfgghdoicdhaaDoor.W
open Go.RowKit Go.Shelf
set_option linter.unusedVariables false
set_option linter.unusedSimpArgs false
attribute [local go_sem] Oper.semAt_some

/-- What waits for a disk of N sectors. -/
abbrev Wt (N : Nat) := { x : Nat × List UInt8 // x.1 < N ∧ x.2.length = 64 }
def wcs {N : Nat} (l : List (Wt N)) : List (Nat × List UInt8) := l.map (·.1)
theorem wcs_len {N : Nat} (l : List (Wt N)) : (wcs l).length = l.length := by simp [wcs]
theorem wcs_of {N : Nat} (l : List (Nat × List UInt8)) (h : ∀ x ∈ l, x.1 < N ∧ x.2.length = 64) : ∃ l' : List (Wt N), wcs l' = l := by
  refine ⟨l.attach.map (fun x => ⟨x.1, h x.1 x.2⟩), ?_⟩
  unfold wcs
  rw [List.map_map]
  exact List.attach_map_subtype_val l
def wenc {N : Nat} (x : Wt N) : Array Value := #[.agg (wcells x.1).toArray]
theorem wsCells_at : ∀ (l : List (Nat × List UInt8)), (∀ x ∈ l, x.2.length = 64) → ∀ (k j : Nat) (x : Nat × List UInt8), l[k]? = some x → j < 65 → (wsCells l)[k * 65 + j]? = (wcells x)[j]?
  | [], _, k, j, x, h, _ => by simp at h
  | y :: l, hl, k, j, x, h, hj => by
    have hy : (wcells y).length = 65 := wcells_len y (hl y (by simp))
    have e : wsCells (y :: l) = wcells y ++ wsCells l := rfl
    rw [e]
    cases k with
    | zero =>
      simp at h
      subst h
      rw [Nat.zero_mul, Nat.zero_add, List.getElem?_append_left (by omega)]
    | succ k =>
      rw [List.getElem?_append_right (by omega), hy]
      have : (k + 1) * 65 + j - 65 = k * 65 + j := by omega
      rw [this]
      exact wsCells_at l (fun x hx => hl x (by simp [hx])) k j x (by simpa using h) hj
theorem wait_range {w : World} {g cap : Nat} {l : List (Nat × List UInt8)} (h : w.ownsRow 0 79 65 (.slice (some ⟨g, 0, none⟩) l.length cap) l.length (wsCells l)) (hl : ∀ x ∈ l, x.2.length = 64) (k : Nat) (x : Nat × List UInt8) (hx : l[k]? = some x) :
    w.rangeAt g (k * 65) (wcells x) := fun j u hu => by
  have hxl : x.2.length = 64 := hl x (List.mem_of_getElem? hx)
  have hj : j < 65 := by
    have := (List.getElem?_eq_some_iff.1 hu).1
    rw [wcells_len x hxl] at this; exact this
  have := h.cells (g := g) rfl (k * 65 + j) u (by rw [wsCells_at l hl k j x hx hj]; exact hu)
  rwa [add_none, Nat.zero_add] at this

/-- The rows that wait lie as they lay. -/
def KpRow (v : Value) (W W' : World) : Prop := ∀ g, v.ownBlock = some g → W'.heap[g]? = W.heap[g]?

set_option maxHeartbeats 4000000 in
set_option maxRecDepth 100000 in
theorem dwaits1_in (n : Nat) (hn : 1 ≤ n) (l Bd p N : Nat) (v : Value) (xs : List (Wt N)) (hxs : xs.length ≤ 1000000) (J Jx : List (Wt N) → World → Prop) (W : World) (hJ : AbidesFrom W.heap.size J)
    (hY : ∀ pre x W1, J pre W1 → pre.length < xs.length → YieldAt Fence.wide (n - 1) Tryd.prog l (wenc x) W1 fun e W' =>
      (e = .returned (.bool true) ∧ J (pre ++ [x]) W' ∧ KpRow v W1 W') ∨ (e = .returned (.bool false) ∧ Jx (pre ++ [x]) W'))
    (hBd : W.cell? ⟨Bd, 0, none⟩ = some (.pointer (some ⟨p, 0, none⟩))) (h2 : W.cell? ⟨p, 2, none⟩ = some v) (hrow : W.ownsRow 0 79 65 v xs.length (wsCells (wcs xs))) (h0 : J [] W) :
    CallsIn Fence.wide n Tryd.prog 75 #[.func (.yield l) #[] #[], .pointer (some ⟨Bd, 0, none⟩)] W fun e W' => (∃ v, e = .returned v) ∧
      ((∃ ys, ys = xs ∧ J ys W') ∨ (∃ pre, True ∧ Jx pre W')) := by
  obtain ⟨iw, zw, hiw, hzw1, hzw2, hzw3, hzw4⟩ := info_three facts_wr
  have HROW := Lib.hid hrow
  have HJ := Lib.hid hJ
  have HY := Lib.hid hY
  have HIW := Lib.hid hiw
  have HZ1 := Lib.hid hzw1
  have HZ2 := Lib.hid hzw2
  have HZ3 := Lib.hid hzw3
  have hform : (v = .slice none 0 0 ∧ xs.length = 0) ∨ ∃ g cap, v = .slice (some ⟨g, 0, none⟩) xs.length cap ∧ xs.length ≤ cap ∧ cap ≤ maxLen := by
    rcases hrow.2 with ⟨h1, h2⟩ | ⟨g, cap, cur, h1, _, _, h3, h4, _⟩
    · exact .inl ⟨h1, h2⟩
    · exact .inr ⟨g, cap, h1, h3, h4⟩
  clear hiw hzw1 hzw2 hzw3 hzw4 hrow hJ hY
  refine callsIn_of_wp Tryd.func75 rfl trivial ?_ rfl
  simp only [Tryd.ntmps75, List.size_toArray, List.length_cons, List.length_nil, Nat.reduceAdd, Nat.reduceSub, Array.replicate_succ, Array.replicate_zero, List.push_toArray, List.append_toArray, List.nil_append, List.cons_append]
  rcases hform with ⟨rfl, hx0⟩ | ⟨g, cap, rfl, hlc, hcm⟩
  · obtain rfl := List.eq_nil_of_length_eq_zero hx0
    clear hx0 hxs
    gi_wp2
    gi_loopw [10] (fun i wr => i = .int .i64 0 ∧ J [] wr) (fun _ _ => 0)
    case atStart => exact ⟨rfl, h0⟩
    case round =>
      obtain ⟨rfl, hJs⟩ := hrel
      gi_wp2
      go_end0
      exact ⟨⟨_, rfl⟩, .inl ⟨_, rfl, hJs⟩⟩
  · gi_wp2
    gi_loopw [10] (fun i wr => ∃ k : Nat, k ≤ xs.length ∧ i = .int .i64 k ∧ J (xs.take k) wr ∧ wr.heap[g]? = W.heap[g]?) (fun i _ => xs.length - (intOf i).toNat)
    case atStart => exact ⟨0, Nat.zero_le _, rfl, by simpa using h0, rfl⟩
    case round =>
      obtain ⟨k, hk, rfl, hJs, hkeep⟩ := hrel
      by_cases hlt : k < xs.length
      · obtain ⟨x, hx⟩ : ∃ x, xs[k]? = some x := ⟨xs[k], List.getElem?_eq_getElem hlt⟩
        have hxw : (wcs xs)[k]? = some x.1 := by simp [wcs, hx]
        have hlen64 : ∀ y ∈ wcs xs, y.2.length = 64 := by
          intro y hy
          obtain ⟨z, _, rfl⟩ := List.mem_map.1 hy
          exact z.2.2
        have hgl : g < W.heap.size := (World.ownsRow.lt HROW.out g rfl).2
        have hglr : g < wr.heap.size := by
          have h1 := Array.getElem?_eq_getElem hgl
          rw [h1] at hkeep
          exact blk_lt hkeep
        have hR : wr.ownsRow 0 79 65 (.slice (some ⟨g, 0, none⟩) (wcs xs).length cap) (wcs xs).length (wsCells (wcs xs)) := by
          rw [wcs_len]
          exact row_keep HROW.out (fun g' hg' => by simp [Value.ownBlock] at hg'; subst hg'; exact hkeep)
        have HRG := Lib.hid (wait_range hR hlen64 k x.1 hxw)
        have HXL := Lib.hid (wcells_len x.1 x.2.2)
        have hone := Lib.hid (all_oneCell_toArray (wcells_one x.1))
        have hzw : Hid ((Tryd.prog.info? 79).map (·.size) = some (wcells x.1).length) := Lib.hid (by rw [HXL.out]; kernel_rfl)
        have HZ2b : Hid (zw.cells.size = (wcells x.1).toArray.size) := Lib.hid (by rw [HZ2.out]; simp [HXL.out])
        have HZ3b : Hid (iw.size = (wcells x.1).toArray.size) := Lib.hid (by rw [HZ3.out]; simp [HXL.out])
        obtain ⟨w1, hw1⟩ : ∃ w1, w1 = wr.alloc (.cells (wcells x.1).toArray 79) := ⟨_, rfl⟩
        have hJ1 : J (xs.take k) w1 := by
          rw [hw1]
          exact HJ.out _ wr _ none hJs (World.grownBy_alloc wr _ none) (fun r e => by cases e)
        have HR1 : Hid (w1.rangeAt wr.heap.size 0 (wcells x.1)) := Lib.hid (by
          rw [hw1]
          intro j u hu
          rw [Nat.zero_add]
          exact blk_cell (heap_alloc_new wr _) j u (by simpa using hu))
        have hk1 : w1.heap[g]? = W.heap[g]? := by
          rw [hw1]
          exact (Below.heap_alloc wr _ g hglr).trans hkeep
        have htk : xs.take (k + 1) = xs.take k ++ [x] := by
          rw [List.take_add_one, hx]; rfl
        obtain ⟨fn, tmps, assign, body, hy, hR⟩ := HY.out _ x w1 hJ1 (by rw [List.length_take]; omega)
        unfold wenc at hy
        have HRn := Lib.hid hR
        have HK1 := Lib.hid hk1
        have HTK := Lib.hid htk
        have HW1 := Lib.hid hw1
        have HX := Lib.hid hx
        have hkz : (k : Int) < (xs.length : Int) := by omega
        have hkz1 : (k : Int).toNat = k := by omega
        clear hR hk1 htk hw1 hx hxw hlen64 hkeep hJs
        gi_wp2_with (first
          | (refine wpListIn_load_midW wide_w (by rfl) 79 (.tmp 12) (by rfl) g (k * 65) (by rfl) (wcells x.1) _ HRG.out Tryd.underlying79 rfl hzw.out ?_)
          | (refine wpListIn_varW wide_w (by rfl) (by rfl) 79 (.tmp 4) (.tmp 13) (by rfl) (by rfl) wr.heap.size rfl (wcells x.1).toArray (by rfl) (by rfl) iw zw HIW.out HZ1.out HZ2b.out HZ3b.out hone.out ?_; rw [← HW1.out])
          | (refine wpListIn_load_midW wide_w (by rfl) 79 (.tmp 4) (by rfl) wr.heap.size 0 (by rfl) (wcells x.1) _ HR1.out Tryd.underlying79 rfl hzw.out ?_))
        refine HRn.out.mono ?_
        rintro e W3 (⟨rfl, hJ3, hk3⟩ | ⟨rfl, hJx3⟩)
        · have hk4 : W3.heap[g]? = W.heap[g]? := (hk3 g rfl).trans HK1.out
          have HJ3 := Lib.hid hJ3
          have HK4 := Lib.hid hk4
          clear hJ3 hk3 hk4 hy
          gi_wp2
          go_roundw
          case rel => exact ⟨k + 1, by omega, by go_num, by rw [HTK.out]; exact HJ3.out, HK4.out⟩
          case measure => simp [intOf]; omega
        · clear hy
          gi_wp2
          refine bodyPost_ret (results_none rfl _ _ _) rfl ?_
          exact ⟨⟨_, rfl⟩, .inr ⟨_, trivial, hJx3⟩⟩
      · obtain rfl : k = xs.length := by omega
        gi_wp2
        go_end0
        exact ⟨⟨_, rfl⟩, .inl ⟨_, rfl, by rwa [List.take_length] at hJs⟩⟩
end Go.Proofs.YtipfgghdoicdhaaDoor.W
