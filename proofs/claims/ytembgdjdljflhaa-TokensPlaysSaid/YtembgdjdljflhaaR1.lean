/- Reading rows of handles: the plain function; the program's tests of a row. -/
import Derived.Test.YtembgdjdljflhaaS
import Derived.Test.YtembgdjdljflhaaA
import Derived.Test.YtembgdjdljflhaaREye
namespace Go.Proofs.Ytembgdjdljflhaa
open Go.RowKit
set_option linter.unusedVariables false
set_option linter.unusedSimpArgs false

/-- One row's fields. -/
def rdRow (l : List UInt8) : TRow × List UInt8 × Int :=
  let c := W.eyeNum l 0 1
  let h := W.eyeNum c.2.1 c.2.2 1
  let i := W.eyeNum h.2.1 h.2.2 2
  let b := W.eyeBool i.2.1 i.2.2
  (⟨c.1, h.1, i.1, b.1⟩, b.2.1, b.2.2)
def besideB (r x : TRow) : Bool := decide (against x r < 0) && (r.i != x.i || !r.b && !x.b)
def badRow (acc : List TRow) (r : TRow) : Bool := !mayB r.c r.i || decide (4 ≤ r.h) || has (fun x => !besideB r x) acc
/-- So many rows: what was read, the bytes that are left, the error. -/
def rdRows : Nat → List TRow → List UInt8 → List TRow × List UInt8 × Int
  | 0, acc, l => (acc, l, 0)
  | k + 1, acc, l => if (rdRow l).2.2 ≠ 0 then (acc, (rdRow l).2.1, (rdRow l).2.2) else if badRow acc (rdRow l).1 then (acc, (rdRow l).2.1, 4) else rdRows k (acc ++ [(rdRow l).1]) (rdRow l).2.1
def rdTok (l : List UInt8) : List TRow × List UInt8 × Int :=
  if (W.eyeNum l 0 1).2.2 ≠ 0 then ([], (W.eyeNum l 0 1).2.1, (W.eyeNum l 0 1).2.2) else rdRows (W.eyeNum l 0 1).1.toNat [] (W.eyeNum l 0 1).2.1

theorem eyeNum_rng (l : List UInt8) (bad : Int) (n : Nat) : 0 ≤ (W.eyeNum l bad n).1 ∧ (W.eyeNum l bad n).1 < ((256 ^ n : Nat) : Int) := by
  unfold W.eyeNum
  have hp : 0 < 256 ^ n := Nat.pow_pos (by omega)
  split
  · exact ⟨by simp, by simp only; omega⟩
  · split
    · exact ⟨by simp, by simp only; omega⟩
    · have h1 := W.beNum_lt (l.take n)
      have h2 : 256 ^ (l.take n).length ≤ 256 ^ n := Nat.pow_le_pow_right (by omega) (List.length_take_le _ _)
      exact ⟨by simp, by simp only; omega⟩
theorem rdRow_rng (l : List UInt8) : 0 ≤ (rdRow l).1.c ∧ (rdRow l).1.c < 256 ∧ 0 ≤ (rdRow l).1.h ∧ (rdRow l).1.h < 256 ∧ 0 ≤ (rdRow l).1.i ∧ (rdRow l).1.i < 65536 := by
  unfold rdRow
  simp only
  have h1 := eyeNum_rng l 0 1
  have h2 := eyeNum_rng (W.eyeNum l 0 1).2.1 (W.eyeNum l 0 1).2.2 1
  have h3 := eyeNum_rng (W.eyeNum (W.eyeNum l 0 1).2.1 (W.eyeNum l 0 1).2.2 1).2.1 (W.eyeNum (W.eyeNum l 0 1).2.1 (W.eyeNum l 0 1).2.2 1).2.2 2
  exact ⟨h1.1, h1.2, h2.1, h2.2, h3.1, h3.2⟩
theorem eyeNum_bad (l : List UInt8) (bad : Int) (n : Nat) (h : bad ≠ 0) : W.eyeNum l bad n = (0, l, bad) := by unfold W.eyeNum; rw [if_pos h]
theorem eyeBool_bad (l : List UInt8) (bad : Int) (h : bad ≠ 0) : W.eyeBool l bad = (false, l, bad) := by unfold W.eyeBool; rw [if_pos h]

theorem two_new {w w1 : World} {o1 o2 : Obj} (hb : Below ((w.alloc o1).alloc o2).heap.size ((w.alloc o1).alloc o2) w1) :
    w1.heap[w.heap.size]? = some o1 ∧ w1.heap[w.heap.size + 1]? = some o2 ∧ w.heap.size + 1 + 1 ≤ w1.heap.size ∧ Below w.heap.size w w1 := by
  have hs : ((w.alloc o1).alloc o2).heap.size = w.heap.size + 1 + 1 := by simp
  have h1 : (w.alloc o1).heap.size = w.heap.size + 1 := by simp
  have e2 := heap_alloc_new (w.alloc o1) o2
  rw [h1] at e2
  refine ⟨(hb.block _ (by omega)).trans (blk_alloc (heap_alloc_new w o1)), (hb.block _ (by omega)).trans e2, by have := hb.size; omega, ?_⟩
  exact (((Below.refl _ _).alloc (Nat.le_refl _) _).alloc (by omega) _).trans (hb.mono (by omega))
set_option maxHeartbeats 1000000 in
set_option maxRecDepth 100000 in
/-- beside. -/
theorem beside_any (r x : TRow) (w : World) : Calls Try.prog 46 #[.agg (enc r).toArray, .agg (enc x).toArray] w fun e w' => e = .returned (.bool (besideB r x)) ∧ Below w.heap.size w w' := by
  have CA := Lib.hid (fun W => against_any x r W)
  obtain ⟨rc, rh, ri, rb⟩ := r
  obtain ⟨xc, xh, xi, xb⟩ := x
  unfold enc at *
  unfold besideB
  generalize against (⟨xc, xh, xi, xb⟩ : TRow) ⟨rc, rh, ri, rb⟩ = ag at *
  simp only at CA ⊢
  by_cases h1 : ag < 0
  · by_cases h2 : ri = xi
    · have q2 : (ri != xi) = false := by simp [h2]
      have HH := Lib.hid h2
      clear h2
      cases rb <;> cases xb
      all_goals
        have q3 : Hid (∀ y z : Bool, (decide (ag < 0) && (ri != xi || !y && !z)) = (!y && !z)) := Lib.hid (fun y z => by simp [h1, q2])
        rw [q3.out]
        clear q3
        go_enter Try.func46, Try.ntmps46
        go_wp2_with fail
        refine (CA.out _).mono ?_
        rintro e w1 ⟨rfl, hb1⟩
        obtain ⟨n0, n1, n2, hb2⟩ := two_new hb1
        have HB := Lib.hid hb2
        have k0 := blk_cell n0 2 _ rfl
        have k1 := blk_cell n1 2 _ rfl
        have k2 := blk_cell n0 3 _ rfl
        have k3 := blk_cell n1 3 _ rfl
        have n3 : w.heap.size < w1.heap.size := by omega
        have n4 : w.heap.size + 1 < w1.heap.size := by omega
        clear n0 n1 hb1 hb2
        go_wp2
        go_ret
        exact ⟨rfl, HB.out⟩
    · have q2 : (ri != xi) = true := by simp [h2]
      have q3 : Hid ((decide (ag < 0) && (ri != xi || !rb && !xb)) = true) := Lib.hid (by simp [h1, q2])
      rw [q3.out]
      clear h2
      go_enter Try.func46, Try.ntmps46
      go_wp2_with fail
      refine (CA.out _).mono ?_
      rintro e w1 ⟨rfl, hb1⟩
      obtain ⟨n0, n1, n2, hb2⟩ := two_new hb1
      have HB := Lib.hid hb2
      have k0 := blk_cell n0 2 _ rfl
      have k1 := blk_cell n1 2 _ rfl
      have n3 : w.heap.size < w1.heap.size := by omega
      have n4 : w.heap.size + 1 < w1.heap.size := by omega
      clear n0 n1 hb1 hb2
      go_wp2
      go_ret
      exact ⟨rfl, HB.out⟩
  · have q3 : Hid ((decide (ag < 0) && (ri != xi || !rb && !xb)) = false) := Lib.hid (by simp [h1])
    rw [q3.out]
    go_enter Try.func46, Try.ntmps46
    go_wp2_with fail
    refine (CA.out _).mono ?_
    rintro e w1 ⟨rfl, hb1⟩
    obtain ⟨n0, n1, n2, hb2⟩ := two_new hb1
    have HB := Lib.hid hb2
    clear n0 n1 hb1 hb2
    go_wp2
    go_ret
    exact ⟨rfl, HB.out⟩

set_option maxHeartbeats 1000000 in
set_option maxRecDepth 100000 in
/-- The closure that asks whether a row may not stand behind another. -/
theorem tells45 (kb : Nat) (r : TRow) (w : World) (h : w.heap[kb]? = some (.cells #[.int .i64 r.c, .int .i64 r.h, .int .i64 r.i, .bool r.b] 35 (0, 0))) : Tells 45 #[.pointer (some ⟨kb, 0, none⟩)] (fun x => !besideB r x) kb w := by
  intro W hW x
  have hc0 := blk_cell (hW.trans h) 0 _ rfl
  have hc1 := blk_cell (hW.trans h) 1 _ rfl
  have hc2 := blk_cell (hW.trans h) 2 _ rfl
  have hc3 := blk_cell (hW.trans h) 3 _ rfl
  have hlt := lt_of_block (hW.trans h)
  have hne : ¬ (kb = W.heap.size) := Nat.ne_of_lt hlt
  have CB := Lib.hid (fun X => beside_any r x X)
  clear hW h
  obtain ⟨rc, rh, ri, rb⟩ := r
  obtain ⟨xc, xh, xi, xb⟩ := x
  show Calls Try.prog 45 (#[.agg (enc ⟨xc, xh, xi, xb⟩).toArray] ++ #[.pointer (some ⟨kb, 0, none⟩)]) W (fun e w' => e = .returned (.bool (!besideB ⟨rc, rh, ri, rb⟩ ⟨xc, xh, xi, xb⟩)) ∧ Below W.heap.size W w')
  unfold enc at *
  generalize besideB ⟨rc, rh, ri, rb⟩ ⟨xc, xh, xi, xb⟩ = q at *
  simp only at *
  go_enter Try.func45, Try.ntmps45
  go_wp2_with fail
  refine (CB.out _).mono ?_
  rintro e w1 ⟨rfl, hb1⟩
  have HB : Hid (Below W.heap.size W w1) := ((Below.refl W.heap.size W).alloc (Nat.le_refl _) _).trans (hb1.mono (by simp))
  clear hb1
  go_wp2
  go_ret
  exact ⟨rfl, HB.out⟩
theorem enters45 : ∀ args w, (callFunc 45 args).run Try.prog w = .ok (.enter 45 args) w := enters_of Try.func45 (by kernel_rfl) rfl
end Go.Proofs.Ytembgdjdljflhaa
