/- Package disk: Image. -/
import Derived.Test.YtipfgghdoicdhaaDoorDNew
namespace Go.Proofs.YtipfgghdoicdhaaDoor.W
open Go.RowKit
set_option linter.unusedVariables false
set_option linter.unusedSimpArgs false

/-- The first k sectors in a row. -/
def flat (k : Nat) (f : Nat → List UInt8) : List UInt8 := (List.range k).flatMap f
theorem flat_succ (k : Nat) (f : Nat → List UInt8) : flat (k + 1) f = flat k f ++ f k := by simp [flat, List.range_succ]
theorem flat_len (k : Nat) (f : Nat → List UInt8) (h : ∀ i, i < k → (f i).length = 64) : (flat k f).length = k * 64 := by
  induction k with
  | zero => rfl
  | succ k ih => rw [flat_succ, List.length_append, ih (fun i hi => h i (by omega)), h k (by omega)]; omega

set_option maxHeartbeats 4000000 in
set_option maxRecDepth 100000 in
theorem dimage_any (p : Nat) (S : List Nat) (d : DS) (w : World) (h : DiskAt w p S d) :
    Calls Tryd.prog 32 #[.pointer (some ⟨p, 0, none⟩)] w fun e w' => ∃ v, e = .returned v ∧ BRow w' v (flat d.n d.now) ∧ (∀ g, v.ownBlock = some g → w.heap.size ≤ g) ∧ Chg [] w w' := by
  obtain ⟨gn, gl, cn, cl, v, H⟩ := h
  have HH := Lib.hid H
  have c0 : w.cell? ⟨p, 0, none⟩ = some (.slice (some ⟨gn, 0, none⟩) d.n cn) := blk_cell H.head 0 _ rfl
  have hfew := H.few
  have hcn := H.capn
  obtain ⟨i, z, hi, hz, hz1, hz2, hz3⟩ := info_three facts_sec
  have HI := Lib.hid hi
  have HZ := Lib.hid hz
  clear H hi hz hz3
  have HZ1 := Lib.hid hz1
  have HZ2 := Lib.hid hz2
  clear hz1 hz2
  obtain ⟨n, hn⟩ : ∃ n, n = d.n := ⟨_, rfl⟩
  rw [← hn] at c0 hfew hcn
  have HN := Lib.hid hn
  clear hn
  go_enter Tryd.func32, Tryd.ntmps32
  go_wp2
  go_loopg [3, 13] n (fun g' s3 s13 wr => ∃ (k : Nat) (a3 : Option Addr) (c3 : Nat), s3 = .slice a3 (flat k d.now).length c3 ∧ s13 = .int .i64 k ∧ k ≤ n ∧ n ≤ k + g' ∧ Hid (BRow wr s3 (flat k d.now) ∧ (∀ g, s3.ownBlock = some g → w.heap.size ≤ g) ∧ Chg [] w wr))
  case atStart => exact ⟨0, none, 0, rfl, rfl, by omega, by omega, Lib.hid ⟨BRow.nil _, by simp [Value.ownBlock], Chg.refl _ _⟩⟩
  case round =>
    obtain ⟨k, a3, c3, rfl, rfl, hk, hkg, HR⟩ := hrel
    obtain ⟨s3, hs3⟩ : ∃ s3, s3 = Value.slice a3 (flat k d.now).length c3 := ⟨_, rfl⟩
    have HS3 := Lib.hid hs3
    rw [← hs3] at HR
    clear hs3
    by_cases hlt : k < n
    · have hkd : k < d.n := by rw [← HN.out]; exact hlt
      have hlen := HH.out.now.len k hkd
      have HL := Lib.hid hlen
      have hq : wr.rangeAt gn (k * 64) (bvs (d.now k)) := range_keep (HH.out.now.range k hkd) (HR.out.2.2.block gn HH.out.now.lt (by simp))
      have HQ := Lib.hid hq
      have hzs : Hid ((Tryd.prog.info? 77).map (·.size) = some (bvs (d.now k)).length) := Lib.hid (by rw [bvs_len, hlen]; kernel_rfl)
      have hone := Lib.hid (all_oneCell_toArray (bvs_one (d.now k)))
      have HZ1b : Hid (z.cells.size = (bvs (d.now k)).toArray.size) := Lib.hid (by rw [HZ1.out]; simp [bvs_len, hlen])
      have HZ2b : Hid (i.size = (bvs (d.now k)).toArray.size) := Lib.hid (by rw [HZ2.out]; simp [bvs_len, hlen])
      obtain ⟨w1, hw1⟩ : ∃ w1, w1 = wr.alloc (.cells (bvs (d.now k)).toArray 77) := ⟨_, rfl⟩
      have HW1 := Lib.hid hw1
      have hbn : w1.heap[wr.heap.size]? = some (.cells (bvs (d.now k)).toArray 77 (0, 0)) := by rw [hw1]; exact heap_alloc_new wr _
      have hrow1 : Hid (BRow w1 s3 (flat k d.now)) := Lib.hid (HR.out.1.keep (fun g hg => by rw [hw1]; exact Below.heap_alloc wr _ g (HR.out.1.lt g hg)))
      have hc1 : Hid (Chg [] w w1) := Lib.hid (by rw [hw1]; exact HR.out.2.2.alloc _)
      have hB : Hid (BytesAt w1 (.slice (some ⟨wr.heap.size, 0, none⟩) (d.now k).length 64) (d.now k)) := Lib.hid (by
        refine ⟨_, 64, rfl, by omega, by unfold maxLen; omega, .inr ⟨_, 0, rfl, fun j hj => ?_⟩⟩
        rw [Nat.zero_add]
        exact blk_cell hbn j _ (by simpa using bvs_at (d.now k) j hj))
      have hsz : Hid ((flat k d.now).length + (d.now k).length ≤ 140737488355328) := Lib.hid (by
        rw [flat_len k _ (fun i hi => HH.out.now.len i (by omega)), hlen]; omega)
      have hkz : (k : Int) < (n : Int) := by omega
      have hkz1 : (k : Int).toNat = k := by omega
      have hlt1 := blk_lt hbn
      clear hq hw1 hbn hlen
      go_wp2_with (first
        | (refine wpList_load_mid (by rfl) 77 (.tmp 15) (by rfl) gn (k * 64) (by rfl) (bvs (d.now k)) _ HQ.out Tryd.underlying77 rfl hzs.out ?_)
        | (refine wpList_var (by rfl) (by rfl) 77 (.tmp 5) (.tmp 16) (by rfl) (by rfl) wr.heap.size rfl (bvs (d.now k)).toArray (by rfl) (by rfl) i z HI.out HZ.out HZ1b.out HZ2b.out hone.out ?_; rw [← HW1.out])
        | (at_builtin; refine wpList_appB rfl (.tmp 17) (.tmp 19) rfl s3 (flat k d.now) HS3.out.symm hrow1.out _ (d.now k) (by rw [HL.out]; rfl) hB.out hsz.out ?_; intro v1 w2 ho1 hg1 hat1))
      have HO1 := Lib.hid ho1
      have HG1 := Lib.hid hg1
      have HA1 := Lib.hid hat1
      clear ho1 hg1 hat1
      go_roundg (gk - 1)
      case measure => omega
      case rel =>
        have hr : BRow w2 v1 (flat (k + 1) d.now) := by rw [flat_succ]; exact HO1.out
        obtain ⟨a, c, he, _⟩ := hr.bytes
        refine ⟨k + 1, a, c, he, by go_num, by omega, by omega, Lib.hid ⟨hr, fun g hg => ?_, hc1.out.grown HG1.out (fun g hg => .inr (HR.out.2.1 g hg))⟩⟩
        rcases HA1.out with h | h
        · exact HR.out.2.1 g (by rw [← h]; exact hg)
        · rw [h] at hg
          have h1 := hc1.out.size
          have h2 : w1.heap.size = g := by simpa using hg
          omega
    · have hkn : k = n := by omega
      have HK : Hid (flat k d.now = flat d.n d.now) := Lib.hid (by rw [hkn, HN.out])
      clear hkn
      go_wp2
      go_ret
      exact ⟨s3, by rw [HS3.out]; rfl, by rw [← HK.out]; exact HR.out.1, HR.out.2.1, HR.out.2.2⟩
end Go.Proofs.YtipfgghdoicdhaaDoor.W
