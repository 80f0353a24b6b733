/- Package disk: Sync, Write of whatever disk; Fuse, Ops. -/
import Derived.Test.YtipfgghdoicdhaaDoorSync
import Derived.Test.YtipfgghdoicdhaaDoorD5
namespace Go.Proofs.YtipfgghdoicdhaaDoor.W
open Go.RowKit
set_option linter.unusedVariables false
set_option linter.unusedSimpArgs false

set_option maxHeartbeats 4000000 in
set_option maxRecDepth 100000 in
theorem dsync_any (p : Nat) (S : List Nat) (d : DS) (w : World) (h : DiskAt w p S d) (ho : d.ops ≤ 1000000000) (hw : d.since.length ≤ 1000000) :
    Calls Tryd.prog 72 #[.pointer (some ⟨p, 0, none⟩)] w fun e w' => e = .returned (.int .i64 (d.sync).1) ∧ Did w w' p S (d.sync).2 := by
  obtain ⟨w1, hw1⟩ : ∃ w1, w1 = w.alloc (.cells #[.pointer (some ⟨p, 0, none⟩)] 24) := ⟨_, rfl⟩
  have hc1 : Chg [] w w1 := by rw [hw1]; exact (Chg.refl _ _).alloc _
  have h1 : DiskAt w1 p S d := h.keep hc1 (by simp)
  have hB0 : w1.cell? ⟨w.heap.size, 0, none⟩ = some (.pointer (some ⟨p, 0, none⟩)) := by rw [hw1]; exact blk_cell (heap_alloc_new w _) 0 _ rfl
  have CG := Lib.hid (dgone_any p S d w1 h1)
  have CO := Lib.hid (dop_any p S d w1 h1 ho)
  have HW1 := Lib.hid hw1
  by_cases hd : d.dead = true
  · have HS : Hid (d.sync = (14, d)) := Lib.hid (by unfold DS.sync; rw [if_pos hd])
    have HF : Hid (Did w w1 p S d) := Lib.hid (Did.pre hc1 (Did.same h1))
    rw [hd] at CG
    rw [HS.out]
    clear hd h h1 hc1 hw1 CO
    go_enter Tryd.func72, Tryd.ntmps72
    go_wp2_with fail
    rw [← HW1.out]
    refine CG.out.mono ?_
    rintro e w' ⟨rfl, hq⟩
    subst hq
    go_wp2
    go_ret
    exact ⟨rfl, HF.out⟩
  · by_cases hf : d.fuse = 0
    · have hd' : d.dead = false := by simpa using hd
      have ho2 : d.op = (false, { d with dead := true }) := by unfold DS.op; rw [if_pos hf]
      have HS : Hid (d.sync = (14, { d with dead := true })) := Lib.hid (by unfold DS.sync; rw [if_neg hd, ho2]; rfl)
      rw [hd'] at CG
      rw [ho2] at CO
      dsimp only at CO
      rw [HS.out]
      have HC1 := Lib.hid hc1
      clear hd h h1 hc1 hw1 hf hd' ho2
      go_enter Tryd.func72, Tryd.ntmps72
      go_wp2_with fail
      rw [← HW1.out]
      refine CG.out.mono ?_
      rintro e w' ⟨rfl, hq⟩
      subst hq
      go_wp2_with fail
      refine CO.out.mono ?_
      rintro e w' ⟨rfl, hq⟩
      have HF := Lib.hid (Did.pre HC1.out hq)
      clear hq
      go_wp2
      go_ret
      exact ⟨rfl, HF.out⟩
    · exact dsync_ok p S d w h ho hw (by simpa using hd) hf

set_option maxHeartbeats 4000000 in
set_option maxRecDepth 100000 in
theorem dwrite_dead (p : Nat) (S : List Nat) (d : DS) (k : Int) (v : Value) (b : List UInt8) (w : World) (h : DiskAt w p S d) (hd : d.dead = true) :
    Calls Tryd.prog 12 #[.pointer (some ⟨p, 0, none⟩), .int .i64 k, v] w fun e w' => e = .returned (.int .i64 (d.write k b).1) ∧ Did w w' p S (d.write k b).2 := by
  have CG := Lib.hid (dgone_any p S d w h)
  have HW : Hid (d.write k b = (14, d)) := Lib.hid (by unfold DS.write; rw [if_pos hd])
  have HF := Lib.hid (Did.same h)
  rw [hd] at CG
  rw [HW.out]
  clear hd h
  go_enter Tryd.func12, Tryd.ntmps12
  go_wp2_with (go_at_call 35; refine CG.out.mono ?_; rintro e w' ⟨rfl, hq⟩; subst hq)
  go_ret
  exact ⟨rfl, HF.out⟩
theorem dwrite_any (p : Nat) (S : List Nat) (d : DS) (k : Int) (v : Value) (b : List UInt8) (w : World) (h : DiskAt w p S d) (ho : d.ops ≤ 1000000000) (hw : d.since.length ≤ 1000000) (hk : 0 ≤ k ∧ k < d.n) (hb : b.length = 64) (hv : BytesAt w v b) :
    Calls Tryd.prog 12 #[.pointer (some ⟨p, 0, none⟩), .int .i64 k, v] w fun e w' => e = .returned (.int .i64 (d.write k b).1) ∧ Did w w' p S (d.write k b).2 := by
  by_cases hd : d.dead = true
  · exact dwrite_dead p S d k v b w h hd
  · obtain ⟨j, rfl⟩ := Int.eq_ofNat_of_zero_le hk.1
    obtain ⟨a, cap, rfl, h1, h2, h3⟩ := hv
    rcases h3 with ⟨rfl, _⟩ | ⟨g, o, rfl, hc⟩
    · simp at hb
    · rw [hb]
      refine dwrite_ok p S d j g o cap b w h ho hw (by simpa using hd) (by omega) hb (fun i u hu => ?_)
      have hi : i < b.length := by
        have := (List.getElem?_eq_some_iff.1 hu).1
        rwa [bvs_len] at this
      rw [bvs_at b i hi] at hu
      cases hu
      exact hc i hi

def DS.setFuse (d : DS) (n : Int) : DS := { d with fuse := max n (-1) }
set_option maxHeartbeats 4000000 in
set_option maxRecDepth 100000 in
theorem dfuse_any (p : Nat) (S : List Nat) (d : DS) (n : Int) (w : World) (h : DiskAt w p S d) (hn : n ≤ 9223372036854775807) :
    Calls Tryd.prog 25 #[.pointer (some ⟨p, 0, none⟩), .int .i64 n] w fun e w' => e = .returned (.tuple #[]) ∧ Did w w' p S (d.setFuse n) := by
  obtain ⟨gn, gl, cn, cl, v, H⟩ := h
  have c3 := blk_cell H.head 3 _ rfl
  have f3 := blk_frozen H.head 3
  have hlt := blk_lt H.head
  have HF : Hid (Did w (w.setCell ⟨p, 3, none⟩ (.int .i64 (max n (-1)))) p S (d.setFuse n)) := Lib.hid
    (H.put (d' := d.setFuse n) ((Chg.refl _ _).setCell (.inl (by simp)) _) (set_blk H.head) rfl rfl rfl rfl (by show -1 ≤ max n (-1) ∧ max n (-1) ≤ 9223372036854775807; omega))
  clear H
  go_enter Tryd.func25, Tryd.ntmps25
  go_wp2
  go_end0
  exact ⟨rfl, HF.out⟩

set_option maxHeartbeats 2000000 in
set_option maxRecDepth 100000 in
theorem dops_any (p : Nat) (S : List Nat) (d : DS) (w : World) (h : DiskAt w p S d) : Calls Tryd.prog 31 #[.pointer (some ⟨p, 0, none⟩)] w fun e w' => e = .returned (.int .i64 (d.ops : Int)) ∧ w = w' := by
  obtain ⟨gn, gl, cn, cl, v, H⟩ := h
  have c4 := blk_cell H.head 4 _ rfl
  clear H
  generalize d.ops = op at *
  go_enter Tryd.func31, Tryd.ntmps31
  go_wp2
  go_ret
  exact ⟨rfl, rfl⟩
end Go.Proofs.YtipfgghdoicdhaaDoor.W
