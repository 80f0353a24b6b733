/- Package disk: New, gone, has, op, Sectors, Dead, Read. -/
import Derived.Test.YtipfgghdoicdhaaDoorD0
import Derived.Test.YtipfgghdoicdhaaDoorEMore
namespace Go.Proofs.YtipfgghdoicdhaaDoor.W
open Go.RowKit
set_option linter.unusedVariables false
set_option linter.unusedSimpArgs false

set_option maxHeartbeats 2000000 in
set_option maxRecDepth 100000 in
theorem dgone_any (p : Nat) (S : List Nat) (d : DS) (w : World) (h : DiskAt w p S d) : Calls Tryd.prog 35 #[.pointer (some ⟨p, 0, none⟩)] w fun e w' => e = .returned (.bool d.dead) ∧ w = w' := by
  obtain ⟨gn, gl, cn, cl, v, H⟩ := h
  have c5 := blk_cell H.head 5 _ rfl
  have c0 := blk_cell H.head 0 _ rfl
  clear H
  generalize d.dead = dd at *
  generalize d.n = n at *
  have hq : ∀ w, (binOp .eql 71 (.slice (some ⟨gn, 0, none⟩) n cn) (.slice none 0 0)).run Tryd.prog w = .ok (.bool false) w := fun w => Lib.run_eql_slice_nil w 71 77 (some ⟨gn, 0, none⟩) _ _ 0 0 Tryd.underlying71
  cases dd
  all_goals
    go_enter Tryd.func35, Tryd.ntmps35
    go_wp2
    go_ret
    exact ⟨rfl, rfl⟩

set_option maxHeartbeats 2000000 in
set_option maxRecDepth 100000 in
theorem dhas_any (p : Nat) (S : List Nat) (d : DS) (k : Int) (w : World) (h : DiskAt w p S d) : Calls Tryd.prog 36 #[.pointer (some ⟨p, 0, none⟩), .int .i64 k] w fun e w' => e = .returned (.bool (decide (0 ≤ k ∧ k < d.n))) ∧ w = w' := by
  obtain ⟨gn, gl, cn, cl, v, H⟩ := h
  have c0 := blk_cell H.head 0 _ rfl
  clear H
  generalize d.n = n at *
  by_cases h1 : 0 ≤ k
  · have d1 : decide (k ≥ 0) = true := decide_eq_true h1
    go_enter Tryd.func36, Tryd.ntmps36
    go_wp2
    go_ret
    exact ⟨by simp [h1], rfl⟩
  · have d1 : decide (k ≥ 0) = false := decide_eq_false h1
    go_enter Tryd.func36, Tryd.ntmps36
    go_wp2
    go_ret
    exact ⟨by simp [h1], rfl⟩

set_option maxHeartbeats 2000000 in
set_option maxRecDepth 100000 in
theorem dsectors_any (p : Nat) (S : List Nat) (d : DS) (w : World) (h : DiskAt w p S d) : Calls Tryd.prog 40 #[.pointer (some ⟨p, 0, none⟩)] w fun e w' => e = .returned (.int .i64 (d.n : Int)) ∧ w = w' := by
  obtain ⟨gn, gl, cn, cl, v, H⟩ := h
  have c0 := blk_cell H.head 0 _ rfl
  clear H
  generalize d.n = n at *
  go_enter Tryd.func40, Tryd.ntmps40
  go_wp2
  go_ret
  exact ⟨rfl, rfl⟩

set_option maxHeartbeats 2000000 in
set_option maxRecDepth 100000 in
theorem ddead_any (p : Nat) (S : List Nat) (d : DS) (w : World) (h : DiskAt w p S d) : Calls Tryd.prog 26 #[.pointer (some ⟨p, 0, none⟩)] w fun e w' => e = .returned (.bool d.dead) ∧ w = w' := by
  obtain ⟨gn, gl, cn, cl, v, H⟩ := h
  have c5 := blk_cell H.head 5 _ rfl
  clear H
  generalize d.dead = dd at *
  go_enter Tryd.func26, Tryd.ntmps26
  go_wp2
  go_ret
  exact ⟨rfl, rfl⟩

/-- A store into a counter of the disk. -/
theorem DiskOk.put {w w' : World} {p : Nat} {S : List Nat} {d d' : DS} {gn gl cn cl : Nat} {v : Value} (h : DiskOk w p S d gn gl cn cl v) (hc : Chg [p] w w')
    (hh : w'.heap[p]? = some (.cells #[.slice (some ⟨gn, 0, none⟩) d'.n cn, .slice (some ⟨gl, 0, none⟩) d'.n cl, v, .int .i64 d'.fuse, .int .i64 (d'.ops : Int), .bool d'.dead] 74 (0, 0)))
    (e1 : d'.n = d.n) (e2 : d'.now = d.now) (e3 : d'.lasts = d.lasts) (e4 : d'.since = d.since) (e5 : -1 ≤ d'.fuse ∧ d'.fuse ≤ 9223372036854775807) : Did w w' p S d' := by
  have ap := h.ap
  refine ⟨S, ⟨gn, gl, cn, cl, v, hh, ?_, ?_, ?_, ?_, ?_, ?_, ?_, e5, h.ap, h.av, h.mem, fun x hx => Nat.lt_of_lt_of_le (h.lim x hx) hc.size⟩, fun x hx => .inl hx, hc.mono (fun x hx => .inl (by simp at hx; rw [hx]; exact h.mem.1))⟩
  · rw [e1, e2]; exact h.now.keep (hc.block _ h.now.lt (by simp; exact fun e => ap.1 e.symm))
  · rw [e1, e3]; exact h.lasts.keep (hc.block _ h.lasts.lt (by simp; exact fun e => ap.2.1 e.symm))
  · rw [e4]; exact row_keep h.since (fun g hg => hc.block g (World.ownsRow.lt h.since g hg).2 (by simp; exact (h.av g hg).1))
  · rw [e4, e1]; exact h.waits
  · rw [e1]; exact h.few
  · rw [e1]; exact h.capn
  · rw [e1]; exact h.capl

set_option maxHeartbeats 2000000 in
set_option maxRecDepth 100000 in
theorem dop_any (p : Nat) (S : List Nat) (d : DS) (w : World) (h : DiskAt w p S d) (ho : d.ops ≤ 1000000000) :
    Calls Tryd.prog 37 #[.pointer (some ⟨p, 0, none⟩)] w fun e w' => e = .returned (.bool d.op.1) ∧ Did w w' p S d.op.2 := by
  obtain ⟨gn, gl, cn, cl, v, H⟩ := h
  have HH := Lib.hid H
  have c3 := blk_cell H.head 3 _ rfl
  have c4 := blk_cell H.head 4 _ rfl
  have c5 := blk_cell H.head 5 _ rfl
  have f3 := blk_frozen H.head 3
  have f4 := blk_frozen H.head 4
  have f5 := blk_frozen H.head 5
  have hb := H.fuse
  have hlt := blk_lt H.head
  clear H
  by_cases h0 : d.fuse = 0
  · have ho : Hid (d.op = (false, { d with dead := true })) := Lib.hid (by unfold DS.op; rw [if_pos h0])
    have HF : Hid (Did w (w.setCell ⟨p, 5, none⟩ (.bool true)) p S { d with dead := true }) := Lib.hid (HH.out.put ((Chg.refl _ _).setCell (.inl (by simp)) _) (set_blk HH.out.head) rfl rfl rfl rfl HH.out.fuse)
    rw [ho.out]
    rw [h0] at c3
    clear h0 hb
    go_enter Tryd.func37, Tryd.ntmps37
    go_wp2
    go_ret
    exact ⟨rfl, HF.out⟩
  · have he : (d.fuse == 0) = false := by simp [h0]
    by_cases hp : 0 < d.fuse
    · have ho2 : Hid (d.op = (true, { d with fuse := d.fuse - 1, ops := d.ops + 1 })) := Lib.hid (by unfold DS.op; rw [if_neg h0, if_pos hp])
      have HF : Hid (Did w ((w.setCell ⟨p, 3, none⟩ (.int .i64 (d.fuse - 1))).setCell ⟨p, 4, none⟩ (.int .i64 ((d.ops : Int) + 1))) p S { d with fuse := d.fuse - 1, ops := d.ops + 1 }) :=
        Lib.hid (HH.out.put (((Chg.refl _ _).setCell (.inl (by simp)) _).setCell (.inl (by simp)) _) (set_blk (set_blk HH.out.head)) rfl rfl rfl rfl (by show -1 ≤ d.fuse - 1 ∧ d.fuse - 1 ≤ 9223372036854775807; omega))
      have d1 : decide (d.fuse > 0) = true := decide_eq_true hp
      have w1 : IntKind.i64.wrap (d.fuse - 1) = d.fuse - 1 := by rw [IntKind.wrap_i64]; omega
      have w2 : IntKind.i64.wrap ((d.ops : Int) + 1) = (d.ops : Int) + 1 := by rw [IntKind.wrap_i64]; omega
      rw [ho2.out]
      clear ho2
      generalize d.fuse = fu at *
      generalize d.ops = op at *
      go_enter Tryd.func37, Tryd.ntmps37
      go_wp2
      go_ret
      exact ⟨rfl, HF.out⟩
    · have ho2 : Hid (d.op = (true, { d with fuse := d.fuse, ops := d.ops + 1 })) := Lib.hid (by unfold DS.op; rw [if_neg h0, if_neg hp])
      have HF : Hid (Did w (w.setCell ⟨p, 4, none⟩ (.int .i64 ((d.ops : Int) + 1))) p S { d with fuse := d.fuse, ops := d.ops + 1 }) :=
        Lib.hid (HH.out.put ((Chg.refl _ _).setCell (.inl (by simp)) _) (set_blk HH.out.head) rfl rfl rfl rfl HH.out.fuse)
      have d1 : decide (d.fuse > 0) = false := decide_eq_false hp
      have w2 : IntKind.i64.wrap ((d.ops : Int) + 1) = (d.ops : Int) + 1 := by rw [IntKind.wrap_i64]; omega
      rw [ho2.out]
      clear ho2
      generalize d.fuse = fu at *
      generalize d.ops = op at *
      go_enter Tryd.func37, Tryd.ntmps37
      go_wp2
      go_ret
      exact ⟨rfl, HF.out⟩
end Go.Proofs.YtipfgghdoicdhaaDoor.W
