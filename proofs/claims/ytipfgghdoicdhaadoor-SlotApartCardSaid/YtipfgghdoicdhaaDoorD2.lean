/- Package disk: Read. -/
import Derived.Test.YtipfgghdoicdhaaDoorD1
namespace Go.Proofs.YtipfgghdoicdhaaDoor.W
open Go.RowKit
set_option linter.unusedVariables false
set_option linter.unusedSimpArgs false

/-- What Read answers. -/
def DReadPost (d : DS) (k : Int) (w : World) (e : Ending) (w' : World) : Prop :=
  (if d.dead = true then e = .returned (.tuple #[.slice none 0 0, .int .i64 14]) else
   if 0 ≤ k ∧ k < d.n then ∃ v, e = .returned (.tuple #[v, .int .i64 0]) ∧ BRow w' v (d.now k.toNat) ∧ ∀ g, v.ownBlock = some g → w.heap.size ≤ g
   else e = .returned (.tuple #[.slice none 0 0, .int .i64 1])) ∧ Chg [] w w'

set_option maxHeartbeats 2000000 in
set_option maxRecDepth 100000 in
theorem dread_any (p : Nat) (S : List Nat) (d : DS) (k : Int) (w : World) (h : DiskAt w p S d) : Calls Tryd.prog 42 #[.pointer (some ⟨p, 0, none⟩), .int .i64 k] w (DReadPost d k w) := by
  have CG := Lib.hid (dgone_any p S d w h)
  have CH := Lib.hid (dhas_any p S d k w h)
  obtain ⟨gn, gl, cn, cl, v, H⟩ := h
  have c0 := blk_cell H.head 0 _ rfl
  have HH := Lib.hid H
  clear H
  by_cases hd : d.dead = true
  · have P1 : ∀ e w', e = Ending.returned (.tuple #[.slice none 0 0, .int .i64 14]) → Chg [] w w' → DReadPost d k w e w' := fun e w' h1 h2 => ⟨by rw [if_pos hd]; exact h1, h2⟩
    have HP := Lib.hid P1
    rw [hd] at CG
    clear hd P1
    go_enter Tryd.func42, Tryd.ntmps42
    go_wp2_with (go_at_call 35; refine CG.out.mono ?_; rintro e w' ⟨rfl, rfl⟩)
    go_ret2
    exact HP.out _ _ rfl (Chg.refl _ _)
  · have hd' : d.dead = false := by simpa using hd
    rw [hd'] at CG
    by_cases hk : 0 ≤ k ∧ k < d.n
    · have P1 : ∀ e w', (∃ v, e = Ending.returned (.tuple #[v, .int .i64 0]) ∧ BRow w' v (d.now k.toNat) ∧ ∀ g, v.ownBlock = some g → w.heap.size ≤ g) → Chg [] w w' → DReadPost d k w e w' := fun e w' h1 h2 => ⟨by rw [if_neg hd, if_pos hk]; exact h1, h2⟩
      have HP := Lib.hid P1
      rw [decide_eq_true hk] at CH
      clear P1 hd hd'
      obtain ⟨j, rfl⟩ : ∃ j : Nat, k = j := ⟨k.toNat, by omega⟩
      have hj : j < d.n := by omega
      have CC := Lib.hid (clone_any _ (d.now j) w (HH.out.now.bytes j hj) (by rw [HH.out.now.len j hj]; omega))
      rw [Int.toNat_natCast] at HP
      obtain ⟨hk1, hk2⟩ := hk
      clear HH
      generalize hnn : d.n = n at *
      clear hnn
      go_enter Tryd.func42, Tryd.ntmps42
      go_wp2_with (first
        | (go_at_call 35; refine CG.out.mono ?_; rintro e w' ⟨rfl, rfl⟩)
        | (go_at_call 36; refine CH.out.mono ?_; rintro e w' ⟨rfl, rfl⟩)
        | (go_at_call 55; refine CC.out.mono ?_; rintro e w1 ⟨v1, rfl, hr, hn, hc⟩; have HR := Lib.hid (And.intro hr (And.intro hn hc)); clear hr hn hc))
      go_ret2
      exact HP.out _ _ ⟨_, rfl, HR.out.1, HR.out.2.1⟩ HR.out.2.2
    · have P1 : ∀ e w', e = Ending.returned (.tuple #[.slice none 0 0, .int .i64 1]) → Chg [] w w' → DReadPost d k w e w' := fun e w' h1 h2 => ⟨by rw [if_neg hd, if_neg hk]; exact h1, h2⟩
      have HP := Lib.hid P1
      rw [decide_eq_false hk] at CH
      clear hk P1 hd hd'
      go_enter Tryd.func42, Tryd.ntmps42
      go_wp2_with (first
        | (go_at_call 35; refine CG.out.mono ?_; rintro e w' ⟨rfl, rfl⟩)
        | (go_at_call 36; refine CH.out.mono ?_; rintro e w' ⟨rfl, rfl⟩))
      go_ret2
      exact HP.out _ _ rfl (Chg.refl _ _)
end Go.Proofs.YtipfgghdoicdhaaDoor.W
