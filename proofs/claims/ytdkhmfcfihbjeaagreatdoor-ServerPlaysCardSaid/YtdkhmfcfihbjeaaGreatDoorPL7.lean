/- Texts laid together. -/
import Derived.Test.YtdkhmfcfihbjeaaGreatDoorPL6
import Derived.Test.YtdkhmfcfihbjeaaGreatDoorPL1
import Derived.Test.YtdkhmfcfihbjeaaGreatDoorPL3
import Derived.Test.YtdkhmfcfihbjeaaGreatDoorPL4
import Derived.Test.YtdkhmfcfihbjeaaGreatDoorPL5
import Derived.Test.YtdkhmfcfihbjeaaGreatDoorPL2
import Derived.Deep.Slices
import Derived.ChangeSlices
set_option linter.unusedVariables false
set_option linter.unusedSimpArgs false
set_option maxHeartbeats 64000000
set_option maxRecDepth 100000
namespace Go.Proofs.YtdkhmfcfihbjeaaGreatDoor.W
open Go.RowKit
theorem PadAt.keepW {w0 w w' : World} {v : Value} {b : List UInt8} {j : Nat} {PV : List Value} {W : List Nat} (h : PadAt w0 w v b j PV) (hc : Chg W w w') (hW : ∀ x ∈ W, x < w0.heap.size) : PadAt w0 w' v b j PV := by
 have hn : ∀ g, w0.heap.size <= g -> g ∉ W := fun g hg hm => by have := hW g hm; omega
 exact ⟨row_keep h.row (fun g hg => hc.block g (World.ownsRow.lt h.row g hg).2 (hn g (h.new g hg))), fun k hk => ⟨(h.secs k hk).1.chg hc (fun g hg => hn g ((h.secs k hk).2 g hg).1), (h.secs k hk).2⟩, h.new⟩
theorem PadAt.form {w0 w : World} {v : Value} {b : List UInt8} {j : Nat} {PV : List Value} (h : PadAt w0 w v b j PV) : ∃ a cap, v = .slice a j cap := by
 rcases h.row.2 with ⟨h1, h2⟩ | ⟨g, cap, cur, h1, _⟩
 ·exact ⟨none, 0, by rw [h1, h2]⟩
 ·exact ⟨_, cap, h1⟩
theorem PadAt.at {w0 w : World} {v : Value} {b : List UInt8} {j : Nat} {PV : List Value} (h : PadAt w0 w v b j PV) (k : Nat) (hk : k < j) : ∃ g cap ax cx, v = .slice (some ⟨g, 0, none⟩) j cap /\ w.cell? ⟨g, k, none⟩ = some (.slice ax 64 cx) /\ BytesAt w (.slice ax 64 cx) (secAt b k) /\ ∀ x, (Value.slice ax 64 cx).ownBlock = some x -> w0.heap.size <= x := by
 rcases h.row.2 with ⟨h1, h2⟩ | ⟨g, cap, cur, h1, _⟩
 ·omega
 ·have hr := h.row
  rw [h1] at hr
  obtain ⟨_, k0, _⟩ := own_cell hr k hk
  obtain ⟨b1, b2⟩ := h.secs k hk
  obtain ⟨ax, cx, hx⟩ := b1.slice
  rw [secAt_len] at hx
  rw [hx] at k0 b1 b2
  exact ⟨g, cap, ax, cx, h1, k0, b1, fun x hx => (b2 x hx).1⟩
theorem RSlotsAt.outside {w : World} {q m : Nat} {W A : List Nat} {s : SS} (h : RSlotsAt w q m W A s) {v : Value} {l : List UInt8} (hv : BytesAt w v l) (hl : l ≠ []) : ∀ k, v.ownBlock = some k -> k ∉ W := fun k hk hm => (h.lim.2.2 k hm).not_bytes v l hv hl hk
theorem DS.lay_succ (d : DS) (pos : Nat) (b : List UInt8) (n j : Nat) : d.lay pos b (n + 1) j = if (d.write ((pos + j : Nat) : Int) (secAt b j)).1 ≠ 0 then d.write ((pos + j : Nat) : Int) (secAt b j) else (d.write ((pos + j : Nat) : Int) (secAt b j)).2.lay pos b n (j + 1) := rfl
theorem rput_any (q m : Nat) (W A : List Nat) (s : SS) (i : Int) (kv bv : Value) (key b : List UInt8) (w : World) (h : RSlotsAt w q m W A s) (hk : BytesAt w kv key) (hb : BytesAt w bv b)
  (hkl : key.length <= 1000000) (hbl : b.length <= 1000000) (ho : s.d.ops <= 900000000) (hw : s.d.since.length <= 900000) :
  Calls Tryz.prog 114 #[.pointer (some ⟨q, 0, none⟩), .int .i64 i, kv, bv] w (RSidPost w q m W A (s.put i key b)) := by
 have HS := LH h
 have HK := LH hk
 have HB := LH hb
 obtain ⟨V, F, rv, R, H⟩ := h
 have HH := LH H
 have c0 : w.cell? ⟨q, 0, none⟩ = some (.pointer (some ⟨m, 0, none⟩)) := blk_cell H.obj.head 0 _ rfl
 have c1 : w.cell? ⟨q, 1, none⟩ = some (.int .i64 (s.first : Int)) := blk_cell H.obj.head 1 _ rfl
 have c2 : w.cell? ⟨q, 2, none⟩ = some rv := blk_cell H.obj.head 2 _ rfl
 obtain ⟨a0, cap0, hrv0, hcap0⟩ := H.form
 have hfew := H.few
 obtain ⟨ka, kc, rfl⟩ := hk.slice
 obtain ⟨ba, bc, rfl⟩ := hb.slice
 by_cases hi : s.has i
 ·have hi' := hi
  obtain ⟨h0, h1⟩ := hi'
  obtain ⟨j, rfl⟩ := Int.eq_ofNat_of_zero_le h0
  have hjl : j < s.rows.length := by omega
  have q0 : decide ((j : Int) < 0) = false := decide_eq_false (by omega)
  by_cases hlong : 40 < key.length ∨ 448 < b.length
  ·have hg : s.put (j : Int) key b = (3, s) := by unfold SS.put; rw [if_neg (by simpa using hi), if_pos hlong]
   have HP := LH (RSidPost.same (c := 3) HS.out)
   have HG := LH hg
   rw [HG.out]
   subst hrv0
   generalize s.rows.length = n at *
   have hnj : ¬ n <= j := by omega
   clear H HH hi hg hk hb c0 c1 hfew
   by_cases hk40 : 40 < key.length
   ·clear hlong
    go_enter Tryz.func114, Tryz.ntmps114
    go_wp2
    go_ret
    exact HP.out
   ·have hz2 : 448 < b.length := by omega
    clear hlong
    go_enter Tryz.func114, Tryz.ntmps114
    go_wp2
    go_ret
    exact HP.out
  ·obtain ⟨hk40, hb448⟩ : key.length <= 40 /\ b.length <= 448 := by omega
   obtain ⟨g, cap, kv0, hrv, hcap, hcm, k0, k1, k2, k3, k4⟩ := H.at j hjl
   have hrow : s.row (j : Int) = s.rows.getD j noRow := rfl
   have hz1 : ¬ 40 < key.length := by omega
   have hz2 : ¬ 448 < b.length := by omega
   have hnj : ¬ s.rows.length <= j := by omega
   have hjz : (j : Int) < (s.rows.length : Int) := by omega
   have hjz1 : (j : Int).toNat = j := by omega
   by_cases hu : (s.row (j : Int)).used = true
   ·have hg : s.put (j : Int) key b = (7, s) := by unfold SS.put; rw [if_neg (by simpa using hi), if_neg hlong, if_pos hu]
    have HP := LH (RSidPost.same (c := 7) HS.out)
    have HG := LH hg
    rw [HG.out]
    rw [hrow] at hu
    rw [hu] at k0
    subst hrv
    generalize s.rows.getD j noRow = r at *
    generalize s.rows.length = n at *
    clear H HH c0 c1 k1 k2 k3 k4 hu hg hi hrow hlong hk hb hrv0
    go_enter Tryz.func114, Tryz.ntmps114
    go_wp2
    go_ret
    exact HP.out
   ·have hu' : (s.rows.getD j noRow).used = false := by rw [<- hrow]; simpa using hu
    rw [hu'] at k0
    have hg : s.put (j : Int) key b = if (s.d.lays (s.pos j + 1) b).1 ≠ 0 then ((s.d.lays (s.pos j + 1) b).1, { s with d := (s.d.lays (s.pos j + 1) b).2 }) else
      if ((s.d.lays (s.pos j + 1) b).2.lays (s.pos j) (headBytes b.length key)).1 ≠ 0 then (((s.d.lays (s.pos j + 1) b).2.lays (s.pos j) (headBytes b.length key)).1, { s with d := ((s.d.lays (s.pos j + 1) b).2.lays (s.pos j) (headBytes b.length key)).2 }) else
      (0, { s with d := ((s.d.lays (s.pos j + 1) b).2.lays (s.pos j) (headBytes b.length key)).2, rows := s.rows.set j ⟨true, b.length, key⟩ }) := by
     unfold SS.put
     rw [if_neg (by simpa using hi), if_neg hlong, if_neg hu]
     rfl
    have hpos : s.pos (j : Int) = s.first + 8 * j := rfl
    have hroom := H.ok.room
    obtain ⟨p6, hnd, -⟩ := H.disk.read
    have hfj : ((s.first : Int) + (j : Int) * 8) = ((s.pos (j : Int) : Nat) : Int) := by rw [hpos]; omega
    have hpl : s.pos (j : Int) + 8 <= s.d.n := by rw [hpos]; omega
    have hff : s.first <= 4160 := by omega
    have hj5 : j <= 1000 := by omega
    by_cases hd : s.d.dead = true
    ·have hgg : s.put (j : Int) key b = (14, s) := by rw [hg, DS.lays_dead hd, if_pos (by simp)]
     have HP := LH (RSidPost.same (c := 14) HS.out)
     have HG := LH hgg
     rw [HG.out]
     rw [hd] at p6
     subst hrv
     generalize s.rows.length = n at *
     clear H HH c1 k1 k2 k3 k4 hu hg hgg hi hrow hroom hrv0 hpos hfj hpl hd hlong hk hb
     go_enter Tryz.func114, Tryz.ntmps114
     go_wp2
     go_ret
     exact HP.out
    ·have hd' : s.d.dead = false := by simpa using hd
     rw [hd'] at p6
     have hm7 : nsec b.length <= 7 := by unfold nsec; omega
     obtain ⟨M, hM⟩ : ∃ M, M = nsec b.length := ⟨_, rfl⟩
     have hLL : s.d.lays (s.pos j + 1) b = s.d.lay (s.pos j + 1) b M 0 := by rw [hM]; rfl
     have hns2 : nsec (headBytes b.length key).length = 1 := by rw [headBytes_len _ _ hb448 hk40]; unfold nsec; omega
     have hso := fun d => DS.lays_one (d := d) (s.pos j) (headBytes b.length key) hns2
     have hhl := headBytes_len b.length key hb448 hk40
     have HN2 := LH hns2
     have H3 : Hid ((h2 b.length).2 = 0 /\ (h3 b.length key).2 = 0) := LH ⟨by rw [h2_eq _ hb448], by rw [h3_eq _ _ hb448 hk40]⟩
     have CP := LH (rpadded_any _ b w hb hbl)
     obtain ⟨pos, hpp⟩ : ∃ pos, pos = s.pos (j : Int) := ⟨_, rfl⟩
     rw [<- hpp] at hg hfj hpl hLL hso
     obtain ⟨Z, hZ⟩ : ∃ Z, Z = s.put (j : Int) key b := ⟨_, rfl⟩
     rw [<- hZ] at hg ⊢
     obtain ⟨n, hn⟩ : ∃ n, n = s.rows.length := ⟨_, rfl⟩
     rw [<- hn] at hrv hcap hnj hjz hjl
     have HN := LH hn
     rw [<- hM] at hm7
     have HM := LH hM
     have HSO := LH hso
     have HHL := LH hhl
     have HG := LH hg
     have HLL := LH hLL
     subst hrv
     clear H k1 k2 k3 k4 hu hu' hi hrow hroom hrv0 hpos hd hd' hZ hpp hn hfew h1 hcap0 hM hso hhl hg hLL hns2 hlong hk hb
     obtain ⟨fst, hfst⟩ : ∃ fst, fst = s.first := ⟨_, rfl⟩
     rw [<- hfst] at c1 hfj hff
     clear hfst
     have hwr : Hid (IntKind.i64.wrap ((fst : Int) + IntKind.i64.wrap ((j : Int) * 8)) = (pos : Int)) := LH (by rw [IntWalk.i64_in ((j : Int) * 8) ⟨by omega, by omega⟩, IntWalk.i64_in _ ⟨by omega, by omega⟩]; exact hfj)
     go_enter Tryz.func114, Tryz.ntmps114
     go_wp2_with fail
     refine CP.out.mono ?_
     rintro e w1 ⟨v, PV, rfl, hpad, hc1⟩
     obtain ⟨va, vc, rfl⟩ := hpad.form
     rw [<- HM.out] at hpad
     have HP1 := LH hpad
     have HC1 := LH hc1
     have HS1 := LH (HS.out.keep hc1 (by simp))
     rw [<- HM.out]
     clear hpad hc1 CP c0 c1 c2 k0 p6
     go_wp2_with fail
     go_loopg [11, 12] M (fun g' s11 s12 wr => ∃ (k : Nat) (dk : DS), s11 = .int .i64 (k : Int) /\ k <= M /\ M <= k + g' /\ Hid (RSid w1 wr q m W A { s with d := dk } /\ dk.n = s.d.n /\ dk.ops <= s.d.ops + k /\ dk.since.length <= s.d.since.length + k /\ s.d.lays (pos + 1) b = dk.lay (pos + 1) b (M - k) k))
     case atStart => exact ⟨0, s.d, rfl, by omega, by omega, LH ⟨RSid.same HS1.out, rfl, by omega, by omega, HLL.out⟩⟩
     case round =>
      obtain ⟨k, dk, rfl, hk, hkg, HJ⟩ := hrel
      obtain ⟨hsk, hkn, hko, hks, hkl2⟩ := HJ.out
      obtain ⟨Wk, Ak, ⟨Vk, Fk, rvk, Rk, Hk⟩, hWk, hAk, hCk⟩ := hsk
      have c0 : wr.cell? ⟨q, 0, none⟩ = some (.pointer (some ⟨m, 0, none⟩)) := blk_cell Hk.obj.head 0 _ rfl
      have hWw : ∀ x ∈ W, x < w.heap.size := fun x hx => (HS.out.lim).1 x (HS.out.lim.2.1 x hx)
      have HPk := LH (HP1.out.keepW hCk hWw)
      have HHk := LH Hk
      have HGk := LH (And.intro hWk (And.intro hAk hCk))
      have HLk := LH hkl2
      have HWw := LH hWw
      by_cases hlt : k < M
      ·obtain ⟨gv, cv, ax, cx, hve, e1, b1, b2⟩ := HPk.out.at k hlt
       obtain ⟨rfl, rfl⟩ : va = some ⟨gv, 0, none⟩ /\ vc = cv := by simpa using hve
       have hkz : (k : Int) < (M : Int) := by omega
       have hkz1 : (k : Int).toNat = k := by omega
       have hkz0 : (0 : Int) <= (k : Int) := by omega
       have hw1 : IntKind.i64.wrap ((pos : Int) + 1 + (k : Int)) = ((pos + 1 + k : Nat) : Int) := by rw [IntWalk.i64_in _ ⟨by omega, by omega⟩]; omega
       have hw2 : Hid (IntKind.i64.wrap (IntKind.i64.wrap ((pos : Int) + 1) + (k : Int)) = ((pos + 1 + k : Nat) : Int)) := LH (by rw [IntWalk.i64_in ((pos : Int) + 1) ⟨by omega, by omega⟩]; exact hw1)
       have CW := LH (rwrite_any m Vk Fk dk (pos + 1 + k) (.slice ax 64 cx) (secAt b k) wr.drew (Hk.disk.keep (by exact (Chg.refl [] wr).drew) (by simp)) (by omega) (by omega) (by omega) (secAt_len b k) (b1.chg (by exact (Chg.refl [] wr).drew) (by simp)) (fun x hx hm => by
        have h1 := b2 x hx
        rcases hWk x (Hk.sub.1 x hm) with h2 | h2
        ·have := hWw x h2; omega
        ·have hne : secAt b k ≠ [] := fun e => by have := secAt_len b k; rw [e] at this; simp at this
         have h3 := (HP1.out.at k hlt)
         obtain ⟨gv', cv', ax', cx', hve', e1', b1', b2'⟩ := h3
         obtain ⟨rfl, rfl⟩ : gv = gv' /\ vc = cv' := by simpa using hve'
         have e2 := hCk.cell e1' (fun hm2 => by
          have h5 : gv < w.heap.size := hWw gv hm2
          have h6 := HP1.out.new gv rfl
          omega)
         have e3 : Value.slice ax 64 cx = Value.slice ax' 64 cx' := Option.some.inj (e1.symm.trans e2)
         rw [e3] at hx
         have := b1'.lt hne x hx
         omega))
       have hwo := DS.write_ok dk ((pos + 1 + k : Nat) : Int) (secAt b k)
       obtain ⟨nk, hnk⟩ : ∃ nk, M - k = nk + 1 := ⟨M - k - 1, by omega⟩
       have hlk := hkl2
       rw [hnk, DS.lay_succ] at hlk
       clear Hk hWk hAk hCk hkl2 hve b1 b2 HJ hWw
       generalize dk.write ((pos + 1 + k : Nat) : Int) (secAt b k) = zw at *
       obtain ⟨r1, d1⟩ := zw
       dsimp only at CW hwo hlk
       have HLK := LH hlk
       clear hlk
       go_wp2_with fail
       refine wp_region_L [(12, fun w' => w'.cell? ⟨q, 0, none⟩ = some (.pointer (some ⟨m, 0, none⟩))), (12, fun w' => w'.cell? ⟨gv, k, none⟩ = some (.slice ax 64 cx))] (by kernel_rfl) ?_ (fun hHeld => ?_)
       ·exact (HoldC.cons (c0) (HoldC.cons (e1) HoldC.nil))
       refine tk 0 ?_ rfl (by kernel_rfl) (fun _ _ _ h => h) (.inl ⟨by rfl, ?_⟩) hHeld ?_; rotate_left; · (intro w _; go_simp; try with_reducible rfl)
       clear hHeld; intro hHeld; try simp only [gA,gB,gC,Act.put,gD,gE,gF]
       refine tk 1 ?_ rfl (by kernel_rfl) (fun _ _ _ h => h) (.inl ⟨by rfl, ?_⟩) hHeld ?_; rotate_left; · (intro w _; go_simp; try with_reducible rfl)
       clear hHeld; intro hHeld; try simp only [gA,gB,gC,Act.put,gD,gE,gF]
       refine tk 2 ?_ rfl (by kernel_rfl) (fun _ _ _ h => h) (.inl ⟨by rfl, ?_⟩) hHeld ?_; rotate_left; · (intro w _; go_simp; try with_reducible rfl)
       clear hHeld; intro hHeld; try simp only [gA,gB,gC,Act.put,gD,gE,gF]
       refine tk 4 ?_ rfl (by kernel_rfl) (fun _ _ _ h => h) (.inl ⟨by rfl, ?_⟩) hHeld ?_; rotate_left; · (intro w _; go_simp; try with_reducible rfl)
       clear hHeld; intro hHeld; try simp only [gA,gB,gC,Act.put,gD,gE,gF]
       refine tk 5 ?_ rfl (by kernel_rfl) (fun _ _ _ h => h) (.inl ⟨by rfl, ?_⟩) hHeld ?_; rotate_left; · (intro w _; go_simp; try with_reducible rfl)
       clear hHeld; intro hHeld; try simp only [gA,gB,gC,Act.put,gD,gE,gF]
       refine tk 6 ?_ rfl (by kernel_rfl) (fun _ _ _ h => h) (.inl ⟨by rfl, ?_⟩) hHeld ?_; rotate_left; · (intro w _; go_simp; try with_reducible rfl)
       clear hHeld; intro hHeld; try simp only [gA,gB,gC,Act.put,gD,gE,gF]
       refine tk 7 ?_ rfl (by kernel_rfl) (fun _ _ _ h => h) (.inl ⟨by rfl, ?_⟩) hHeld ?_; rotate_left; · (intro w _; go_simp; try with_reducible rfl)
       clear hHeld; intro hHeld; try simp only [gA,gB,gC,Act.put,gD,gE,gF]
       refine tk 8 ?_ rfl (by kernel_rfl) (fun _ _ _ h => h) (.inl ⟨by rfl, ?_⟩) hHeld ?_; rotate_left; · (intro w _; go_simp; try with_reducible rfl)
       clear hHeld; intro hHeld; try simp only [gA,gB,gC,Act.put,gD,gE,gF]
       refine tk 9 ?_ rfl (by kernel_rfl) (fun _ _ _ h => h) (.inl ⟨by rfl, ?_⟩) hHeld ?_; rotate_left; · (intro w _; go_simp; try with_reducible rfl)
       clear hHeld; intro hHeld; try simp only [gA,gB,gC,Act.put,gD,gE,gF]
       refine tk 10 ?_ rfl (by kernel_rfl) (fun _ _ _ h => h) (.inl ⟨by rfl, ?_⟩) hHeld ?_; rotate_left; · (intro w _; go_simp; try with_reducible rfl)
       clear hHeld; intro hHeld; try simp only [gA,gB,gC,Act.put,gD,gE,gF]
       refine ld 0 3 ?_ rfl rfl (by kernel_rfl) (fun _ _ _ h => h) (.inl ⟨by rfl, ?_⟩) hHeld ?_; rotate_left; · (intro w hSw; (try dsimp only at hSw); go_simp; try with_reducible rfl)
       clear hHeld; intro hHeld; try simp only [gA,gB,gC,Act.put,gD,gE,gF]
       refine ld 1 11 ?_ rfl rfl (by kernel_rfl) (fun _ _ _ h => h) (.inl ⟨by rfl, ?_⟩) hHeld ?_; rotate_left; · (intro w hSw; (try dsimp only at hSw); go_simp; try with_reducible rfl)
       clear hHeld; intro hHeld; try simp only [gA,gB,gC,Act.put,gD,gE,gF]
       refine wpAnyL_ready (rs := [12]) (by kernel_rfl) (by simp) (AllReadyL.cons (o := _) rfl (fun K hK => ?_) AllReadyL.nil)
       try simp only [gA,gB,gC]
       go_simp
       try rw [hw2.out]
       refine CW.out.mono ?_
       rintro e w3 ⟨rfl, hd3⟩
       have hcd : Chg [] wr wr.drew := by exact (Chg.refl [] wr).drew
       have hs3 := RSid.pre hcd ((HHk.out.keep hcd (by simp)).did hd3 (by show d1.n = dk.n; exact hwo.1))
       have HS3 : Hid (RSid w1 w3 q m W A { s with d := d1 }) := LH (RSid.glue HGk.out.1 HGk.out.2.1 HGk.out.2.2 hs3)
       clear hs3 hcd hd3 CW
       try go_wp2_with fail
       clear hHeld
       refine hK.out _ _ ?_ (fun hHeld => ?_)
       ·exact (HoldC.past (by kernel_rfl) (HoldC.past (by kernel_rfl) HoldC.nil))
       clear hK K
       try simp only [gA,gB,gC,Act.put,gD,gE,gF]
       refine tk 13 ?_ rfl (by kernel_rfl) (fun _ _ _ h => h) (.inl ⟨by rfl, ?_⟩) hHeld ?_; rotate_left; · (intro w _; go_simp; try with_reducible rfl)
       clear hHeld; intro hHeld; try simp only [gA,gB,gC,Act.put,gD,gE,gF]
       refine wpAnyL_done (by kernel_rfl) ?_ _
       clear hHeld
       clear c0 e1
       by_cases hr1 : r1 = 0
       ·subst hr1
        have HLN : Hid (s.d.lays (pos + 1) b = d1.lay (pos + 1) b (M - (k + 1)) (k + 1)) := LH (by
         rw [HLK.out, if_neg (by simp), show nk = M - (k + 1) by omega])
        go_wp2
        go_roundg (gk - 1)
        case measure => omega
        case rel => exact ⟨k + 1, d1, by go_num, by omega, by omega, LH ⟨HS3.out, by rw [hwo.1, hkn], by omega, by omega, HLN.out⟩⟩
       ·have q2 : (r1 != 0) = true := by simp [hr1]
        have HZ : Hid (Z = (r1, { s with d := d1 })) := LH (by rw [HG.out, HLK.out, if_pos hr1, if_pos hr1])
        clear hr1
        go_wp2
        go_ret
        rw [HZ.out]
        exact ⟨rfl, RSid.pre HC1.out HS3.out⟩
      ·obtain rfl : k = M := by omega
       have hkz : ¬ (k : Int) < (k : Int) := by omega
       have CS := LH (rsync_any m Vk Fk dk wr Hk.disk (by omega))
       have hLk : s.d.lays (pos + 1) b = dk.sync := by rw [hkl2, Nat.sub_self]; rfl
       have hso := DS.sync_ok dk
       clear Hk hWk hAk hCk hkl2 HJ hWw
       have HL := LH hLk
       clear hLk
       generalize dk.sync = zs at *
       obtain ⟨r1, d1⟩ := zs
       dsimp only at CS hso
       go_wp2_with fail
       refine CS.out.mono ?_
       rintro e w4 ⟨rfl, hd4⟩
       have hs4 := RSid.glue HGk.out.1 HGk.out.2.1 HGk.out.2.2 (HHk.out.did hd4 (by show d1.n = dk.n; exact hso.1))
       have HS4 : Hid (RSid w w4 q m W A { s with d := d1 }) := LH (RSid.pre HC1.out hs4)
       clear hs4 hd4 CS c0 HHk HGk HPk
       by_cases hr1 : r1 = 0
       ·subst hr1
        have HZ : Hid (Z = if (d1.lays pos (headBytes b.length key)).1 ≠ 0 then ((d1.lays pos (headBytes b.length key)).1, { s with d := (d1.lays pos (headBytes b.length key)).2 }) else
          (0, { s with d := (d1.lays pos (headBytes b.length key)).2, rows := s.rows.set j ⟨true, b.length, key⟩ })) := LH (by
         rw [HG.out, HL.out]
         simp only [ne_eq, not_true_eq_false, if_false])
        have hn1 : d1.n = s.d.n := by rw [hso.1, hkn]
        have ho1 : d1.ops <= 900000100 := by omega
        have hs1 : d1.since.length <= 900100 := by omega
        clear hkn hko hks hso HG HL HLL HLk
        -- the head
        obtain ⟨W4, A4, hS4, hW4, hA4, hC4⟩ := HS4.out
        obtain ⟨p, hp⟩ : ∃ p, p = w4.heap.size := ⟨_, rfl⟩
        have HPP := LH hp
        obtain ⟨w5, hw5⟩ : ∃ w5, w5 = w4.alloc (.cells #[.slice none 0 0, .int .i64 0] 117) := ⟨_, rfl⟩
        have hc5 : Chg [] w4 w5 := by rw [hw5]; exact (Chg.refl _ _).alloc _
        have hp5 : PenAt 117 w5 p none [] 0 := ⟨.slice none 0 0, by rw [hw5, hp]; exact heap_alloc_new w4 _, BRow.nil _, rfl, by simp, by simp⟩
        have HW5 := LH hw5
        have HC5 := LH hc5
        have HX4 := LH (And.intro hS4 (And.intro hW4 (And.intro hA4 hC4)))
        have CN1 := LH (rpnum_any p none [] 0 1 1 w5 hp5 (by omega) (by omega))
        rw [show penNum [] 0 1 (1 : Int).toNat = h1 from rfl] at CN1
        clear hS4 hW4 hA4 hC4 hp hw5 hc5 hp5 HS4
        go_wp2_with fail
        rw [<- HW5.out, <- HPP.out]
        refine CN1.out.mono ?_
        rintro e w6 ⟨rfl, hw6⟩
        obtain ⟨g6, hp6, hg6, hc6⟩ := hw6
        have HC6 : Hid (Chg [] w4 w6) := LH (HC5.out.trans hc6 (fun x hx => .inr (by
         have : x = p := by simpa using hx
         have := HPP.out
         omega)))
        have hge6 : ∀ k, g6 = some k -> w4.heap.size <= k := by
         intro k hk
         rcases hg6 with rfl | ⟨k', rfl, h'⟩
         ·cases hk
         ·obtain rfl : k' = k := by simpa using hk
          exact Nat.le_trans HC5.out.size h'
        have CN2 := LH (rpnum_any p g6 h1.1 h1.2 (b.length : Int) 2 w6 hp6 (by omega) (by omega))
        rw [show penNum h1.1 h1.2 (b.length : Int) (2 : Int).toNat = h2 b.length from rfl] at CN2
        have HGE6 := LH hge6
        clear hp6 hg6 hc6 hge6 CN1
        go_wp2_with fail
        refine CN2.out.mono ?_
        rintro e w7 ⟨rfl, hw7⟩
        obtain ⟨g7, hp7, hg7, hc7⟩ := hw7
        have HC7 : Hid (Chg [] w4 w7) := LH (HC6.out.trans hc7 (fun x hx => .inr (by
         have hpp := HPP.out
         rcases List.mem_cons.1 hx with rfl | hx
         ·omega
         ·exact HGE6.out x (by simpa using hx))))
        have hge7 : ∀ k, g7 = some k -> w4.heap.size <= k := by
         intro k hk
         rcases hg7 with rfl | ⟨k', rfl, h'⟩
         ·exact HGE6.out k hk
         ·obtain rfl : k' = k := by simpa using hk
          exact Nat.le_trans HC6.out.size h'
        have HKO : Hid (key ≠ [] -> ∀ k, (Value.slice ka key.length kc).ownBlock = some k -> k < w.heap.size /\ k ∉ W) := LH (fun hne k hk => ⟨HK.out.lt hne k hk, HS.out.outside HK.out hne k hk⟩)
        have HK4 : Hid (BytesAt w4 (.slice ka key.length kc) key) := LH (HK.out.chgW HX4.out.2.2.2 (fun hne k hk => (HKO.out hne k hk).2))
        have CR := LH (rpraw_any p g7 (h2 b.length).1 (h2 b.length).2 _ key w7 hp7 (HK4.out.chg HC7.out (by simp)) (by omega) (fun hne k hk => by
         have h8 := (HKO.out hne k hk).1
         have h9 := HX4.out.2.2.2.size
         have hpp := HPP.out
         exact ⟨by omega, fun e => by have := hge7 k e; omega⟩))
        rw [show penRaw (h2 b.length).1 (h2 b.length).2 key = h3 b.length key from rfl] at CR
        have HGE7 := LH hge7
        clear hp7 hg7 hc7 hge7 CN2
        go_wp2_with fail
        refine CR.out.mono ?_
        rintro e w8 ⟨rfl, hw8⟩
        obtain ⟨g8, hp8, hg8, hc8⟩ := hw8
        have HC8 : Hid (Chg [] w4 w8) := LH (HC7.out.trans hc8 (fun x hx => .inr (by
         have hpp := HPP.out
         rcases List.mem_cons.1 hx with rfl | hx
         ·omega
         ·exact HGE7.out x (by simpa using hx))))
        rw [H3.out.2, <- head_h3] at hp8
        obtain ⟨v8, hv8, hr8, _, _, _⟩ := hp8
        have p0 : w8.cell? ⟨p, 0, none⟩ = some v8 := blk_cell hv8 0 _ rfl
        have CPD := LH (rpadded_any v8 (headBytes b.length key) w8.drew (hr8.bytes.chg (by exact (Chg.refl [] w8).drew) (by simp)) (by rw [HHL.out]; omega))
        obtain ⟨a8, c8, hv8⟩ := hr8.bytes.slice
        subst hv8
        have hS8 := HX4.out.1.keep HC8.out (by simp)
        obtain ⟨V8, F8, rv8, R8, H8⟩ := hS8
        have c08 : w8.cell? ⟨q, 0, none⟩ = some (.pointer (some ⟨m, 0, none⟩)) := blk_cell H8.obj.head 0 _ rfl
        have HH8 := LH H8
        clear hv8 hr8 hg8 hc8 CR H8
        go_wp2_with fail
        refine wp_region_L [(12, fun w' => w'.cell? ⟨q, 0, none⟩ = some (.pointer (some ⟨m, 0, none⟩))), (12, fun w' => w'.cell? ⟨p, 0, none⟩ = some (.slice a8 (headBytes b.length key).length c8))] (by kernel_rfl) ?_ (fun hHeld => ?_)
        ·exact (HoldC.cons (c08) (HoldC.cons (p0) HoldC.nil))
        refine tk 0 ?_ rfl (by kernel_rfl) (fun _ _ _ h => h) (.inl ⟨by rfl, ?_⟩) hHeld ?_; rotate_left; · (intro w _; go_simp; try with_reducible rfl)
        clear hHeld; intro hHeld; try simp only [gA,gB,gC,Act.put,gD,gE,gF]
        refine tk 1 ?_ rfl (by kernel_rfl) (fun _ _ _ h => h) (.inl ⟨by rfl, ?_⟩) hHeld ?_; rotate_left; · (intro w _; go_simp; try with_reducible rfl)
        clear hHeld; intro hHeld; try simp only [gA,gB,gC,Act.put,gD,gE,gF]
        refine tk 2 ?_ rfl (by kernel_rfl) (fun _ _ _ h => h) (.inl ⟨by rfl, ?_⟩) hHeld ?_; rotate_left; · (intro w _; go_simp; try with_reducible rfl)
        clear hHeld; intro hHeld; try simp only [gA,gB,gC,Act.put,gD,gE,gF]
        refine tk 4 ?_ rfl (by kernel_rfl) (fun _ _ _ h => h) (.inl ⟨by rfl, ?_⟩) hHeld ?_; rotate_left; · (intro w _; go_simp; try with_reducible rfl)
        clear hHeld; intro hHeld; try simp only [gA,gB,gC,Act.put,gD,gE,gF]
        refine tk 5 ?_ rfl (by kernel_rfl) (fun _ _ _ h => h) (.inl ⟨by rfl, ?_⟩) hHeld ?_; rotate_left; · (intro w _; go_simp; try with_reducible rfl)
        clear hHeld; intro hHeld; try simp only [gA,gB,gC,Act.put,gD,gE,gF]
        refine tk 6 ?_ rfl (by kernel_rfl) (fun _ _ _ h => h) (.inl ⟨by rfl, ?_⟩) hHeld ?_; rotate_left; · (intro w _; go_simp; try with_reducible rfl)
        clear hHeld; intro hHeld; try simp only [gA,gB,gC,Act.put,gD,gE,gF]
        refine tk 7 ?_ rfl (by kernel_rfl) (fun _ _ _ h => h) (.inl ⟨by rfl, ?_⟩) hHeld ?_; rotate_left; · (intro w _; go_simp; try with_reducible rfl)
        clear hHeld; intro hHeld; try simp only [gA,gB,gC,Act.put,gD,gE,gF]
        refine ld 0 3 ?_ rfl rfl (by kernel_rfl) (fun _ _ _ h => h) (.inl ⟨by rfl, ?_⟩) hHeld ?_; rotate_left; · (intro w hSw; (try dsimp only at hSw); go_simp; try with_reducible rfl)
        clear hHeld; intro hHeld; try simp only [gA,gB,gC,Act.put,gD,gE,gF]
        refine ld 1 8 ?_ rfl rfl (by kernel_rfl) (fun _ _ _ h => h) (.inl ⟨by rfl, ?_⟩) hHeld ?_; rotate_left; · (intro w hSw; (try dsimp only at hSw); go_simp; try with_reducible rfl)
        clear hHeld; intro hHeld; try simp only [gA,gB,gC,Act.put,gD,gE,gF]
        refine wpAnyL_ready (rs := [9]) (by kernel_rfl) (by simp) (AllReadyL.cons (o := _) rfl (fun K hK => ?_) AllReadyL.nil)
        try simp only [gA,gB,gC]
        go_simp
        refine CPD.out.mono ?_
        rintro e w9 ⟨v9, PV9, rfl, hpad9, hc9⟩
        have hcd8 : Chg [] w8 w8.drew := by exact (Chg.refl [] w8).drew
        have hc9' : Chg [] w8 w9 := hcd8.trans hc9 (by simp)
        have HC9 := LH hc9'
        rw [HN2.out] at hpad9
        obtain ⟨g9, cv9, ax9, cx9, hv9, e9, b9, o9⟩ := hpad9.at 0 (by omega)
        subst hv9
        have CW2 := LH (rwrite_any m V8 F8 d1 pos (.slice ax9 64 cx9) (secAt (headBytes b.length key) 0) w9 (HH8.out.disk.keep hc9' (by simp)) (by omega) (by omega) (by omega) (secAt_len _ _) b9 (fun x hx hm => by
         have h1 := o9 x hx
         have h2 : x < w8.heap.size := HH8.out.lim x (HH8.out.aF x (HH8.out.sub.2.2.2.2 x hm))
         have h3 : w8.drew.heap.size = w8.heap.size := rfl
         omega))
        have c09 := hc9'.cell c08 (by simp)
        have p09 := hc9'.cell p0 (by simp)
        have hwo := DS.write_ok d1 (pos : Int) (secAt (headBytes b.length key) 0)
        have hso2 := DS.sync_ok (d1.write (pos : Int) (secAt (headBytes b.length key) 0)).2
        have hsp := HSO.out d1
        clear hpad9 b9 o9 hc9 hc9' hcd8 CPD
        generalize d1.write (pos : Int) (secAt (headBytes b.length key) 0) = zw at *
        obtain ⟨r2, d2⟩ := zw
        dsimp only at CW2 hwo hso2 hsp
        have HSP := LH hsp
        clear hsp
        try go_wp2_with fail
        clear hHeld
        refine hK.out _ _ ?_ (fun hHeld => ?_)
        ·exact (HoldC.cons (c09) (HoldC.cons (p09) HoldC.nil))
        clear hK K
        try simp only [gA,gB,gC,Act.put,gD,gE,gF]
        refine tk 10 ?_ rfl (by kernel_rfl) (fun _ _ _ h => h) (.inl ⟨by rfl, ?_⟩) hHeld ?_; rotate_left; · (intro w _; go_simp; try with_reducible rfl)
        clear hHeld; intro hHeld; try simp only [gA,gB,gC,Act.put,gD,gE,gF]
        refine wpAnyL_ready (rs := [11]) (by kernel_rfl) (by simp) (AllReadyL.cons (o := _) rfl (fun K hK => ?_) AllReadyL.nil)
        try simp only [gA,gB,gC]
        go_simp
        clear hHeld
        refine hK.out _ _ ?_ (fun hHeld => ?_)
        ·exact (HoldC.cons (c09) (HoldC.cons (p09) HoldC.nil))
        clear hK K
        try simp only [gA,gB,gC,Act.put,gD,gE,gF]
        refine wpAnyL_ready (rs := [12]) (by kernel_rfl) (by simp) (AllReadyL.cons (o := _) rfl (fun K hK => ?_) AllReadyL.nil)
        try simp only [gA,gB,gC]
        go_simp
        refine CW2.out.mono ?_
        rintro e w10 ⟨rfl, hd10⟩
        have hs10 := RSid.pre HC8.out (RSid.pre HC9.out ((HH8.out.keep HC9.out (by simp)).did hd10 (by show d2.n = d1.n; exact hwo.1)))
        have HS10 : Hid (RSid w w10 q m W A { s with d := d2 }) := LH (RSid.glue HX4.out.2.1 HX4.out.2.2.1 HX4.out.2.2.2 hs10)
        clear hs10 hd10 CW2 c09 p09 e9
        try go_wp2_with fail
        clear hHeld
        refine hK.out _ _ ?_ (fun hHeld => ?_)
        ·exact (HoldC.past (by kernel_rfl) (HoldC.past (by kernel_rfl) HoldC.nil))
        clear hK K
        try simp only [gA,gB,gC,Act.put,gD,gE,gF]
        refine tk 13 ?_ rfl (by kernel_rfl) (fun _ _ _ h => h) (.inl ⟨by rfl, ?_⟩) hHeld ?_; rotate_left; · (intro w _; go_simp; try with_reducible rfl)
        clear hHeld; intro hHeld; try simp only [gA,gB,gC,Act.put,gD,gE,gF]
        refine wpAnyL_done (by kernel_rfl) ?_ _
        clear hHeld
        clear c08 p0
        by_cases hr2 : r2 = 0
        ·subst hr2
         obtain ⟨W5, A5, ⟨V5, F5, rv5, R5, H5⟩, hW5, hA5, hC5⟩ := HS10.out
         have c05 : w10.cell? ⟨q, 0, none⟩ = some (.pointer (some ⟨m, 0, none⟩)) := blk_cell H5.obj.head 0 _ rfl
         have CS := LH (rsync_any m V5 F5 d2 w10 H5.disk (by omega))
         have H50 := LH H5
         have HG5 := LH (And.intro hW5 (And.intro hA5 hC5))
         have hL2 : d1.lays pos (headBytes b.length key) = d2.sync := by rw [HSP.out]; simp
         have HL2 := LH hL2
         clear H5 hW5 hA5 hC5 hL2
         generalize d2.sync = zs at *
         obtain ⟨r3, d3⟩ := zs
         dsimp only at CS hso2
         go_wp2_with fail
         refine CS.out.mono ?_
         rintro e w11 ⟨rfl, hd11⟩
         have hs11 := RSid.glue HG5.out.1 HG5.out.2.1 HG5.out.2.2 (H50.out.did hd11 (by show d3.n = d2.n; exact hso2.1))
         have HS11 : Hid (RSid w w11 q m W A { s with d := d3 }) := LH hs11
         have HZ3 : Hid (Z = if r3 ≠ 0 then (r3, { s with d := d3 }) else (0, { s with d := d3, rows := s.rows.set j ⟨true, b.length, key⟩ })) := LH (by
          rw [HZ.out, HL2.out])
         clear hs11 hd11 CS c05 H50 HG5 HS10 HL2 HSP
         by_cases hr3 : r3 = 0
         ·subst hr3
          obtain ⟨W6, A6, ⟨V6, F6, rv6, R6, H6⟩, hW6, hA6, hC6⟩ := HS11.out
          have c26 : w11.cell? ⟨q, 2, none⟩ = some rv6 := blk_cell H6.obj.head 2 _ rfl
          have hjr : j < ({ s with d := d3 } : SS).rows.length := by show j < s.rows.length; rw [<- HN.out]; exact hjl
          obtain ⟨gr, capr, kvr, hrvr, hcapr, hcmr, _, _, _, _, _⟩ := H6.at j hjr
          rw [show ({ s with d := d3 } : SS).rows.length = s.rows.length from rfl, <- HN.out] at hrvr hcapr
          have hcd : Chg [] w11 w11.drew := by exact (Chg.refl [] w11).drew
          have CC := LH (rcopy_any _ key w11.drew ((HK.out.chgW hC6 (fun hne k hk => (HKO.out hne k hk).2)).chg hcd (by simp)) (by omega))
          have HH6 := LH H6
          have HG6 := LH (And.intro hW6 (And.intro hA6 hC6))
          have HGF : Hid (Z = (0, { s with d := d3, rows := s.rows.set j ⟨true, b.length, key⟩ })) := LH (by rw [HZ3.out, if_neg (by simp)])
          subst hrvr
          clear H6 hW6 hA6 hC6 hcd HS11 HZ3
          go_wp2_with fail
          refine wp_region_L [(11, fun w' => w'.cell? ⟨q, 2, none⟩ = some (.slice (some ⟨gr, 0, none⟩) n capr))] (by kernel_rfl) ?_ (fun hHeld => ?_)
          ·exact (HoldC.cons (c26) HoldC.nil)
          refine tk 0 ?_ rfl (by kernel_rfl) (fun _ _ _ h => h) (.inl ⟨by rfl, ?_⟩) hHeld ?_; rotate_left; · (intro w _; go_simp; try with_reducible rfl)
          clear hHeld; intro hHeld; try simp only [gA,gB,gC,Act.put,gD,gE,gF]
          refine tk 1 ?_ rfl (by kernel_rfl) (fun _ _ _ h => h) (.inl ⟨by rfl, ?_⟩) hHeld ?_; rotate_left; · (intro w _; go_simp; try with_reducible rfl)
          clear hHeld; intro hHeld; try simp only [gA,gB,gC,Act.put,gD,gE,gF]
          refine tk 2 ?_ rfl (by kernel_rfl) (fun _ _ _ h => h) (.inl ⟨by rfl, ?_⟩) hHeld ?_; rotate_left; · (intro w _; go_simp; try with_reducible rfl)
          clear hHeld; intro hHeld; try simp only [gA,gB,gC,Act.put,gD,gE,gF]
          refine tk 4 ?_ rfl (by kernel_rfl) (fun _ _ _ h => h) (.inl ⟨by rfl, ?_⟩) hHeld ?_; rotate_left; · (intro w _; go_simp; try with_reducible rfl)
          clear hHeld; intro hHeld; try simp only [gA,gB,gC,Act.put,gD,gE,gF]
          refine tk 5 ?_ rfl (by kernel_rfl) (fun _ _ _ h => h) (.inl ⟨by rfl, ?_⟩) hHeld ?_; rotate_left; · (intro w _; go_simp; try with_reducible rfl)
          clear hHeld; intro hHeld; try simp only [gA,gB,gC,Act.put,gD,gE,gF]
          refine tk 7 ?_ rfl (by kernel_rfl) (fun _ _ _ h => h) (.inl ⟨by rfl, ?_⟩) hHeld ?_; rotate_left; · (intro w _; go_simp; try with_reducible rfl)
          clear hHeld; intro hHeld; try simp only [gA,gB,gC,Act.put,gD,gE,gF]
          refine tk 8 ?_ rfl (by kernel_rfl) (fun _ _ _ h => h) (.inl ⟨by rfl, ?_⟩) hHeld ?_; rotate_left; · (intro w _; go_simp; try with_reducible rfl)
          clear hHeld; intro hHeld; try simp only [gA,gB,gC,Act.put,gD,gE,gF]
          refine ld 0 3 ?_ rfl rfl (by kernel_rfl) (fun _ _ _ h => h) (.inl ⟨by rfl, ?_⟩) hHeld ?_; rotate_left; · (intro w hSw; (try dsimp only at hSw); go_simp; try with_reducible rfl)
          clear hHeld; intro hHeld; try simp only [gA,gB,gC,Act.put,gD,gE,gF]
          refine wpAnyL_ready (rs := [6]) (by kernel_rfl) (by simp) (AllReadyL.cons (o := _) rfl (fun K hK => ?_) AllReadyL.nil)
          try simp only [gA,gB,gC]
          go_simp
          refine CC.out.mono ?_
          rintro e w12 ⟨v12, rfl, hr12, ho12, hc12⟩
          have HC12 : Hid (Chg [] w11 w12) := LH ((by exact (Chg.refl [] w11).drew : Chg [] w11 w11.drew).trans hc12 (by simp))
          obtain ⟨a12, c12, rfl⟩ := hr12.bytes.slice
          have H12 := HH6.out.keep HC12.out (by simp)
          have hfr : ∀ k, (Value.slice a12 key.length c12).ownBlock = some k -> w11.heap.size <= k := ho12
          obtain ⟨A7, hs7, hA7, hC7⟩ := H12.setRow (N := w11.heap.size) j hjr gr capr (by show _ = Value.slice (some ⟨gr, 0, none⟩) s.rows.length capr; rw [HN.out]) ⟨true, b.length, key⟩ _ hr12.bytes (fun k hk => ⟨hr12.lt k hk, fun hm => by
           have a1 := hfr k hk
           have a2 := HH6.out.lim k (HH6.out.sub.2.2.1 k hm)
           omega⟩) (fun k hk _ => hfr k hk) HC12.out.size ⟨hb448, hk40⟩
          have TH := LH (H12.there j hjr gr capr (by show _ = Value.slice (some ⟨gr, 0, none⟩) s.rows.length capr; rw [HN.out]))
          have HSF : Hid (RSid w (w12.setCells gr (j * 3) [.bool true, .slice a12 key.length c12, .int .i64 (b.length : Int)]) q m W A { s with d := d3, rows := s.rows.set j ⟨true, b.length, key⟩ }) := LH (RSid.glue HG6.out.1 HG6.out.2.1 HG6.out.2.2 ⟨W6, A7, hs7, fun x hx => .inl hx, hA7, (HC12.out.mono (by simp)).trans hC7 (fun x hx => .inl hx)⟩)
          have c27 := HC12.out.cell c26 (by simp)
          clear H12 hr12 ho12 hc12 CC hs7 hA7 hC7 hfr
          try go_wp2_with fail
          clear hHeld
          refine hK.out _ _ ?_ (fun hHeld => ?_)
          ·exact (HoldC.cons (c27) HoldC.nil)
          clear hK K
          try simp only [gA,gB,gC,Act.put,gD,gE,gF]
          refine tk 9 ?_ rfl (by kernel_rfl) (fun _ _ _ h => h) (.inl ⟨by rfl, ?_⟩) hHeld ?_; rotate_left; · (intro w _; go_simp; try with_reducible rfl)
          clear hHeld; intro hHeld; try simp only [gA,gB,gC,Act.put,gD,gE,gF]
          refine tk 10 ?_ rfl (by kernel_rfl) (fun _ _ _ h => h) (.inl ⟨by rfl, ?_⟩) hHeld ?_; rotate_left; · (intro w _; go_simp; try with_reducible rfl)
          clear hHeld; intro hHeld; try simp only [gA,gB,gC,Act.put,gD,gE,gF]
          refine wpAnyL_ready (rs := [11]) (by kernel_rfl) (by simp) (AllReadyL.cons (o := _) rfl (fun K hK => ?_) AllReadyL.nil)
          try simp only [gA,gB,gC]
          rw [if_pos (by rfl)]
          refine wp_store_mid 168 (.tmp 135) (.tmp 134) (by rfl) gr (j * 3) #[.bool true, .slice a12 key.length c12, .int .i64 (b.length : Int)] (by rfl) (by rfl) TH.out (by kernel_rfl) (by simp [Value.oneCell']) ?_
          clear hHeld
          refine hK.out _ _ ?_ (fun hHeld => ?_)
          ·exact (HoldC.past (by kernel_rfl) HoldC.nil)
          clear hK K
          try simp only [gA,gB,gC,Act.put,gD,gE,gF]
          refine wpAnyL_done (by kernel_rfl) ?_ _
          clear hHeld
          go_wp2
          go_ret
          rw [HGF.out]
          exact ⟨rfl, HSF.out⟩
         ·have q2 : (r3 == 0) = false := by simp [hr3]
          have HGF : Hid (Z = (r3, { s with d := d3 })) := LH (by rw [HZ3.out, if_pos hr3])
          clear hr3
          go_wp2
          go_ret
          rw [HGF.out]
          exact ⟨rfl, HS11.out⟩
        ·have q2 : (r2 == 0) = false := by simp [hr2]
         have HGF : Hid (Z = (r2, { s with d := d2 })) := LH (by
          have h9 : d1.lays pos (headBytes b.length key) = (r2, d2) := by rw [HSP.out, if_pos hr2]
          rw [HZ.out, h9, if_pos hr2])
         clear hr2
         go_wp2
         go_ret
         rw [HGF.out]
         exact ⟨rfl, HS10.out⟩
       ·have q2 : (r1 != 0) = true := by simp [hr1]
        have HZ : Hid (Z = (r1, { s with d := d1 })) := LH (by rw [HG.out, HL.out, if_pos hr1])
        clear hr1
        go_wp2
        go_ret
        rw [HZ.out]
        exact ⟨rfl, HS4.out⟩
 ·have hg : s.put i key b = (1, s) := by unfold SS.put; rw [if_pos (by simpa using hi)]
  have HP := LH (RSidPost.same (c := 1) HS.out)
  have HG := LH hg
  rw [HG.out]
  have HI := LH hi
  subst hrv0
  generalize hnn : s.rows.length = n at *
  have HNN := LH hnn
  clear H HH hg hi hfew c0 c1 hk hb
  by_cases h0 : i < 0
  ·have q0 : decide (i < 0) = true := decide_eq_true h0
   go_enter Tryz.func114, Tryz.ntmps114
   go_wp2
   go_ret
   exact HP.out
  ·have q0 : decide (i < 0) = false := decide_eq_false h0
   have q1 : decide (i ≥ (n : Int)) = true := decide_eq_true (by
    have h9 := HI.out
    unfold SS.has at h9
    have h8 := HNN.out
    omega)
   go_enter Tryz.func114, Tryz.ntmps114
   go_wp2
   go_ret
   exact HP.out
theorem rstget_any (q m : Nat) (U B : List Nat) (t : Sto) (x : Id) (w : World) (h : RStAt w q m U B t) (hxo : okD x) : Calls Tryz.prog 73 #[.pointer (some ⟨q, 0, none⟩), idV x] w (GetPost (t.get x) w) := by
 obtain ⟨sp, W, A, h, rfl, rfl⟩ := h
 obtain ⟨w1, hw1⟩ : ∃ w1, w1 = w.alloc (.cells (idC x) 38) := ⟨_, rfl⟩
 have hc1 : Chg [] w w1 := by rw [hw1]; exact (Chg.refl [] w).alloc _
 have hb1 : w1.heap[w.heap.size]? = some (.cells (idC x) 38 (0, 0)) := by rw [hw1]; exact heap_alloc_new w _
 have CK := LH (rkey_any x w1)
 have mm := id_cells hb1
 have HH1 := LH (h.keep hc1 (by simp))
 have HC1 := LH hc1
 have HW1 := LH hw1
 rw [hw1] at mm
 unfold KeyPost at CK
 clear hw1 hb1 hc1 h
 by_cases hm : mayId x = true
 ·have HG : Hid (t.get x = match t.at x with | [] => ([], 6) | i :: _ => t.s.get i) := LH (by unfold Sto.get; rw [if_neg (by simp [hm])]; try rfl)
  have HM := LH hm
  simp only [hm, if_true] at CK
  clear hm
  obtain ⟨xc, xl, xn, xi⟩ := x
  obtain ⟨m0, m1, m2, m3⟩ := mm
  go_enter Tryz.func73, Tryz.ntmps73
  go_wp2_with fail
  rw [<- HW1.out]
  refine CK.out.mono ?_
  rintro e w2 ⟨hc2, kv, rfl, hkr, hkf⟩
  have HH2 := LH (HH1.out.keep hc2 (by simp))
  have HC2 := LH (HC1.out.trans hc2 (by simp))
  have CF := LH (rfind_any sp m W A t.s kv _ w2 HH2.out.slots hkr.bytes (by rw [idKey_len]; omega))
  rw [Sto.find HM.out] at CF
  obtain ⟨_, k1, _⟩ := HH2.out.cells
  clear hc2 hkr hkf m0 m1 m2 m3 CK
  go_wp2_with fail
  refine CF.out.mono ?_
  rintro e w3 ⟨rfl, hc3⟩
  have HH3 := LH (HH2.out.keep hc3 (by simp))
  have HC3 := LH (HC2.out.trans hc3 (by simp))
  clear hc3 k1 CF
  cases hat : t.at ⟨xc, xl, xn, xi⟩ with
  | nil =>
   rw [hat] at HG
   dsimp only at HG
   have HR : Hid (∀ w', Chg [] w w' -> GetPost ([], 6) w (.returned (.tuple #[.slice none 0 0, .int .i64 6])) w') := LH (fun w' hc => GetPost.nil hc)
   rw [<- HG.out] at HR
   dsimp only [headI]
   clear hat
   go_wp2
   go_ret2
   exact HR.out _ HC3.out
  | cons i rest =>
   rw [hat] at HG
   dsimp only at HG
   dsimp only [headI]
   have CG := LH (rget_any sp m W A t.s (i : Int) w3 HH3.out.slots)
   rw [<- HG.out] at CG
   obtain ⟨_, k1, _⟩ := HH3.out.cells
   have hn0 : decide ((i : Int) < 0) = false := decide_eq_false (by omega)
   have hn1 : ¬ (i : Int) < 0 := by omega
   clear hat HG
   generalize t.get ⟨xc, xl, xn, xi⟩ = r at *
   obtain ⟨rb, re⟩ := r
   go_wp2_with fail
   refine CG.out.mono ?_
   rintro e w4 ⟨⟨v, rfl, hv, hvf⟩, hc4⟩
   have HF : Hid (GetPost (rb, re) w (.returned (.tuple #[v, .int .i64 re])) w4) := LH ⟨⟨v, rfl, hv, fun k hk => Nat.le_trans HC3.out.size (hvf k hk)⟩, HC3.out.trans hc4 (by simp)⟩
   clear hv hvf hc4 CG k1
   go_wp2
   go_ret2
   exact HF.out
 ·have HG : Hid (t.get x = ([], 1)) := LH (by unfold Sto.get; rw [if_pos (by simpa using hm)])
  simp only [if_neg hm] at CK
  have HR : Hid (∀ w', Chg [] w w' -> GetPost ([], 1) w (.returned (.tuple #[.slice none 0 0, .int .i64 1])) w') := LH (fun w' hc => GetPost.nil hc)
  rw [<- HG.out] at HR
  clear hm HG
  obtain ⟨xc, xl, xn, xi⟩ := x
  obtain ⟨m0, m1, m2, m3⟩ := mm
  go_enter Tryz.func73, Tryz.ntmps73
  go_wp2_with fail
  rw [<- HW1.out]
  refine CK.out.mono ?_
  rintro e w2 ⟨hc2, rfl⟩
  have HC2 := LH (HC1.out.trans hc2 (by simp))
  clear hc2 CK m0 m1 m2 m3
  go_wp2
  go_ret2
  exact HR.out _ HC2.out
theorem keysOk.putS {s : SS} (h : keysOk s.rows) (i : Int) {x : Id} (hm : mayId x = true) (b : List UInt8) : keysOk (s.put i (idKey x) b).2.rows := by
 by_cases he : (s.put i (idKey x) b).1 = 0
 ·obtain ⟨_, _, h3⟩ := SS.put_done he
  rw [h3]
  exact h.set _ (fun _ => (un_key hm).2)
 ·rw [SS.put_not he]; exact h
theorem keysOk.clearS {s : SS} (h : keysOk s.rows) (i : Int) : keysOk (s.clear i).2.rows := by
 by_cases he : (s.clear i).1 = 0
 ·obtain ⟨_, _, h3⟩ := SS.clear_done he
  rw [h3]
  exact h.set _ (fun e => by cases e)
 ·rw [SS.clear_not he]; exact h
theorem rstput_any (q m : Nat) (U B : List Nat) (t : Sto) (x : Id) (bv : Value) (b : List UInt8) (w : World) (h : RStAt w q m U B t) (hxo : okD x) (hb : BytesAt w bv b) (hbl : b.length <= 1000000) (ho : t.s.d.ops <= 900000000) (hw : t.s.d.since.length <= 900000) :
  Calls Tryz.prog 72 #[.pointer (some ⟨q, 0, none⟩), idV x, bv] w fun e w' => e = .returned (.int .i64 (t.put x b).1) /\ RStd w w' q m U B (t.put x b).2 := by
 obtain ⟨sp, W, A, h, rfl, rfl⟩ := h
 obtain ⟨w1, hw1⟩ : ∃ w1, w1 = w.alloc (.cells (idC x) 38) := ⟨_, rfl⟩
 have hc1 : Chg [] w w1 := by rw [hw1]; exact (Chg.refl [] w).alloc _
 have hb1 : w1.heap[w.heap.size]? = some (.cells (idC x) 38 (0, 0)) := by rw [hw1]; exact heap_alloc_new w _
 have CK := LH (rkey_any x w1)
 have mm := id_cells hb1
 have HH1 := LH (h.keep hc1 (by simp))
 have HBY := LH hb
 obtain ⟨ab, cb, rfl⟩ := hb.slice
 have HC1 := LH hc1
 have HW1 := LH hw1
 have HST : Hid (∀ w', Chg [] w w' -> RStd w w' q m (q :: W) (q :: A) t) := LH (fun w' hc => RStd.post (RStd.same ⟨sp, W, A, h, rfl, rfl⟩) hc)
 rw [hw1] at mm
 unfold KeyPost at CK
 clear hw1 hb1 hc1 h hb
 by_cases hm : mayId x = true
 ·have HM := LH hm
  have HG0 : Hid (t.put x b = if 448 < b.length then (3, t) else match t.at x with
    | i :: _ => if (t.s.get i).2 ≠ 0 then ((t.s.get i).2, t) else if (t.s.get i).1 = b then (0, t) else (7, t)
    | [] => if t.s.free < 0 then (5, t) else ((t.s.put t.s.free (idKey x) b).1, { t with s := (t.s.put t.s.free (idKey x) b).2 })) := LH (by unfold Sto.put; rw [if_neg (by simp [hm])]; try rfl)
  simp only [hm, if_true] at CK
  generalize t.put x b = r at *
  clear hm
  obtain ⟨xc, xl, xn, xi⟩ := x
  obtain ⟨m0, m1, m2, m3⟩ := mm
  go_enter Tryz.func72, Tryz.ntmps72
  go_wp2_with fail
  rw [<- HW1.out]
  refine CK.out.mono ?_
  rintro e w2 ⟨hc2, kv, rfl, hkr, hkf⟩
  have HH2 := LH (HH1.out.keep hc2 (by simp))
  have HC2 := LH (HC1.out.trans hc2 (by simp))
  have HKR := LH hkr.bytes
  obtain ⟨_, k1, _⟩ := HH2.out.cells
  clear hc2 hkf m0 m1 m2 m3 CK hkr
  by_cases hlen : 448 < b.length
  ·have HR : Hid (r = (3, t)) := LH (by rw [HG0.out, if_pos hlen])
   have hlz : (448 : Int) < (b.length : Int) := by omega
   clear HG0
   go_wp2
   go_ret
   rw [HR.out]
   exact ⟨rfl, HST.out _ HC2.out⟩
  ·have hlz : ¬ (448 : Int) < (b.length : Int) := by omega
   rw [if_neg hlen] at HG0
   have CF := LH (rfind_any sp m W A t.s kv _ w2 HH2.out.slots HKR.out (by rw [idKey_len]; omega))
   rw [Sto.find HM.out] at CF
   go_wp2_with fail
   refine CF.out.mono ?_
   rintro e w3 ⟨rfl, hc3⟩
   have HH3 := LH (HH2.out.keep hc3 (by simp))
   have HC3 := LH (HC2.out.trans hc3 (by simp))
   have HK3 := LH (HKR.out.chg hc3 (by simp))
   have HB3 := LH (HBY.out.chg HC3.out (by simp))
   clear hc3 k1 CF HKR
   obtain ⟨_, k1, _⟩ := HH3.out.cells
   cases hat : t.at ⟨xc, xl, xn, xi⟩ with
   | nil =>
    rw [hat] at HG0
    dsimp only at HG0
    dsimp only [headI]
    have CFr := LH (rfree_any sp m W A t.s w3 HH3.out.slots)
    clear hat
    by_cases hfr : t.s.free < 0
    ·have HR : Hid (r = (5, t)) := LH (by rw [HG0.out, if_pos hfr])
     clear HG0
     go_wp2_with (go_at_call 113; refine CFr.out.mono ?_; rintro e w' ⟨rfl, hq⟩; subst hq)
     go_ret
     rw [HR.out]
     exact ⟨rfl, HST.out _ HC3.out⟩
    ·rw [if_neg hfr] at HG0
     obtain ⟨i, hfi, hil, hiu⟩ := SS.free_ok hfr
     rw [hfi] at CFr HG0 hfr
     have CP := LH (rput_any sp m W A t.s (i : Int) _ _ _ b w3 HH3.out.slots HK3.out HB3.out (by rw [idKey_len]; omega) hbl ho hw)
     have HKO := LH (HH3.out.ok.putS (i : Int) HM.out b)
     clear hfi hil hiu
     generalize t.s.put (i : Int) (idKey ⟨xc, xl, xn, xi⟩) b = z at *
     obtain ⟨ze, zs⟩ := z
     dsimp only at HG0 HKO
     unfold RSidPost at CP
     go_wp2_with (go_at_call 113; refine CFr.out.mono ?_; rintro e w' ⟨rfl, hq⟩; subst hq)
     refine CP.out.mono ?_
     rintro e w4 ⟨rfl, hs4⟩
     have HF : Hid (RStd w w4 q m (q :: W) (q :: A) { t with s := zs }) := LH (RStd.pre HC3.out (HH3.out.did hs4 HKO.out))
     clear hs4 CP
     go_wp2
     go_ret
     rw [HG0.out]
     exact ⟨rfl, HF.out⟩
   | cons i rest =>
    rw [hat] at HG0
    dsimp only at HG0
    dsimp only [headI]
    have CG := LH (rget_any sp m W A t.s (i : Int) w3 HH3.out.slots)
    have hn1 : (i : Int) ≥ 0 := by omega
    have HGL := LH (show (t.s.get (i : Int)).1.length <= 1000 from by
     have hk := HH3.out.slots.okk
     unfold SS.get
     split
     ·simp
     ·split
      ·simp
      ·split
       ·simp
       ·unfold SS.data
        rw [List.length_take]
        have : (t.s.row (i : Int)).n <= 448 := by
         unfold SS.row
         rw [List.getD_eq_getElem?_getD]
         cases hr : t.s.rows[(i : Int).toNat]? with
         | none => exact (show (0 : Nat) <= 448 by omega)
         | some rr => exact (hk.rows _ (List.mem_of_getElem? hr)).1
        omega)
    clear hat
    generalize t.s.get (i : Int) = z at *
    obtain ⟨zb, ze⟩ := z
    dsimp only at HG0 HGL
    unfold GetPost at CG
    go_wp2_with fail
    refine CG.out.mono ?_
    rintro e w4 ⟨⟨v, rfl, hv, hvf⟩, hc4⟩
    have HC4 := LH (HC3.out.trans hc4 (by simp))
    by_cases he : ze = 0
    ·subst he
     rw [if_neg (by simp)] at HG0
     have CS := LH (same_any v _ zb b w4 hv (HB3.out.chg hc4 (by simp)) (by have := HGL.out; omega) (by omega))
     obtain ⟨av, cv, rfl⟩ := hv.slice
     clear hv hvf hc4 CG k1
     by_cases hs : zb = b
     ·rw [if_pos hs] at HG0
      rw [decide_eq_true hs] at CS
      clear hs
      go_wp2_with (go_at_call 22; refine CS.out.mono ?_; rintro e w' ⟨rfl, nn, hq⟩; subst hq)
      go_ret
      rw [HG0.out]
      exact ⟨rfl, HST.out _ (HC4.out.drewN nn)⟩
     ·rw [if_neg hs] at HG0
      rw [decide_eq_false hs] at CS
      clear hs
      go_wp2_with (go_at_call 22; refine CS.out.mono ?_; rintro e w' ⟨rfl, nn, hq⟩; subst hq)
      go_ret
      rw [HG0.out]
      exact ⟨rfl, HST.out _ (HC4.out.drewN nn)⟩
    ·have q0 : (ze != 0) = true := by simp [he]
     have HR : Hid (r = (ze, t)) := LH (by rw [HG0.out, if_pos he])
     obtain ⟨av, cv, rfl⟩ := hv.slice
     clear HG0 hv hvf hc4 CG k1
     go_wp2
     go_ret
     rw [HR.out]
     exact ⟨rfl, HST.out _ HC4.out⟩
 ·have HR : Hid (t.put x b = (1, t)) := LH (by unfold Sto.put; rw [if_pos (by simpa using hm)])
  simp only [if_neg hm] at CK
  generalize t.put x b = r at *
  clear hm
  obtain ⟨xc, xl, xn, xi⟩ := x
  obtain ⟨m0, m1, m2, m3⟩ := mm
  go_enter Tryz.func72, Tryz.ntmps72
  go_wp2_with fail
  rw [<- HW1.out]
  refine CK.out.mono ?_
  rintro e w2 ⟨hc2, rfl⟩
  have HC2 := LH (HC1.out.trans hc2 (by simp))
  clear hc2 CK m0 m1 m2 m3
  go_wp2
  go_ret
  rw [HR.out]
  exact ⟨rfl, HST.out _ HC2.out⟩
structure RLook (w : World) (sp : Nat) (s : SS) (a : Option Addr) (cap : Nat) : Prop where
 c2 : w.cell? ⟨sp, 2, none⟩ = some (.slice a s.rows.length cap)
 few : s.rows.length <= 1000
 big : s.rows.length <= cap
 row : ∀ i, i < s.rows.length -> ∃ g kv, a = some ⟨g, 0, none⟩ /\ w.cell? ⟨g, i * 3, none⟩ = some (.bool (s.rows.getD i noRow).used) /\ w.cell? ⟨g, i * 3 + 1, none⟩ = some kv /\ BytesAt w kv (s.rows.getD i noRow).key /\ (s.rows.getD i noRow).key.length <= 40
theorem RSlotsAt.look {w : World} {sp m : Nat} {W A : List Nat} {s : SS} (h : RSlotsAt w sp m W A s) : ∃ a cap, RLook w sp s a cap := by
 obtain ⟨V, F, rv, R, H⟩ := h
 obtain ⟨a, cap, hrv, hcap⟩ := H.form
 have hfew := H.few
 refine ⟨a, cap, by rw [<- hrv]; exact blk_cell H.obj.head 2 _ rfl, by omega, hcap, fun i hi => ?_⟩
 obtain ⟨g, cap', kv, h1, h2, _, h3, h4, _, h5, _⟩ := H.at i hi
 rw [hrv] at h1
 obtain ⟨rfl, _, _⟩ := Value.slice.inj h1
 refine ⟨g, kv, rfl, h3, h4, h5, ?_⟩
 rw [List.getD_eq_getElem?_getD, List.getElem?_eq_getElem hi]
 exact (H.ok.rows _ (List.getElem_mem hi)).2
theorem RLook.keep {w w' : World} {sp m : Nat} {W A : List Nat} {s : SS} {a : Option Addr} {cap : Nat} (h : RLook w sp s a cap) (hc : Chg [] w w') : RLook w' sp s a cap :=
 ⟨hc.cell h.c2 (by simp), h.few, h.big, fun i hi => by
  obtain ⟨g, kv, h1, h2, h3, h4, h5⟩ := h.row i hi
  exact ⟨g, kv, h1, hc.cell h2 (by simp), hc.cell h3 (by simp), h4.chg hc (by simp), h5⟩⟩
theorem rstroom_any (q m : Nat) (U B : List Nat) (t : Sto) (w : World) (h : RStAt w q m U B t) : Calls Tryz.prog 76 #[.pointer (some ⟨q, 0, none⟩)] w fun e w' => e = .returned (.int .i64 (t.room : Int)) /\ w = w' := by
 obtain ⟨sp, W, A, h, rfl, rfl⟩ := h
 obtain ⟨_, k1, _⟩ := h.cells
 obtain ⟨a, cap, HLk⟩ := h.slots.look
 have hfew := HLk.few
 have c2 := HLk.c2
 have HRM : Hid (t.room = t.s.rows.countP (fun r => !r.used)) := LH rfl
 have HL := LH HLk.row
 have hbig := HLk.big
 generalize t.room = R at *
 obtain ⟨m0, hm⟩ : ∃ m0, m0 = t.s.rows.length := ⟨_, rfl⟩
 rw [<- hm] at hfew c2 hbig
 have HM := LH hm
 clear hm h HLk
 go_enter Tryz.func76, Tryz.ntmps76
 go_wp2
 go_loopg [3, 4] m0 (fun g' s3 s4 wr => ∃ (i n : Nat), s4 = .int .i64 (i : Int) /\ s3 = .int .i64 (n : Int) /\ i <= m0 /\ m0 <= i + g' /\ n <= i /\ wr = w /\ Hid (n = (t.s.rows.take i).countP (fun r => !r.used)))
 case atStart => exact ⟨0, 0, rfl, rfl, by omega, by omega, by omega, rfl, LH (by simp)⟩
 case round =>
  obtain ⟨i, n, rfl, rfl, hi, hig, hni, rfl, HN⟩ := hrel
  by_cases hlt : i < m0
  ·have hl2 : i < t.s.rows.length := by rw [<- HM.out]; exact hlt
   obtain ⟨g, kv, rfl, r0, r1, _, _⟩ := HL.out i hl2
   have hus : (t.s.rows.getD i noRow).used = (t.s.rows[i]).used := by rw [List.getD_eq_getElem?_getD, List.getElem?_eq_getElem hl2]; rfl
   have HC := LH (count_take (fun r => !r.used) t.s.rows i hl2)
   rw [hus] at r0
   have hiz : (i : Int) < (m0 : Int) := by omega
   have hiz1 : (i : Int).toNat = i := by omega
   clear hus r1
   generalize (t.s.rows[i]).used = u at *
   cases u with
   | true =>
    go_wp2
    go_roundg (gk - 1)
    case measure => omega
    case rel => exact ⟨i + 1, n, by go_num, rfl, by omega, by omega, by omega, rfl, LH (by rw [HC.out, <- HN.out]; simp)⟩
   | false =>
    go_wp2
    go_roundg (gk - 1)
    case measure => omega
    case rel => exact ⟨i + 1, n + 1, by go_num, by go_num, by omega, by omega, by omega, rfl, LH (by rw [HC.out, <- HN.out]; simp)⟩
  ·have him : i = m0 := by omega
   have hiz : ¬ (i : Int) < (m0 : Int) := by omega
   have HE : Hid (R = n) := LH (by rw [HRM.out, HN.out, him, HM.out, List.take_length])
   go_wp2
   go_ret
   rw [HE.out]
   exact ⟨rfl, rfl⟩
theorem headI_cons (i : Nat) (r : List Nat) : headI (i :: r) = (i : Int) := rfl
theorem headI_nil : headI [] = -1 := rfl
theorem rstdel_any (q m : Nat) (U B : List Nat) (t : Sto) (x : Id) (w : World) (h : RStAt w q m U B t) (hxo : okD x) (ho : t.s.d.ops <= 800000000) (hw : t.s.d.since.length <= 800000) :
  Calls Tryz.prog 74 #[.pointer (some ⟨q, 0, none⟩), idV x] w fun e w' => e = .returned (.int .i64 (t.del x).1) /\ RStd w w' q m U B (t.del x).2 := by
 obtain ⟨sp, W, A, h, rfl, rfl⟩ := h
 obtain ⟨w1, hw1⟩ : ∃ w1, w1 = w.alloc (.cells (idC x) 38) := ⟨_, rfl⟩
 have hc1 : Chg [] w w1 := by rw [hw1]; exact (Chg.refl [] w).alloc _
 have hb1 : w1.heap[w.heap.size]? = some (.cells (idC x) 38 (0, 0)) := by rw [hw1]; exact heap_alloc_new w _
 have CK := LH (rkey_any x w1)
 have mm := id_cells hb1
 have HH1 := LH (h.keep hc1 (by simp))
 have HC1 := LH hc1
 have HW1 := LH hw1
 have HST : Hid (∀ w', Chg [] w w' -> RStd w w' q m (q :: W) (q :: A) t) := LH (fun w' hc => RStd.post (RStd.same ⟨sp, W, A, h, rfl, rfl⟩) hc)
 rw [hw1] at mm
 unfold KeyPost at CK
 have hl0 : (t.at x).length <= 1000 := by
  unfold Sto.at
  split
  ·have h1 := upto_len t.s.rows t.s.rows.length (idKey x)
   have h2 := h.slots.fewR
   omega
  ·simp
 clear hw1 hb1 hc1
 by_cases hm : mayId x = true
 ·have HM := LH hm
  have HG : Hid (t.del x = ((t.s.clears (t.at x)).1, { t with s := (t.s.clears (t.at x)).2 })) := LH (by unfold Sto.del; rw [if_neg (by simp [hm])])
  simp only [hm, if_true] at CK
  generalize t.del x = r at *
  have HAT := LH (Sto.at_may (t := t) hm)
  generalize t.at x = l0 at *
  obtain ⟨xc, xl, xn, xi⟩ := x
  obtain ⟨m0, m1, m2, m3⟩ := mm
  clear h hm
  go_enter Tryz.func74, Tryz.ntmps74
  go_wp2_with fail
  rw [<- HW1.out]
  refine CK.out.mono ?_
  rintro e w2 ⟨hc2, kv, rfl, hkr, hkf⟩
  have HH2 := LH (HH1.out.keep hc2 (by simp))
  have HC2 := LH (HC1.out.trans hc2 (by simp))
  have HKR := LH (And.intro hkr.bytes (fun k hk => Nat.le_trans HC1.out.size (hkf k hk)))
  obtain ⟨_, k1, _⟩ := HH2.out.cells
  have CF := LH (rfind_any sp m W A t.s kv _ w2 HH2.out.slots HKR.out.1 (by rw [idKey_len]; omega))
  rw [find_upto, <- HAT.out] at CF
  clear hc2 hkf m0 m1 m2 m3 CK hkr
  go_wp2_with fail
  refine CF.out.mono ?_
  rintro e w3 ⟨rfl, hc3⟩
  have HR3 : Hid (RStOk w3 q sp m W A t /\ BytesAt w3 kv (idKey ⟨xc, xl, xn, xi⟩) /\ Chg [] w w3) := LH ⟨HH2.out.keep hc3 (by simp), HKR.out.1.chg hc3 (by simp), HC2.out.trans hc3 (by simp)⟩
  clear hc3 k1 CF
  go_wp2_with fail
  go_loopg [7] l0.length (fun g' s7 wr => ∃ (sk : SS) (l : List Nat), s7 = .int .i64 (headI l) /\ l.length <= g' /\ l.length <= l0.length /\ Hid (RStd w wr q m (q :: W) (q :: A) ⟨sk, t.whole⟩ /\ BytesAt wr kv (idKey ⟨xc, xl, xn, xi⟩) /\ upto sk.rows sk.rows.length (idKey ⟨xc, xl, xn, xi⟩) = l /\ t.s.clears l0 = sk.clears l /\
   sk.d.ops + 2 * l.length <= t.s.d.ops + 2 * l0.length /\ sk.d.since.length + l.length <= t.s.d.since.length + l0.length))
  case atStart => exact ⟨t.s, l0, rfl, Nat.le_refl _, Nat.le_refl _, LH ⟨⟨_, _, ⟨sp, W, A, HR3.out.1, rfl, rfl⟩, fun y hy => .inl hy, fun y hy => .inl hy, HR3.out.2.2.mono (by simp)⟩, HR3.out.2.1, HAT.out.symm, rfl, by omega, by omega⟩⟩
  case round =>
   obtain ⟨sk, l, rfl, hlg, hll, HR⟩ := hrel
   obtain ⟨⟨Uk, Bk, ⟨spk, Wk, Ak, hok, rfl, rfl⟩, hW, hA, hch⟩, hby, hup, hcl, hop, hsi⟩ := HR.out
   have HOK := LH hok
   have HBY := LH hby
   have HUP := LH hup
   have HCL := LH hcl
   have HWA := LH (And.intro hW (And.intro hA hch))
   clear HR hok hby hup hcl hW hA hch HR3
   cases l with
   | nil =>
    rw [headI_nil]
    have HRR : Hid (r = (0, ⟨sk, t.whole⟩)) := LH (by rw [HG.out, HCL.out]; rfl)
    have HF : Hid (RStd w wr q m (q :: W) (q :: A) ⟨sk, t.whole⟩) := LH ⟨q :: Wk, q :: Ak, ⟨spk, Wk, Ak, HOK.out, rfl, rfl⟩, HWA.out.1, HWA.out.2.1, HWA.out.2.2⟩
    clear HG
    go_wp2
    go_ret
    rw [HRR.out]
    exact ⟨rfl, HF.out⟩
   | cons i rest =>
    rw [headI_cons]
    have hge : (i : Int) ≥ 0 := by omega
    obtain ⟨_, k1, _⟩ := HOK.out.cells
    have hrl : rest.length + 1 <= l0.length := hll
    have hgk : rest.length + 1 <= gk := hlg
    simp only [List.length_cons] at hop hsi
    have CC := LH (rclear_any spk m Wk Ak sk (i : Int) wr HOK.out.slots (by omega) (by omega))
    have HCL2 : Hid (t.s.clears l0 = if (sk.clear (i : Int)).1 ≠ 0 then sk.clear (i : Int) else (sk.clear (i : Int)).2.clears rest) := LH (by rw [HCL.out, clears_cons])
    have HKO := LH (HOK.out.ok.clearS (i : Int))
    obtain ⟨z1, z2, z3⟩ := sk.clear_ok (i : Int)
    have hcd := @SS.clear_done sk (i : Int)
    generalize sk.clear (i : Int) = z at *
    obtain ⟨ze, zs⟩ := z
    dsimp only at HCL2 z1 z2 z3 hcd HKO
    have HCD := LH hcd
    unfold RSidPost at CC
    clear hlg hll hcd HCL
    go_wp2_with fail
    refine CC.out.mono ?_
    rintro e w4 ⟨rfl, hs4⟩
    have HD4 : Hid (RStd w w4 q m (q :: W) (q :: A) ⟨zs, t.whole⟩) := LH (RStd.glue HWA.out.1 HWA.out.2.1 HWA.out.2.2 (HOK.out.did hs4 HKO.out))
    have HB4 : Hid (BytesAt w4 kv (idKey ⟨xc, xl, xn, xi⟩)) := LH (by
     obtain ⟨W', A', a1, a2, a3, a4⟩ := hs4
     refine HBY.out.chg a4 (fun k hk hm => ?_)
     have h8 := (HOK.out.slots.lim).2.2 k hm
     exact h8.not_bytes _ _ HBY.out (fun e => by have := idKey_len ⟨xc, xl, xn, xi⟩; rw [e] at this; simp at this) hk)
    clear hs4 CC k1
    by_cases he : ze = 0
    ·subst he
     have HCL3 : Hid (t.s.clears l0 = zs.clears rest) := LH (by rw [HCL2.out]; rfl)
     obtain ⟨Wn, An, ⟨sp4, W4, A4, hok4, rfl, rfl⟩, hn1, hn2, hn3⟩ := HD4.out
     have HOK4 := LH hok4
     have HN4 := LH (And.intro hn1 (And.intro hn2 hn3))
     have HUP4 : Hid (upto zs.rows zs.rows.length (idKey ⟨xc, xl, xn, xi⟩) = rest) := LH (by
      obtain ⟨_, _, h3⟩ := HCD.out rfl
      have h4 := upto_clear (k := idKey ⟨xc, xl, xn, xi⟩) HUP.out
      rw [if_pos rfl] at h4
      rw [h3, Int.toNat_natCast]
      exact h4)
     obtain ⟨_, k1, _⟩ := HOK4.out.cells
     have CF := LH (rfind_any sp4 m W4 A4 zs kv _ w4 HOK4.out.slots HB4.out (by rw [idKey_len]; omega))
     rw [find_upto, HUP4.out] at CF
     clear hok4 hn1 hn2 hn3 HCL2
     go_wp2_with fail
     refine CF.out.mono ?_
     rintro e w5 ⟨rfl, hc5⟩
     have HF5 : Hid (RStd w w5 q m (q :: W) (q :: A) ⟨zs, t.whole⟩ /\ BytesAt w5 kv (idKey ⟨xc, xl, xn, xi⟩)) := LH ⟨HD4.out.post hc5, HB4.out.chg hc5 (by simp)⟩
     clear hc5 CF k1
     go_wp2_with fail
     go_roundg (gk - 1)
     case measure => omega
     case rel => exact ⟨zs, rest, rfl, by omega, by omega, LH ⟨HF5.out.1, HF5.out.2, HUP4.out, HCL3.out, by omega, by omega⟩⟩
    ·have HRR : Hid (r = (ze, ⟨zs, t.whole⟩)) := LH (by rw [HG.out, HCL2.out, if_pos he])
     have q0 : (ze != 0) = true := by simp [he]
     clear HG HCL2
     go_wp2
     go_ret
     rw [HRR.out]
     exact ⟨rfl, HD4.out⟩
 ·have HR : Hid (t.del x = (1, t)) := LH (by unfold Sto.del; rw [if_pos (by simpa using hm)])
  simp only [if_neg hm] at CK
  generalize t.del x = r at *
  clear hm
  obtain ⟨xc, xl, xn, xi⟩ := x
  obtain ⟨m0, m1, m2, m3⟩ := mm
  clear h hl0
  go_enter Tryz.func74, Tryz.ntmps74
  go_wp2_with fail
  rw [<- HW1.out]
  refine CK.out.mono ?_
  rintro e w2 ⟨hc2, rfl⟩
  have HC2 := LH (HC1.out.trans hc2 (by simp))
  clear hc2 CK m0 m1 m2 m3
  go_wp2
  go_ret
  rw [HR.out]
  exact ⟨rfl, HST.out _ HC2.out⟩
def firstsTo (rows : List SRow) (i : Nat) : List Id := ((List.range i).filter (isFirst rows)).map (fun j => unId (rows.getD j noRow).key)
theorem firstsTo_succ (rows : List SRow) (i : Nat) : firstsTo rows (i + 1) = firstsTo rows i ++ if isFirst rows i then [unId (rows.getD i noRow).key] else [] := by
 unfold firstsTo
 rw [List.range_succ, List.filter_append, List.map_append]
 congr 1
 by_cases h : isFirst rows i = true
 ·rw [if_pos h]; simp [h]
 ·rw [if_neg h]; simp [h]
theorem find_first {s : SS} {i : Nat} (hi : i < s.rows.length) (hu : (s.rows.getD i noRow).used = true) : (s.find (s.rows.getD i noRow).key = (i : Int)) ↔ isFirst s.rows i = true := by
 have hr : rowIs s.rows (s.rows.getD i noRow).key i = true := by unfold rowIs; rw [hu]; simp
 rw [find_upto, mem_isFirst]
 constructor
 ·intro h
  refine ⟨hu, fun k hk hh => ?_⟩
  cases hl : upto s.rows s.rows.length (s.rows.getD i noRow).key with
  | nil => rw [hl] at h; simp [headI] at h
  | cons j r =>
   rw [hl] at h
   have hji : j = i := by have h' : (j : Int) = (i : Int) := h; omega
   subst hji
   have hk2 : k ∈ upto s.rows s.rows.length (s.rows.getD j noRow).key := upto_mem.2 ⟨by omega, hh.1, hh.2⟩
   have hpw : (upto s.rows s.rows.length (s.rows.getD j noRow).key).Pairwise (· < ·) := List.pairwise_lt_range.filter _
   rw [hl] at hpw hk2
   rcases List.mem_cons.1 hk2 with h3 | h3
   ·omega
   ·have := (List.pairwise_cons.1 hpw).1 k h3
    omega
 ·rintro ⟨_, h⟩
  obtain ⟨r, hr2⟩ := upto_first hr (fun j hj => by
   have := h j hj
   unfold rowIs
   rw [Bool.eq_false_iff]
   intro hc
   simp only [Bool.and_eq_true, decide_eq_true_eq] at hc
   exact this hc) _ hi
  rw [hr2]; rfl
structure Sorted (rows : List SRow) (i : Nat) (L : List Id) : Prop where
 rise : L.Pairwise idLt
 mem : ∀ x, x ∈ L ↔ x ∈ firstsTo rows i
 len : L.length <= i
theorem Sorted.zero (rows : List SRow) : Sorted rows 0 [] := ⟨List.Pairwise.nil, fun x => by simp [firstsTo], Nat.le_refl _⟩
theorem Sorted.skip {rows : List SRow} {i : Nat} {L : List Id} (h : Sorted rows i L) (hf : isFirst rows i = false) : Sorted rows (i + 1) L :=
 ⟨h.rise, fun x => by rw [firstsTo_succ, hf, h.mem]; simp, by have := h.len; omega⟩
theorem Sorted.fresh {rows : List SRow} (hk : keysOk rows) {i : Nat} (hi : i < rows.length) {L : List Id} (h : Sorted rows i L) (hf : isFirst rows i = true) : unId (rows.getD i noRow).key ∉ L := by
 intro hm
 have := (h.mem _).1 hm
 unfold firstsTo at this
 obtain ⟨j, hj, he⟩ := List.mem_map.1 this
 obtain ⟨h1, h2⟩ := List.mem_filter.1 hj
 have hji := List.mem_range.1 h1
 obtain ⟨hju, _⟩ := mem_isFirst.1 h2
 obtain ⟨hiu, hi3⟩ := mem_isFirst.1 hf
 have e1 := (un_back (hk _ (row_mem (show j < rows.length by omega)) hju)).2
 have e2 := (un_back (hk _ (row_mem hi) hiu)).2
 exact hi3 j hji ⟨hju, by rw [e1, e2, he]⟩
theorem Sorted.put {rows : List SRow} (hk : keysOk rows) {i : Nat} (hi : i < rows.length) {L : List Id} (h : Sorted rows i L) (hf : isFirst rows i = true) {k : Nat} (hkL : k <= L.length) (hgt : ∀ x ∈ L.drop k, idLt (unId (rows.getD i noRow).key) x)
  (hlt : ∀ x, 0 < k -> L[k - 1]? = some x -> ¬ idLt (unId (rows.getD i noRow).key) x) : Sorted rows (i + 1) (L.take k ++ unId (rows.getD i noRow).key :: L.drop k) := by
 have hfr := h.fresh hk hi hf
 obtain ⟨y, hy⟩ : ∃ y, y = unId (rows.getD i noRow).key := ⟨_, rfl⟩
 rw [<- hy] at hgt hlt hfr ⊢
 have hsplit : L = L.take k ++ L.drop k := (List.take_append_drop k L).symm
 have hpw := h.rise
 have hlow : ∀ x ∈ L.take k, idLt x y := fun x hx => by
  have hxL : x ∈ L := List.mem_of_mem_take hx
  have hk0 : 0 < k := by
   rcases Nat.eq_zero_or_pos k with h0 | h0
   ·rw [h0] at hx; simp at hx
   ·exact h0
  obtain ⟨z, hz⟩ : ∃ z, L[k - 1]? = some z := ⟨_, List.getElem?_eq_getElem (by omega)⟩
  have h1 := hlt z hk0 hz
  have hzL : z ∈ L := List.mem_of_getElem? hz
  have hzy : idLt z y := by
   rcases idLt_or y z with h2 | h2 | h2
   ·exact absurd h2 h1
   ·rw [h2] at hfr; exact absurd hzL hfr
   ·exact h2
  obtain ⟨j, hj, rfl⟩ := List.mem_iff_getElem.1 hx
  rw [List.length_take] at hj
  rw [List.getElem_take]
  by_cases hjk : j = k - 1
  ·subst hjk
   have : L[k - 1] = z := by rw [List.getElem?_eq_getElem (by omega)] at hz; exact Option.some.inj hz
   rw [this]; exact hzy
  ·have hlt2 := (List.pairwise_iff_getElem.1 hpw) j (k - 1) (by omega) (by omega) (by omega)
   have : L[k - 1] = z := by rw [List.getElem?_eq_getElem (by omega)] at hz; exact Option.some.inj hz
   rw [this] at hlt2
   exact idLt_trans hlt2 hzy
 refine ⟨?_, fun x => ?_, ?_⟩
 ·rw [List.pairwise_append]
  rw [hsplit, List.pairwise_append] at hpw
  refine ⟨hpw.1, List.pairwise_cons.2 ⟨hgt, hpw.2.1⟩, fun a ha b hb => ?_⟩
  rcases List.mem_cons.1 hb with rfl | hb
  ·exact hlow a ha
  ·exact hpw.2.2 a ha b hb
 ·rw [firstsTo_succ, if_pos hf, <- hy, List.mem_append, List.mem_append, <- h.mem]
  constructor
  ·rintro (hx | hx)
   ·exact .inl (List.mem_of_mem_take hx)
   ·rcases List.mem_cons.1 hx with rfl | hx
    ·exact .inr (by simp)
    ·exact .inl (List.mem_of_mem_drop hx)
  ·rintro (hx | hx)
   ·rw [hsplit] at hx
    rcases List.mem_append.1 hx with hx | hx
    ·exact .inl hx
    ·exact .inr (List.mem_cons_of_mem _ hx)
   ·rw [List.mem_singleton.1 hx]
    exact .inr (by simp)
 ·have := h.len
  simp only [List.length_append, List.length_take, List.length_cons, List.length_drop]
  omega
theorem Sorted.done {t : Sto} (hk : keysOk t.s.rows) {L : List Id} (h : Sorted t.s.rows t.s.rows.length L) : L = t.ids := by
 have hn : L.Nodup := h.rise.imp (fun hab e => by rw [e] at hab; exact idLt_irrefl _ hab)
 have h1 : L.mergeSort leI = L := List.mergeSort_of_pairwise (h.rise.imp (fun hab => (leI_iff _ _).2 (.inl hab)))
 rw [<- h1]
 exact sortedI_eq hn (firsts_nodup hk) (fun x => h.mem x)
theorem ids_set : ∀ (R : List Id) (i : Nat) (x : Id), i < R.length -> (R.set i x).flatMap idE = ((((R.flatMap idE).set (i * 4) (.int .i64 x.c)).set (i * 4 + 1) (.int .i64 x.l)).set (i * 4 + 2) (.int .i64 x.n)).set (i * 4 + 3) (.int .i64 x.i)
 | [], i, x, h => by simp at h
 | r :: R, 0, x, h => by simp [idE]
 | r :: R, i + 1, x, h => by
  rw [List.set_cons_succ, List.flatMap_cons, List.flatMap_cons, ids_set R i x (by simpa using h)]
  have e : ∀ (a b c d : Value) (M : List Value) (k : Nat) (v : Value), (a :: b :: c :: d :: M).set (k + 4) v = a :: b :: c :: d :: M.set k v := fun a b c d M k v => rfl
  simp only [idE, List.cons_append, List.nil_append]
  rw [show (i + 1) * 4 = i * 4 + 4 by omega, show i * 4 + 4 + 1 = i * 4 + 1 + 4 by omega, show i * 4 + 4 + 2 = i * 4 + 2 + 4 by omega, show i * 4 + 4 + 3 = i * 4 + 3 + 4 by omega, e, e, e, e]
theorem row_setId {w : World} {base g cap : Nat} {l : List Id} (h : w.ownsRow base 38 4 (.slice (some ⟨g, 0, none⟩) l.length cap) l.length (l.flatMap idE)) (k : Nat) (hk : k < l.length) (x : Id) :
  (w.setCells g (k * 4) [.int .i64 x.c, .int .i64 x.l, .int .i64 x.n, .int .i64 x.i]).ownsRow base 38 4 (.slice (some ⟨g, 0, none⟩) (l.set k x).length cap) (l.set k x).length ((l.set k x).flatMap idE) := by
 rw [List.length_set, ids_set l k x hk]
 exact row_set (row_set (row_set (row_set h (k * 4) _ (by omega)) (k * 4 + 1) _ (by omega)) (k * 4 + 2) _ (by omega)) (k * 4 + 3) _ (by omega)
theorem row_thereId {w : World} {base g cap n : Nat} {xs : List Value} (h : w.ownsRow base 38 4 (.slice (some ⟨g, 0, none⟩) n cap) n xs) (k : Nat) (hk : k < n) : w.there g (k * 4) 4 := by
 rcases h.2 with ⟨h1, h2⟩ | ⟨g', cap', cur, h1, _, hb, h3, h4, h5, _⟩
 ·omega
 ·obtain ⟨rfl, -, rfl⟩ : g = g' /\ True /\ cap = cap' := by simpa using h1
  intro j hj
  have hlt : k * 4 + j < cur.size := by
   have : (k + 1) * 4 <= cap * 4 := Nat.mul_le_mul_right _ (by omega)
   omega
  exact ⟨by rw [blk_cell hb _ _ (Array.getElem?_eq_getElem hlt)]; rfl, blk_frozen hb _⟩
theorem hole_down (L : List Id) (k : Nat) (g y : Id) (hy : L[k]? = some y) : (L.take (k + 1) ++ g :: L.drop (k + 1)).set (k + 1) y = L.take k ++ y :: L.drop k /\ (L.take (k + 1) ++ g :: L.drop (k + 1))[k]? = some y := by
 have hk : k < L.length := (List.getElem?_eq_some_iff.1 hy).1
 have hlen : (L.take (k + 1)).length = k + 1 := by rw [List.length_take]; omega
 have hyk : L[k] = y := by rw [List.getElem?_eq_getElem hk] at hy; exact Option.some.inj hy
 constructor
 ·rw [List.set_append_right _ _ (by omega), hlen, Nat.sub_self, List.set_cons_zero, List.take_succ_eq_append_getElem hk, hyk, List.append_assoc]
  congr 1
  rw [List.drop_eq_getElem_cons hk, hyk]
  simp
 ·rw [List.getElem?_append_left (by omega), List.getElem?_take_of_lt (by omega)]
  exact hy
theorem hole_at (L : List Id) (k : Nat) (g : Id) (hk : k <= L.length) : (L.take k ++ g :: L.drop k)[k]? = some g := by
 have hlen : (L.take k).length = k := by rw [List.length_take]; omega
 rw [List.getElem?_append_right (by omega), hlen, Nat.sub_self]
 rfl
theorem hole_put (L : List Id) (k : Nat) (g y : Id) (hk : k <= L.length) : (L.take k ++ g :: L.drop k).set k y = L.take k ++ y :: L.drop k := by
 have hlen : (L.take k).length = k := by rw [List.length_take]; omega
 rw [List.set_append_right _ _ (by omega), hlen, Nat.sub_self, List.set_cons_zero]
section
open Go.RowKit Go.ChangeShapes Go.WideShapes
section
variable {H : Type} {enc : TypeId × Value -> H} {w : World} {base : Nat} {held : Bool}
end
theorem lt_cases (a b : Id) : decide (idLt a b) = if a.c ≠ b.c then decide (a.c < b.c) else if a.l ≠ b.l then decide (a.l < b.l) else if a.n ≠ b.n then decide (a.n < b.n) else decide (a.i < b.i) := by
 by_cases h1 : a.c = b.c
 ·rw [if_neg (by simpa using h1)]
  by_cases h2 : a.l = b.l
  ·rw [if_neg (by simpa using h2)]
   by_cases h3 : a.n = b.n
   ·rw [if_neg (by simpa using h3)]
    rw [Bool.eq_iff_iff, decide_eq_true_eq, decide_eq_true_eq]; unfold idLt; exact ⟨fun h => by omega, fun h => by omega⟩
   ·rw [if_pos h3, Bool.eq_iff_iff, decide_eq_true_eq, decide_eq_true_eq]; unfold idLt; exact ⟨fun h => by omega, fun h => by omega⟩
  ·rw [if_pos h2, Bool.eq_iff_iff, decide_eq_true_eq, decide_eq_true_eq]; unfold idLt; exact ⟨fun h => by omega, fun h => by omega⟩
 ·rw [if_pos h1, Bool.eq_iff_iff, decide_eq_true_eq, decide_eq_true_eq]; unfold idLt; exact ⟨fun h => by omega, fun h => by omega⟩
theorem rless_any (a b : Id) (w : World) : Calls Tryz.prog 117 #[idV a, idV b] w fun e w' => e = .returned (.bool (decide (idLt a b))) /\ Chg [] w w' := by
 rw [lt_cases]
 obtain ⟨ac, al, an, ai⟩ := a
 obtain ⟨bc, bl, bn, bi⟩ := b
 dsimp only
 by_cases h1 : ac = bc
 ·subst h1
  rw [if_neg (by simp)]
  by_cases h2 : al = bl
  ·subst h2
   rw [if_neg (by simp)]
   by_cases h3 : an = bn
   ·subst h3
    rw [if_neg (by simp)]
    go_enter Tryz.func117, Tryz.ntmps117
    go_wp2
    go_ret
    exact ⟨rfl, ((Chg.refl [] w).alloc _).alloc _⟩
   ·rw [if_pos h3]
    have q : (an != bn) = true := by simp [h3]
    go_enter Tryz.func117, Tryz.ntmps117
    go_wp2
    go_ret
    exact ⟨rfl, ((Chg.refl [] w).alloc _).alloc _⟩
  ·rw [if_pos h2]
   have q : (al != bl) = true := by simp [h2]
   go_enter Tryz.func117, Tryz.ntmps117
   go_wp2
   go_ret
   exact ⟨rfl, ((Chg.refl [] w).alloc _).alloc _⟩
 ·rw [if_pos h1]
  have q : (ac != bc) = true := by simp [h1]
  go_enter Tryz.func117, Tryz.ntmps117
  go_wp2
  go_ret
  exact ⟨rfl, ((Chg.refl [] w).alloc _).alloc _⟩
end
section
open Go.RowKit Go.Sort
theorem wpList_app1L {P : Program} {w : World} {ops : Array Oper} {rest : List Oper} {o : Oper} {a : Act} {Q : Exit -> Act -> World -> Prop} (hgd : o.guard = none) (s x : Operand) (t : TypeId)
  (ho : o.op = .call { callee := .builtin .append, args := #[s, x], argTypes := #[t, t] })
  (base : Nat) {e : TypeId} {z : Value} {size bytes : Nat} (hE : El P t e z size bytes)
  (v : Value) (n : Nat) (xs : List Value) (hs : a.eval s = v) (hown : w.ownsRow base e size v n xs)
  (c : Nat) (news : Array Value) (hx : a.eval x = .slice (some ⟨w.heap.size, 0, none⟩) 1 c) (hl : news.size = size) (h1 : ∀ u ∈ news.toList, u.oneCell' = true)
  (h63 : n + 1 <= maxLen) (hbytes : (n + 1) * bytes <= 140737488355328) (hbase : base <= w.heap.size)
  (h : ∀ g cap w', w'.ownsRow base e size (.slice (some ⟨g, 0, none⟩) (n + 1) cap) (n + 1) (xs ++ news.toList) -> w.grownBy w' v.ownBlock -> (v.ownBlock = some g ∨ g = w.heap.size + 1) -> wpList P ops Q rest (a.put o.dst (.slice (some ⟨g, 0, none⟩) (n + 1) cap)) w') : wpList P ops Q (o :: rest) a (w.alloc (.cells news e)) := by
 obtain ⟨ht, ⟨i, hi, hz, hsize, hby⟩, hzs, hsz⟩ := hE
 refine wpList_append_lies _ hgd s x t ho base e i z size bytes ht hi hz hsize hby hzs hsz v n xs hs (hown.alloc _) ⟨w.heap.size, 0, none⟩ 1 c news.toList hx (by simpa using hl) (World.news_of_block (heap_alloc_new w _)) h1 (by omega) h63 hbytes (by simp; omega) (w.heap.size + 1) (by simp) ?_
 intro g cap w' h2 h3 h4 _
 exact h g cap w' h2 (grownBy_trans (World.grownBy_alloc w _ _) h3) h4
theorem rstlist_any (q m : Nat) (U B : List Nat) (t : Sto) (w : World) (h : RStAt w q m U B t) : Calls Tryz.prog 75 #[.pointer (some ⟨q, 0, none⟩)] w (ListPost w t.ids) := by
 obtain ⟨sp, W, A, h, rfl, rfl⟩ := h
 obtain ⟨a, cap, hlk⟩ := h.slots.look
 have hfew := hlk.few
 have hbig := hlk.big
 have HOK := LH h
 have HLK := LH hlk
 have HKO := LH h.ok
 have HID : Hid (∀ L, Sorted t.s.rows t.s.rows.length L -> L = t.ids) := LH (fun L hL => hL.done h.ok)
 generalize t.ids = LL at *
 obtain ⟨M, hM⟩ : ∃ M, M = t.s.rows.length := ⟨_, rfl⟩
 rw [<- hM] at hfew hbig
 have HM := LH hM
 clear h hlk hM
 go_enter Tryz.func75, Tryz.ntmps75
 go_wp2
 go_loopg [3, 4] M (fun g' s3 s4 wr => ∃ (i : Nat) (L : List Id) (v : Value), v = s3 /\ s4 = .int .i64 (i : Int) /\ i <= M /\ M <= i + g' /\ L.length <= i /\ Hid (wr.ownsRow w.heap.size 38 4 v L.length (L.flatMap idE) /\ Chg [] w wr /\ Sorted t.s.rows i L))
 case atStart => exact ⟨0, [], _, rfl, rfl, by omega, by omega, by simp, LH ⟨World.ownsRow_nil _ _ _ _, Chg.refl _ _, Sorted.zero _⟩⟩
 case round =>
  obtain ⟨i, L, v3, rfl, rfl, hi, hig, hLi, HJ⟩ := hrel
  have HOr := LH (HOK.out.keep HJ.out.2.1 (by simp))
  have HLr := LH (HLK.out.keep (m := m) (W := W) (A := A) HJ.out.2.1)
  obtain ⟨_, c1, _⟩ := HOr.out.cells
  have c2 := HLr.out.c2
  rw [<- HM.out] at c2
  by_cases hlt : i < M
  ·have hl2 : i < t.s.rows.length := by rw [<- HM.out]; exact hlt
   obtain ⟨g, kv, rfl, r0, r1, hkb, hkl⟩ := HLr.out.row i hl2
   have hiz : (i : Int) < (M : Int) := by omega
   have hiz1 : (i : Int).toNat = i := by omega
   obtain ⟨u, hu⟩ : ∃ u, u = (t.s.rows.getD i noRow).used := ⟨_, rfl⟩
   rw [<- hu] at r0
   have HU := LH hu
   cases u with
   | false =>
    have HF : Hid (isFirst t.s.rows i = false) := LH (by unfold isFirst; rw [<- HU.out, Bool.false_and])
    clear hkb hkl r1 hu
    go_wp2_with fail
    go_quiet (fail)
    have HN := LH (And.intro (row_keep HJ.out.1 (w' := wr.drewN nq) (fun gq hq => rfl)) (And.intro (HJ.out.2.1.drewN nq) (HJ.out.2.2.skip HF.out)))
    go_wp2
    go_roundg (gk - 1)
    case measure => omega
    case rel => exact ⟨i + 1, L, _, rfl, by go_num, by omega, by omega, by omega, HN⟩
   | true =>
    have HFF := LH (find_first (s := t.s) hl2 hu.symm)
    have CF := LH (rfind_any sp m W A t.s kv _ wr.drew (HOr.out.slots.keep ((Chg.refl [] wr).drew) (by simp)) (hkb.chg ((Chg.refl [] wr).drew) (by simp)) (by omega))
    obtain ⟨key, hkey⟩ : ∃ key, key = (t.s.rows.getD i noRow).key := ⟨_, rfl⟩
    rw [<- hkey] at CF hkb hkl HFF
    have HKEY := LH hkey
    obtain ⟨fd, hfd⟩ : ∃ fd, fd = t.s.find key := ⟨_, rfl⟩
    rw [<- hfd] at CF HFF
    have HKB := LH (And.intro hkb hkl)
    clear hu hkb hkl hkey hfd
    go_wp2_with fail
    refine wp_region_L [(28, fun w' => w'.cell? ⟨q, 1, none⟩ = some (.pointer (some ⟨sp, 0, none⟩))), (28, fun w' => w'.cell? ⟨sp, 2, none⟩ = some (.slice (some ⟨g, 0, none⟩) M cap)), (28, fun w' => w'.cell? ⟨g, i * 3, none⟩ = some (.bool true)), (28, fun w' => w'.cell? ⟨g, i * 3 + 1, none⟩ = some kv)] (by kernel_rfl) ?_ (fun hHeld => ?_)
    ·exact (HoldC.cons (c1) (HoldC.cons (c2) (HoldC.cons (r0) (HoldC.cons (r1) HoldC.nil))))
    refine tk 0 ?_ rfl (by kernel_rfl) (fun _ _ _ h => h) (.inl ⟨by rfl, ?_⟩) hHeld ?_; rotate_left; · (intro w _; go_simp; try with_reducible rfl)
    clear hHeld; intro hHeld; try simp only [gA,gB,gC,Act.put,gD,gE,gF]
    refine tk 1 ?_ rfl (by kernel_rfl) (fun _ _ _ h => h) (.inl ⟨by rfl, ?_⟩) hHeld ?_; rotate_left; · (intro w _; go_simp; try with_reducible rfl)
    clear hHeld; intro hHeld; try simp only [gA,gB,gC,Act.put,gD,gE,gF]
    refine tk 2 ?_ rfl (by kernel_rfl) (fun _ _ _ h => h) (.inl ⟨by rfl, ?_⟩) hHeld ?_; rotate_left; · (intro w _; go_simp; try with_reducible rfl)
    clear hHeld; intro hHeld; try simp only [gA,gB,gC,Act.put,gD,gE,gF]
    refine wpAnyL_loadP 0 [12, 11, 10, 9, 8, 6, 5, 4] (i := 3) (oi := _) (v := ?_) rfl rfl (by kernel_rfl) (by kernel_rfl) (by kernel_rfl) (by kernel_rfl) (by kernel_rfl) (by kernel_rfl) (fun _ _ _ h => h) (Or.inl ⟨by rfl, ?_⟩) (by assumption) (fun hNew => ?_)
    rotate_left
    ·intro w hSw
     (try dsimp only at hSw)
     go_simp
     try with_reducible rfl
    clear hHeld
    have hHeld := hNew
    clear hNew
    try simp only [gA,gB,gC,Act.put,gD,gE,gF]
    refine tk 4 ?_ rfl (by kernel_rfl) (fun _ _ _ h => h) (.inl ⟨by rfl, ?_⟩) hHeld ?_; rotate_left; · (intro w _; go_simp; try with_reducible rfl)
    clear hHeld; intro hHeld; try simp only [gA,gB,gC,Act.put,gD,gE,gF]
    refine tk 5 ?_ rfl (by kernel_rfl) (fun _ _ _ h => h) (.inl ⟨by rfl, ?_⟩) hHeld ?_; rotate_left; · (intro w _; go_simp; try with_reducible rfl)
    clear hHeld; intro hHeld; try simp only [gA,gB,gC,Act.put,gD,gE,gF]
    refine wpAnyL_loadP 1 [12, 11, 10, 9, 8] (i := 6) (oi := _) (v := ?_) rfl rfl (by kernel_rfl) (by kernel_rfl) (by kernel_rfl) (by kernel_rfl) (by kernel_rfl) (by kernel_rfl) (fun _ _ _ h => h) (Or.inl ⟨by rfl, ?_⟩) (by assumption) (fun hNew => ?_)
    rotate_left
    ·intro w hSw
     (try dsimp only at hSw)
     go_simp
     try with_reducible rfl
    clear hHeld
    have hHeld := hNew
    clear hNew
    try simp only [gA,gB,gC,Act.put,gD,gE,gF]
    refine tk 7 ?_ rfl (by kernel_rfl) (fun _ _ _ h => h) (.inl ⟨by rfl, ?_⟩) hHeld ?_; rotate_left; · (intro w _; go_simp; try with_reducible rfl)
    clear hHeld; intro hHeld; try simp only [gA,gB,gC,Act.put,gD,gE,gF]
    refine tk 8 ?_ rfl (by kernel_rfl) (fun _ _ _ h => h) (.inl ⟨by rfl, ?_⟩) hHeld ?_; rotate_left; · (intro w _; go_simp; try with_reducible rfl)
    clear hHeld; intro hHeld; try simp only [gA,gB,gC,Act.put,gD,gE,gF]
    refine tk 9 ?_ rfl (by kernel_rfl) (fun _ _ _ h => h) (.inl ⟨by rfl, ?_⟩) hHeld ?_; rotate_left; · (intro w _; go_simp; try with_reducible rfl)
    clear hHeld; intro hHeld; try simp only [gA,gB,gC,Act.put,gD,gE,gF]
    refine wpAnyL_loadP 2 [12, 11] (i := 10) (oi := _) (v := ?_) rfl rfl (by kernel_rfl) (by kernel_rfl) (by kernel_rfl) (by kernel_rfl) (by kernel_rfl) (by kernel_rfl) (fun _ _ _ h => h) (Or.inl ⟨by rfl, ?_⟩) (by assumption) (fun hNew => ?_)
    rotate_left
    ·intro w hSw
     (try dsimp only at hSw)
     go_simp
     try with_reducible rfl
    clear hHeld
    have hHeld := hNew
    clear hNew
    try simp only [gA,gB,gC,Act.put,gD,gE,gF]
    refine tk 11 ?_ rfl (by kernel_rfl) (fun _ _ _ h => h) (.inl ⟨by rfl, ?_⟩) hHeld ?_; rotate_left; · (intro w _; go_simp; try with_reducible rfl)
    clear hHeld; intro hHeld; try simp only [gA,gB,gC,Act.put,gD,gE,gF]
    refine tk 12 ?_ rfl (by kernel_rfl) (fun _ _ _ h => h) (.inl ⟨by rfl, ?_⟩) hHeld ?_; rotate_left; · (intro w _; go_simp; try with_reducible rfl)
    clear hHeld; intro hHeld; try simp only [gA,gB,gC,Act.put,gD,gE,gF]
    refine tk 13 ?_ rfl (by kernel_rfl) (fun _ _ _ h => h) (.inl ⟨by rfl, ?_⟩) hHeld ?_; rotate_left; · (intro w _; go_simp; try with_reducible rfl)
    clear hHeld; intro hHeld; try simp only [gA,gB,gC,Act.put,gD,gE,gF]
    refine tk 14 ?_ rfl (by kernel_rfl) (fun _ _ _ h => h) (.inl ⟨by rfl, ?_⟩) hHeld ?_; rotate_left; · (intro w _; go_simp; try with_reducible rfl)
    clear hHeld; intro hHeld; try simp only [gA,gB,gC,Act.put,gD,gE,gF]
    refine tk 15 ?_ rfl (by kernel_rfl) (fun _ _ _ h => h) (.inl ⟨by rfl, ?_⟩) hHeld ?_; rotate_left; · (intro w _; go_simp; try with_reducible rfl)
    clear hHeld; intro hHeld; try simp only [gA,gB,gC,Act.put,gD,gE,gF]
    refine ld 0 16 ?_ rfl rfl (by kernel_rfl) (fun _ _ _ h => h) (.inl ⟨by rfl, ?_⟩) hHeld ?_; rotate_left; · (intro w hSw; (try dsimp only at hSw); go_simp; try with_reducible rfl)
    clear hHeld; intro hHeld; try simp only [gA,gB,gC,Act.put,gD,gE,gF]
    refine tk 17 ?_ rfl (by kernel_rfl) (fun _ _ _ h => h) (.inl ⟨by rfl, ?_⟩) hHeld ?_; rotate_left; · (intro w _; go_simp; try with_reducible rfl)
    clear hHeld; intro hHeld; try simp only [gA,gB,gC,Act.put,gD,gE,gF]
    refine tk 18 ?_ rfl (by kernel_rfl) (fun _ _ _ h => h) (.inl ⟨by rfl, ?_⟩) hHeld ?_; rotate_left; · (intro w _; go_simp; try with_reducible rfl)
    clear hHeld; intro hHeld; try simp only [gA,gB,gC,Act.put,gD,gE,gF]
    refine tk 19 ?_ rfl (by kernel_rfl) (fun _ _ _ h => h) (.inl ⟨by rfl, ?_⟩) hHeld ?_; rotate_left; · (intro w _; go_simp; try with_reducible rfl)
    clear hHeld; intro hHeld; try simp only [gA,gB,gC,Act.put,gD,gE,gF]
    refine wpAnyL_loadP 0 [27, 26, 25, 23, 22, 21] (i := 20) (oi := _) (v := ?_) rfl rfl (by kernel_rfl) (by kernel_rfl) (by kernel_rfl) (by kernel_rfl) (by kernel_rfl) (by kernel_rfl) (fun _ _ _ h => h) (Or.inl ⟨by rfl, ?_⟩) (by assumption) (fun hNew => ?_)
    rotate_left
    ·intro w hSw
     (try dsimp only at hSw)
     go_simp
     try with_reducible rfl
    clear hHeld
    have hHeld := hNew
    clear hNew
    try simp only [gA,gB,gC,Act.put,gD,gE,gF]
    refine tk 21 ?_ rfl (by kernel_rfl) (fun _ _ _ h => h) (.inl ⟨by rfl, ?_⟩) hHeld ?_; rotate_left; · (intro w _; go_simp; try with_reducible rfl)
    clear hHeld; intro hHeld; try simp only [gA,gB,gC,Act.put,gD,gE,gF]
    refine tk 22 ?_ rfl (by kernel_rfl) (fun _ _ _ h => h) (.inl ⟨by rfl, ?_⟩) hHeld ?_; rotate_left; · (intro w _; go_simp; try with_reducible rfl)
    clear hHeld; intro hHeld; try simp only [gA,gB,gC,Act.put,gD,gE,gF]
    refine wpAnyL_loadP 1 [27, 26, 25] (i := 23) (oi := _) (v := ?_) rfl rfl (by kernel_rfl) (by kernel_rfl) (by kernel_rfl) (by kernel_rfl) (by kernel_rfl) (by kernel_rfl) (fun _ _ _ h => h) (Or.inl ⟨by rfl, ?_⟩) (by assumption) (fun hNew => ?_)
    rotate_left
    ·intro w hSw
     (try dsimp only at hSw)
     go_simp
     try with_reducible rfl
    clear hHeld
    have hHeld := hNew
    clear hNew
    try simp only [gA,gB,gC,Act.put,gD,gE,gF]
    refine tk 24 ?_ rfl (by kernel_rfl) (fun _ _ _ h => h) (.inl ⟨by rfl, ?_⟩) hHeld ?_; rotate_left; · (intro w _; go_simp; try with_reducible rfl)
    clear hHeld; intro hHeld; try simp only [gA,gB,gC,Act.put,gD,gE,gF]
    refine tk 25 ?_ rfl (by kernel_rfl) (fun _ _ _ h => h) (.inl ⟨by rfl, ?_⟩) hHeld ?_; rotate_left; · (intro w _; go_simp; try with_reducible rfl)
    clear hHeld; intro hHeld; try simp only [gA,gB,gC,Act.put,gD,gE,gF]
    refine tk 26 ?_ rfl (by kernel_rfl) (fun _ _ _ h => h) (.inl ⟨by rfl, ?_⟩) hHeld ?_; rotate_left; · (intro w _; go_simp; try with_reducible rfl)
    clear hHeld; intro hHeld; try simp only [gA,gB,gC,Act.put,gD,gE,gF]
    refine ld 3 27 ?_ rfl rfl (by kernel_rfl) (fun _ _ _ h => h) (.inl ⟨by rfl, ?_⟩) hHeld ?_; rotate_left; · (intro w hSw; (try dsimp only at hSw); go_simp; try with_reducible rfl)
    clear hHeld; intro hHeld; try simp only [gA,gB,gC,Act.put,gD,gE,gF]
    refine tk 29 ?_ rfl (by kernel_rfl) (fun _ _ _ h => h) (.inl ⟨by rfl, ?_⟩) hHeld ?_; rotate_left; · (intro w _; go_simp; try with_reducible rfl)
    clear hHeld; intro hHeld; try simp only [gA,gB,gC,Act.put,gD,gE,gF]
    refine wpAnyL_ready (rs := [28]) (by kernel_rfl) (by simp) (AllReadyL.cons (o := _) rfl (fun K hK => ?_) AllReadyL.nil)
    try simp only [gA,gB,gC]
    go_simp
    refine CF.out.mono ?_
    rintro e w2 ⟨rfl, hc2⟩
    have HC2 := LH (((Chg.refl [] wr).drew).trans hc2 (by simp))
    clear hc2 CF c1 c2 r0 r1
    clear hHeld
    refine hK.out _ _ ?_ (fun hHeld => ?_)
    ·exact (HoldC.past (by kernel_rfl) (HoldC.past (by kernel_rfl) (HoldC.past (by kernel_rfl) (HoldC.past (by kernel_rfl) HoldC.nil))))
    clear hK K
    try simp only [gA,gB,gC,Act.put,gD,gE,gF]
    refine tk 30 ?_ rfl (by kernel_rfl) (fun _ _ _ h => h) (.inl ⟨by rfl, ?_⟩) hHeld ?_; rotate_left; · (intro w _; go_simp; try with_reducible rfl)
    clear hHeld; intro hHeld; try simp only [gA,gB,gC,Act.put,gD,gE,gF]
    refine tk 31 ?_ rfl (by kernel_rfl) (fun _ _ _ h => h) (.inl ⟨by rfl, ?_⟩) hHeld ?_; rotate_left; · (intro w _; go_simp; try with_reducible rfl)
    clear hHeld; intro hHeld; try simp only [gA,gB,gC,Act.put,gD,gE,gF]
    refine wpAnyL_done (by kernel_rfl) ?_ _
    clear hHeld
    by_cases hfi : fd = (i : Int)
    ·have HF : Hid (isFirst t.s.rows i = true) := LH (HFF.out.1 hfi)
     have q0 : (fd != (i : Int)) = false := by simp [hfi]
     have HO2 := LH (HOr.out.keep HC2.out (by simp))
     have HL2 := LH (HLr.out.keep (m := m) (W := W) (A := A) HC2.out)
     obtain ⟨_, c1, _⟩ := HO2.out.cells
     have c2 := HL2.out.c2
     rw [<- HM.out] at c2
     obtain ⟨g', kv2, hg', r0, r1, hkb2, hkl2⟩ := HL2.out.row i hl2
     obtain rfl : g = g' := by simpa using hg'
     rw [<- HKEY.out] at hkb2 hkl2
     have CU := LH (runkey_any kv2 _ w2 hkb2 (by omega))
     have HY : Hid (unId key = unId (t.s.rows.getD i noRow).key) := LH (by rw [HKEY.out])
     generalize unId key = y at *
     obtain ⟨yc, yl, yn, yi⟩ := y
     generalize unOk key = ok at *
     clear hg' r0 hkb2 hkl2 hfi HFF HKB
     go_wp2_with fail
     refine CU.out.mono ?_
     rintro e w3 ⟨rfl, hc3⟩
     have HC3 := LH (HC2.out.trans hc3 (by simp))
     obtain ⟨w4, hw4⟩ : ∃ w4, w4 = w3.alloc (.cells #[.int .i64 yc, .int .i64 yl, .int .i64 yn, .int .i64 yi] 38) := ⟨_, rfl⟩
     have hb4 : w4.heap[w3.heap.size]? = some (.cells (idC ⟨yc, yl, yn, yi⟩) 38 (0, 0)) := by rw [hw4]; exact heap_alloc_new w3 _
     have hc4 : Chg [] wr w4 := by rw [hw4]; exact HC3.out.alloc _
     have hs4 : w4.heap.size = w3.heap.size + 1 := by rw [hw4]; simp
     have m4 := id_cells hb4
     rw [hw4] at m4
     obtain ⟨m0, m1, m2, m3⟩ := m4
     obtain ⟨av, capv, rfl⟩ : ∃ a c, v3 = .slice a L.length c := by
      rcases HJ.out.1.2 with ⟨h1, h2⟩ | ⟨g, cap, cur, h1, _⟩
      ·exact ⟨none, 0, by rw [h1, h2]⟩
      ·exact ⟨_, cap, h1⟩
     have hown4 := row_keep HJ.out.1 (w' := w4) (fun gq hq => hc4.block gq (World.ownsRow.lt HJ.out.1 gq hq).2 (by simp))
     have hbase : w.heap.size <= w3.heap.size := Nat.le_trans HJ.out.2.1.size HC3.out.size
     have HW4 := LH hw4
     have HB4 := LH (And.intro hb4 (And.intro hc4 hs4))
     have HOWN4 := LH hown4
     rw [hw4] at hown4
     clear hw4 hb4 hc4 hs4 hc3 CU c1 c2 r1
     go_wp2_with (at_builtin; refine wpList_app1L rfl _ _ _ rfl w.heap.size elIds _ _ _ rfl hown4 1 #[.int .i64 yc, .int .i64 yl, .int .i64 yn, .int .i64 yi] (by rw [show (w3.alloc (.cells #[.int .i64 yc, .int .i64 yl, .int .i64 yn, .int .i64 yi] 38)).heap.size = w3.heap.size + 1 by simp]; rfl) rfl (by intro u hu; simp at hu; rcases hu with rfl | rfl | rfl | rfl <;> rfl) (by unfold maxLen; omega) (by omega) (by simp; omega) ?_; intro g5 cap5 w5 hown6 hg6 hat6)
     have hat : g5 ≠ w3.heap.size /\ w.heap.size <= g5 := by
      refine ⟨?_, (World.ownsRow.lt hown6 g5 rfl).1⟩
      rcases hat6 with h4 | h4
      ·have := (World.ownsRow.lt HJ.out.1 g5 h4).2
       have := HC3.out.size
       omega
      ·simp at h4
       omega
     have HC5 : Hid (Chg [] w w5 /\ w5.heap[w3.heap.size]? = some (.cells (idC ⟨yc, yl, yn, yi⟩) 38 (0, 0))) := LH (by
      have hc45 : ∀ T, (∀ k, (Value.slice av L.length capv).ownBlock = some k -> k ∈ T) -> Chg T w4 w5 := fun T hT => by
       rw [HW4.out]
       exact (Chg.refl T _).grown hg6 (fun k hk => .inl (hT k hk))
      cases hv : (Value.slice av L.length capv).ownBlock with
      | none => exact ⟨(HJ.out.2.1.trans HB4.out.2.1 (by simp)).trans (hc45 [] (by rw [hv]; simp)) (by simp), (hc45 [] (by rw [hv]; simp)).keep HB4.out.1 (by simp)⟩
      | some k =>
       have h5 := World.ownsRow.lt HJ.out.1 k hv
       have h6 := HC3.out.size
       have h7 := hc45 [k] (by rw [hv]; simp)
       exact ⟨(HJ.out.2.1.trans HB4.out.2.1 (by simp)).trans h7 (by simp; omega), h7.keep HB4.out.1 (by simp; omega)⟩)
     have HOWN5 := LH hown6
     obtain ⟨n1, hn1⟩ : ∃ n1, n1 = L.length + 1 := ⟨_, rfl⟩
     rw [<- hn1]
     have HN1 := LH hn1
     have hnl : L.length < n1 := by omega
     have hnu : n1 <= L.length + 1 := by omega
     have HLEN : Hid (∀ k gid, (L.take k ++ gid :: L.drop k).length = n1) := LH (fun k gid => by
      rw [HN1.out, List.length_append, List.length_cons, List.length_take, List.length_drop]
      omega)
     have HPUT : Hid (∀ k, k <= L.length -> (∀ x ∈ L.drop k, idLt ⟨yc, yl, yn, yi⟩ x) -> (∀ x, 0 < k -> L[k - 1]? = some x -> ¬ idLt ⟨yc, yl, yn, yi⟩ x) -> Sorted t.s.rows (i + 1) (L.take k ++ ⟨yc, yl, yn, yi⟩ :: L.drop k)) := LH (fun k h1 h2 h3 => by
      rw [HY.out] at h2 h3 ⊢
      exact HJ.out.2.2.put HKO.out hl2 HF.out h1 h2 h3)
     obtain ⟨gko, hgko⟩ : ∃ x, x = gk := ⟨_, rfl⟩
     clear hg6 hat6 hown6 hn1 m0 m1 m2 m3
     go_wp2_with fail
     go_loopg [7] L.length (fun g'' s7 wi => ∃ (k : Nat) (gid : Id), s7 = .int .i64 (k : Int) /\ k <= L.length /\ k <= g'' /\ Hid (wi.ownsRow w.heap.size 38 4 (.slice (some ⟨g5, 0, none⟩) (L.take k ++ gid :: L.drop k).length cap5) (L.take k ++ gid :: L.drop k).length ((L.take k ++ gid :: L.drop k).flatMap idE) /\ Chg [g5] w5 wi /\ ∀ x ∈ L.drop k, idLt ⟨yc, yl, yn, yi⟩ x))
     case atStart => exact ⟨L.length, ⟨yc, yl, yn, yi⟩, rfl, Nat.le_refl _, Nat.le_refl _, LH ⟨by
      rw [HLEN.out, HN1.out, List.take_length, List.drop_length, List.flatMap_append]
      exact HOWN5.out, Chg.refl _ _, fun x hx => by rw [List.drop_length] at hx; cases hx⟩⟩
     case round =>
      obtain ⟨k, gid, rfl, hkL, hkg, HI⟩ := hrel
      have hbi := HI.out.2.1.keep HC5.out.2 (by simp; exact Ne.symm hat.1)
      have hg5w : g5 < wr.heap.size := (World.ownsRow.lt HI.out.1 g5 rfl).2
      by_cases hk0 : k = 0
      ·obtain ⟨m0, m1, m2, m3⟩ := id_cells hbi
       have hkz : ¬ (0 : Int) < (k : Int) := by omega
       have hk00 : k <= 0 := by omega
       have hk01 : ¬ 0 < k := by omega
       clear hk0
       go_wp2_with fail
       go_quiet (fail)
       clear m0 m1 m2 m3
       have HT : Hid (∀ x, 0 < k -> L[k - 1]? = some x -> ¬ idLt ⟨yc, yl, yn, yi⟩ x) := LH (fun x h0 => by omega)
       have HS := LH (HPUT.out k hkL HI.out.2.2 HT.out)
       have hcW : Chg [] wr (wr.drewN nq) := (Chg.refl [] wr).drewN nq
       have hrow := row_keep HI.out.1 (w' := (wr.drewN nq)) (fun gq hq => hcW.block gq (World.ownsRow.lt HI.out.1 gq hq).2 (by simp))
       obtain ⟨p0, p1, p2, p3⟩ := id_row hrow k (by rw [HLEN.out]; omega) gid (hole_at L k gid hkL)
       have hth := row_thereId hrow k (by rw [HLEN.out]; omega)
       have hset := row_setId hrow k (by rw [HLEN.out]; omega) ⟨yc, yl, yn, yi⟩
       rw [hole_put L k gid _ hkL] at hset
       have f0 : ((wr.drewN nq)).frozen? ⟨g5, k * 4, none⟩ = false := (hth 0 (by omega)).2
       have f1 : ((wr.drewN nq)).frozen? ⟨g5, k * 4 + 1, none⟩ = false := (hth 1 (by omega)).2
       have f2 : ((wr.drewN nq)).frozen? ⟨g5, k * 4 + 2, none⟩ = false := (hth 2 (by omega)).2
       have f3 : ((wr.drewN nq)).frozen? ⟨g5, k * 4 + 3, none⟩ = false := (hth 3 (by omega)).2
       obtain ⟨m0, m1, m2, m3⟩ := id_cells (hcW.keep hbi (by simp))
       have HCW : Hid (Chg [] w (((wr.drewN nq)).setCells g5 (k * 4) [.int .i64 yc, .int .i64 yl, .int .i64 yn, .int .i64 yi])) := LH (((HC5.out.1.trans HI.out.2.1 (by simp; exact hat.2)).trans hcW (by simp)).setCells (.inr hat.2) _)
       have HROW := LH hset
       have hkn : (k : Int) < (n1 : Int) := by have := HN1.out; omega
       have hkk : (k : Int).toNat = k := by omega
       have hl1 : n1 <= i + 1 := by have := HN1.out; omega
       clear hrow hth hset hbi
       generalize wr.drewN nq = wz at *
       go_wp2_with fail
       go_roundg (gko - 1)
       case measure => omega
       case rel => exact ⟨i + 1, _, _, rfl, by go_num, by omega, by omega, by rw [HLEN.out]; exact hl1, LH ⟨by rw [HLEN.out]; rw [HLEN.out] at HROW; exact HROW.out, HCW.out, HS.out⟩⟩
      ·obtain ⟨mm, hmm⟩ : ∃ mm, k = mm + 1 := ⟨k - 1, by omega⟩
       obtain ⟨z, hz⟩ : ∃ z, L[mm]? = some z := ⟨_, List.getElem?_eq_getElem (by omega)⟩
       have hdn := hole_down L mm gid z hz
       rw [<- hmm] at hdn
       obtain ⟨zc, zl, zn, zi⟩ := z
       have hzc := id_row HI.out.1 mm (by rw [HLEN.out]; omega) _ hdn.2
       have hmb := id_cells hbi
       have hm1 : (k : Int) - 1 = (mm : Int) := by omega
       have hmp : (0 : Int) < (k : Int) := by omega
       have hwm : IntKind.i64.wrap (mm : Int) = (mm : Int) := IntWalk.i64_in _ (by omega)
       have hml : (mm : Int) < (n1 : Int) := by have := HN1.out; omega
       have h0m : (0 : Int) <= (mm : Int) := by omega
       have hmt : (mm : Int).toNat = mm := by omega
       have CLS := LH (rless_any ⟨yc, yl, yn, yi⟩ ⟨zc, zl, zn, zi⟩ wr.drew)
       have HDN := LH hdn.1
       have HMM := LH hmm
       have hkp : 0 < k := by omega
       have hk1 : k <= mm + 1 := by omega
       have hk2 : mm + 1 <= k := by omega
       clear hdn hmm
       go_wp2_with fail
       refine wp_region_L [(9, fun w' => (w'.cell? ⟨w3.heap.size, 0, none⟩ = some (.int .i64 yc) /\ w'.cell? ⟨w3.heap.size, 1, none⟩ = some (.int .i64 yl) /\ w'.cell? ⟨w3.heap.size, 2, none⟩ = some (.int .i64 yn) /\ w'.cell? ⟨w3.heap.size, 3, none⟩ = some (.int .i64 yi))), (9, fun w' => (w'.cell? ⟨g5, mm * 4, none⟩ = some (.int .i64 zc) /\ w'.cell? ⟨g5, mm * 4 + 1, none⟩ = some (.int .i64 zl) /\ w'.cell? ⟨g5, mm * 4 + 2, none⟩ = some (.int .i64 zn) /\ w'.cell? ⟨g5, mm * 4 + 3, none⟩ = some (.int .i64 zi)))] (by kernel_rfl) ?_ (fun hHeld => ?_)
       ·exact (HoldC.cons (hmb) (HoldC.cons (hzc) HoldC.nil))
       refine tk 0 ?_ rfl (by kernel_rfl) (fun _ _ _ h => h) (.inl ⟨by rfl, ?_⟩) hHeld ?_; rotate_left; · (intro w _; go_simp; try with_reducible rfl)
       clear hHeld; intro hHeld; try simp only [gA,gB,gC,Act.put,gD,gE,gF]
       refine tk 1 ?_ rfl (by kernel_rfl) (fun _ _ _ h => h) (.inl ⟨by rfl, ?_⟩) hHeld ?_; rotate_left; · (intro w _; go_simp; try with_reducible rfl)
       clear hHeld; intro hHeld; try simp only [gA,gB,gC,Act.put,gD,gE,gF]
       refine tk 2 ?_ rfl (by kernel_rfl) (fun _ _ _ h => h) (.inl ⟨by rfl, ?_⟩) hHeld ?_; rotate_left; · (intro w _; go_simp; try with_reducible rfl)
       clear hHeld; intro hHeld; try simp only [gA,gB,gC,Act.put,gD,gE,gF]
       refine ld 0 3 ?_ rfl rfl (by kernel_rfl) (fun _ _ _ h => h) (.inl ⟨by rfl, ?_⟩) hHeld ?_; rotate_left; · (intro w hSw; (try dsimp only at hSw); go_simp; try with_reducible rfl)
       clear hHeld; intro hHeld; try simp only [gA,gB,gC,Act.put,gD,gE,gF]
       refine tk 4 ?_ rfl (by kernel_rfl) (fun _ _ _ h => h) (.inl ⟨by rfl, ?_⟩) hHeld ?_; rotate_left; · (intro w _; go_simp; try with_reducible rfl)
       clear hHeld; intro hHeld; try simp only [gA,gB,gC,Act.put,gD,gE,gF]
       refine tk 5 ?_ rfl (by kernel_rfl) (fun _ _ _ h => h) (.inl ⟨by rfl, ?_⟩) hHeld ?_; rotate_left; · (intro w _; go_simp; try with_reducible rfl)
       clear hHeld; intro hHeld; try simp only [gA,gB,gC,Act.put,gD,gE,gF]
       refine tk 6 ?_ rfl (by kernel_rfl) (fun _ _ _ h => h) (.inl ⟨by rfl, ?_⟩) hHeld ?_; rotate_left; · (intro w _; go_simp; try with_reducible rfl)
       clear hHeld; intro hHeld; try simp only [gA,gB,gC,Act.put,gD,gE,gF]
       refine tk 7 ?_ rfl (by kernel_rfl) (fun _ _ _ h => h) (.inl ⟨by rfl, ?_⟩) hHeld ?_; rotate_left; · (intro w _; go_simp; try with_reducible rfl)
       clear hHeld; intro hHeld; try simp only [gA,gB,gC,Act.put,gD,gE,gF]
       refine ld 1 8 ?_ rfl rfl (by kernel_rfl) (fun _ _ _ h => h) (.inl ⟨by rfl, ?_⟩) hHeld ?_; rotate_left; · (intro w hSw; (try dsimp only at hSw); go_simp; try with_reducible rfl)
       clear hHeld; intro hHeld; try simp only [gA,gB,gC,Act.put,gD,gE,gF]
       refine wpAnyL_ready (rs := [9]) (by kernel_rfl) (by simp) (AllReadyL.cons (o := _) rfl (fun K hK => ?_) AllReadyL.nil)
       try simp only [gA,gB,gC]
       go_simp
       refine CLS.out.mono ?_
       rintro e wj ⟨rfl, hcj⟩
       have HCj := LH (((Chg.refl [] wr).drew).trans hcj (by simp))
       clear hcj CLS
       clear hHeld
       refine hK.out _ _ ?_ (fun hHeld => ?_)
       ·exact (HoldC.past (by kernel_rfl) (HoldC.past (by kernel_rfl) HoldC.nil))
       clear hK K
       try simp only [gA,gB,gC,Act.put,gD,gE,gF]
       refine tk 10 ?_ rfl (by kernel_rfl) (fun _ _ _ h => h) (.inl ⟨by rfl, ?_⟩) hHeld ?_; rotate_left; · (intro w _; go_simp; try with_reducible rfl)
       clear hHeld; intro hHeld; try simp only [gA,gB,gC,Act.put,gD,gE,gF]
       refine wpAnyL_done (by kernel_rfl) ?_ _
       clear hHeld
       by_cases hid : idLt ⟨yc, yl, yn, yi⟩ ⟨zc, zl, zn, zi⟩
       ·rw [decide_eq_true hid]
        have HLT : Hid (∀ x ∈ L.drop mm, idLt ⟨yc, yl, yn, yi⟩ x) := LH (fun x hx => by
         have hml2 := (List.getElem?_eq_some_iff.1 hz).1
         have hgz : L[mm] = ⟨zc, zl, zn, zi⟩ := by rw [List.getElem?_eq_getElem hml2] at hz; exact Option.some.inj hz
         rw [List.drop_eq_getElem_cons hml2, hgz, <- HMM.out] at hx
         rcases List.mem_cons.1 hx with rfl | hx
         ·exact hid
         ·exact HI.out.2.2 x hx)
        have hrow := row_keep HI.out.1 (w' := wj) (fun gq hq => HCj.out.block gq (World.ownsRow.lt HI.out.1 gq hq).2 (by simp))
        obtain ⟨p0, p1, p2, p3⟩ := id_row hrow k (by rw [HLEN.out]; omega) gid (hole_at L k gid hkL)
        obtain ⟨m0, m1, m2, m3⟩ := hzc
        have m0 := HCj.out.cell m0 (by simp)
        have m1 := HCj.out.cell m1 (by simp)
        have m2 := HCj.out.cell m2 (by simp)
        have m3 := HCj.out.cell m3 (by simp)
        have hth := row_thereId hrow k (by rw [HLEN.out]; omega)
        have hset := row_setId hrow k (by rw [HLEN.out]; omega) ⟨zc, zl, zn, zi⟩
        rw [HDN.out] at hset
        have f0 : wj.frozen? ⟨g5, k * 4, none⟩ = false := (hth 0 (by omega)).2
        have f1 : wj.frozen? ⟨g5, k * 4 + 1, none⟩ = false := (hth 1 (by omega)).2
        have f2 : wj.frozen? ⟨g5, k * 4 + 2, none⟩ = false := (hth 2 (by omega)).2
        have f3 : wj.frozen? ⟨g5, k * 4 + 3, none⟩ = false := (hth 3 (by omega)).2
        have HCW : Hid (Chg [g5] w5 (wj.setCells g5 (k * 4) [.int .i64 zc, .int .i64 zl, .int .i64 zn, .int .i64 zi])) := LH ((HI.out.2.1.trans HCj.out (by simp)).setCells (.inl (by simp)) _)
        have HROW := LH hset
        have hkn : (k : Int) < (n1 : Int) := by have := HN1.out; omega
        have hkk : (k : Int).toNat = k := by omega
        clear hrow hth hset hbi hmb hid HDN
        go_wp2_with fail
        go_roundg (gk - 1)
        case measure => omega
        case rel => exact ⟨mm, _, by go_num, by omega, by omega, LH ⟨HROW.out, HCW.out, HLT.out⟩⟩
       ·rw [decide_eq_false hid]
        clear hmb hzc
        have HT : Hid (∀ x, 0 < k -> L[k - 1]? = some x -> ¬ idLt ⟨yc, yl, yn, yi⟩ x) := LH (fun x h0 hx => by
         rw [show k - 1 = mm by omega, hz] at hx
         obtain rfl := Option.some.inj hx
         exact hid)
        have HS := LH (HPUT.out k hkL HI.out.2.2 HT.out)
        have hcW : Chg [] wr wj := HCj.out
        have hrow := row_keep HI.out.1 (w' := wj) (fun gq hq => hcW.block gq (World.ownsRow.lt HI.out.1 gq hq).2 (by simp))
        obtain ⟨p0, p1, p2, p3⟩ := id_row hrow k (by rw [HLEN.out]; omega) gid (hole_at L k gid hkL)
        have hth := row_thereId hrow k (by rw [HLEN.out]; omega)
        have hset := row_setId hrow k (by rw [HLEN.out]; omega) ⟨yc, yl, yn, yi⟩
        rw [hole_put L k gid _ hkL] at hset
        have f0 : (wj).frozen? ⟨g5, k * 4, none⟩ = false := (hth 0 (by omega)).2
        have f1 : (wj).frozen? ⟨g5, k * 4 + 1, none⟩ = false := (hth 1 (by omega)).2
        have f2 : (wj).frozen? ⟨g5, k * 4 + 2, none⟩ = false := (hth 2 (by omega)).2
        have f3 : (wj).frozen? ⟨g5, k * 4 + 3, none⟩ = false := (hth 3 (by omega)).2
        obtain ⟨m0, m1, m2, m3⟩ := id_cells (hcW.keep hbi (by simp))
        have HCW : Hid (Chg [] w ((wj).setCells g5 (k * 4) [.int .i64 yc, .int .i64 yl, .int .i64 yn, .int .i64 yi])) := LH (((HC5.out.1.trans HI.out.2.1 (by simp; exact hat.2)).trans hcW (by simp)).setCells (.inr hat.2) _)
        have HROW := LH hset
        have hkn : (k : Int) < (n1 : Int) := by have := HN1.out; omega
        have hkk : (k : Int).toNat = k := by omega
        have hl1 : n1 <= i + 1 := by have := HN1.out; omega
        clear hrow hth hset hbi
        go_wp2_with fail
        go_roundg (gko - 1)
        case measure => omega
        case rel => exact ⟨i + 1, _, _, rfl, by go_num, by omega, by omega, by rw [HLEN.out]; exact hl1, LH ⟨by rw [HLEN.out]; rw [HLEN.out] at HROW; exact HROW.out, HCW.out, HS.out⟩⟩
    ·have HF : Hid (isFirst t.s.rows i = false) := LH (by
      rw [Bool.eq_false_iff]
      exact fun hh => hfi (HFF.out.2 hh))
     have q0 : (fd != (i : Int)) = true := by simp [hfi]
     have HN := LH (And.intro (row_keep HJ.out.1 (w' := w2) (fun gq hq => HC2.out.block gq (World.ownsRow.lt HJ.out.1 gq hq).2 (by simp))) (And.intro (HJ.out.2.1.trans HC2.out (by simp)) (HJ.out.2.2.skip HF.out)))
     clear hfi HFF HKB
     go_wp2
     go_roundg (gk - 1)
     case measure => omega
     case rel => exact ⟨i + 1, L, _, rfl, by go_num, by omega, by omega, by omega, HN⟩
  ·have him : i = M := by omega
   have hiz : ¬ (i : Int) < (M : Int) := by omega
   have HE := LH (HID.out L (by rw [<- HM.out, <- him]; exact HJ.out.2.2))
   go_wp2
   go_ret
   rw [<- HE.out]
   exact ⟨_, rfl, HJ.out.1, HJ.out.2.1⟩
end
def giN : Nat -> PB -> List Id × PB
 | 0, s => ([], s)
 | k + 1, s => if (giS s).2 ≠ 0 then ([], giS s) else (giV s :: (giN k (giS s)).1, (giN k (giS s)).2)
def repTail (E : Int) (bb : List UInt8) (r : List Id × PB) : Rp × Int :=
 if endOf (ebS (enS r.2 2)).1 (ebS (enS r.2 2)).2 ≠ 0 then (noRp, endOf (ebS (enS r.2 2)).1 (ebS (enS r.2 2)).2) else (⟨E, bb, r.1, enV r.2 2, ebV (enS r.2 2)⟩, 0)
def repDec (l : List UInt8) : Rp × Int :=
 if (enS (l, 0) 1).2 = 0 /\ 18 < enV (l, 0) 1 then (noRp, 4) else
 repTail (enV (l, 0) 1) (erV (enS (l, 0) 1)) (giN (enV (erS (enS (l, 0) 1)) 2).toNat (enS (erS (enS (l, 0) 1)) 2))
theorem ebS_bad {s : PB} (h : s.2 ≠ 0) : ebS s = s := by
 unfold ebS eyeBool
 rw [if_pos h]
theorem repTail_bad {E : Int} {bb : List UInt8} {r : List Id × PB} (h : r.2.2 ≠ 0) : repTail E bb r = (noRp, r.2.2) := by
 unfold repTail
 rw [(enS_bad h 2).1, ebS_bad h, end_bad h, if_pos h]
theorem giN_bad {s : PB} (h : s.2 ≠ 0) : ∀ k, giN k s = ([], s)
 | 0 => rfl
 | k + 1 => by
  unfold giN
  rw [giS_bad h, if_pos h]
theorem giN_fail {s : PB} (h : (giS s).2 ≠ 0) (k : Nat) : giN (k + 1) s = ([], giS s) := by
 unfold giN
 rw [if_pos h]
theorem giN_ok {s : PB} (h : (giS s).2 = 0) (k : Nat) : giN (k + 1) s = (giV s :: (giN k (giS s)).1, (giN k (giS s)).2) := by
 rw [giN]
 rw [if_neg (by simp [h])]
theorem repDec_ref (l : List UInt8) (s1 : PB) (hs : s1 = ((enS (l, 0) 1).1, if decide (18 < enV (l, 0) 1) = true /\ (enS (l, 0) 1).2 = 0 then 4 else (enS (l, 0) 1).2)) :
  repDec l = repTail (enV (l, 0) 1) (erV s1) (giN (enV (erS s1) 2).toNat (enS (erS s1) 2)) := by
 unfold repDec
 by_cases h : (enS (l, 0) 1).2 = 0 /\ 18 < enV (l, 0) 1
 ·rw [if_pos h]
  rw [if_pos (by simp [h.1, h.2])] at hs
  have hb : s1.2 ≠ 0 := by rw [hs]; simp
  rw [erS_bad hb, (enS_bad hb 2).1, giN_bad hb, repTail_bad (by exact hb), hs]
 ·rw [if_neg h]
  rw [if_neg (fun hh => h ⟨hh.2, by simpa using hh.1⟩)] at hs
  have : s1 = enS (l, 0) 1 := by rw [hs]
  rw [this]
def GiAt (n : Nat) (s3 : PB) (A : List Id) (k : Nat) (s : PB) : Prop := giN n s3 = (A ++ (giN k s).1, (giN k s).2)
theorem GiAt.new (n : Nat) (s3 : PB) : GiAt n s3 [] n s3 := by unfold GiAt; simp
theorem GiAt.ok {n k : Nat} {s3 s : PB} {A : List Id} (h : GiAt n s3 A (k + 1) s) (hs : (giS s).2 = 0) : GiAt n s3 (A ++ [giV s]) k (giS s) := by
 unfold GiAt at h ⊢
 rw [h, giN_ok hs]
 simp
theorem GiAt.fail {n k : Nat} {s3 s : PB} {A : List Id} (h : GiAt n s3 A (k + 1) s) (hs : (giS s).2 ≠ 0) (j : Nat) : GiAt n s3 A j (giS s) := by
 unfold GiAt at h ⊢
 rw [h, giN_fail hs, giN_bad hs]
theorem GiAt.done {n k : Nat} {s3 s : PB} {A : List Id} (h : GiAt n s3 A k s) (hk : k = 0 ∨ s.2 ≠ 0) : giN n s3 = (A, s) := by
 unfold GiAt at h
 rw [h]
 rcases hk with rfl | hk
 ·simp [giN]
 ·rw [giN_bad hk]; simp
theorem enV_rng (s : PB) : ∃ n : Nat, enV s 2 = (n : Int) /\ n <= 65535 := by
 unfold enV eyeNum
 split
 ·exact ⟨0, rfl, by omega⟩
 ·split
  ·exact ⟨0, rfl, by omega⟩
  ·refine ⟨_, rfl, ?_⟩
   have h := beNum_lt (s.1.take 2)
   have h2 : 256 ^ (s.1.take 2).length <= 256 ^ 2 := Nat.pow_le_pow_right (by omega) (List.length_take_le _ _)
   omega
def DecRPost (w0 : World) (r : Rp × Int) (e : Ending) (w' : World) : Prop := ∃ v, e = .returned (.tuple #[v, .int .i64 r.2]) /\ RpAt w0 w' v r.1 /\ Chg [] w0 w'
def kB (v : Value) (l : List UInt8) : List Nat := if l = [] then [] else v.ownBlock.toList
theorem kB_nil (v : Value) : kB v [] = [] := if_pos rfl
theorem mem_kB {v : Value} {l : List UInt8} (h : l ≠ []) {k : Nat} : k ∈ kB v l ↔ v.ownBlock = some k := by
 unfold kB
 rw [if_neg h]
 simp
theorem bytes_keepL {w w' : World} {v : Value} {l : List UInt8} (h : BytesAt w v l) (hb : l ≠ [] -> ∀ g, v.ownBlock = some g -> w'.heap[g]? = w.heap[g]?) : BytesAt w' v l := by
 by_cases hl : l = []
 ·subst hl
  obtain ⟨a, cap, rfl, h1, h2, h3⟩ := h
  refine ⟨a, cap, rfl, h1, h2, ?_⟩
  rcases h3 with h3 | ⟨g, o, rfl, hc⟩
  ·exact .inl h3
  ·exact .inr ⟨g, o, rfl, fun i hi => absurd hi (by simp)⟩
 ·exact h.keep (hb hl)
theorem row_ne {w : World} {base size n L t : Nat} {e : TypeId} {v : Value} {xs : List Value} {cs : Array Value} {q : Nat × Nat} (h : w.ownsRow base e size v n xs) (hl : w.heap[L]? = some (.cells cs t q)) (hne : e ≠ t) : v.ownBlock ≠ some L := by
 intro hk
 rcases h.2 with ⟨rfl, _⟩ | ⟨g, cap, cur, rfl, hbg, hg, _⟩
 ·simp [Value.ownBlock] at hk
 ·obtain rfl : g = L := by simpa [Value.ownBlock] using hk
  rw [hl] at hg
  injection hg with hg
  injection hg with h1 h2
  exact hne h2.symm
theorem row_rows {w : World} {base base' size size' n n' : Nat} {e e' : TypeId} {v v' : Value} {xs xs' : List Value} (h : w.ownsRow base e size v n xs) (h' : w.ownsRow base' e' size' v' n' xs') (hne : e ≠ e') {k : Nat} (hk : v.ownBlock = some k) : v'.ownBlock ≠ some k := by
 rcases h.2 with ⟨rfl, _⟩ | ⟨g, cap, cur, rfl, hbg, hg, _⟩
 ·simp [Value.ownBlock] at hk
 ·obtain rfl : g = k := by simpa [Value.ownBlock] using hk
  exact row_ne h' hg (fun e => hne e.symm)
theorem fvf_cells {w : World} {N t : Nat} {a0 a1 a2 a3 a4 : Value} (h : w.heap[N]? = some (.cells #[a0, a1, a2, a3, a4] t (0, 0))) :
  (w.cell? ⟨N, 0, none⟩ = some a0 /\ w.cell? ⟨N, 1, none⟩ = some a1 /\ w.cell? ⟨N, 2, none⟩ = some a2 /\ w.cell? ⟨N, 3, none⟩ = some a3 /\ w.cell? ⟨N, 4, none⟩ = some a4) /\
  w.frozen? ⟨N, 0, none⟩ = false /\ w.frozen? ⟨N, 1, none⟩ = false /\ w.frozen? ⟨N, 2, none⟩ = false /\ w.frozen? ⟨N, 3, none⟩ = false /\ w.frozen? ⟨N, 4, none⟩ = false :=
 ⟨⟨blk_cell h 0 _ rfl, blk_cell h 1 _ rfl, blk_cell h 2 _ rfl, blk_cell h 3 _ rfl, blk_cell h 4 _ rfl⟩, blk_frozen h 0, blk_frozen h 1, blk_frozen h 2, blk_frozen h 3, blk_frozen h 4⟩
theorem set_fiv {w : World} {b t : Nat} {a0 a1 a2 a3 a4 : Value} (h : w.heap[b]? = some (.cells #[a0, a1, a2, a3, a4] t (0, 0))) (u0 u1 u2 u3 u4 : Value) :
  (((((w.setCell ⟨b, 0, none⟩ u0).setCell ⟨b, 1, none⟩ u1).setCell ⟨b, 2, none⟩ u2).setCell ⟨b, 3, none⟩ u3).setCell ⟨b, 4, none⟩ u4).heap[b]? = some (.cells #[u0, u1, u2, u3, u4] t (0, 0)) := five_set h u0 u1 u2 u3 u4
theorem chg_fiv {w0 w : World} (hc : Chg [] w0 w) {b : Nat} (hb : w0.heap.size <= b) (u0 u1 u2 u3 u4 : Value) :
  Chg [] w0 (((((w.setCell ⟨b, 0, none⟩ u0).setCell ⟨b, 1, none⟩ u1).setCell ⟨b, 2, none⟩ u2).setCell ⟨b, 3, none⟩ u3).setCell ⟨b, 4, none⟩ u4) :=
 ((((hc.setCell (.inr hb) _).setCell (.inr hb) _).setCell (.inr hb) _).setCell (.inr hb) _).setCell (.inr hb) _
theorem same_fiv {w : World} {b g : Nat} (hb : g ≠ b) (u0 u1 u2 u3 u4 : Value) :
  (((((w.setCell ⟨b, 0, none⟩ u0).setCell ⟨b, 1, none⟩ u1).setCell ⟨b, 2, none⟩ u2).setCell ⟨b, 3, none⟩ u3).setCell ⟨b, 4, none⟩ u4).heap[g]? = w.heap[g]? := by
 rw [Below.heap_setCell _ ⟨b, 4, none⟩ u4 g hb, Below.heap_setCell _ ⟨b, 3, none⟩ u3 g hb, Below.heap_setCell _ ⟨b, 2, none⟩ u2 g hb, Below.heap_setCell _ ⟨b, 1, none⟩ u1 g hb, Below.heap_setCell _ ⟨b, 0, none⟩ u0 g hb]
theorem eyeRaw_nil (bad : Int) (m : Nat) : (eyeRaw [] bad m).1 = [] := by
 unfold eyeRaw
 split
 ·rfl
 ·rw [if_pos (by simp)]
def StopT (p : Prop) : Prop := p
theorem stopT_of {p : Prop} (h : StopT p) : p := h
section
variable {K Y T : List Nat} {w0 w w' : World} {b : Nat} {s s' : PB}
theorem EyeS.wrote (h : EyeS K w0 w b s) (hc : Chg T w w') (hT : ∀ x ∈ T, x ∈ K /\ w0.heap.size <= x) (hY : ∀ k ∈ Y, k ∈ K ∨ (w.heap.size <= k /\ k < w'.heap.size)) : EyeS Y w0 w' b s := by
 obtain ⟨g, he, hg⟩ := h.eye
 have hb := he.blt
 obtain ⟨g', he', hg'⟩ := he.pick (w'.heap.size + b + 1) (by omega)
 have hz := hc.size
 have hgT : g' ∉ T := fun hm => by
  have h1 := h.lim g' (hT g' hm).1
  rcases hg' with ⟨rfl, _⟩ | rfl
  ·exact hg (hT _ hm).1
  ·omega
 refine ⟨⟨g', he'.keep hc (fun hm => h.own.2 (hT b hm).1) hgT, fun hm => ?_⟩, ⟨h.own.1, fun hm => ?_⟩, h.chg.trans hc (fun x hx => .inr (hT x hx).2), fun x hx => ?_⟩
 ·rcases hg' with ⟨rfl, h1⟩ | rfl
  ·rcases hY _ hm with h2 | h2
   ·exact hg h2
   ·omega
  ·rcases hY _ hm with h2 | h2
   ·have := h.lim _ h2; omega
   ·omega
 ·rcases hY _ hm with h2 | h2
  ·exact h.own.2 h2
  ·omega
 ·rcases hY x hx with h2 | h2
  ·exact Nat.lt_of_lt_of_le (h.lim x h2) hz
  ·exact h2.2
variable {L R : Nat} {E room : Int} {bb : List UInt8} {bv iv : Value} {A : List Id} {wh : Bool}
end
theorem REyeS.badc {K : List Nat} {w0 w : World} {b : Nat} {s : PB} (h : REyeS K w0 w b s) : w.cell? ⟨b, 1, none⟩ = some (.int .i64 s.2) := by
 obtain ⟨g, ⟨v, hb, _⟩, _⟩ := h.eye
 exact blk_cell hb 1 _ rfl
section
variable {K Y T : List Nat} {w0 w w' : World} {b : Nat} {s s' : PB}
theorem REyeS.wrote (h : REyeS K w0 w b s) (hc : Chg T w w') (hT : ∀ x ∈ T, x ∈ K /\ w0.heap.size <= x) (hY : ∀ k ∈ Y, k ∈ K ∨ (w.heap.size <= k /\ k < w'.heap.size)) : REyeS Y w0 w' b s := by
 obtain ⟨g, he, hg⟩ := h.eye
 have hb := he.blt
 obtain ⟨g', he', hg'⟩ := he.pick (w'.heap.size + b + 1) (by omega)
 have hz := hc.size
 have hgT : g' ∉ T := fun hm => by
  have h1 := h.lim g' (hT g' hm).1
  rcases hg' with ⟨rfl, _⟩ | rfl
  ·exact hg (hT _ hm).1
  ·omega
 refine ⟨⟨g', he'.keep hc (fun hm => h.own.2 (hT b hm).1) hgT, fun hm => ?_⟩, ⟨h.own.1, fun hm => ?_⟩, h.chg.trans hc (fun x hx => .inr (hT x hx).2), fun x hx => ?_⟩
 ·rcases hg' with ⟨rfl, h1⟩ | rfl
  ·rcases hY _ hm with h2 | h2
   ·exact hg h2
   ·omega
  ·rcases hY _ hm with h2 | h2
   ·have := h.lim _ h2; omega
   ·omega
 ·rcases hY _ hm with h2 | h2
  ·exact h.own.2 h2
  ·omega
 ·rcases hY x hx with h2 | h2
  ·exact Nat.lt_of_lt_of_le (h.lim x h2) hz
  ·exact h2.2
theorem resRaw2 (h : REyeS K w0 w b s) : Calls Tryz.prog 62 #[.pointer (some ⟨b, 0, none⟩), .int .i64 65535] w fun e w' => ∃ v, e = .returned v /\ REyeS (kB v (erV s) ++ K) w0 w' b (erS s) /\ (∀ x ∈ K, w'.heap[x]? = w.heap[x]?) /\ BRow w' v (erV s) /\ (∀ k, v.ownBlock = some k -> w.heap.size <= k) := by
 obtain ⟨g, he, hg⟩ := h.eye
 refine (rraw_any b g s.1 s.2 65535 w he (by omega)).mono ?_
 rintro e w' ⟨v, rfl, h1, h2, h3, h4⟩
 have hst := h.step (s' := erS s) hg h3 h4
 refine ⟨v, rfl, ?_, hst.2, h1, h2⟩
 by_cases hb : erV s = []
 ·rw [hb, kB_nil]
  exact hst.1
 ·have hs : s.1 ≠ [] := fun hs => hb (by unfold erV; rw [hs]; exact eyeRaw_nil _ _)
  have hgl : g < w.heap.size := by
   obtain ⟨v', _, hv', _⟩ := he
   rcases hv' with ⟨e, _⟩ | ⟨o, cap, e, _, _, hg', _⟩
   ·exact absurd e hs
   ·exact hg' 
  have hbl := he.blt
  refine ⟨⟨g, h3, fun hm => ?_⟩, ⟨hst.1.own.1, fun hm => ?_⟩, hst.1.chg, fun x hx => ?_⟩
  ·rcases List.mem_append.1 hm with hm | hm
   ·have := h2 g ((mem_kB hb).1 hm); omega
   ·exact hg hm
  ·rcases List.mem_append.1 hm with hm | hm
   ·have := h2 b ((mem_kB hb).1 hm); omega
   ·exact h.own.2 hm
  ·rcases List.mem_append.1 hx with hm | hm
   ·exact h1.lt x ((mem_kB hb).1 hm)
   ·exact hst.1.lim x hm
structure RepR (w0 w : World) (b L R : Nat) (E : Int) (bb : List UInt8) (bv iv : Value) (A : List Id) (room : Int) (wh : Bool) (s : PB) : Prop where
 eye : REyeS (kB bv bb ++ (iv.ownBlock.toList ++ [L, R])) w0 w b s
 row : w.ownsRow w0.heap.size 38 4 iv A.length (A.flatMap idE)
 bytes : BytesAt w bv bb
 brow : bb ≠ [] -> BRow w bv bb
 bnew : ∀ k, bv.ownBlock = some k -> w0.heap.size <= k
 cl : w.heap[L]? = some (.cells #[.int .i64 E, bv, iv, .int .i64 room, .bool wh] 54 (0, 0))
 cr : w.heap[R]? = some (.cells zeroRp 54 (0, 0))
 newL : w0.heap.size <= L
 newR : w0.heap.size <= R
 ne : R ≠ L
variable {L R : Nat} {E room : Int} {bb : List UInt8} {bv iv : Value} {A : List Id} {wh : Bool}
theorem RepR.same (h : RepR w0 w b L R E bb bv iv A room wh s) (he : REyeS (kB bv bb ++ (iv.ownBlock.toList ++ [L, R])) w0 w' b s') (hk : ∀ x ∈ kB bv bb ++ (iv.ownBlock.toList ++ [L, R]), w'.heap[x]? = w.heap[x]?) : RepR w0 w' b L R E bb bv iv A room wh s' :=
 ⟨he, row_keep h.row (fun g hg => hk g (List.mem_append_right _ (List.mem_append_left _ (by simpa using hg)))), bytes_keepL h.bytes (fun hne g hg => hk g (List.mem_append_left _ ((mem_kB hne).2 hg))),
  fun hne => (h.brow hne).keep (fun g hg => hk g (List.mem_append_left _ ((mem_kB hne).2 hg))), h.bnew, keepO h.cl (hk L (by simp)), keepO h.cr (hk R (by simp)), h.newL, h.newR, h.ne⟩
theorem RepR.quiet (h : RepR w0 w b L R E bb bv iv A room wh s) (hc : Chg [] w w') : RepR w0 w' b L R E bb bv iv A room wh s :=
 h.same (h.eye.keepD hc) (fun x hx => hc.block x (h.eye.lim x hx) (by simp))
theorem RepR.notL (h : RepR w0 w b L R E bb bv iv A room wh s) : iv.ownBlock ≠ some L := row_ne h.row h.cl (by decide)
theorem RepR.notBL (h : RepR w0 w b L R E bb bv iv A room wh s) (hne : bb ≠ []) : bv.ownBlock ≠ some L := row_ne (h.brow hne) h.cl (by decide)
theorem RepR.notR (h : RepR w0 w b L R E bb bv iv A room wh s) : iv.ownBlock ≠ some R := row_ne h.row h.cr (by decide)
theorem RepR.notBR (h : RepR w0 w b L R E bb bv iv A room wh s) (hne : bb ≠ []) : bv.ownBlock ≠ some R := row_ne (h.brow hne) h.cr (by decide)
theorem RepR.setL (h : RepR w0 w b L R E bb bv iv A room wh s) (j : Nat) (u : Value) (E' room' : Int) (wh' : Bool) (hcs : (#[.int .i64 E, bv, iv, .int .i64 room, .bool wh] : Array Value).setIfInBounds j u = #[.int .i64 E', bv, iv, .int .i64 room', .bool wh']) :
  RepR w0 (w.setCell ⟨L, j, none⟩ u) b L R E' bb bv iv A room' wh' s := by
 have hs : ∀ g, g ≠ L -> (w.setCell ⟨L, j, none⟩ u).heap[g]? = w.heap[g]? := fun g hg => Below.heap_setCell w ⟨L, j, none⟩ u g hg
 refine ⟨h.eye.set (N := L) (by simp) h.newL j u, row_keep h.row (fun g hg => hs g (fun e => h.notL (by rw [<- e]; exact hg))), bytes_keepL h.bytes (fun hne g hg => hs g (fun e => h.notBL hne (by rw [<- e]; exact hg))), fun hne => (h.brow hne).keep (fun g hg => hs g (fun e => h.notBL hne (by rw [<- e]; exact hg))), h.bnew, ?_, blk_sets h.cr h.ne, h.newL, h.newR, h.ne⟩
 rw [<- hcs]
 exact set_blk h.cl
theorem RepR.setB (h : RepR w0 w b L R E [] (.slice none 0 0) iv A room wh s) {v : Value} (he : REyeS (kB v bb ++ (kB (.slice none 0 0) [] ++ (iv.ownBlock.toList ++ [L, R]))) w0 w' b s') (hk : ∀ x ∈ kB (.slice none 0 0) [] ++ (iv.ownBlock.toList ++ [L, R]), w'.heap[x]? = w.heap[x]?) (hb : BRow w' v bb) (hn : ∀ k, v.ownBlock = some k -> w.heap.size <= k) :
  RepR w0 (w'.setCell ⟨L, 1, none⟩ v) b L R E bb v iv A room wh s' := by
 rw [kB_nil, List.nil_append] at he hk
 have hl := blk_lt h.cl
 have hs : ∀ g, g ≠ L -> (w'.setCell ⟨L, 1, none⟩ v).heap[g]? = w'.heap[g]? := fun g hg => Below.heap_setCell w' ⟨L, 1, none⟩ v g hg
 have hvL : ∀ g, v.ownBlock = some g -> g ≠ L := fun g hg e => by have := hn g hg; omega
 refine ⟨he.set (N := L) (by simp) h.newL 1 v, row_keep h.row (fun g hg => (hs g (fun e => h.notL (by rw [<- e]; exact hg))).trans (hk g (List.mem_append_left _ (by simpa using hg)))), hb.bytes.keep (fun g hg => hs g (hvL g hg)), fun _ => hb.keep (fun g hg => hs g (hvL g hg)), fun k hk => ?_, ?_, blk_sets (keepO h.cr (hk R (by simp))) h.ne, h.newL, h.newR, h.ne⟩
 ·have := hn k hk
  have := h.eye.chg.size
  omega
 ·exact set_blk (keepO h.cl (hk L (by simp)))
theorem RepR.snoc (h : RepR w0 w b L R E bb bv iv A room wh s) {x : Id} {g cap : Nat} (ho : w'.ownsRow w0.heap.size 38 4 (.slice (some ⟨g, 0, none⟩) (A.length + 1) cap) (A.length + 1) (A.flatMap idE ++ idE x)) (hg : w.grownBy w' iv.ownBlock) (hat : iv.ownBlock = some g ∨ g = w.heap.size + 1) :
  RepR w0 (w'.setCell ⟨L, 2, none⟩ (.slice (some ⟨g, 0, none⟩) (A.length + 1) cap)) b L R E bb bv (.slice (some ⟨g, 0, none⟩) (A.length + 1) cap) (A ++ [x]) room wh s /\ w'.heap[L]? = w.heap[L]? := by
 have hc : Chg iv.ownBlock.toList w w' := (Chg.refl _ w).grown hg (fun k hk => .inl (by simp [hk]))
 have hLn : L ∉ iv.ownBlock.toList := fun hm => h.notL (by simpa using hm)
 have hRn : R ∉ iv.ownBlock.toList := fun hm => h.notR (by simpa using hm)
 have hL : w'.heap[L]? = w.heap[L]? := hc.block L (blk_lt h.cl) hLn
 have hR : w'.heap[R]? = w.heap[R]? := hc.block R (blk_lt h.cr) hRn
 have hgl := (World.ownsRow.lt ho g rfl)
 have hgL : g ≠ L := fun e => row_ne ho (L := L) (keepO h.cl hL) (by decide) (by rw [<- e]; rfl)
 have hs : ∀ k, k ≠ L -> (w'.setCell ⟨L, 2, none⟩ (.slice (some ⟨g, 0, none⟩) (A.length + 1) cap)).heap[k]? = w'.heap[k]? := fun k hk => Below.heap_setCell w' ⟨L, 2, none⟩ _ k hk
 have hbk : bb ≠ [] -> ∀ k, bv.ownBlock = some k -> w'.heap[k]? = w.heap[k]? := fun hne k hk => hc.block k ((h.brow hne).lt k hk) (fun hm => row_rows (h.brow hne) h.row (by decide) hk (by simpa using hm))
 refine ⟨⟨?_, ?_, ?_, ?_, h.bnew, ?_, blk_sets (keepO h.cr hR) h.ne, h.newL, h.newR, h.ne⟩, hL⟩
 ·have he : REyeS (kB bv bb ++ ((Value.slice (some ⟨g, 0, none⟩) (A.length + 1) cap).ownBlock.toList ++ [L, R])) w0 w' b s := h.eye.wrote hc (fun x hx => ⟨List.mem_append_right _ (List.mem_append_left _ hx), (World.ownsRow.lt h.row x (by simpa using hx)).1⟩) (fun k hk => by
   rcases List.mem_append.1 hk with hk | hk
   ·exact .inl (List.mem_append_left _ hk)
   ·rcases List.mem_append.1 hk with hk | hk
    ·obtain rfl : k = g := by simpa [Value.ownBlock] using hk
     rcases hat with hat | hat
     ·exact .inl (List.mem_append_right _ (List.mem_append_left _ (by simpa using hat)))
     ·exact .inr ⟨by omega, hgl.2⟩
    ·exact .inl (List.mem_append_right _ (List.mem_append_right _ hk)))
  exact he.set (N := L) (by simp) h.newL 2 _
 ·rw [List.length_append, List.flatMap_append]
  refine row_keep (v := .slice (some ⟨g, 0, none⟩) (A.length + 1) cap) (by simpa using ho) (fun k hk => hs k (fun e => ?_))
  obtain rfl : g = k := by simpa [Value.ownBlock] using hk
  exact hgL e
 ·exact bytes_keepL h.bytes (fun hne k hk => (hs k (fun e => h.notBL hne (by rw [<- e]; exact hk))).trans (hbk hne k hk))
 ·exact fun hne => (h.brow hne).keep (fun k hk => (hs k (fun e => h.notBL hne (by rw [<- e]; exact hk))).trans (hbk hne k hk))
 ·exact set_blk (keepO h.cl hL)
theorem RepR.ends (h : RepR w0 w b L R E bb bv iv A room wh s) : 
  RpAt w0 (((((w.setCell ⟨R, 0, none⟩ (.int .i64 E)).setCell ⟨R, 1, none⟩ bv).setCell ⟨R, 2, none⟩ iv).setCell ⟨R, 3, none⟩ (.int .i64 room)).setCell ⟨R, 4, none⟩ (.bool wh)) (rpV E bv iv room wh) ⟨E, bb, A, room, wh⟩ :=
 ⟨bv, iv, rfl, bytes_keepL h.bytes (fun hne g hg => same_fiv (fun e => h.notBR hne (by rw [<- e]; exact hg)) _ _ _ _ _), h.bnew, row_keep h.row (fun g hg => same_fiv (fun e => h.notR (by rw [<- e]; exact hg)) _ _ _ _ _)⟩
end
theorem ret_rpr {fn : Func} {p u : Tmp} (h : fn.results = #[.cell p 54, .tmp u]) (tmps : Array Value) {w : World} {b t : Nat} {e room : Int} {bv iv q : Value} {wh : Bool} (hp : tmps.getD p undef = .pointer (some ⟨b, 0, none⟩)) (hu : tmps.getD u undef = q) (hb : w.heap[b]? = some (.cells (rpL e bv iv room wh).toArray t (0, 0))) :
  (results fn tmps).run Tryz.prog w = .ok (.tuple #[rpV e bv iv room wh, q]) w := by
 have hl := run_loadVar_row (P := Tryz.prog) w b t 54 (rpL e bv iv room wh).toArray (0, 0) _ hb Tryz.underlying54 rfl (rrp_size _ _ _ _ _)
 rw [results_cell_tmp h, hp, hu]
 simp only [asAddr, Sem.run_pure, Result.andThen_ok, hl]
 rfl
theorem rsvdecr_any (v : Value) (l : List UInt8) (w : World) (hv : BytesAt w v l) (hl : l.length <= 1000000) : Calls Tryz.prog 31 #[v] w (DecRPost w (repDec l)) := by
 obtain ⟨R, hR⟩ : ∃ R, R = w.heap.size := ⟨_, rfl⟩
 obtain ⟨w1, hw1⟩ : ∃ w1, w1 = w.alloc (.cells zeroRp 54) := ⟨_, rfl⟩
 have hc1 : Chg [] w w1 := by rw [hw1]; exact (Chg.refl [] w).alloc _
 have hb1 : w1.heap[R]? = some (.cells zeroRp 54 (0, 0)) := by rw [hw1, hR]; exact heap_alloc_new w _
 have hs1 : w1.heap.size = R + 1 := by rw [hw1, hR]; simp
 obtain ⟨b, hbE0⟩ : ∃ b, b = R + 1 := ⟨_, rfl⟩
 obtain ⟨L, hLE⟩ : ∃ L, L = R + 1 + 1 := ⟨_, rfl⟩
 obtain ⟨w2, hw2⟩ : ∃ w2, w2 = w1.alloc (.cells #[v, .int .i64 0] 127) := ⟨_, rfl⟩
 have hc2 : Chg [] w1 w2 := by rw [hw2]; exact (Chg.refl [] w1).alloc _
 have hbE : w2.heap[b]? = some (.cells #[v, .int .i64 0] 127 (0, 0)) := by rw [hw2, hbE0, <- hs1]; exact heap_alloc_new w1 _
 have hs2 : w2.heap.size = R + 2 := by rw [hw2]; simp [hs1]
 obtain ⟨w3, hw3⟩ : ∃ w3, w3 = w2.alloc (.cells #[.int .i64 0, .slice none 0 0, .slice none 0 0, .int .i64 0, .bool false] 54) := ⟨_, rfl⟩
 have hc3 : Chg [] w2 w3 := by rw [hw3]; exact (Chg.refl [] w2).alloc _
 have hbL : w3.heap[L]? = some (.cells zeroRp 54 (0, 0)) := by rw [hw3, hLE, show R + 1 + 1 = R + 2 from rfl, <- hs2]; exact heap_alloc_new w2 _
 obtain ⟨g, hev, hgg⟩ := hv.rseye (R + 7)
 have hc12 : Chg [] w w2 := hc1.trans hc2 (by simp)
 have h2 : REyeS [R] w w2 b (l, 0) := ⟨⟨g, ⟨v, hbE, hev.keepC hc12 (by simp), by omega, hl⟩, by simp; omega⟩, ⟨by omega, by simp; omega⟩, hc12, fun x hx => by rw [List.mem_singleton.1 hx]; omega⟩
 obtain ⟨a, cap, rfl⟩ := hv.slice
 have h3 : REyeS [L, R] w w3 b (l, 0) := h2.add hc3 (fun k hk => by
  simp at hk
  rcases hk with rfl | rfl
  ·exact .inr ⟨by omega, blk_lt hbL⟩
  ·exact .inl (by simp))
 have HM3 : Hid (RepR w w3 b L R 0 [] (.slice none 0 0) (.slice none 0 0) [] 0 false (l, 0)) := LH ⟨by simpa [kB, Value.ownBlock] using h3, World.ownsRow_nil _ _ _ _, BytesAt.nil _, fun h => absurd rfl h, by simp [Value.ownBlock], hbL, (hc2.trans hc3 (by simp)).keep hb1 (by simp), by omega, by omega, by omega⟩
 have HW1 := LH hw1
 have HW2 := LH hw2
 have HW3 := LH hw3
 have HLE2 : Hid (R + 1 + 1 = L) := LH hLE.symm
 have HBE : Hid (R + 1 = b) := LH hbE0.symm
 have HR := LH hR
 have HD0 := LH (repDec_ref l _ rfl)
 have C1 := LH (resNum HM3.out.eye 1 (by omega) (by omega))
 clear hb1 hc1 hw1 hR hs1 hv hbE0 hLE hw2 hc2 hbE hs2 hw3 hc3 hbL hev hgg hc12 h2 h3
 go_enter Tryz.func31, Tryz.ntmps31
 go_wp2_with fail
 rw [show (w.alloc (.cells #[.int .i64 0, .slice none 0 0, .slice none 0 0, .int .i64 0, .bool false] 54)) = w1 from HW1.out.symm, <- HW2.out, <- HW3.out]
 try rw [<- HR.out]
 rw [HLE2.out, HBE.out]
 refine C1.out.mono ?_
 rintro e w4 ⟨rfl, h4, k4⟩
 have HM4 := LH (HM3.out.same h4 k4)
 obtain ⟨E, hE⟩ : ∃ E, E = enV (l, 0) 1 := ⟨_, rfl⟩
 rw [<- hE]
 have HEE := LH hE
 have HM5 := LH (HM4.out.setL 0 (.int .i64 E) E 0 false rfl)
 obtain ⟨⟨m0, m1, m2, m3, m4⟩, f0, f1, f2, f3, f4⟩ := fvf_cells HM4.out.cl
 clear h4 k4 C1 hE
 obtain ⟨s0, hs0⟩ : ∃ s0, s0 = enS (l, 0) 1 := ⟨_, rfl⟩
 rw [<- hs0] at HM5
 rw [<- HEE.out, <- hs0] at HD0
 obtain ⟨q18, hq18⟩ : ∃ q, q = decide (18 < E) := ⟨_, rfl⟩
 have hq7 : decide (E > 18) = q18 := hq18.symm
 rw [<- hq18] at HD0
 have CF := LH (resForm HM5.out.eye q18)
 have HQ := LH hq18
 obtain ⟨s1, hs1⟩ : ∃ s1 : PB, s1 = (s0.1, if q18 = true /\ s0.2 = 0 then 4 else s0.2) := ⟨_, rfl⟩
 rw [<- hs1] at CF HD0
 have HD := HD0
 clear hs1 hs0 hq18 HM4
 go_wp2_with fail
 refine CF.out.mono ?_
 rintro e w5 ⟨rfl, h5, k5⟩
 have HM6 := LH (HM5.out.same h5 k5)
 clear m0 m1 m2 m3 m4 f0 f1 f2 f3 f4 CF h5 k5 hq7
 obtain ⟨⟨m0, m1, m2, m3, m4⟩, f0, f1, f2, f3, f4⟩ := fvf_cells HM6.out.cl
 have C2 := LH (resRaw2 HM6.out.eye)
 go_wp2_with fail
 refine C2.out.mono ?_
 rintro e w7 ⟨v7, rfl, h7, k7, hb7, hn7⟩
 have HCL7 := LH (keepO HM6.out.cl (k7 L (by simp)))
 have HM8 := LH (HM6.out.setB h7 k7 hb7 hn7)
 obtain ⟨s2, hs2⟩ : ∃ s2, s2 = erS s1 := ⟨_, rfl⟩
 obtain ⟨bb, hbb⟩ : ∃ bb, bb = erV s1 := ⟨_, rfl⟩
 rw [<- hbb] at hb7
 rw [<- hs2, <- hbb] at HD HM8
 obtain ⟨a7, c7, rfl⟩ := hb7.slice
 clear m0 m1 m2 m3 m4 f0 f1 f2 f3 f4 h7 k7 hb7 hn7 C2 hs2 hbb HM6
 obtain ⟨⟨m0, m1, m2, m3, m4⟩, f0, f1, f2, f3, f4⟩ := fvf_cells HCL7.out
 have C3 := LH (resNum HM8.out.eye 2 (by omega) (by omega))
 go_wp2_with fail
 refine C3.out.mono ?_
 rintro e w9 ⟨rfl, h9, k9⟩
 have HM9 := LH (HM8.out.same h9 k9)
 obtain ⟨s3, hs3⟩ : ∃ s3, s3 = enS s2 2 := ⟨_, rfl⟩
 obtain ⟨n, hn, hn16⟩ := enV_rng s2
 rw [hn]
 rw [hn, Int.toNat_natCast, <- hs3] at HD
 rw [<- hs3] at HM9
 clear m0 m1 m2 m3 m4 f0 f1 f2 f3 f4 h9 k9 C3 hs3 hn HM8 HCL7
 go_wp2_with fail
 go_loopg [7, 8] n (fun g' s7 s8 wr => ∃ (i : Nat) (A : List Id) (s : PB) (iv : Value), s7 = .int .i64 (i : Int) /\ i <= n /\ n <= i + g' /\ A.length <= i /\ Hid (GiAt n s3 A (n - i) s) /\ Hid (RepR w wr b L R E bb (.slice a7 bb.length c7) iv A 0 false s))
 case atStart => exact ⟨0, [], s3, _, rfl, by omega, by omega, by simp, LH (GiAt.new n s3), HM9⟩
 case round =>
 obtain ⟨i, A, s, iv, rfl, hi, hig, hAl, HG, HM⟩ := hrel
 clear HM9
 have hbc := HM.out.eye.badc
 obtain ⟨bad, hbad⟩ : ∃ bad, bad = s.2 := ⟨_, rfl⟩
 rw [<- hbad] at hbc
 have HBAD := LH hbad
 clear hbad
 by_cases hlt : i < n /\ bad = 0
 ·obtain ⟨hlt, hb0⟩ := hlt
  subst hb0
  have hiz : (i : Int) < (n : Int) := by omega
  obtain ⟨k, hk⟩ : ∃ k, n - i = k + 1 := ⟨n - i - 1, by omega⟩
  rw [hk] at HG
  have HGF := LH (fun h => HG.out.fail h k)
  have HGO := LH (fun h => HG.out.ok h)
  have C := LH (resGetId HM.out.eye)
  have hk' : n - (i + 1) = k := by omega
  have HK' := LH hk'
  clear hk hk' HG
  go_wp2_with fail
  refine C.out.mono ?_
  rintro e wg ⟨rfl, hg, kg⟩
  have HMG := LH (HM.out.same hg kg)
  obtain ⟨s', hs'⟩ : ∃ s', s' = giS s := ⟨_, rfl⟩
  obtain ⟨x, hx⟩ : ∃ x, x = giV s := ⟨_, rfl⟩
  rw [<- hx, <- hs'] at HGO
  rw [<- hs'] at HGF HMG
  rw [<- hx]
  clear hg kg C hs' hx HM hbc HBAD
  obtain ⟨xc, xl, xn, xi⟩ := x
  obtain ⟨wA, hwA⟩ : ∃ wA, wA = wg.alloc (.cells #[.int .i64 xc, .int .i64 xl, .int .i64 xn, .int .i64 xi] 38) := ⟨_, rfl⟩
  have hcA : Chg [] wg wA := by rw [hwA]; exact (Chg.refl [] wg).alloc _
  have hbA : wA.heap[wg.heap.size]? = some (.cells (idC ⟨xc, xl, xn, xi⟩) 38 (0, 0)) := by rw [hwA]; exact heap_alloc_new wg _
  have HMA := LH (HMG.out.quiet hcA)
  have hbc := HMA.out.eye.badc
  have hbc2 : (wg.alloc (.cells #[.int .i64 xc, .int .i64 xl, .int .i64 xn, .int .i64 xi] 38)).cell? ⟨b, 1, none⟩ = some (.int .i64 s'.2) := by rw [<- hwA]; exact hbc
  obtain ⟨bad', hbad⟩ : ∃ bad', bad' = s'.2 := ⟨_, rfl⟩
  rw [<- hbad] at HGO HGF hbc hbc2
  have HBD := LH hbad
  obtain ⟨x0, x1, x2, x3⟩ := id_cells hbA
  have HWA := LH hwA
  have hsz := HMA.out.eye.chg.size
  have HSZ := LH hsz
  clear hwA hcA hbA hsz hbad
  go_upto_region 11 with (fail)
  rw [<- HWA.out]
  clear hbc2
  obtain ⟨⟨m0, m1, m2, m3, m4⟩, f0, f1, f2, f3, f4⟩ := fvf_cells HMA.out.cl
  by_cases hb0 : bad' = 0
  ·have HG2 := LH (HGO.out hb0)
   subst hb0
   obtain ⟨ai, ci, hiv⟩ : ∃ a c, iv = .slice a A.length c := by
    rcases HMA.out.row.2 with ⟨h1, h2⟩ | ⟨g, cap, cur, h1, _⟩
    ·exact ⟨none, 0, by rw [h1, h2]⟩
    ·exact ⟨_, cap, h1⟩
   have hro := HMA.out.row
   subst hiv
   have hl16 : A.length <= 65535 := by omega
   go_wp2_with (at_builtin; go_loud (refine wpList_app1L rfl _ _ _ rfl w.heap.size elIds _ _ _ rfl hro 1 #[.int .i64 xc, .int .i64 xl, .int .i64 xn, .int .i64 xi] rfl rfl (by intro u hu; simp at hu; rcases hu with rfl | rfl | rfl | rfl <;> rfl) (by unfold maxLen; omega) (by omega) HSZ.out ?_); intro g7 cap7 w7 ho7 hg7 hat7; refine stopT_of ?_)
   obtain ⟨hsn, hL7⟩ := HMA.out.snoc (x := ⟨xc, xl, xn, xi⟩) ho7 hg7 hat7
   have HSN := LH hsn
   have HCL := LH (keepO HMA.out.cl hL7)
   clear m0 m1 m2 m3 m4 f0 f1 f2 f3 f4 ho7 hg7 hat7 hL7 hsn hro x0 x1 x2 x3 hbc
   obtain ⟨⟨m0, m1, m2, m3, m4⟩, f0, f1, f2, f3, f4⟩ := fvf_cells HCL.out
   unfold StopT
   go_wp2_with fail
   go_roundg (gk - 1)
   case measure => omega
   case rel => exact ⟨i + 1, A ++ [⟨xc, xl, xn, xi⟩], s', _, by go_num, by omega, by omega, by simp; omega, by rw [HK'.out]; exact HG2, HSN⟩
  ·have qb : (bad' == 0) = false := by simp [hb0]
   have HG2 := LH (HGF.out hb0)
   clear hb0
   go_wp2_with fail
   go_roundg (gk - 1)
   case measure => omega
   case rel => exact ⟨i + 1, A, s', _, by go_num, by omega, by omega, by omega, by rw [HK'.out]; exact HG2, HMA⟩
 have hgd := HG.out.done (by
  rw [<- HBAD.out]
  rcases Nat.lt_or_ge i n with h | h
  ·exact .inr (fun e => hlt ⟨h, e⟩)
  ·exact .inl (by omega))
 rw [hgd] at HD
 have HLT := LH hlt
 obtain ⟨⟨m0, m1, m2, m3, m4⟩, f0, f1, f2, f3, f4⟩ := fvf_cells HM.out.cl
 clear hgd HG hlt
 go_upto_region 8 with (fail)
 go_cut [36] (fun s36 wx => s36 = .bool false /\ wx = wr)
 case first =>
  by_cases hin : i < n
  ·have hiz : (i : Int) < (n : Int) := by omega
   have qb : (bad == 0) = false := by
    have := fun e => HLT.out ⟨hin, e⟩
    simpa using this
   go_wp2_with fail
   go_meet
   exact ⟨rfl, rfl⟩
  ·have hiz : ¬ (i : Int) < (n : Int) := by omega
   go_wp2_with fail
   go_meet
   exact ⟨rfl, rfl⟩
 case rest =>
 obtain ⟨rfl, hwc⟩ := hcut
 rw [hwc]
 clear hwc hbc
 have C4 := LH (resNum HM.out.eye 2 (by omega) (by omega))
 go_wp2_with fail
 refine C4.out.mono ?_
 rintro e wa ⟨rfl, ha, ka⟩
 have HMA := LH (HM.out.same ha ka)
 obtain ⟨room, hroom⟩ : ∃ room, room = enV s 2 := ⟨_, rfl⟩
 obtain ⟨s5, hs5⟩ : ∃ s5, s5 = enS s 2 := ⟨_, rfl⟩
 have HT : Hid (repTail E bb (A, s) = if endOf (ebS s5).1 (ebS s5).2 ≠ 0 then (noRp, endOf (ebS s5).1 (ebS s5).2) else (⟨E, bb, A, room, ebV s5⟩, 0)) := LH (by rw [hroom, hs5]; rfl)
 rw [<- hs5] at HMA
 rw [<- hroom]
 have HMB := LH (HMA.out.setL 3 (.int .i64 room) E room false rfl)
 obtain ⟨⟨m0, m1, m2, m3, m4⟩, f0, f1, f2, f3, f4⟩ := fvf_cells HMA.out.cl
 have C5 := LH (resBool HMB.out.eye)
 clear ha ka C4 hroom hs5
 go_wp2_with fail
 refine C5.out.mono ?_
 rintro e wb ⟨rfl, hb, kb⟩
 have HMC := LH (HMB.out.same hb kb)
 obtain ⟨wh, hwh⟩ : ∃ wh, wh = ebV s5 := ⟨_, rfl⟩
 obtain ⟨s6, hs6⟩ : ∃ s6, s6 = ebS s5 := ⟨_, rfl⟩
 rw [<- hwh, <- hs6] at HT
 rw [<- hwh]
 rw [<- hs6] at HMC
 have HME := LH (HMC.out.setL 4 (.bool wh) E room wh rfl)
 clear m0 m1 m2 m3 m4 f0 f1 f2 f3 f4
 obtain ⟨⟨m0, m1, m2, m3, m4⟩, f0, f1, f2, f3, f4⟩ := fvf_cells HMC.out.cl
 have C6 := LH (resEnd HME.out.eye)
 obtain ⟨ff, hff⟩ : ∃ ff, ff = endOf s6.1 s6.2 := ⟨_, rfl⟩
 rw [<- hff] at HT C6
 clear hb kb C5 hwh hs6 hff
 go_wp2_with fail
 refine C6.out.mono ?_
 rintro e w' ⟨rfl, hq⟩
 subst hq
 clear m0 m1 m2 m3 m4 f0 f1 f2 f3 f4 C6
 generalize wb.setCell ⟨L, 4, none⟩ (.bool wh) = wx at *
 obtain ⟨⟨r0, r1, r2, r3, r4⟩, g0, g1, g2, g3, g4⟩ := fvf_cells (a0 := .int .i64 0) (a1 := .slice none 0 0) (a2 := .slice none 0 0) (a3 := .int .i64 0) (a4 := .bool false) HME.out.cr
 by_cases hf : ff = 0
 ·rw [if_neg (by simp [hf])] at HT
  subst hf
  obtain ⟨⟨m0, m1, m2, m3, m4⟩, f0, f1, f2, f3, f4⟩ := fvf_cells HME.out.cl
  obtain ⟨ai, ci, rfl⟩ : ∃ a c, iv = .slice a A.length c := by
   rcases HME.out.row.2 with ⟨h1, h2⟩ | ⟨g, cap, cur, h1, _⟩
   ·exact ⟨none, 0, by rw [h1, h2]⟩
   ·exact ⟨_, cap, h1⟩
  have HFX := LH (set_fiv (a0 := .int .i64 0) (a1 := .slice none 0 0) (a2 := .slice none 0 0) (a3 := .int .i64 0) (a4 := .bool false) HME.out.cr (.int .i64 E) (.slice a7 bb.length c7) (.slice ai A.length ci) (.int .i64 room) (.bool wh))
  have HCX := LH (chg_fiv HME.out.eye.chg HME.out.newR (.int .i64 E) (.slice a7 bb.length c7) (.slice ai A.length ci) (.int .i64 room) (.bool wh))
  have HBX := LH HME.out.ends
  go_wp2_with fail
  refine bodyPost_ret (ret_rpr (e := E) (bv := .slice a7 bb.length c7) (iv := .slice ai A.length ci) (room := room) (wh := wh) rfl _ rfl rfl HFX.out) rfl ?_
  rw [HD.out, HT.out]
  exact ⟨_, rfl, HBX.out, HCX.out⟩
 ·rw [if_pos hf] at HT
  have qf : (ff != 0) = true := by simp [hf]
  have HFX := LH (set_fiv (a0 := .int .i64 0) (a1 := .slice none 0 0) (a2 := .slice none 0 0) (a3 := .int .i64 0) (a4 := .bool false) HME.out.cr (.int .i64 0) (.slice none 0 0) (.slice none 0 0) (.int .i64 0) (.bool false))
  have HCX := LH (chg_fiv HME.out.eye.chg HME.out.newR (.int .i64 0) (.slice none 0 0) (.slice none 0 0) (.int .i64 0) (.bool false))
  clear hf
  go_wp2_with fail
  refine bodyPost_ret (ret_rpr (e := 0) (bv := .slice none 0 0) (iv := .slice none 0 0) (room := 0) (wh := false) rfl _ rfl rfl HFX.out) rfl ?_
  rw [HD.out, HT.out]
  exact ⟨_, rfl, ⟨_, _, rfl, BytesAt.nil _, by simp [Value.ownBlock], World.ownsRow_nil _ _ _ _⟩, HCX.out⟩
def repPen (o : Rp) : PB := pbS (pnS (o.ids.foldl penId (pnS (prS (pnS ([], 0) o.e 1) o.b) (o.ids.length : Int) 2)) o.room 2) o.whole
structure IdsRow (w : World) (a : Option Addr) (cap : Nat) (l : List Id) : Prop where
 le : l.length <= cap
 max : cap <= maxLen
 at' : ∀ j (x : Id), l[j]? = some x -> ∃ g o, a = some ⟨g, o, none⟩ /\ g < w.heap.size /\ w.cell? ⟨g, o + j * 4, none⟩ = some (.int .i64 x.c) /\ w.cell? ⟨g, o + j * 4 + 1, none⟩ = some (.int .i64 x.l) /\ w.cell? ⟨g, o + j * 4 + 2, none⟩ = some (.int .i64 x.n) /\ w.cell? ⟨g, o + j * 4 + 3, none⟩ = some (.int .i64 x.i)
theorem IdsRow.keep {w w' : World} {a : Option Addr} {cap : Nat} {l : List Id} (h : IdsRow w a cap l) (hc : Chg [] w w') : IdsRow w' a cap l :=
 ⟨h.le, h.max, fun j x hx => by
  obtain ⟨g, o, h1, h2, h3, h4, h5, h6⟩ := h.at' j x hx
  exact ⟨g, o, h1, Nat.lt_of_lt_of_le h2 hc.size, hc.cell h3 (by simp), hc.cell h4 (by simp), hc.cell h5 (by simp), hc.cell h6 (by simp)⟩⟩
theorem foldl_take (l : List Id) (j : Nat) {y : Id} (hy : l[j]? = some y) (s : PB) : (l.take (j + 1)).foldl penId s = penId ((l.take j).foldl penId s) y := by
 obtain ⟨hj, rfl⟩ := List.getElem?_eq_some_iff.1 hy
 rw [List.take_succ_eq_append_getElem hj, List.foldl_append]
 rfl
theorem svencr_any (o : Rp) (bv : Value) (ia : Option Addr) (ic : Nat) (w : World) (hb : BytesAt w bv o.b) (hbl : o.b.length <= 900000) (hbo : o.b ≠ [] -> ∀ k, bv.ownBlock = some k -> k < w.heap.size) (hi : IdsRow w ia ic o.ids) (hil : o.ids.length <= 65535) :
  Calls Tryz.prog 28 #[rpV o.e bv (.slice ia o.ids.length ic) o.room o.whole] w (EncPost w (penOut (repPen o))) := by
 obtain ⟨w1, hw1⟩ : ∃ w1, w1 = w.alloc (.cells (rpL o.e bv (.slice ia o.ids.length ic) o.room o.whole).toArray 32) := ⟨_, rfl⟩
 obtain ⟨N, hN⟩ : ∃ N, N = w.heap.size := ⟨_, rfl⟩
 have hc1 : Chg [] w w1 := by rw [hw1]; exact (Chg.refl [] w).alloc _
 have hb1 : w1.heap[N]? = some (.cells (rpL o.e bv (.slice ia o.ids.length ic) o.room o.whole).toArray 32 (0, 0)) := by rw [hw1, hN]; exact heap_alloc_new w _
 have hn1 : N < w1.heap.size := blk_lt hb1
 have HB := LH hb
 have HBO := LH hbo
 have HI := LH hi
 obtain ⟨oe, b, ids, room, wh⟩ := o
 obtain ⟨ba, bc, hbv⟩ := hb.slice
 subst hbv
 dsimp only at HB HBO HI hbl hil
 have HF := LH (PenN.fresh (K := [N]) 110 hc1 (fun x hx => by rw [List.mem_singleton.1 hx]; exact hn1))
 obtain ⟨w2, hw2⟩ : ∃ w2, w2 = w1.alloc (.cells #[.slice none 0 0, .int .i64 0] 110) := ⟨_, rfl⟩
 obtain ⟨P, hP⟩ : ∃ P, P = w1.heap.size := ⟨_, rfl⟩
 rw [<- hw2, <- hP] at HF
 have hb2 : w2.heap[N]? = w1.heap[N]? := by rw [hw2]; exact heap_alloc_old w1 _ hn1
 have HB2 := LH (keepO hb1 hb2)
 have HP2 : Hid (N + 1 = P) := LH (by rw [hP, hw1, hN]; simp)
 have HRE : Hid (repPen ⟨oe, b, ids, room, wh⟩ = pbS (pnS (ids.foldl penId (pnS (prS (pnS ([], 0) oe 1) b) (ids.length : Int) 2)) room 2) wh) := LH rfl
 generalize repPen ⟨oe, b, ids, room, wh⟩ = res at *
 have HW1 := LH hw1
 have HN := LH hN
 have HC1 := LH hc1
 have HW2 := LH hw2
 have HP := LH hP
 obtain ⟨n, hn⟩ : ∃ n, n = ids.length := ⟨_, rfl⟩
 dsimp only at HB2 ⊢
 rw [<- hn] at HB2 HW1 HRE hil ⊢
 have HNN := LH hn
 have hic : n <= ic := by rw [hn]; exact HI.out.le
 unfold rpL at HW1
 unfold rpV rpL
 dsimp only at HW1
 have p0 : ((w.alloc (.cells #[.int .i64 oe, .slice ba b.length bc, .slice ia n ic, .int .i64 room, .bool wh] 32)).alloc (.cells #[.slice none 0 0, .int .i64 0] 110)).cell? ⟨w.heap.size, 0, none⟩ = some (.int .i64 oe) := by
  have := HW1.out
  rw [<- this, <- HW2.out, <- HN.out]; exact (rp_cells HB2.out).1
 clear hw1 hN hc1 hb1 hn1 hb hbo hw2 hP hb2 hi hn
 have C0 := LH (pnN HF.out oe 1 (by omega) (by omega))
 go_enter Tryz.func28, Tryz.ntmps28
 go_wp2_with fail
 rw [<- HW1.out, <- HN.out, <- HW2.out]
 first | rw [<- HP.out] | rw [HP2.out]
 refine C0.out.mono ?_
 rintro e w3 ⟨rfl, h3, hk3⟩
 have HB3 := LH (keepO HB2.out (hk3 N (by simp)))
 have C1 := LH (prN h3 (.slice ba b.length bc) b (HB.out.chg h3.chg (by simp)) hbl (fun hne k hk => .inl (HBO.out hne k hk)))
 clear p0
 obtain ⟨q0, q1, q2, q3, q4⟩ := rp_cells HB3.out
 clear h3 hk3 C0
 go_wp2_with fail
 refine C1.out.mono ?_
 rintro e w4 ⟨rfl, h4, hk4⟩
 have HB4 := LH (keepO HB3.out (hk4 N (by simp)))
 have C2 := LH (pnN h4 (n : Int) 2 (by omega) (by omega))
 clear q0 q1 q2 q3 q4
 obtain ⟨q0, q1, q2, q3, q4⟩ := rp_cells HB4.out
 clear h4 hk4 C1
 go_wp2_with fail
 refine C2.out.mono ?_
 rintro e w5 ⟨rfl, h5, hk5⟩
 have HB5 := LH (keepO HB4.out (hk5 N (by simp)))
 have H5 := LH h5
 clear q0 q1 q2 q3 q4
 obtain ⟨q0, q1, q2, q3, q4⟩ := rp_cells HB5.out
 obtain ⟨s5, hs5⟩ : ∃ s5, s5 = pnS (prS (pnS ([], 0) oe 1) b) (n : Int) 2 := ⟨_, rfl⟩
 rw [<- hs5] at HRE H5
 clear h5 hk5 C2 hs5
 go_wp2_with fail
 go_loopg [6, 30] n (fun g' s6 s30 wr => ∃ i : Nat, s30 = .int .i64 (i : Int) /\ i <= n /\ n <= i + g' /\ Hid (PenN 110 [N] w wr P ((ids.take i).foldl penId s5)) /\ Hid (wr.heap[N]? = some (.cells (rpL oe (.slice ba b.length bc) (.slice ia n ic) room wh).toArray 32 (0, 0))))
 case atStart => exact ⟨0, rfl, by omega, by omega, H5, HB5⟩
 case round =>
  obtain ⟨i, rfl, hi, hig, HJ, HJB⟩ := hrel
  clear q0 q1 q2 q3 q4
  by_cases hlt : i < n
  ·have hiz : (i : Int) < (n : Int) := by omega
   have hiz1 : (i : Int).toNat = i := by omega
   obtain ⟨⟨xc, xl, xn, xi⟩, hx⟩ : ∃ x, ids[i]? = some x := ⟨_, List.getElem?_eq_getElem (by have := HNN.out; omega)⟩
   obtain ⟨g, o, hia, hg, m0, m1, m2, m3⟩ := HI.out.at' i ⟨xc, xl, xn, xi⟩ hx
   have hcw := HJ.out.chg
   replace m0 := hcw.cell m0 (by simp)
   replace m1 := hcw.cell m1 (by simp)
   replace m2 := hcw.cell m2 (by simp)
   replace m3 := hcw.cell m3 (by simp)
   dsimp only at m0 m1 m2 m3
   have HT := LH (foldl_take ids i hx s5)
   have hcA : Chg [] wr (wr.alloc (.cells #[.int .i64 xc, .int .i64 xl, .int .i64 xn, .int .i64 xi] 38)) := (Chg.refl [] wr).alloc _
   have C := LH (putid_any (HJ.out.add (Y := [N]) hcA (fun k hk => .inl hk)) ⟨xc, xl, xn, xi⟩)
   have HJA := LH (hcA.keep HJB.out (by simp))
   clear hcw hcA hx
   subst hia
   go_wp2_with fail
   refine C.out.mono ?_
   rintro e w9 ⟨rfl, h9, hk9⟩
   have H9 := LH h9
   have HB9 := LH (keepO HJA.out (hk9 N (by simp)))
   clear h9 hk9 C m0 m1 m2 m3
   go_wp2_with fail
   go_roundg (gk - 1)
   case measure => omega
   case rel => exact ⟨i + 1, by go_num, by omega, by omega, by rw [HT.out]; exact H9, HB9⟩
  have hie : i = n := by omega
  have hiz : ¬ (i : Int) < (n : Int) := by omega
  have htk : ids.take i = ids := List.take_of_length_le (by have := HNN.out; omega)
  rw [htk] at HJ
  have C3 := LH (pnN HJ.out room 2 (by omega) (by omega))
  obtain ⟨q0, q1, q2, q3, q4⟩ := rp_cells HJB.out
  clear htk HJ
  go_wp2_with fail
  refine C3.out.mono ?_
  rintro e w6 ⟨rfl, h6, hk6⟩
  have HB6 := LH (keepO HJB.out (hk6 N (by simp)))
  have C4 := LH (pbN h6 wh)
  clear q0 q1 q2 q3 q4
  obtain ⟨q0, q1, q2, q3, q4⟩ := rp_cells HB6.out
  clear h6 hk6 C3
  go_wp2_with fail
  refine C4.out.mono ?_
  rintro e w7 ⟨rfl, h7, hk7⟩
  have C5 := LH (poN h7)
  clear h7 hk7 C4 q0 q1 q2 q3 q4
  go_wp2_with fail
  refine C5.out.mono ?_
  rintro e w8 ⟨v8, rfl, h8⟩
  have H8 := LH h8
  clear h8 C5
  go_wp2
  go_ret2
  rw [HRE.out]
  exact ⟨v8, rfl, H8.out⟩
section
open Go.RowKit Go.ChangeShapes Go.WideShapes
def Came (w : World) (v : Value) (l : List UInt8) : Prop := BytesAt w v l /\ (l ≠ [] -> ∀ k, v.ownBlock = some k -> k < w.heap.size)
theorem Came.chg {w w' : World} {v : Value} {l : List UInt8} (h : Came w v l) (hc : Chg [] w w') : Came w' v l := ⟨h.1.chg hc (by simp), fun hl k hk => Nat.lt_of_lt_of_le (h.2 hl k hk) hc.size⟩
theorem toU8 (z : Int) (h : (Lit.int .u8 z).wf = true) : .int .u8 z = bv (UInt8.ofNat z.toNat) := by
 simp [Lit.wf, IntKind.min, IntKind.max, IntKind.signed, IntKind.bits] at h
 unfold bv
 rw [UInt8.toNat_ofNat']
 congr 1
 omega
section
variable {H : Type} {enc : TypeId × Value -> H} {w : World} {base : Nat} {held : Bool}
theorem open_came {fuel : Nat} {cs : List Value} {x : DataW H × List MemPlace} (h : DataW.trod enc Tryz.prog w base (fun _ => true) held fuel 30 cs = some x) : ∃ v l, cs = [v] /\ Came w v l /\ l.length <= maxLen := by
 rcases open_ints Tryz.underlying30 Tryz.underlying5 (by kernel_rfl) h with ⟨rfl, _⟩ | ⟨a, len, cap, zs, rfl, _, hl, hm, hz, _, hcell, hwf⟩
 ·exact ⟨_, [], rfl, ⟨BytesAt.nil _, by simp⟩, by unfold maxLen; simp⟩
 ·replace hz : zs.length = cap := by simpa using hz
  have hlen : ((zs.take len).map (fun z => UInt8.ofNat z.toNat)).length = len := by rw [List.length_map, List.length_take]; omega
  have hg : ∀ i, i < len -> ((zs.take len).map (fun z => UInt8.ofNat z.toNat)).getD i 0 = UInt8.ofNat (zs.getD i 0).toNat := by
   intro i hi
   rw [List.getD_eq_getElem?_getD, List.getElem?_map, List.getElem?_take, if_pos hi, List.getD_eq_getElem?_getD, List.getElem?_eq_getElem (by omega)]
   rfl
  have hw : ∀ i, i < zs.length -> (Lit.int .u8 (zs.getD i 0)).wf = true := fun i hi => hwf _ (by
   rw [List.getD_eq_getElem?_getD, List.getElem?_eq_getElem hi]
   exact List.getElem_mem hi)
  refine ⟨_, (zs.take len).map (fun z => UInt8.ofNat z.toNat), rfl, ?_, by rw [hlen]; omega⟩
  by_cases hc0 : cap = 0
  ·have h0 : len = 0 := by omega
   subst hc0; subst h0
   have hnil : (zs.take 0).map (fun z => UInt8.ofNat z.toNat) = [] := by simp
   rw [hnil]
   exact ⟨⟨some a, 0, rfl, Nat.le_refl _, by unfold maxLen; omega, .inl ⟨rfl, rfl⟩⟩, fun h => absurd rfl h⟩
  ·obtain ⟨g, o, spot⟩ := a
   have hc := hcell 0 (by omega)
   have hspot : spot = none := by simpa [Addr.add] using World.cell?_spot hc
   subst hspot
   have hlt : g < w.heap.size := by
    have := World.block_lt_of_cell? w _ hc
    simpa [Addr.add] using this
   refine ⟨⟨some ⟨g, o, none⟩, cap, by rw [hlen], by omega, hm, .inr ⟨g, o, rfl, fun i hi => ?_⟩⟩, fun _ k hk => ?_⟩
   ·rw [hlen] at hi
    have := hcell i (by omega)
    rw [add_none] at this
    rw [this, hg i hi, <- toU8 _ (hw i (by omega))]
   ·obtain rfl : g = k := by simpa [Value.ownBlock] using hk
    exact hlt
end
theorem IsRow.came {w : World} {a : Option Addr} {len cap : Nat} {zs : List Int} (h : IsRow .u8 w a len cap zs) : ∃ l, l.length = len /\ len <= maxLen /\ Came w (.slice a len cap) l := by
 rcases h with ⟨rfl, rfl, rfl, rfl⟩ | ⟨x, rfl, h1, h2, h3, h4, h5⟩
 ·exact ⟨[], rfl, by unfold maxLen; omega, BytesAt.nil w, by simp⟩
 ·have hlen : ((zs.take len).map (fun z => UInt8.ofNat z.toNat)).length = len := by rw [List.length_map, List.length_take]; omega
  have hg : ∀ i, i < len -> ((zs.take len).map (fun z => UInt8.ofNat z.toNat)).getD i 0 = UInt8.ofNat (zs.getD i 0).toNat := by
   intro i hi
   rw [List.getD_eq_getElem?_getD, List.getElem?_map, List.getElem?_take, if_pos hi, List.getD_eq_getElem?_getD, List.getElem?_eq_getElem (by omega)]
   rfl
  have hw : ∀ i, i < zs.length -> (Lit.int .u8 (zs.getD i 0)).wf = true := fun i hi => h5 _ (by
   rw [List.getD_eq_getElem?_getD, List.getElem?_eq_getElem hi]
   exact List.getElem_mem hi)
  refine ⟨_, hlen, by omega, ?_⟩
  by_cases hl0 : len = 0
  ·subst hl0
   have hnil : (zs.take 0).map (fun z => UInt8.ofNat z.toNat) = [] := by simp
   rw [hnil]
   by_cases hc0 : cap = 0
   ·subst hc0
    exact ⟨⟨some x, 0, rfl, Nat.le_refl _, by unfold maxLen; omega, .inl ⟨rfl, rfl⟩⟩, by simp⟩
   ·obtain ⟨g, o, spot⟩ := x
    have hc := h4 0 (by omega)
    have hspot : spot = none := by simpa [Addr.add] using World.cell?_spot hc
    subst hspot
    exact ⟨⟨some ⟨g, o, none⟩, cap, rfl, by simp, h2, .inr ⟨g, o, rfl, by simp⟩⟩, by simp⟩
  ·obtain ⟨g, o, spot⟩ := x
   have hc := h4 0 (by omega)
   have hspot : spot = none := by simpa [Addr.add] using World.cell?_spot hc
   subst hspot
   have hlt : g < w.heap.size := by
    have := World.block_lt_of_cell? w _ hc
    simpa [Addr.add] using this
   refine ⟨⟨some ⟨g, o, none⟩, cap, by rw [hlen], by omega, h2, .inr ⟨g, o, rfl, fun i hi => ?_⟩⟩, fun _ k hk => ?_⟩
   ·rw [hlen] at hi
    have := h4 i (by omega)
    rw [add_none] at this
    rw [this, hg i hi, <- toU8 _ (hw i (by omega))]
   ·obtain rfl : g = k := by simpa [Value.ownBlock] using hk
    exact hlt
end
theorem five_cells {w : World} {N t : Nat} {a0 a1 a2 a3 a4 : Value} (h : w.heap[N]? = some (.cells #[a0, a1, a2, a3, a4] t (0, 0))) :
  (w.cell? ⟨N, 0, none⟩ = some a0 /\ w.cell? ⟨N, 1, none⟩ = some a1 /\ w.cell? ⟨N, 2, none⟩ = some a2 /\ w.cell? ⟨N, 3, none⟩ = some a3 /\ w.cell? ⟨N, 4, none⟩ = some a4) /\
  w.frozen? ⟨N, 0, none⟩ = false /\ w.frozen? ⟨N, 1, none⟩ = false /\ w.frozen? ⟨N, 2, none⟩ = false /\ w.frozen? ⟨N, 3, none⟩ = false /\ w.frozen? ⟨N, 4, none⟩ = false :=
 ⟨⟨blk_cell h 0 _ rfl, blk_cell h 1 _ rfl, blk_cell h 2 _ rfl, blk_cell h 3 _ rfl, blk_cell h 4 _ rfl⟩, blk_frozen h 0, blk_frozen h 1, blk_frozen h 2, blk_frozen h 3, blk_frozen h 4⟩
theorem Std.calm {G U : List Nat} {w w' : World} {q p : Nat} {t : Sto} (h : StAt G w q p U t) (hc : Chg [] w w') : Std G w w' q p U t := ⟨U, h.keep0 hc, fun x hx => .inl hx, hc.mono (by simp)⟩
section
variable {G U : List Nat} {z q p : Nat} {t : Sto}
theorem Begins.calm {w w2 w3 : World} {r : Rq} {bv : Value} (hb : Begins G w w2 z q p U t r bv) (h : SvAt G w z q p U t) (hc : Chg [] w2 w3) (u : List Value) : Std G w (w3.setCells (w.heap.size + 1) 0 u) q p U t :=
 hb.ends h (Std.calm hb.st hc) u
theorem svget_any (r : Rq) (bv : Value) (w : World) (h : SvAt G w z q p U t) (hb : ∃ a n c, bv = .slice a n c) (hx : okD r.x) :
  Calls Tryz.prog 83 #[.pointer (some ⟨z, 0, none⟩), rqV r bv] w (DeedPost G w q p U ⟨lostOf t.whole (t.get r.x).2, (t.get r.x).1, [], 0, false⟩ t) := by
 have HE0 := LH (h.begins r bv)
 obtain ⟨w2, hw2⟩ : ∃ w2, w2 = (w.alloc (.cells (rqL r bv).toArray 40)).alloc (.cells zeroRp 32) := ⟨_, rfl⟩
 rw [<- hw2] at HE0
 have HE := LH HE0.out.drew
 have c0 := blk_cell HE0.out.head 0 _ rfl
 have c00 := blk_cell h.head 0 _ rfl
 obtain ⟨B, hB⟩ : ∃ B, B = w.heap.size := ⟨_, rfl⟩
 have hrq := HE0.out.rq
 rw [<- hB] at hrq
 have q1 := blk_cell hrq 1 _ rfl
 have q2 := blk_cell hrq 2 _ rfl
 have q3 := blk_cell hrq 3 _ rfl
 have q4 := blk_cell hrq 4 _ rfl
 have q5 := blk_cell hrq 5 _ rfl
 have HRP := LH HE0.out.rp
 rw [<- hB] at HRP
 have HH := LH h
 have HW2 := LH hw2
 have HB := LH hB
 have CP := LH (stget_any q p U t r.x w2.drew HE.out.st hx)
 obtain ⟨o, hoe⟩ : ∃ o, o = t.get r.x := ⟨_, rfl⟩
 rw [<- hoe] at CP
 rw [<- hoe]
 obtain ⟨b3, e3⟩ := o
 have CWH := LH (fun w' (hc : Chg [] w2.drew w') => stwhole_any q p U t w' (HE.out.st.keep0 hc))
 obtain ⟨wh, hwh⟩ : ∃ wh, wh = t.whole := ⟨_, rfl⟩
 rw [<- hwh] at CWH
 rw [<- hwh]
 clear hx hoe hwh
 obtain ⟨k, ⟨xc, xl, xn, xi⟩, b⟩ := r
 obtain ⟨ba, bn, bc, hbv⟩ := hb
 subst hbv
 clear hw2 hB hrq HE0 h
 unfold rqV rqL
 unfold rqL at HW2
 try dsimp only at q1 q2 q3 q4 q5
 unfold idV idC at CP
 try dsimp only at CP
 rw [show zeroRp = #[.int .i64 0, .slice none 0 0, .slice none 0 0, .int .i64 0, .bool false] from rfl] at HW2
 have c0L := c0
 rw [HW2.out] at c0L
 go_enter Tryz.func83, Tryz.ntmps83
 go_wp2_with fail
 clear c0L
 rw [<- HB.out]
 rw [<- HW2.out]
 refine wp_region_L [(6, fun w' => w'.cell? ⟨z, 0, none⟩ = some (.pointer (some ⟨q, 0, none⟩))), (6, fun w' => (w'.cell? ⟨B, 1, none⟩ = some (.int .i64 xc) /\ w'.cell? ⟨B, 2, none⟩ = some (.int .i64 xl) /\ w'.cell? ⟨B, 3, none⟩ = some (.int .i64 xn) /\ w'.cell? ⟨B, 4, none⟩ = some (.int .i64 xi)))] (by kernel_rfl) ?_ (fun hHeld => ?_)
 ·exact (HoldC.cons (c0) (HoldC.cons (⟨q1, q2, q3, q4⟩) HoldC.nil))
 refine tk 0 ?_ rfl (by kernel_rfl) (fun _ _ _ h => h) (.inl ⟨by rfl, ?_⟩) hHeld ?_; rotate_left; · (intro w _; go_simp; try with_reducible rfl)
 clear hHeld; intro hHeld; try simp only [gA,gB,gC,Act.put,gD,gE,gF]
 refine tk 1 ?_ rfl (by kernel_rfl) (fun _ _ _ h => h) (.inl ⟨by rfl, ?_⟩) hHeld ?_; rotate_left; · (intro w _; go_simp; try with_reducible rfl)
 clear hHeld; intro hHeld; try simp only [gA,gB,gC,Act.put,gD,gE,gF]
 refine tk 2 ?_ rfl (by kernel_rfl) (fun _ _ _ h => h) (.inl ⟨by rfl, ?_⟩) hHeld ?_; rotate_left; · (intro w _; go_simp; try with_reducible rfl)
 clear hHeld; intro hHeld; try simp only [gA,gB,gC,Act.put,gD,gE,gF]
 refine tk 4 ?_ rfl (by kernel_rfl) (fun _ _ _ h => h) (.inl ⟨by rfl, ?_⟩) hHeld ?_; rotate_left; · (intro w _; go_simp; try with_reducible rfl)
 clear hHeld; intro hHeld; try simp only [gA,gB,gC,Act.put,gD,gE,gF]
 refine ld 0 3 ?_ rfl rfl (by kernel_rfl) (fun _ _ _ h => h) (.inl ⟨by rfl, ?_⟩) hHeld ?_; rotate_left; · (intro w hSw; (try dsimp only at hSw); go_simp; try with_reducible rfl)
 clear hHeld; intro hHeld; try simp only [gA,gB,gC,Act.put,gD,gE,gF]
 refine ld 1 5 ?_ rfl rfl (by kernel_rfl) (fun _ _ _ h => h) (.inl ⟨by rfl, ?_⟩) hHeld ?_; rotate_left; · (intro w hSw; (try dsimp only at hSw); go_simp; try with_reducible rfl)
 clear hHeld; intro hHeld; try simp only [gA,gB,gC,Act.put,gD,gE,gF]
 refine wpAnyL_ready (rs := [6]) (by kernel_rfl) (by simp) (AllReadyL.cons (o := _) rfl (fun K hK => ?_) AllReadyL.nil)
 try simp only [gA,gB,gC]
 go_simp
 refine CP.out.mono ?_
 rintro e w3 ⟨⟨v3, rfl, hb3, hn3⟩, hc3⟩
 dsimp only at hb3
 obtain ⟨a3, c3, rfl⟩ := hb3.slice
 have hz3 := hc3.keep HE.out.rp (by simp)
 rw [<- HB.out] at hz3
 have HZ3 := LH hz3
 have HN3 : Hid (∀ g, (Value.slice a3 b3.length c3).ownBlock = some g -> w.heap.size <= g) := LH (fun g hg => Nat.le_trans HE.out.chg.size (hn3 g hg))
 have HBX : Hid (∀ u, BytesAt (w3.setCells (B + 1) 0 u) (.slice a3 b3.length c3) b3) := LH (fun u => hb3.chg (S := [B + 1]) ((Chg.refl _ w3).setCells (.inl (by simp)) u) (fun g hg hm => by
  have h1 := hn3 g hg
  have h2 := (HE.out.new _ (List.mem_cons_self ..)).2
  rw [<- HB.out] at h2
  have := List.mem_singleton.1 hm
  omega))
 have CW3 := LH (CWH.out w3 hc3)
 have HC3 := LH hc3
 have c3z := hc3.cell (show w2.drew.cell? ⟨z, 0, none⟩ = some (.pointer (some ⟨q, 0, none⟩)) from c0) (by simp)
 clear hz3 hb3 hn3 hc3 CP CWH c0 c00 q1 q2 q3 q4 q5
 clear hHeld
 refine hK.out _ _ ?_ (fun hHeld => ?_)
 ·exact (HoldC.past (by kernel_rfl) (HoldC.past (by kernel_rfl) HoldC.nil))
 clear hK K
 try simp only [gA,gB,gC,Act.put,gD,gE,gF]
 refine tk 7 ?_ rfl (by kernel_rfl) (fun _ _ _ h => h) (.inl ⟨by rfl, ?_⟩) hHeld ?_; rotate_left; · (intro w _; go_simp; try with_reducible rfl)
 clear hHeld; intro hHeld; try simp only [gA,gB,gC,Act.put,gD,gE,gF]
 refine tk 8 ?_ rfl (by kernel_rfl) (fun _ _ _ h => h) (.inl ⟨by rfl, ?_⟩) hHeld ?_; rotate_left; · (intro w _; go_simp; try with_reducible rfl)
 clear hHeld; intro hHeld; try simp only [gA,gB,gC,Act.put,gD,gE,gF]
 refine tk 9 ?_ rfl (by kernel_rfl) (fun _ _ _ h => h) (.inl ⟨by rfl, ?_⟩) hHeld ?_; rotate_left; · (intro w _; go_simp; try with_reducible rfl)
 clear hHeld; intro hHeld; try simp only [gA,gB,gC,Act.put,gD,gE,gF]
 refine tk 10 ?_ rfl (by kernel_rfl) (fun _ _ _ h => h) (.inl ⟨by rfl, ?_⟩) hHeld ?_; rotate_left; · (intro w _; go_simp; try with_reducible rfl)
 clear hHeld; intro hHeld; try simp only [gA,gB,gC,Act.put,gD,gE,gF]
 refine tk 11 ?_ rfl (by kernel_rfl) (fun _ _ _ h => h) (.inl ⟨by rfl, ?_⟩) hHeld ?_; rotate_left; · (intro w _; go_simp; try with_reducible rfl)
 clear hHeld; intro hHeld; try simp only [gA,gB,gC,Act.put,gD,gE,gF]
 refine wpAnyL_done (by kernel_rfl) ?_ _
 clear hHeld
 by_cases he : e3 = 6
 ·subst he
  cases wh
  ·go_wp2_with fail
   refine CW3.out.mono ?_
   rintro e w' ⟨rfl, hq⟩
   subst hq
   have HS := LH (HE.out.calm HH.out HC3.out (rpL 15 (.slice a3 b3.length c3) (.slice none 0 0) 0 false))
   rw [<- HB.out] at HS
   have HZ := LH (five_set HZ3.out (.int .i64 15) (.slice a3 b3.length c3) (.slice none 0 0) (.int .i64 0) (.bool false))
   obtain ⟨⟨m0, m1, m2, m3, m4⟩, f0, f1, f2, f3, f4⟩ := five_cells HZ3.out
   go_wp2_with fail
   exact bodyPost_ret (ret_rp rfl _ rfl HZ.out) rfl ⟨_, rfl, ⟨.slice a3 b3.length c3, .slice none 0 0, by unfold lostOf; rw [if_pos ⟨rfl, rfl⟩], HBX.out (rpL 15 (.slice a3 b3.length c3) (.slice none 0 0) 0 false), HN3.out, World.ownsRow_nil _ _ _ _⟩, HS.out⟩
  ·go_wp2_with fail
   refine CW3.out.mono ?_
   rintro e w' ⟨rfl, hq⟩
   subst hq
   have HS := LH (HE.out.calm HH.out HC3.out (rpL 6 (.slice a3 b3.length c3) (.slice none 0 0) 0 false))
   rw [<- HB.out] at HS
   have HZ := LH (five_set HZ3.out (.int .i64 6) (.slice a3 b3.length c3) (.slice none 0 0) (.int .i64 0) (.bool false))
   obtain ⟨⟨m0, m1, m2, m3, m4⟩, f0, f1, f2, f3, f4⟩ := five_cells HZ3.out
   go_wp2_with fail
   exact bodyPost_ret (ret_rp rfl _ rfl HZ.out) rfl ⟨_, rfl, ⟨.slice a3 b3.length c3, .slice none 0 0, by unfold lostOf; rw [if_neg (by simp)], HBX.out (rpL 6 (.slice a3 b3.length c3) (.slice none 0 0) 0 false), HN3.out, World.ownsRow_nil _ _ _ _⟩, HS.out⟩
 ·have qe : (e3 == 6) = false := by simp [he]
  have HEN := LH he
  clear he
  have HS := LH (HE.out.calm HH.out HC3.out (rpL e3 (.slice a3 b3.length c3) (.slice none 0 0) 0 false))
  rw [<- HB.out] at HS
  have HZ := LH (five_set HZ3.out (.int .i64 e3) (.slice a3 b3.length c3) (.slice none 0 0) (.int .i64 0) (.bool false))
  obtain ⟨⟨m0, m1, m2, m3, m4⟩, f0, f1, f2, f3, f4⟩ := five_cells HZ3.out
  go_wp2_with fail
  exact bodyPost_ret (ret_rp rfl _ rfl HZ.out) rfl ⟨_, rfl, ⟨.slice a3 b3.length c3, .slice none 0 0, by unfold lostOf; rw [if_neg (fun hh => HEN.out hh.1)], HBX.out (rpL e3 (.slice a3 b3.length c3) (.slice none 0 0) 0 false), HN3.out, World.ownsRow_nil _ _ _ _⟩, HS.out⟩
theorem svdel_any (r : Rq) (bv : Value) (w : World) (h : SvAt G w z q p U t) (hb : ∃ a n c, bv = .slice a n c) (hx : okD r.x) (ho : t.s.d.ops <= 800000000) (hw : t.s.d.since.length <= 800000) :
  Calls Tryz.prog 84 #[.pointer (some ⟨z, 0, none⟩), rqV r bv] w (DeedPost G w q p U (errRp (t.del r.x).1) (t.del r.x).2) := by
 have HE0 := LH (h.begins r bv)
 obtain ⟨w2, hw2⟩ : ∃ w2, w2 = (w.alloc (.cells (rqL r bv).toArray 40)).alloc (.cells zeroRp 32) := ⟨_, rfl⟩
 rw [<- hw2] at HE0
 have HE := LH HE0.out.drew
 have c0 := blk_cell HE0.out.head 0 _ rfl
 have c00 := blk_cell h.head 0 _ rfl
 obtain ⟨B, hB⟩ : ∃ B, B = w.heap.size := ⟨_, rfl⟩
 have hrq := HE0.out.rq
 rw [<- hB] at hrq
 have q1 := blk_cell hrq 1 _ rfl
 have q2 := blk_cell hrq 2 _ rfl
 have q3 := blk_cell hrq 3 _ rfl
 have q4 := blk_cell hrq 4 _ rfl
 have q5 := blk_cell hrq 5 _ rfl
 have HRP := LH HE0.out.rp
 rw [<- hB] at HRP
 have HH := LH h
 have HW2 := LH hw2
 have HB := LH hB
 have CP := LH (stdel_any q p U t r.x w2.drew HE.out.st hx ho hw)
 obtain ⟨o, hoe⟩ : ∃ o, o = t.del r.x := ⟨_, rfl⟩
 rw [<- hoe] at CP
 rw [<- hoe]
 clear hx hoe
 obtain ⟨k, ⟨xc, xl, xn, xi⟩, b⟩ := r
 obtain ⟨ba, bn, bc, hbv⟩ := hb
 subst hbv
 clear hw2 hB hrq HE0 h
 unfold rqV rqL
 unfold rqL at HW2
 try dsimp only at q1 q2 q3 q4 q5
 unfold idV idC at CP
 try dsimp only at CP
 rw [show zeroRp = #[.int .i64 0, .slice none 0 0, .slice none 0 0, .int .i64 0, .bool false] from rfl] at HW2
 have c0L := c0
 rw [HW2.out] at c0L
 go_enter Tryz.func84, Tryz.ntmps84
 go_wp2_with fail
 clear c0L
 rw [<- HB.out]
 rw [<- HW2.out]
 refine wp_region_L [(6, fun w' => w'.cell? ⟨z, 0, none⟩ = some (.pointer (some ⟨q, 0, none⟩))), (6, fun w' => (w'.cell? ⟨B, 1, none⟩ = some (.int .i64 xc) /\ w'.cell? ⟨B, 2, none⟩ = some (.int .i64 xl) /\ w'.cell? ⟨B, 3, none⟩ = some (.int .i64 xn) /\ w'.cell? ⟨B, 4, none⟩ = some (.int .i64 xi)))] (by kernel_rfl) ?_ (fun hHeld => ?_)
 ·exact (HoldC.cons (c0) (HoldC.cons (⟨q1, q2, q3, q4⟩) HoldC.nil))
 refine tk 0 ?_ rfl (by kernel_rfl) (fun _ _ _ h => h) (.inl ⟨by rfl, ?_⟩) hHeld ?_; rotate_left; · (intro w _; go_simp; try with_reducible rfl)
 clear hHeld; intro hHeld; try simp only [gA,gB,gC,Act.put,gD,gE,gF]
 refine tk 1 ?_ rfl (by kernel_rfl) (fun _ _ _ h => h) (.inl ⟨by rfl, ?_⟩) hHeld ?_; rotate_left; · (intro w _; go_simp; try with_reducible rfl)
 clear hHeld; intro hHeld; try simp only [gA,gB,gC,Act.put,gD,gE,gF]
 refine tk 2 ?_ rfl (by kernel_rfl) (fun _ _ _ h => h) (.inl ⟨by rfl, ?_⟩) hHeld ?_; rotate_left; · (intro w _; go_simp; try with_reducible rfl)
 clear hHeld; intro hHeld; try simp only [gA,gB,gC,Act.put,gD,gE,gF]
 refine tk 4 ?_ rfl (by kernel_rfl) (fun _ _ _ h => h) (.inl ⟨by rfl, ?_⟩) hHeld ?_; rotate_left; · (intro w _; go_simp; try with_reducible rfl)
 clear hHeld; intro hHeld; try simp only [gA,gB,gC,Act.put,gD,gE,gF]
 refine ld 0 3 ?_ rfl rfl (by kernel_rfl) (fun _ _ _ h => h) (.inl ⟨by rfl, ?_⟩) hHeld ?_; rotate_left; · (intro w hSw; (try dsimp only at hSw); go_simp; try with_reducible rfl)
 clear hHeld; intro hHeld; try simp only [gA,gB,gC,Act.put,gD,gE,gF]
 refine ld 1 5 ?_ rfl rfl (by kernel_rfl) (fun _ _ _ h => h) (.inl ⟨by rfl, ?_⟩) hHeld ?_; rotate_left; · (intro w hSw; (try dsimp only at hSw); go_simp; try with_reducible rfl)
 clear hHeld; intro hHeld; try simp only [gA,gB,gC,Act.put,gD,gE,gF]
 refine wpAnyL_ready (rs := [6]) (by kernel_rfl) (by simp) (AllReadyL.cons (o := _) rfl (fun K hK => ?_) AllReadyL.nil)
 try simp only [gA,gB,gC]
 go_simp
 refine CP.out.mono ?_
 rintro e w3 ⟨rfl, hs3⟩
 have hz3 := hs3.blk HE.out.rp HE.out.out
 rw [<- HB.out] at hz3
 have HZ := LH (five_set hz3 (.int .i64 o.1) (.slice none 0 0) (.slice none 0 0) (.int .i64 0) (.bool false))
 have HTH := LH (five_there hz3 _ rfl)
 have HS := LH (HE.out.ends HH.out hs3 (rpL o.1 (.slice none 0 0) (.slice none 0 0) 0 false))
 rw [<- HB.out] at HS
 clear hz3 hs3 CP c0 c00 q1 q2 q3 q4 q5
 clear hHeld
 refine hK.out _ _ ?_ (fun hHeld => ?_)
 ·exact (HoldC.past (by kernel_rfl) (HoldC.past (by kernel_rfl) HoldC.nil))
 clear hK K
 try simp only [gA,gB,gC,Act.put,gD,gE,gF]
 refine tk 7 ?_ rfl (by kernel_rfl) (fun _ _ _ h => h) (.inl ⟨by rfl, ?_⟩) hHeld ?_; rotate_left; · (intro w _; go_simp; try with_reducible rfl)
 clear hHeld; intro hHeld; try simp only [gA,gB,gC,Act.put,gD,gE,gF]
 refine wpAnyL_ready (rs := [8]) (by kernel_rfl) (by simp) (AllReadyL.cons (o := _) rfl (fun K hK => ?_) AllReadyL.nil)
 try simp only [gA,gB,gC]
 rw [if_pos (by rfl)]
 refine wp_store_mid 32 (.tmp 4) (.tmp 12) (by rfl) (B + 1) 0 (rpL o.1 (.slice none 0 0) (.slice none 0 0) 0 false).toArray (by rfl) (by rfl) HTH.out (rp_size _ _ _ _ _) (err_all _) ?_
 clear hHeld
 refine hK.out _ _ ?_ (fun hHeld => ?_)
 ·exact (HoldC.past (by kernel_rfl) (HoldC.past (by kernel_rfl) HoldC.nil))
 clear hK K
 try simp only [gA,gB,gC,Act.put,gD,gE,gF]
 refine wpAnyL_done (by kernel_rfl) ?_ _
 clear hHeld
 go_wp2
 exact bodyPost_ret (ret_rp rfl _ rfl HZ.out) rfl ⟨_, rfl, RpAt.err _, HS.out⟩
theorem svlist_any (r : Rq) (bv : Value) (w : World) (h : SvAt G w z q p U t) (hb : ∃ a n c, bv = .slice a n c) :
  Calls Tryz.prog 85 #[.pointer (some ⟨z, 0, none⟩), rqV r bv] w (DeedPost G w q p U ⟨0, [], t.ids, 0, false⟩ t) := by
 have HE0 := LH (h.begins r bv)
 obtain ⟨w2, hw2⟩ : ∃ w2, w2 = (w.alloc (.cells (rqL r bv).toArray 40)).alloc (.cells zeroRp 32) := ⟨_, rfl⟩
 rw [<- hw2] at HE0
 have HE := LH HE0.out
 have c0 := blk_cell HE0.out.head 0 _ rfl
 have c00 := blk_cell h.head 0 _ rfl
 obtain ⟨B, hB⟩ : ∃ B, B = w.heap.size := ⟨_, rfl⟩
 have hrq := HE0.out.rq
 rw [<- hB] at hrq
 have q1 := blk_cell hrq 1 _ rfl
 have q2 := blk_cell hrq 2 _ rfl
 have q3 := blk_cell hrq 3 _ rfl
 have q4 := blk_cell hrq 4 _ rfl
 have q5 := blk_cell hrq 5 _ rfl
 have HRP := LH HE0.out.rp
 rw [<- hB] at HRP
 have HH := LH h
 have HW2 := LH hw2
 have HB := LH hB
 have CP := LH (stlist_any q p U t w2 HE.out.st)
 obtain ⟨ids, hids⟩ : ∃ ids, ids = t.ids := ⟨_, rfl⟩
 rw [<- hids] at CP
 rw [<- hids]
 clear hids
 obtain ⟨k, ⟨xc, xl, xn, xi⟩, b⟩ := r
 obtain ⟨ba, bn, bc, hbv⟩ := hb
 subst hbv
 clear hw2 hB hrq HE0 h
 unfold rqV rqL
 unfold rqL at HW2
 try dsimp only at q1 q2 q3 q4 q5
 rw [show zeroRp = #[.int .i64 0, .slice none 0 0, .slice none 0 0, .int .i64 0, .bool false] from rfl] at HW2
 have c0L := c0
 rw [HW2.out] at c0L
 go_enter Tryz.func85, Tryz.ntmps85
 go_wp2_with fail
 clear c0L
 rw [<- HB.out]
 rw [<- HW2.out]
 refine CP.out.mono ?_
 rintro e w3 ⟨v3, rfl, hr3, hc3⟩
 have hz3 := hc3.keep HE.out.rp (by simp)
 rw [<- HB.out] at hz3
 obtain ⟨a3, c3, rfl⟩ : ∃ a c, v3 = .slice a ids.length c := by
  rcases hr3.2 with ⟨h1, h2⟩ | ⟨g, cap, cur, h1, _⟩
  ·exact ⟨none, 0, by rw [h1, h2]⟩
  ·exact ⟨_, cap, h1⟩
 have HZ := LH (five_set hz3 (.int .i64 0) (.slice none 0 0) (.slice a3 ids.length c3) (.int .i64 0) (.bool false))
 have HS := LH (HE.out.calm HH.out hc3 (rpL 0 (.slice none 0 0) (.slice a3 ids.length c3) 0 false))
 have HR : Hid ((w3.setCells (w.heap.size + 1) 0 (rpL 0 (.slice none 0 0) (.slice a3 ids.length c3) 0 false)).ownsRow w.heap.size 38 4 (.slice a3 ids.length c3) ids.length (ids.flatMap idE)) := LH (by
  have hlo : ∀ g, (Value.slice a3 ids.length c3).ownBlock = some g -> w2.heap.size <= g := fun g hg => (World.ownsRow.lt hr3 g hg).1
  have hb2 := HE.out.new _ (List.mem_cons_self ..)
  refine row_keep (row_base hr3 w.heap.size (fun g hg => ?_)) (fun g hg => setCells_far _ _ _ _ ?_)
  ·have := hlo g hg; omega
  ·have := hlo g hg; omega)
 rw [<- HB.out] at HS HR
 obtain ⟨⟨m0, m1, m2, m3, m4⟩, f0, f1, f2, f3, f4⟩ := five_cells hz3
 clear hz3 hr3 hc3 CP c0 c00 q1 q2 q3 q4 q5
 go_wp2_with fail
 refine bodyPost_ret (ret_rp rfl _ rfl HZ.out) rfl ⟨_, rfl, ⟨.slice none 0 0, .slice a3 ids.length c3, rfl, BytesAt.nil _, by simp [Value.ownBlock], ?_⟩, HS.out⟩
 rw [<- HB.out]
 exact HR.out
theorem svinfo_any (r : Rq) (bv : Value) (w : World) (h : SvAt G w z q p U t) (hb : ∃ a n c, bv = .slice a n c) :
  Calls Tryz.prog 86 #[.pointer (some ⟨z, 0, none⟩), rqV r bv] w (DeedPost G w q p U ⟨0, [], [], (t.room : Int), t.whole⟩ t) := by
 have HE0 := LH (h.begins r bv)
 obtain ⟨w2, hw2⟩ : ∃ w2, w2 = (w.alloc (.cells (rqL r bv).toArray 40)).alloc (.cells zeroRp 32) := ⟨_, rfl⟩
 rw [<- hw2] at HE0
 have HE := LH HE0.out.drew
 have c0 := blk_cell HE0.out.head 0 _ rfl
 have c00 := blk_cell h.head 0 _ rfl
 obtain ⟨B, hB⟩ : ∃ B, B = w.heap.size := ⟨_, rfl⟩
 have hrq := HE0.out.rq
 rw [<- hB] at hrq
 have q1 := blk_cell hrq 1 _ rfl
 have q2 := blk_cell hrq 2 _ rfl
 have q3 := blk_cell hrq 3 _ rfl
 have q4 := blk_cell hrq 4 _ rfl
 have q5 := blk_cell hrq 5 _ rfl
 have HRP := LH HE0.out.rp
 rw [<- hB] at HRP
 have HH := LH h
 have HW2 := LH hw2
 have HB := LH hB
 have CR := LH (stroom_any q p U t w2.drew HE.out.st)
 have CWH := LH (stwhole_any q p U t w2.drew HE.out.st)
 obtain ⟨rm, hrm⟩ : ∃ rm, rm = t.room := ⟨_, rfl⟩
 obtain ⟨wh, hwh⟩ : ∃ wh, wh = t.whole := ⟨_, rfl⟩
 rw [<- hrm] at CR
 rw [<- hwh] at CWH
 rw [<- hrm, <- hwh]
 clear hrm hwh
 obtain ⟨k, ⟨xc, xl, xn, xi⟩, b⟩ := r
 obtain ⟨ba, bn, bc, hbv⟩ := hb
 subst hbv
 clear hw2 hB hrq HE0 h
 unfold rqV rqL
 unfold rqL at HW2
 try dsimp only at q1 q2 q3 q4 q5
 rw [show zeroRp = #[.int .i64 0, .slice none 0 0, .slice none 0 0, .int .i64 0, .bool false] from rfl] at HW2
 have c0L := c0
 rw [HW2.out] at c0L
 go_enter Tryz.func86, Tryz.ntmps86
 go_wp2_with fail
 clear c0L
 rw [<- HB.out]
 rw [<- HW2.out]
 have hz3 := HE.out.rp
 rw [<- HB.out] at hz3
 have HZ := LH (five_set hz3 (.int .i64 0) (.slice none 0 0) (.slice none 0 0) (.int .i64 (rm : Int)) (.bool wh))
 have HTH := LH (five_there hz3 _ rfl)
 have HS := LH (HE.out.calm HH.out (Chg.refl [] _) (rpL 0 (.slice none 0 0) (.slice none 0 0) (rm : Int) wh))
 rw [<- HB.out] at HS
 clear hz3
 refine wp_region_L [(4, fun w' => w'.cell? ⟨z, 0, none⟩ = some (.pointer (some ⟨q, 0, none⟩))), (9, fun w' => w'.cell? ⟨z, 0, none⟩ = some (.pointer (some ⟨q, 0, none⟩)))] (by kernel_rfl) ?_ (fun hHeld => ?_)
 ·exact (HoldC.cons (c0) (HoldC.cons (c0) HoldC.nil))
 refine tk 0 ?_ rfl (by kernel_rfl) (fun _ _ _ h => h) (.inl ⟨by rfl, ?_⟩) hHeld ?_; rotate_left; · (intro w _; go_simp; try with_reducible rfl)
 clear hHeld; intro hHeld; try simp only [gA,gB,gC,Act.put,gD,gE,gF]
 refine tk 1 ?_ rfl (by kernel_rfl) (fun _ _ _ h => h) (.inl ⟨by rfl, ?_⟩) hHeld ?_; rotate_left; · (intro w _; go_simp; try with_reducible rfl)
 clear hHeld; intro hHeld; try simp only [gA,gB,gC,Act.put,gD,gE,gF]
 refine tk 2 ?_ rfl (by kernel_rfl) (fun _ _ _ h => h) (.inl ⟨by rfl, ?_⟩) hHeld ?_; rotate_left; · (intro w _; go_simp; try with_reducible rfl)
 clear hHeld; intro hHeld; try simp only [gA,gB,gC,Act.put,gD,gE,gF]
 refine tk 5 ?_ rfl (by kernel_rfl) (fun _ _ _ h => h) (.inl ⟨by rfl, ?_⟩) hHeld ?_; rotate_left; · (intro w _; go_simp; try with_reducible rfl)
 clear hHeld; intro hHeld; try simp only [gA,gB,gC,Act.put,gD,gE,gF]
 refine tk 6 ?_ rfl (by kernel_rfl) (fun _ _ _ h => h) (.inl ⟨by rfl, ?_⟩) hHeld ?_; rotate_left; · (intro w _; go_simp; try with_reducible rfl)
 clear hHeld; intro hHeld; try simp only [gA,gB,gC,Act.put,gD,gE,gF]
 refine tk 7 ?_ rfl (by kernel_rfl) (fun _ _ _ h => h) (.inl ⟨by rfl, ?_⟩) hHeld ?_; rotate_left; · (intro w _; go_simp; try with_reducible rfl)
 clear hHeld; intro hHeld; try simp only [gA,gB,gC,Act.put,gD,gE,gF]
 refine ld 0 3 ?_ rfl rfl (by kernel_rfl) (fun _ _ _ h => h) (.inl ⟨by rfl, ?_⟩) hHeld ?_; rotate_left; · (intro w hSw; (try dsimp only at hSw); go_simp; try with_reducible rfl)
 clear hHeld; intro hHeld; try simp only [gA,gB,gC,Act.put,gD,gE,gF]
 refine ld 1 8 ?_ rfl rfl (by kernel_rfl) (fun _ _ _ h => h) (.inl ⟨by rfl, ?_⟩) hHeld ?_; rotate_left; · (intro w hSw; (try dsimp only at hSw); go_simp; try with_reducible rfl)
 clear hHeld; intro hHeld; try simp only [gA,gB,gC,Act.put,gD,gE,gF]
 refine wpAnyL_ready (rs := [4]) (by kernel_rfl) (by simp) (AllReadyL.cons (o := _) rfl (fun K hK => ?_) AllReadyL.nil)
 try simp only [gA,gB,gC]
 go_simp
 refine CR.out.mono ?_
 rintro e w' ⟨rfl, hq⟩
 subst hq
 clear hHeld
 refine hK.out _ _ ?_ (fun hHeld => ?_)
 ·exact (HoldC.past (by kernel_rfl) (HoldC.cons (c0) HoldC.nil))
 clear hK K
 try simp only [gA,gB,gC,Act.put,gD,gE,gF]
 refine wpAnyL_ready (rs := [9]) (by kernel_rfl) (by simp) (AllReadyL.cons (o := _) rfl (fun K hK => ?_) AllReadyL.nil)
 try simp only [gA,gB,gC]
 go_simp
 refine CWH.out.mono ?_
 rintro e w' ⟨rfl, hq⟩
 subst hq
 clear hHeld
 refine hK.out _ _ ?_ (fun hHeld => ?_)
 ·exact (HoldC.past (by kernel_rfl) (HoldC.past (by kernel_rfl) HoldC.nil))
 clear hK K
 try simp only [gA,gB,gC,Act.put,gD,gE,gF]
 refine tk 10 ?_ rfl (by kernel_rfl) (fun _ _ _ h => h) (.inl ⟨by rfl, ?_⟩) hHeld ?_; rotate_left; · (intro w _; go_simp; try with_reducible rfl)
 clear hHeld; intro hHeld; try simp only [gA,gB,gC,Act.put,gD,gE,gF]
 refine wpAnyL_ready (rs := [11]) (by kernel_rfl) (by simp) (AllReadyL.cons (o := _) rfl (fun K hK => ?_) AllReadyL.nil)
 try simp only [gA,gB,gC]
 rw [if_pos (by rfl)]
 refine wp_store_mid 32 (.tmp 4) (.tmp 15) (by rfl) (B + 1) 0 (rpL 0 (.slice none 0 0) (.slice none 0 0) (rm : Int) wh).toArray (by rfl) (by rfl) HTH.out (rp_size _ _ _ _ _) (rp_all _ _ _ _ _ _ _ _ _) ?_
 clear hHeld
 refine hK.out _ _ ?_ (fun hHeld => ?_)
 ·exact (HoldC.past (by kernel_rfl) (HoldC.past (by kernel_rfl) HoldC.nil))
 clear hK K
 try simp only [gA,gB,gC,Act.put,gD,gE,gF]
 refine wpAnyL_done (by kernel_rfl) ?_ _
 clear hHeld
 go_wp2
 exact bodyPost_ret (ret_rp rfl _ rfl HZ.out) rfl ⟨_, rfl, ⟨.slice none 0 0, .slice none 0 0, rfl, BytesAt.nil _, by simp [Value.ownBlock], World.ownsRow_nil _ _ _ _⟩, HS.out⟩
theorem svset_any (r : Rq) (bv : Value) (w : World) (h : SvAt G w z q p U t) (hb : ∃ a n c, bv = .slice a n c) (hn : 1 <= t.s.d.n) (ho : t.s.d.ops <= 900000000) (hw : t.s.d.since.length <= 900000) :
  Calls Tryz.prog 87 #[.pointer (some ⟨z, 0, none⟩), rqV r bv] w (DeedPost G w q p U (errRp t.setWhole.1) t.setWhole.2) := by
 have HE0 := LH (h.begins r bv)
 obtain ⟨w2, hw2⟩ : ∃ w2, w2 = (w.alloc (.cells (rqL r bv).toArray 40)).alloc (.cells zeroRp 32) := ⟨_, rfl⟩
 rw [<- hw2] at HE0
 have HE := LH HE0.out
 have c0 := blk_cell HE0.out.head 0 _ rfl
 have c00 := blk_cell h.head 0 _ rfl
 obtain ⟨B, hB⟩ : ∃ B, B = w.heap.size := ⟨_, rfl⟩
 have hrq := HE0.out.rq
 rw [<- hB] at hrq
 have q1 := blk_cell hrq 1 _ rfl
 have q2 := blk_cell hrq 2 _ rfl
 have q3 := blk_cell hrq 3 _ rfl
 have q4 := blk_cell hrq 4 _ rfl
 have q5 := blk_cell hrq 5 _ rfl
 have HRP := LH HE0.out.rp
 rw [<- hB] at HRP
 have HH := LH h
 have HW2 := LH hw2
 have HB := LH hB
 have CP := LH (stsetw_any q p U t w2 HE.out.st hn ho hw)
 obtain ⟨o, hoe⟩ : ∃ o, o = t.setWhole := ⟨_, rfl⟩
 rw [<- hoe] at CP
 rw [<- hoe]
 clear hoe
 obtain ⟨k, ⟨xc, xl, xn, xi⟩, b⟩ := r
 obtain ⟨ba, bn, bc, hbv⟩ := hb
 subst hbv
 clear hw2 hB hrq HE0 h
 unfold rqV rqL
 unfold rqL at HW2
 try dsimp only at q1 q2 q3 q4 q5
 rw [show zeroRp = #[.int .i64 0, .slice none 0 0, .slice none 0 0, .int .i64 0, .bool false] from rfl] at HW2
 have c0L := c0
 rw [HW2.out] at c0L
 go_enter Tryz.func87, Tryz.ntmps87
 go_wp2_with fail
 clear c0L
 rw [<- HB.out]
 rw [<- HW2.out]
 refine CP.out.mono ?_
 rintro e w3 ⟨rfl, hs3⟩
 have hz3 := hs3.blk HE.out.rp HE.out.out
 rw [<- HB.out] at hz3
 have HZ := LH (five_set hz3 (.int .i64 o.1) (.slice none 0 0) (.slice none 0 0) (.int .i64 0) (.bool false))
 have HS := LH (HE.out.ends HH.out hs3 (rpL o.1 (.slice none 0 0) (.slice none 0 0) 0 false))
 rw [<- HB.out] at HS
 obtain ⟨⟨m0, m1, m2, m3, m4⟩, f0, f1, f2, f3, f4⟩ := five_cells hz3
 clear hz3 hs3 CP c0 c00 q1 q2 q3 q4 q5
 go_wp2_with fail
 exact bodyPost_ret (ret_rp rfl _ rfl HZ.out) rfl ⟨_, rfl, RpAt.err _, HS.out⟩
theorem svno_any (r : Rq) (bv : Value) (w : World) (h : SvAt G w z q p U t) (hb : ∃ a n c, bv = .slice a n c) :
  Calls Tryz.prog 88 #[.pointer (some ⟨z, 0, none⟩), rqV r bv] w (DeedPost G w q p U (errRp 1) t) := by
 have HE0 := LH (h.begins r bv)
 obtain ⟨w2, hw2⟩ : ∃ w2, w2 = (w.alloc (.cells (rqL r bv).toArray 40)).alloc (.cells zeroRp 32) := ⟨_, rfl⟩
 rw [<- hw2] at HE0
 have HE := LH HE0.out
 have c0 := blk_cell HE0.out.head 0 _ rfl
 have c00 := blk_cell h.head 0 _ rfl
 obtain ⟨B, hB⟩ : ∃ B, B = w.heap.size := ⟨_, rfl⟩
 have hrq := HE0.out.rq
 rw [<- hB] at hrq
 have q1 := blk_cell hrq 1 _ rfl
 have q2 := blk_cell hrq 2 _ rfl
 have q3 := blk_cell hrq 3 _ rfl
 have q4 := blk_cell hrq 4 _ rfl
 have q5 := blk_cell hrq 5 _ rfl
 have HRP := LH HE0.out.rp
 rw [<- hB] at HRP
 have HH := LH h
 have HW2 := LH hw2
 have HB := LH hB
 obtain ⟨k, ⟨xc, xl, xn, xi⟩, b⟩ := r
 obtain ⟨ba, bn, bc, hbv⟩ := hb
 subst hbv
 clear hw2 hB hrq HE0 h
 unfold rqV rqL
 unfold rqL at HW2
 try dsimp only at q1 q2 q3 q4 q5
 rw [show zeroRp = #[.int .i64 0, .slice none 0 0, .slice none 0 0, .int .i64 0, .bool false] from rfl] at HW2
 have c0L := c0
 rw [HW2.out] at c0L
 go_enter Tryz.func88, Tryz.ntmps88
 go_wp2_with fail
 rw [<- HB.out]
 have hX : Hid (((w.alloc (.cells #[.int .i64 k, .int .i64 xc, .int .i64 xl, .int .i64 xn, .int .i64 xi, .slice ba bn bc] 40)).alloc (.cells #[.int .i64 1, .slice none 0 0, .slice none 0 0, .int .i64 0, .bool false] 32)).heap[B + 1]? = some (.cells (rpL 1 (.slice none 0 0) (.slice none 0 0) 0 false).toArray 32 (0, 0))) := LH (heap_at (by rw [HB.out]; simp))
 have HS := LH (Std.calm HH.out.st (((Chg.refl [] w).alloc (.cells #[.int .i64 k, .int .i64 xc, .int .i64 xl, .int .i64 xn, .int .i64 xi, .slice ba bn bc] 40)).alloc (.cells #[.int .i64 1, .slice none 0 0, .slice none 0 0, .int .i64 0, .bool false] 32)))
 exact bodyPost_ret (ret_rp rfl _ rfl hX.out) rfl ⟨_, rfl, RpAt.err _, HS.out⟩
end
end Go.Proofs.YtdkhmfcfihbjeaaGreatDoor.W
