/- Texts laid together. -/
import Derived.Test.YtdkhmfcfihbjeaaGreatDoorPL7
import Derived.Test.YtdkhmfcfihbjeaaGreatDoorPL8
import Derived.Test.YtdkhmfcfihbjeaaGreatDoorPL4
import Derived.Deep.DeepCutAuto
import Derived.Deep.CutBlock
import Derived.Test.YtdkhmfcfihbjeaaGreatDoorPL6
import Derived.Test.YtdkhmfcfihbjeaaGreatDoorPL2
import Derived.Test.YtdkhmfcfihbjeaaGreatDoorPL3
set_option linter.unusedVariables false
set_option linter.unusedSimpArgs false
set_option maxHeartbeats 64000000
set_option maxRecDepth 100000
namespace Go.Proofs.YtdkhmfcfihbjeaaGreatDoor.W
open Go.RowKit
theorem RStAt.tests {w : World} {q m : Nat} {U B : List Nat} {t : Sto} (h : RStAt w q m U B t) : w.cell? ⟨q, 0, none⟩ = some (.pointer (some ⟨m, 0, none⟩)) /\ w.cell? ⟨m, 6, none⟩ = some (.bool t.s.d.dead) /\ w.cell? ⟨q, 2, none⟩ = some (.bool t.whole) := by
 obtain ⟨sp, W, A, h, rfl, rfl⟩ := h
 obtain ⟨c0, _, c2⟩ := h.cells
 obtain ⟨V, F, rv, R, H⟩ := h.slots
 obtain ⟨nv, lv, av, wv, NV, LV, AV, WV, D⟩ := H.disk
 exact ⟨c0, blk_cell D.head 6 _ rfl, c2⟩
theorem RStd.calm {w w' : World} {q m : Nat} {U B : List Nat} {t : Sto} (h : RStAt w q m U B t) (hc : Chg [] w w') : RStd w w' q m U B t := ⟨U, B, h.keep hc (by simp), fun x hx => .inl hx, fun x hx => .inl hx, hc.mono (by simp)⟩
def RDoPost (w : World) (q m : Nat) (U B : List Nat) (r : (Rp × Int) × Sto) (e : Ending) (w' : World) : Prop := ∃ v, e = .returned (.tuple #[v, .int .i64 r.1.2]) /\ RpAt w w' v r.1.1 /\ RStd w w' q m U B r.2
structure RBase (w w3 : World) (q m : Nat) (U B : List Nat) (L R : Nat) (t : Sto) : Prop where
 chg : Chg [] w w3
 st : RStAt w3 q m U B t
 lim : ∀ x ∈ B, x < w.heap.size
 sub : ∀ x ∈ U, x ∈ B
 cl : w3.heap[L]? = some (.cells zeroRp 54 (0, 0))
 cr : w3.heap[R]? = some (.cells zeroRp 54 (0, 0))
 newL : w.heap.size <= L
 newR : w.heap.size <= R
 ne : R ≠ L
structure RMid (w : World) (q m : Nat) (U B : List Nat) (L R : Nat) (o : Rp) (t' : Sto) (wx : World) : Prop where
 st : ∃ U' B', RStAt wx q m U' B' t' /\ (∀ x ∈ U', x ∈ U ∨ w.heap.size <= x) /\ (∀ x ∈ B', (x ∈ B ∨ w.heap.size <= x) /\ x ≠ R)
 chg : Chg U w wx
 out : ∃ a c a' c', wx.heap[L]? = some (.cells #[.int .i64 o.e, .slice a o.b.length c, .slice a' o.ids.length c', .int .i64 o.room, .bool o.whole] 54 (0, 0)) /\ BytesAt wx (.slice a o.b.length c) o.b /\ wx.ownsRow w.heap.size 38 4 (.slice a' o.ids.length c') o.ids.length (o.ids.flatMap idE) /\
  ∀ k, (Value.slice a o.b.length c).ownBlock = some k ∨ (Value.slice a' o.ids.length c').ownBlock = some k -> w.heap.size <= k /\ k ≠ R
 cr : wx.heap[R]? = some (.cells zeroRp 54 (0, 0))
section
variable {w w3 w4 w5 wx : World} {q m L R : Nat} {U B : List Nat} {t t' : Sto} {o : Rp}
theorem RBase.notU (h : RBase w w3 q m U B L R t) : L ∉ U /\ R ∉ U :=
 ⟨fun hm => by have := h.lim L (h.sub L hm); have := h.newL; omega, fun hm => by have := h.lim R (h.sub R hm); have := h.newR; omega⟩
theorem RBase.blocks (h : RBase w w3 q m U B L R t) (hs : RStd w3 w4 q m U B t') : w4.heap[L]? = some (.cells zeroRp 54 (0, 0)) /\ w4.heap[R]? = some (.cells zeroRp 54 (0, 0)) := by
 obtain ⟨U', B', h1, h2, h3, h4⟩ := hs
 exact ⟨h4.keep h.cl h.notU.1, h4.keep h.cr h.notU.2⟩
theorem RBase.mid (h : RBase w w3 q m U B L R t) (hs : RStd w3 w4 q m U B t') (hc : Chg [L] w4 w5) {a a' : Option Addr} {c c' : Nat} (hcl : w5.heap[L]? = some (.cells #[.int .i64 o.e, .slice a o.b.length c, .slice a' o.ids.length c', .int .i64 o.room, .bool o.whole] 54 (0, 0)))
  (hb : BytesAt w4 (.slice a o.b.length c) o.b) (hr : w4.ownsRow w3.heap.size 38 4 (.slice a' o.ids.length c') o.ids.length (o.ids.flatMap idE)) (hn : ∀ k, (Value.slice a o.b.length c).ownBlock = some k -> w3.heap.size <= k) : RMid w q m U B L R o t' w5 := by
 obtain ⟨k1, k2⟩ := h.blocks hs
 obtain ⟨U', B', h1, h2, h3, h4⟩ := hs
 have hl := blk_lt h.cl
 have hr' := blk_lt h.cr
 have hz := h.chg.size
 have hBL : ∀ x ∈ B', x ≠ L /\ x ≠ R := fun x hx => by
  have n1 := h.newL
  have n2 := h.newR
  rcases h3 x hx with h5 | h5
  ·have := h.lim x h5; omega
  ·omega
 refine ⟨⟨U', B', h1.keep hc (fun x hx hm => (hBL x hx).1 (List.mem_singleton.1 hm)), fun x hx => ?_, fun x hx => ⟨?_, (hBL x hx).2⟩⟩, (h.chg.mono (by simp) |>.trans h4 (fun x hx => .inl hx)).trans hc (fun x hx => by rw [List.mem_singleton.1 hx]; exact .inr h.newL), ⟨a, c, a', c', hcl, hb.chg hc (fun k hk hm => ?_), ?_, fun k hk => ?_⟩, ?_⟩
 ·rcases h2 x hx with h5 | h5
  ·exact .inl h5
  ·exact .inr (by omega)
 ·rcases h3 x hx with h5 | h5
  ·exact .inl h5
  ·exact .inr (by omega)
 ·have := hn k hk
  have := List.mem_singleton.1 hm
  omega
 ·refine row_base (row_keep hr (fun g hg => hc.block g (World.ownsRow.lt hr g hg).2 (fun hm => ?_))) _ (fun g hg => Nat.le_trans hz (World.ownsRow.lt hr g hg).1)
  have := (World.ownsRow.lt hr g hg).1
  have := List.mem_singleton.1 hm
  omega
 ·have : w3.heap.size <= k := by
   rcases hk with hk | hk
   ·exact hn k hk
   ·exact (World.ownsRow.lt hr k hk).1
  exact ⟨by omega, by omega⟩
 ·exact hc.keep k2 (fun hm => h.ne (List.mem_singleton.1 hm))
theorem RBase.code (h : RBase w w3 q m U B L R t) (hs : RStd w3 w4 q m U B t') (c : Int) : RMid w q m U B L R (errRp c) t' (w4.setCell ⟨L, 0, none⟩ (.int .i64 c)) :=
 h.mid (o := errRp c) (a := none) (a' := none) (c := 0) (c' := 0) hs ((Chg.refl _ _).setCell (p := ⟨L, 0, none⟩) (.inl (by simp)) _) (set_blk (h.blocks hs).1) (BytesAt.nil _) (World.ownsRow_nil _ _ _ _) (by simp [Value.ownBlock])
theorem RMid.post (h : RMid w q m U B L R o t' wx) (hR : w.heap.size <= R) (hc : Chg [R] wx w5) : RStd w w5 q m U B t' := by
 obtain ⟨U', B', h1, h2, h3⟩ := h.st
 exact ⟨U', B', h1.keep hc (fun x hx hm => (h3 x hx).2 (List.mem_singleton.1 hm)), h2, fun x hx => (h3 x hx).1, h.chg.trans hc (fun x hx => by rw [List.mem_singleton.1 hx]; exact .inr hR)⟩
theorem chgR_fiv (R : Nat) (wx : World) (u0 u1 u2 u3 u4 : Value) : Chg [R] wx (((((wx.setCell ⟨R, 0, none⟩ u0).setCell ⟨R, 1, none⟩ u1).setCell ⟨R, 2, none⟩ u2).setCell ⟨R, 3, none⟩ u3).setCell ⟨R, 4, none⟩ u4) :=
 ((((((Chg.refl [R] wx).setCell (.inl (by simp)) _).setCell (.inl (by simp)) _).setCell (.inl (by simp)) _).setCell (.inl (by simp)) _).setCell (.inl (by simp)) _)
theorem RMid.fin (h : RMid w q m U B L R o t' wx) (hR : w.heap.size <= R) {a a' : Option Addr} {c c' : Nat} (hb : BytesAt wx (.slice a o.b.length c) o.b) (hr : wx.ownsRow w.heap.size 38 4 (.slice a' o.ids.length c') o.ids.length (o.ids.flatMap idE)) (hn : ∀ k, (Value.slice a o.b.length c).ownBlock = some k ∨ (Value.slice a' o.ids.length c').ownBlock = some k -> w.heap.size <= k /\ k ≠ R) :
  RDoPost w q m U B ((o, 0), t') (.returned (.tuple #[rpV o.e (.slice a o.b.length c) (.slice a' o.ids.length c') o.room o.whole, .int .i64 0])) (((((wx.setCell ⟨R, 0, none⟩ (.int .i64 o.e)).setCell ⟨R, 1, none⟩ (.slice a o.b.length c)).setCell ⟨R, 2, none⟩ (.slice a' o.ids.length c')).setCell ⟨R, 3, none⟩ (.int .i64 o.room)).setCell ⟨R, 4, none⟩ (.bool o.whole)) :=
 ⟨_, rfl, ⟨_, _, rfl, hb.keep (fun g hg => same_fiv (hn g (.inl hg)).2 _ _ _ _ _), fun k hk => (hn k (.inl hk)).1, row_keep hr (fun g hg => same_fiv (hn g (.inr hg)).2 _ _ _ _ _)⟩, h.post hR (chgR_fiv R wx _ _ _ _ _)⟩
theorem RMid.dead (h : RMid w q m U B L R o t' wx) (hR : w.heap.size <= R) :
  RDoPost w q m U B ((noRp, 14), t') (.returned (.tuple #[rpV 0 (.slice none 0 0) (.slice none 0 0) 0 false, .int .i64 14])) (((((wx.setCell ⟨R, 0, none⟩ (.int .i64 0)).setCell ⟨R, 1, none⟩ (.slice none 0 0)).setCell ⟨R, 2, none⟩ (.slice none 0 0)).setCell ⟨R, 3, none⟩ (.int .i64 0)).setCell ⟨R, 4, none⟩ (.bool false)) :=
 ⟨_, rfl, ⟨_, _, rfl, BytesAt.nil _, by simp [Value.ownBlock], World.ownsRow_nil _ _ _ _⟩, h.post hR (chgR_fiv R wx _ _ _ _ _)⟩
end
theorem rstdo_any (q m : Nat) (U B : List Nat) (t : Sto) (r : Rq) (bv : Value) (w : World) (h : RStAt w q m U B t) (hx : okD r.x) (hb : BytesAt w bv r.b) (hbl : r.b.length <= 1000000) (hn : 1 <= t.s.d.n) (ho : t.s.d.ops <= 800000000) (hw : t.s.d.since.length <= 800000) :
  Calls Tryz.prog 34 #[.pointer (some ⟨q, 0, none⟩), rqV r bv] w (RDoPost w q m U B (t.run r)) := by
 obtain ⟨N, hN⟩ : ∃ N, N = w.heap.size := ⟨_, rfl⟩
 obtain ⟨w1, hw1⟩ : ∃ w1, w1 = w.alloc (.cells (rqL r bv).toArray 42) := ⟨_, rfl⟩
 obtain ⟨w2, hw2⟩ : ∃ w2, w2 = w1.alloc (.cells zeroRp 54) := ⟨_, rfl⟩
 have hc1 : Chg [] w w1 := by rw [hw1]; exact (Chg.refl _ _).alloc _
 have hc2 : Chg [] w1 w2 := by rw [hw2]; exact (Chg.refl _ _).alloc _
 have hs1 : w1.heap.size = N + 1 := by rw [hw1, hN]; simp
 have hs2 : w2.heap.size = N + 2 := by rw [hw2]; simp [hs1]
 have hb1 : w1.heap[N]? = some (.cells (rqL r bv).toArray 42 (0, 0)) := by rw [hw1, hN]; exact heap_alloc_new w _
 have hr2 : w2.heap[N + 1]? = some (.cells zeroRp 54 (0, 0)) := by rw [hw2, <- hs1]; exact heap_alloc_new w1 _
 have hc12 := hc1.trans hc2 (by simp)
 have h2 := h.keep hc12 (by simp)
 obtain ⟨l1, l2, -⟩ := h.lim
 obtain ⟨d0, d1, -⟩ := h2.tests
 obtain ⟨ba, bc, hbv⟩ := hb.slice
 obtain ⟨k, ⟨xc, xl, xn, xi⟩, b⟩ := r
 dsimp only at hbv hb hbl hx
 subst hbv
 have HB := LH hb
 have HX := LH hx
 have HL1 := LH l1
 have HL2 := LH l2
 have HC2 := LH hc12
 have HB1 := LH (hc2.keep hb1 (by simp))
 have HR2 := LH hr2
 have HST := LH h2
 have HS2 := LH hs2
 have HN := LH hN
 obtain ⟨so, hso⟩ : ∃ so, so = t.step ⟨k, ⟨xc, xl, xn, xi⟩, b⟩ := ⟨_, rfl⟩
 have HRUN : Hid (t.run ⟨k, ⟨xc, xl, xn, xi⟩, b⟩ = if t.s.d.dead then ((noRp, 14), t) else if so.2.s.d.dead then ((noRp, 14), so.2) else ((so.1, 0), so.2)) := LH (by rw [hso]; rfl)
 have HSO := LH hso
 have HW2 : Hid (w2 = (w.alloc (.cells #[.int .i64 k, .int .i64 xc, .int .i64 xl, .int .i64 xn, .int .i64 xi, .slice ba b.length bc] 42)).alloc (.cells #[.int .i64 0, .slice none 0 0, .slice none 0 0, .int .i64 0, .bool false] 54)) := LH (by rw [hw2, hw1]; rfl)
 generalize t.run ⟨k, ⟨xc, xl, xn, xi⟩, b⟩ = res at *
 unfold rqV rqL
 dsimp only
 clear hN hw1 hw2 hc1 hc2 hs1 hs2 hb1 hr2 hc12 h2 l1 l2 hb hx hso h
 go_enter Tryz.func34, Tryz.ntmps34
 go_upto_region 1 with (fail)
 rw [<- HW2.out, <- HN.out]
 cases hdd : t.s.d.dead
 rotate_left
 ·rw [hdd] at d1
  rw [hdd, if_pos rfl] at HRUN
  obtain ⟨⟨r0, r1, r2, r3, r4⟩, g0, g1, g2, g3, g4⟩ := fvf_cells (a0 := .int .i64 0) (a1 := .slice none 0 0) (a2 := .slice none 0 0) (a3 := .int .i64 0) (a4 := .bool false) HR2.out
  have HFX := LH (set_fiv (a0 := .int .i64 0) (a1 := .slice none 0 0) (a2 := .slice none 0 0) (a3 := .int .i64 0) (a4 := .bool false) HR2.out (.int .i64 0) (.slice none 0 0) (.slice none 0 0) (.int .i64 0) (.bool false))
  have HM : Hid (RStd w (((((w2.setCell ⟨N + 1, 0, none⟩ (.int .i64 0)).setCell ⟨N + 1, 1, none⟩ (.slice none 0 0)).setCell ⟨N + 1, 2, none⟩ (.slice none 0 0)).setCell ⟨N + 1, 3, none⟩ (.int .i64 0)).setCell ⟨N + 1, 4, none⟩ (.bool false)) q m U B t) := LH (by
   have hcx := chgR_fiv (N + 1) w2 (.int .i64 0) (.slice none 0 0) (.slice none 0 0) (.int .i64 0) (.bool false)
   exact ⟨U, B, HST.out.keep hcx (fun x hx hm => by have := HL1.out x hx; have := List.mem_singleton.1 hm; have := HN.out; omega), fun x hx => .inl hx, fun x hx => .inl hx, (HC2.out.mono (by simp)).trans hcx (fun x hx => by rw [List.mem_singleton.1 hx]; have := HN.out; exact .inr (by omega))⟩)
  clear hdd
  go_wp2_with fail
  refine bodyPost_ret (ret_rpr (e := 0) (bv := .slice none 0 0) (iv := .slice none 0 0) (room := 0) (wh := false) rfl _ rfl rfl HFX.out) rfl ?_
  rw [HRUN.out]
  exact ⟨_, rfl, ⟨_, _, rfl, BytesAt.nil _, by simp [Value.ownBlock], World.ownsRow_nil _ _ _ _⟩, HM.out⟩
 rw [hdd] at d1
 rw [hdd, if_neg (by simp)] at HRUN
 have HDD := LH hdd
 clear hdd
 obtain ⟨w3, hw3⟩ : ∃ w3, w3 = w2.alloc (.cells #[.int .i64 0, .slice none 0 0, .slice none 0 0, .int .i64 0, .bool false] 54) := ⟨_, rfl⟩
 obtain ⟨L, hL⟩ : ∃ L, L = w2.heap.size := ⟨_, rfl⟩
 have hc3 : Chg [] w2 w3 := by rw [hw3]; exact (Chg.refl _ _).alloc _
 have hbL : w3.heap[L]? = some (.cells zeroRp 54 (0, 0)) := by rw [hw3, hL]; exact heap_alloc_new w2 _
 have HBS : Hid (RBase w w3 q m U B L (N + 1) t) := LH ⟨HC2.out.trans hc3 (by simp), HST.out.keep hc3 (by simp), HL1.out, HL2.out, hbL, hc3.keep HR2.out (by simp), by rw [hL]; exact HC2.out.size, by have := HN.out; omega, by rw [hL, HS2.out]; omega⟩
 have HB3 := LH (HB.out.chg HBS.out.chg (by simp))
 have HQ3 := LH (hc3.keep HB1.out (by simp))
 have HW3 := LH hw3
 have HL := LH hL
 have hq3 : (w2.alloc (.cells #[.int .i64 0, .slice none 0 0, .slice none 0 0, .int .i64 0, .bool false] 54)).cell? ⟨N, 0, none⟩ = some (.int .i64 k) := by rw [<- hw3]; exact (rq_cells HQ3.out).1
 clear hw3 hL hc3 hbL
 go_upto_block 0 with (fail)
 rw [<- HW3.out, <- HL.out]
 clear d0 d1 hq3
 obtain ⟨p0, ⟨p1, p2, p3, p4⟩, p5⟩ := rq_cells HQ3.out
 obtain ⟨⟨m0, m1, m2, m3, m4⟩, f0, f1, f2, f3, f4⟩ := fvf_cells (a0 := .int .i64 0) (a1 := .slice none 0 0) (a2 := .slice none 0 0) (a3 := .int .i64 0) (a4 := .bool false) HBS.out.cl
 go_cut [] (fun wx => Hid (RMid w q m U B L (N + 1) so.1 so.2 wx))
 case first =>
  by_cases hk1 : k = 1
  ·have q1 : (k == 1) = true := by simp [hk1]
   have HK : Hid (so = (errRp (t.put ⟨xc, xl, xn, xi⟩ b).1, (t.put ⟨xc, xl, xn, xi⟩ b).2)) := LH (by rw [HSO.out, hk1]; rfl)
   clear hk1
   have CP := LH (rstput_any q m U B t ⟨xc, xl, xn, xi⟩ (.slice ba b.length bc) b w3 HBS.out.st HX.out HB3.out hbl (by omega) (by omega))
   unfold idV idC at CP
   dsimp only at CP
   go_wp2_with fail
   refine CP.out.mono ?_
   rintro e w4 ⟨rfl, hs4⟩
   have HE := LH (HBS.out.code hs4 (t.put ⟨xc, xl, xn, xi⟩ b).1)
   obtain ⟨⟨n0, n1, n2, n3, n4⟩, j0, j1, j2, j3, j4⟩ := fvf_cells (a0 := .int .i64 0) (a1 := .slice none 0 0) (a2 := .slice none 0 0) (a3 := .int .i64 0) (a4 := .bool false) (HBS.out.blocks hs4).1
   have hsc : so = (errRp (t.put ⟨xc, xl, xn, xi⟩ b).1, (t.put ⟨xc, xl, xn, xi⟩ b).2) := HK.out
   clear hs4 CP m0 m1 m2 m3 m4 f0 f1 f2 f3 f4 p0 p1 p2 p3 p4 p5
   go_wp2_with fail
   go_meet
   rw [hsc]
   exact HE
  by_cases hk2 : k = 2
  ·have q1 : (k == 1) = false := by simp [hk1]
   have q2 : (k == 2) = true := by simp [hk2]
   have HK : Hid (so = (⟨lostOf t.whole (t.get ⟨xc, xl, xn, xi⟩).2, (t.get ⟨xc, xl, xn, xi⟩).1, [], 0, false⟩, t)) := LH (by rw [HSO.out, hk2]; rfl)
   clear hk1 hk2
   have CP := LH (rstget_any q m U B t ⟨xc, xl, xn, xi⟩ w3 HBS.out.st HX.out)
   unfold idV idC at CP
   dsimp only at CP
   obtain ⟨gr, hgr⟩ : ∃ gr, gr = t.get ⟨xc, xl, xn, xi⟩ := ⟨_, rfl⟩
   rw [<- hgr] at CP
   have HGR := LH hgr
   clear hgr
   go_wp2_with fail
   refine CP.out.mono ?_
   obtain ⟨gb, ge⟩ := gr
   rintro e w4 ⟨⟨gv, rfl, hgb, hgn⟩, hc4⟩
   obtain ⟨ga, gc, rfl⟩ := hgb.slice
   have hs4 := RStd.calm HBS.out.st hc4
   obtain ⟨hl4, hr4⟩ := HBS.out.blocks hs4
   obtain ⟨⟨n0, n1, n2, n3, n4⟩, j0, j1, j2, j3, j4⟩ := fvf_cells (a0 := .int .i64 0) (a1 := .slice none 0 0) (a2 := .slice none 0 0) (a3 := .int .i64 0) (a4 := .bool false) hl4
   have hl5 : ((w4.setCell ⟨L, 1, none⟩ (.slice ga gb.length gc)).setCell ⟨L, 0, none⟩ (.int .i64 ge)).heap[L]? = some (.cells #[.int .i64 ge, .slice ga gb.length gc, .slice none 0 0, .int .i64 0, .bool false] 54 (0, 0)) := set_blk (set_blk hl4)
   have hc5 : Chg [L] w4 ((w4.setCell ⟨L, 1, none⟩ (.slice ga gb.length gc)).setCell ⟨L, 0, none⟩ (.int .i64 ge)) := (((Chg.refl [L] w4).setCell (p := ⟨L, 1, none⟩) (.inl (by simp)) _).setCell (p := ⟨L, 0, none⟩) (.inl (by simp)) _)
   have HL4 := LH (And.intro hgb (And.intro hgn hs4))
   have HC5 := LH hc5
   have HL5 := LH hl5
   have hLB : L ∉ B := fun hm => by have := HL1.out L hm; have := HBS.out.newL; omega
   have hst5 : RStAt ((w4.setCell ⟨L, 1, none⟩ (.slice ga gb.length gc)).setCell ⟨L, 0, none⟩ (.int .i64 ge)) q m U B t := (HBS.out.st.keep hc4 (by simp)).keep hc5 (fun x hx hm => hLB (by rw [<- List.mem_singleton.1 hm]; exact hx))
   obtain ⟨-, -, e2⟩ := hst5.tests
   have hsc : so = (⟨lostOf t.whole ge, gb, [], 0, false⟩, t) := by
    have h1 := HK.out
    rw [<- HGR.out] at h1
    exact h1
   have HSC := LH hsc
   clear hgb hgn hs4 hl4 hr4 hc4 hst5 hLB CP m0 m1 m2 m3 m4 f0 f1 f2 f3 f4 p0 p1 p2 p3 p4 p5 hsc
   go_upto_region 10 with (fail)
   clear n0 n1 n2 n3 n4 j0 j1 j2 j3 j4
   generalize ((w4.setCell ⟨L, 1, none⟩ (.slice ga gb.length gc)).setCell ⟨L, 0, none⟩ (.int .i64 ge)) = w5 at *
   obtain ⟨⟨n0, n1, n2, n3, n4⟩, j0, j1, j2, j3, j4⟩ := fvf_cells hl5
   clear hl5 hc5
   obtain ⟨twh, htw⟩ : ∃ twh, twh = t.whole := ⟨_, rfl⟩
   rw [<- htw] at e2 HSC
   clear htw
   by_cases h6 : ge = 6
   ·cases twh
    ·have hc6 : Chg [L] w4 (w5.setCell ⟨L, 0, none⟩ (.int .i64 15)) := HC5.out.setCell (p := ⟨L, 0, none⟩) (.inl (by simp)) _
     have HE : Hid (RMid w q m U B L (N + 1) ⟨15, gb, [], 0, false⟩ t (w5.setCell ⟨L, 0, none⟩ (.int .i64 15))) := LH (HBS.out.mid (o := ⟨15, gb, [], 0, false⟩) (a' := none) (c' := 0) HL4.out.2.2 hc6 (set_blk HL5.out) HL4.out.1 (World.ownsRow_nil _ _ _ _) HL4.out.2.1)
     have hs15 : so = (⟨15, gb, [], 0, false⟩, t) := by
      rw [HSC.out, h6]
      rfl
     subst h6
     clear hc6
     go_wp2_with fail
     go_meet
     rw [hs15]
     exact HE
    ·have HE : Hid (RMid w q m U B L (N + 1) ⟨ge, gb, [], 0, false⟩ t w5) := LH (HBS.out.mid (o := ⟨ge, gb, [], 0, false⟩) (a' := none) (c' := 0) HL4.out.2.2 HC5.out HL5.out HL4.out.1 (World.ownsRow_nil _ _ _ _) HL4.out.2.1)
     have hs15 : so = (⟨ge, gb, [], 0, false⟩, t) := by
      rw [HSC.out]
      unfold lostOf
      rw [if_neg (by simp)]
     subst h6
     go_wp2_with fail
     go_meet
     rw [hs15]
     exact HE
   ·have HE : Hid (RMid w q m U B L (N + 1) ⟨ge, gb, [], 0, false⟩ t w5) := LH (HBS.out.mid (o := ⟨ge, gb, [], 0, false⟩) (a' := none) (c' := 0) HL4.out.2.2 HC5.out HL5.out HL4.out.1 (World.ownsRow_nil _ _ _ _) HL4.out.2.1)
    have hs15 : so = (⟨ge, gb, [], 0, false⟩, t) := by
     rw [HSC.out]
     unfold lostOf
     rw [if_neg (fun h => h6 h.1)]
    have q6 : (ge == 6) = false := by simp [h6]
    clear h6
    go_wp2_with fail
    go_meet
    rw [hs15]
    exact HE
  by_cases hk3 : k = 3
  ·have q1 : (k == 1) = false := by simp [hk1]
   have q2 : (k == 2) = false := by simp [hk2]
   have q3 : (k == 3) = true := by simp [hk3]
   have HK : Hid (so = (errRp (t.del ⟨xc, xl, xn, xi⟩).1, (t.del ⟨xc, xl, xn, xi⟩).2)) := LH (by rw [HSO.out, hk3]; rfl)
   clear hk1 hk2 hk3
   have CP := LH (rstdel_any q m U B t ⟨xc, xl, xn, xi⟩ w3 HBS.out.st HX.out ho hw)
   unfold idV idC at CP
   dsimp only at CP
   go_wp2_with fail
   refine CP.out.mono ?_
   rintro e w4 ⟨rfl, hs4⟩
   have HE := LH (HBS.out.code hs4 (t.del ⟨xc, xl, xn, xi⟩).1)
   obtain ⟨⟨n0, n1, n2, n3, n4⟩, j0, j1, j2, j3, j4⟩ := fvf_cells (a0 := .int .i64 0) (a1 := .slice none 0 0) (a2 := .slice none 0 0) (a3 := .int .i64 0) (a4 := .bool false) (HBS.out.blocks hs4).1
   have hsc : so = (errRp (t.del ⟨xc, xl, xn, xi⟩).1, (t.del ⟨xc, xl, xn, xi⟩).2) := HK.out
   clear hs4 CP m0 m1 m2 m3 m4 f0 f1 f2 f3 f4 p0 p1 p2 p3 p4 p5
   go_wp2_with fail
   go_meet
   rw [hsc]
   exact HE
  by_cases hk4 : k = 4
  ·have q1 : (k == 1) = false := by simp [hk1]
   have q2 : (k == 2) = false := by simp [hk2]
   have q3 : (k == 3) = false := by simp [hk3]
   have q4 : (k == 4) = true := by simp [hk4]
   have HK : Hid (so = (⟨0, [], t.ids, 0, false⟩, t)) := LH (by rw [HSO.out, hk4]; rfl)
   clear hk1 hk2 hk3 hk4
   have CP := LH (rstlist_any q m U B t w3 HBS.out.st)
   obtain ⟨I, hI⟩ : ∃ I, I = t.ids := ⟨_, rfl⟩
   rw [<- hI] at CP
   have HI := LH hI
   clear hI
   go_wp2_with fail
   refine CP.out.mono ?_
   rintro e w4 ⟨lv, rfl, hrow, hc4⟩
   obtain ⟨la, lc, rfl⟩ : ∃ a c, lv = .slice a I.length c := by
    rcases hrow.2 with ⟨h1, h2⟩ | ⟨g, cap, cur, h1, _⟩
    ·exact ⟨none, 0, by rw [h1, h2]⟩
    ·exact ⟨_, cap, h1⟩
   have hs4 := RStd.calm HBS.out.st hc4
   obtain ⟨hl4, hr4⟩ := HBS.out.blocks hs4
   obtain ⟨⟨n0, n1, n2, n3, n4⟩, j0, j1, j2, j3, j4⟩ := fvf_cells (a0 := .int .i64 0) (a1 := .slice none 0 0) (a2 := .slice none 0 0) (a3 := .int .i64 0) (a4 := .bool false) hl4
   have HE : Hid (RMid w q m U B L (N + 1) ⟨0, [], I, 0, false⟩ t (w4.setCell ⟨L, 2, none⟩ (.slice la I.length lc))) := LH (HBS.out.mid (o := ⟨0, [], I, 0, false⟩) (a := none) (c := 0) hs4 ((Chg.refl [L] w4).setCell (p := ⟨L, 2, none⟩) (.inl (by simp)) _) (set_blk hl4) (BytesAt.nil _) hrow (by simp [Value.ownBlock]))
   have hsc : so = (⟨0, [], I, 0, false⟩, t) := by
    have h1 := HK.out
    rw [<- HI.out] at h1
    exact h1
   clear hrow hs4 hl4 hr4 hc4 CP m0 m1 m2 m3 m4 f0 f1 f2 f3 f4 p0 p1 p2 p3 p4 p5
   go_wp2_with fail
   go_meet
   rw [hsc]
   exact HE
  by_cases hk5 : k = 5
  ·have q1 : (k == 1) = false := by simp [hk1]
   have q2 : (k == 2) = false := by simp [hk2]
   have q3 : (k == 3) = false := by simp [hk3]
   have q4 : (k == 4) = false := by simp [hk4]
   have q5 : (k == 5) = true := by simp [hk5]
   have HK : Hid (so = (⟨0, [], [], (t.room : Int), t.whole⟩, t)) := LH (by rw [HSO.out, hk5]; rfl)
   clear hk1 hk2 hk3 hk4 hk5
   have CP := LH (rstroom_any q m U B t w3 HBS.out.st)
   obtain ⟨-, -, e2⟩ := HBS.out.st.tests
   obtain ⟨rm, hrm⟩ : ∃ rm, rm = t.room := ⟨_, rfl⟩
   rw [<- hrm] at CP
   have HRM := LH hrm
   clear hrm
   have hc5 : Chg [L] w3 (w3.setCell ⟨L, 3, none⟩ (.int .i64 (rm : Int))) := (Chg.refl [L] w3).setCell (p := ⟨L, 3, none⟩) (.inl (by simp)) _
   have hl5 : (w3.setCell ⟨L, 3, none⟩ (.int .i64 (rm : Int))).heap[L]? = some (.cells #[.int .i64 0, .slice none 0 0, .slice none 0 0, .int .i64 (rm : Int), .bool false] 54 (0, 0)) := set_blk HBS.out.cl
   have hLB : L ∉ B := fun hm => by have := HL1.out L hm; have := HBS.out.newL; omega
   obtain ⟨-, -, e3⟩ := (HBS.out.st.keep hc5 (fun x hx hm => hLB (by rw [<- List.mem_singleton.1 hm]; exact hx))).tests
   have HE : Hid (RMid w q m U B L (N + 1) ⟨0, [], [], (rm : Int), t.whole⟩ t ((w3.setCell ⟨L, 3, none⟩ (.int .i64 (rm : Int))).setCell ⟨L, 4, none⟩ (.bool t.whole))) := LH (HBS.out.mid (o := ⟨0, [], [], (rm : Int), t.whole⟩) (a := none) (c := 0) (a' := none) (c' := 0) (RStd.same HBS.out.st) (hc5.setCell (p := ⟨L, 4, none⟩) (.inl (by simp)) _) (set_blk hl5) (BytesAt.nil _) (World.ownsRow_nil _ _ _ _) (by simp [Value.ownBlock]))
   have hsc : so = (⟨0, [], [], (rm : Int), t.whole⟩, t) := by
    have h1 := HK.out
    rw [<- HRM.out] at h1
    exact h1
   obtain ⟨⟨n0, n1, n2, n3, n4⟩, j0, j1, j2, j3, j4⟩ := fvf_cells hl5
   clear hl5 hc5 hLB
   go_wp2_with fail
   refine CP.out.mono ?_
   rintro e w' ⟨rfl, hq⟩
   subst hq
   clear CP m0 m1 m2 m4 p0 p1 p2 p3 p4 p5
   go_wp2_with fail
   go_meet
   rw [hsc]
   exact HE
  by_cases hk6 : k = 6
  ·have q1 : (k == 1) = false := by simp [hk1]
   have q2 : (k == 2) = false := by simp [hk2]
   have q3 : (k == 3) = false := by simp [hk3]
   have q4 : (k == 4) = false := by simp [hk4]
   have q5 : (k == 5) = false := by simp [hk5]
   have q6 : (k == 6) = true := by simp [hk6]
   have HK : Hid (so = (errRp t.setWhole.1, t.setWhole.2)) := LH (by rw [HSO.out, hk6]; rfl)
   clear hk1 hk2 hk3 hk4 hk5 hk6
   have CP := LH (rstsetw_any q m U B t w3 HBS.out.st hn (by omega) (by omega))
   go_wp2_with fail
   refine CP.out.mono ?_
   rintro e w4 ⟨rfl, hs4⟩
   have HE := LH (HBS.out.code hs4 (t.setWhole).1)
   obtain ⟨⟨n0, n1, n2, n3, n4⟩, j0, j1, j2, j3, j4⟩ := fvf_cells (a0 := .int .i64 0) (a1 := .slice none 0 0) (a2 := .slice none 0 0) (a3 := .int .i64 0) (a4 := .bool false) (HBS.out.blocks hs4).1
   have hsc : so = (errRp (t.setWhole).1, (t.setWhole).2) := HK.out
   clear hs4 CP m0 m1 m2 m3 m4 f0 f1 f2 f3 f4 p0 p1 p2 p3 p4 p5
   go_wp2_with fail
   go_meet
   rw [hsc]
   exact HE
  have q1 : (k == 1) = false := by simp [hk1]
  have q2 : (k == 2) = false := by simp [hk2]
  have q3 : (k == 3) = false := by simp [hk3]
  have q4 : (k == 4) = false := by simp [hk4]
  have q5 : (k == 5) = false := by simp [hk5]
  have q6 : (k == 6) = false := by simp [hk6]
  have HK : Hid (so = (errRp 1, t)) := LH (by rw [HSO.out, step0 t _ (by dsimp only; omega)])
  clear hk1 hk2 hk3 hk4 hk5 hk6
  have HE := LH (HBS.out.code (RStd.same HBS.out.st) 1)
  have hsc : so = (errRp 1, t) := HK.out
  clear p0 p1 p2 p3 p4 p5
  go_wp2_with fail
  go_meet
  rw [hsc]
  exact HE
 case rest =>
 have HM := hcut
 clear hcut p0 p1 p2 p3 p4 p5 m0 m1 m2 m3 m4 f0 f1 f2 f3 f4
 obtain ⟨wx, hwx⟩ : ∃ wx, wx = wc := ⟨_, rfl⟩
 rw [<- hwx] at HM ⊢
 clear hwx
 have HNR : Hid (w.heap.size <= N + 1) := LH HBS.out.newR
 obtain ⟨U', B', hst, -, -⟩ := HM.out.st
 obtain ⟨d0, d1, -⟩ := hst.tests
 obtain ⟨a, c, a', c', hcl, hbb, hrr, hnn⟩ := HM.out.out
 obtain ⟨⟨oe, ob, oi, orm, ow⟩, t'⟩ := so
 dsimp only at HM HRUN hcl hbb hrr hnn d1
 obtain ⟨⟨r0, r1, r2, r3, r4⟩, g0, g1, g2, g3, g4⟩ := fvf_cells (a0 := .int .i64 0) (a1 := .slice none 0 0) (a2 := .slice none 0 0) (a3 := .int .i64 0) (a4 := .bool false) HM.out.cr
 cases hdd : t'.s.d.dead
 ·rw [hdd] at d1
  rw [hdd, if_neg (by simp)] at HRUN
  obtain ⟨⟨m0, m1, m2, m3, m4⟩, f0, f1, f2, f3, f4⟩ := fvf_cells hcl
  have HFX := LH (set_fiv (a0 := .int .i64 0) (a1 := .slice none 0 0) (a2 := .slice none 0 0) (a3 := .int .i64 0) (a4 := .bool false) HM.out.cr (.int .i64 oe) (.slice a ob.length c) (.slice a' oi.length c') (.int .i64 orm) (.bool ow))
  have HE := LH (HM.out.fin HNR.out hbb hrr hnn)
  clear hdd hbb hrr hnn hcl hst
  go_wp2_with fail
  refine bodyPost_ret (ret_rpr (e := oe) (bv := .slice a ob.length c) (iv := .slice a' oi.length c') (room := orm) (wh := ow) rfl _ rfl rfl HFX.out) rfl ?_
  rw [HRUN.out]
  exact HE.out
 ·rw [hdd] at d1
  rw [hdd, if_pos rfl] at HRUN
  have HFX := LH (set_fiv (a0 := .int .i64 0) (a1 := .slice none 0 0) (a2 := .slice none 0 0) (a3 := .int .i64 0) (a4 := .bool false) HM.out.cr (.int .i64 0) (.slice none 0 0) (.slice none 0 0) (.int .i64 0) (.bool false))
  have HE := LH (HM.out.dead HNR.out)
  clear hdd hbb hrr hnn hcl hst
  go_wp2_with fail
  refine bodyPost_ret (ret_rpr (e := 0) (bv := .slice none 0 0) (iv := .slice none 0 0) (room := 0) (wh := false) rfl _ rfl rfl HFX.out) rfl ?_
  rw [HRUN.out]
  exact HE.out
theorem stopen_anyG (G : List Nat) (p : Nat) (S : List Nat) (d : DS) (w : World) (hG0 : ∀ x ∈ G, x < w.heap.size) (h : DiskAt w p S d) : Calls Tryz.prog 40 #[.pointer (some ⟨p, 0, none⟩)] w (StOpenPostG G p S w d.stOpen) := by
 by_cases hn : d.n < 9
 ·have e : d.stOpen = (1, none) := by unfold DS.stOpen; rw [if_pos hn]
  rw [e]
  exact (stopen_small p S d w h hn).mono fun e w' h1 => ⟨h1.2, h1.1⟩
 ·by_cases hd : d.dead = true
  ·have e : d.stOpen = (14, none) := by unfold DS.stOpen; rw [if_neg hn, if_pos hd]
   rw [e]
   exact (stopen_dead p S d w h (by omega) hd).mono fun e w' h1 => ⟨h1.2, h1.1⟩
  ·cases hb : hdBad (d.now 0) with
   | true =>
    have e : d.stOpen = (4, none) := by
     unfold DS.stOpen
     refine (if_neg hn).trans ((if_neg hd).trans (if_pos ?_))
     unfold hdBad at hb
     simp only [Bool.or_eq_true, Bool.not_eq_true', Bool.or_eq_false_iff, decide_eq_false_iff_not] at hb
     exact hb
    rw [e]
    exact (stopen_head p S d w h (by omega) (by simpa using hd) hb).mono fun e w' h1 => ⟨h1.2, h1.1⟩
   | false => exact stopen_liveG G p S d w hG0 h (by omega) (by simpa using hd) hb
theorem own_openSG {X S : List Nat} {w0 w : World} {p : Nat} {d : DS} {t : Sto} (hd : DiskAt w p S d) (hS : ∀ x ∈ S, w0.heap.size <= x /\ x ∉ X) (hX : ∀ x ∈ X, x < w.heap.size) (hc : Chg [] w0 w) (hr : d.stOpen = (0, some t)) :
  Calls Tryz.prog 15 #[.pointer (some ⟨p, 0, none⟩)] w fun e w' => ∃ z q, e = .returned (.tuple #[.pointer (some ⟨z, 0, none⟩), .int .i64 0]) /\ OwnS X w0 w' z q p t /\ Chg [] w w' := by
 have CO := LH (stopen_anyG X p S d w hX hd)
 rw [hr] at CO
 have HC := LH hc
 have HS := LH hS
 have HX := LH hX
 clear hd hS hc hr hX
 go_enter Tryz.func15, Tryz.ntmps15
 go_wp2_with fail
 refine CO.out.mono ?_
 rintro e w1 ⟨hc1, q, U, he, hs1, hU1⟩
 subst he
 have hz := HC.out.size
 have hz1 := hc1.size
 have hb := heap_alloc_new w1 (.cells #[.pointer (some ⟨q, 0, none⟩)] 87)
 have hcA : Chg [] w1 (w1.alloc (.cells #[.pointer (some ⟨q, 0, none⟩)] 87)) := (Chg.refl _ _).alloc _
 have HO : Hid (OwnS X w0 (w1.alloc (.cells #[.pointer (some ⟨q, 0, none⟩)] 87)) w1.heap.size q p t) := LH ⟨⟨U, ⟨hb, hs1.keep0 hcA, fun hm => by have := hs1.lim _ hm; omega, fun x hx hm => by
  rcases hU1 x hx with h | h
  ·exact (HS.out x h).2 hm
  ·have := HX.out x hm; omega⟩, fun x hx => by
  rcases hU1 x hx with h | h
  ·exact (HS.out x h).1
  ·omega⟩, (HC.out.trans hc1 (by simp)).trans hcA (by simp), by omega, fun hm => by have := HX.out _ hm; omega⟩
 have HC1 := LH (hc1.trans hcA (by simp))
 clear hc1 hs1 hU1 CO hz hz1 hb hcA
 go_wp2
 go_ret2
 exact ⟨_, q, rfl, HO.out, HC1.out⟩
structure Pair (Z : List Nat) (w0 w : World) (z q p q2 m : Nat) (U2 B2 : List Nat) (t r : Sto) : Prop where
 own : OwnS (B2 ++ Z) w0 w z q p t
 ref : RStAt w q2 m U2 B2 r
 newB : ∀ x ∈ B2, w0.heap.size <= x
 zout : ∀ x ∈ Z, x ∉ B2
section
variable {Z Z' : List Nat} {w0 w w' w2 : World} {z q p q2 m : Nat} {U2 B2 : List Nat} {t r t' r' : Sto}
theorem Pair.zl (h : Pair Z w0 w z q p q2 m U2 B2 t r) : ∀ x ∈ Z, x < w.heap.size := fun x hx => h.own.gl x (List.mem_append_right _ hx)
theorem Pair.keep (h : Pair Z w0 w z q p q2 m U2 B2 t r) (hc : Chg [] w w') : Pair Z w0 w' z q p q2 m U2 B2 t r := ⟨h.own.keep0 hc, h.ref.keep hc (by simp), h.newB, h.zout⟩
theorem Pair.drop (h : Pair Z w0 w z q p q2 m U2 B2 t r) (hZ : ∀ x ∈ Z', x ∈ Z) : Pair Z' w0 w z q p q2 m U2 B2 t r :=
 ⟨h.own.sub (fun x hx => by
  rcases List.mem_append.1 hx with hx | hx
  ·exact List.mem_append_left _ hx
  ·exact List.mem_append_right _ (hZ x hx)), h.ref, h.newB, fun x hx => h.zout x (hZ x hx)⟩
theorem Pair.blk {cs : Array Value} {ty : TypeId} (h : Pair Z w0 w z q p q2 m U2 B2 t r) (hw : w2 = w.alloc (.cells cs ty)) : Pair (w.heap.size :: Z) w0 w2 z q p q2 m U2 B2 t r /\ w2.heap[w.heap.size]? = some (.cells cs ty (0, 0)) /\ Chg [] w w2 := by
 subst hw
 have hc : Chg [] w (w.alloc (.cells cs ty)) := (Chg.refl _ _).alloc _
 have hb := heap_alloc_new w (.cells cs ty)
 refine ⟨⟨h.own.add hc (fun x hx => ?_), h.ref.keep hc (by simp), h.newB, fun x hx hm => ?_⟩, hb, hc⟩
 ·rcases List.mem_append.1 hx with hx | hx
  ·exact ⟨.inl (List.mem_append_left _ hx), Nat.lt_of_lt_of_le (h.own.gl x (List.mem_append_left _ hx)) hc.size⟩
  ·rcases List.mem_cons.1 hx with rfl | hx
   ·exact ⟨.inr (Nat.le_refl _), blk_lt hb⟩
   ·exact ⟨.inl (List.mem_append_right _ hx), Nat.lt_of_lt_of_le (h.zl x hx) hc.size⟩
 ·rcases List.mem_cons.1 hx with rfl | hx
  ·have := h.own.gl _ (List.mem_append_left _ hm); omega
  ·exact h.zout x hx hm
theorem Pair.our (h : Pair Z w0 w z q p q2 m U2 B2 t r) (ho : OwnS (B2 ++ Z) w0 w' z q p t') (hk : KC (B2 ++ Z) w w') : Pair Z w0 w' z q p q2 m U2 B2 t' r /\ Kp Z w w' := by
 refine ⟨⟨ho, ?_, h.newB, h.zout⟩, fun x hx => hk.kp h.own.gl x (List.mem_append_right _ hx)⟩
 obtain ⟨T, h1, h2⟩ := hk
 exact h.ref.keep h1 (fun x hx hm => h2 x hm (List.mem_append_left _ hx))
theorem Pair.refd (h : Pair Z w0 w z q p q2 m U2 B2 t r) (hs : RStd w w' q2 m U2 B2 r') : ∃ U' B', Pair Z w0 w' z q p q2 m U' B' t r' /\ Kp Z w w' /\ Chg U2 w w' /\ ∀ x ∈ U2, x ∈ B2 := by
 obtain ⟨U', B', h1, h2, h3, h4⟩ := hs
 obtain ⟨l1, l2, l3⟩ := h.ref.lim
 refine ⟨U', B', ⟨h.own.wrote h4 (fun x hx => ⟨List.mem_append_left _ (l2 x hx), h.newB x (l2 x hx)⟩) l3 (fun x hx => ?_), h1, fun x hx => ?_, fun x hx hm => ?_⟩, fun x hx => h4.block x (h.zl x hx) (fun hm => h.zout x hx (l2 x hm)), h4, l2⟩
 ·rcases List.mem_append.1 hx with hx | hx
  ·refine ⟨?_, h1.lim.1 x hx⟩
   rcases h3 x hx with h5 | h5
   ·exact .inl (List.mem_append_left _ h5)
   ·exact .inr h5
  ·exact ⟨.inl (List.mem_append_right _ hx), Nat.lt_of_lt_of_le (h.zl x hx) h4.size⟩
 ·rcases h3 x hx with h5 | h5
  ·exact h.newB x h5
  ·exact Nat.le_trans h.own.chg.size h5
 ·rcases h3 x hm with h5 | h5
  ·exact h.zout x hx h5
  ·have := h.zl x hx; omega
end
section
variable {G U : List Nat} {z q p : Nat} {t : Sto}
end
section
variable {X Y : List Nat} {w0 w w' : World} {z q p : Nat} {t t' : Sto}
end
section
variable {t : Sto} {k : Nat} {F : Frag}
theorem ToldR.len {s : SS} {u : Nat -> Bool} {v : Nat -> List UInt8} (h : ToldR s u v) (i : Nat) : (s.get (i : Int)).1.length <= 448 := by
 by_cases hk : i < s.rows.length
 ·rw [h.get i hk]
  by_cases hu : u i = true
  ·rw [if_pos hu]
   dsimp only
   rw [<- h.data i hk hu]
   unfold SS.data
   rw [List.length_take]
   have := h.small i hk
   have e : (s.row (i : Int)).n = (s.rows.getD i noRow).n := rfl
   omega
  ·rw [if_neg hu]; simp
 ·unfold SS.get
  rw [if_pos (show ¬ s.has (i : Int) from fun hh => by have := hh.2; omega)]
  simp
theorem KeptR.get_len (h : KeptR t F) (x : Id) : (t.get x).1.length <= 448 := by
 obtain ⟨u, v, h1, h2⟩ := h.told
 unfold Sto.get
 by_cases hm : mayId x = false
 ·rw [if_pos hm]; simp
 ·rw [if_neg hm]
  rcases h2 x (by simpa using hm) with ⟨_, h3⟩ | ⟨i, b, _, h3, _⟩
  ·rw [h3]; simp
  ·rw [h3]
   exact h1.len i
theorem KeptR.get_is (h : KeptR t F) (x : Id) : (t.get x).2 = 0 ∨ (t.get x).2 = 1 ∨ (t.get x).2 = 6 := by
 rw [h.get x]
 by_cases hm : mayId x = false
 ·rw [if_pos hm]; simp
 ·rw [if_neg hm]
  cases F x <;> simp
end
theorem beNum_bytesS (x : Nat) : ∀ (n a : Nat), (beBytes n x).foldl (fun y c => y * 256 + c.toNat) a = a * 256 ^ n + x % 256 ^ n
 | 0, a => by simp [beBytes, Nat.mod_one]
 | n + 1, a => by
  unfold beBytes
  rw [List.foldl_cons, beNum_bytesS x n, UInt8.toNat_ofNat']
  have h1 : x % 256 ^ (n + 1) = (x / 256 ^ n % 256) * 256 ^ n + x % 256 ^ n := by
   rw [Nat.pow_succ, Nat.mod_mul, Nat.mul_comm, Nat.add_comm]
  rw [show (2 : Nat) ^ 8 = 256 from rfl, h1, Nat.pow_succ, Nat.add_mul, Nat.mul_assoc a 256, Nat.mul_comm 256 (256 ^ n), Nat.add_assoc]
theorem eyeNum_backS (n x : Nat) (l : List UInt8) (hx : x < 256 ^ n) : eyeNum (beBytes n x ++ l) 0 n = ((x : Int), l, 0) := by
 unfold eyeNum
 rw [if_neg (by simp), if_neg (by simp [beBytes_len]), List.take_left' (beBytes_len n x), List.drop_left' (beBytes_len n x)]
 unfold beNum
 rw [beNum_bytesS, Nat.zero_mul, Nat.zero_add, Nat.mod_eq_of_lt hx]
def Fit (x : Int) (n : Nat) : Prop := 0 <= x /\ x < ((256 ^ n : Nat) : Int)
theorem en_back {x : Int} {n : Nat} (h : Fit x n) (l : List UInt8) : enV (beBytes n x.toNat ++ l, 0) n = x /\ enS (beBytes n x.toNat ++ l, 0) n = (l, 0) := by
 obtain ⟨h0, h1⟩ := h
 have hx : x.toNat < 256 ^ n := by omega
 unfold enV enS
 dsimp only
 rw [eyeNum_backS n _ l hx]
 exact ⟨by dsimp only; omega, rfl⟩
theorem er_back {b : List UInt8} (h : b.length <= 65535) (l : List UInt8) : erV (beBytes 2 b.length ++ (b ++ l), 0) = b /\ erS (beBytes 2 b.length ++ (b ++ l), 0) = (l, 0) := by
 unfold erV erS eyeRaw
 dsimp only
 have hx : b.length < 65536 := by omega
 rw [if_neg (by simp), if_neg (by simp [beBytes_len]), List.take_left' (beBytes_len 2 _), List.drop_left' (beBytes_len 2 _), beNum_two _ hx, if_neg (by omega), if_neg (by simp), List.take_left' rfl, List.drop_left' rfl]
 exact ⟨rfl, rfl⟩
theorem eb_back (q : Bool) (l : List UInt8) : ebV ((if q then 1 else 0) :: l, 0) = q /\ ebS ((if q then 1 else 0) :: l, 0) = (l, 0) := by
 cases q <;> exact ⟨by simp [ebV, eyeBool], by simp [ebS, eyeBool]⟩
structure FitId (x : Id) : Prop where
 c : Fit x.c 1
 l : Fit x.l 3
 n : Fit x.n 4
 i : Fit x.i 1
def idBytes (x : Id) : List UInt8 := beBytes 1 x.c.toNat ++ (beBytes 3 x.l.toNat ++ (beBytes 4 x.n.toNat ++ beBytes 1 x.i.toNat))
theorem idBytes_len (x : Id) : (idBytes x).length = 9 := by simp [idBytes, beBytes_len]
theorem gi_back {x : Id} (h : FitId x) (l : List UInt8) : giV (idBytes x ++ l, 0) = x /\ giS (idBytes x ++ l, 0) = (l, 0) := by
 obtain ⟨xc, xl, xn, xi⟩ := x
 obtain ⟨h1, h2, h3, h4⟩ := h
 dsimp only at h1 h2 h3 h4
 unfold giV giS idBytes
 simp only [List.append_assoc]
 rw [(en_back h1 _).1, (en_back h1 _).2, (en_back h2 _).1, (en_back h2 _).2, (en_back h3 _).1, (en_back h3 _).2, (en_back h4 _).1, (en_back h4 _).2]
 exact ⟨rfl, rfl⟩
theorem giN_back : ∀ (I : List Id) (l : List UInt8), (∀ x ∈ I, FitId x) -> giN I.length (I.flatMap idBytes ++ l, 0) = (I, (l, 0))
 | [], l, _ => rfl
 | x :: I, l, h => by
  have hx := gi_back (h x (by simp)) (I.flatMap idBytes ++ l)
  rw [List.flatMap_cons, List.append_assoc, List.length_cons, giN_ok (by rw [hx.2]), hx.1, hx.2, giN_back I l (fun y hy => h y (by simp [hy]))]
theorem pn_ok {l : List UInt8} {x : Int} {n : Nat} (h : Fit x n) (hl : l.length + n <= 65536) : pnS (l, 0) x n = (l ++ beBytes n x.toNat, 0) := by
 unfold pnS penNum penAdd
 dsimp only
 rw [if_neg (by simp), if_neg (by obtain ⟨h0, h1⟩ := h; omega), if_neg (by simp), if_neg (by rw [beBytes_len]; omega)]
theorem pr_ok {l b : List UInt8} (h : b.length <= 65535) (hl : l.length + (2 + b.length) <= 65536) : prS (l, 0) b = (l ++ (beBytes 2 b.length ++ b), 0) := by
 unfold prS penRaw penAdd
 dsimp only
 rw [if_neg (by simp), if_neg (by omega), if_neg (by simp), if_neg (by rw [List.length_append, beBytes_len]; omega)]
theorem pb_ok {l : List UInt8} (q : Bool) (hl : l.length + 1 <= 65536) : pbS (l, 0) q = (l ++ [if q then 1 else 0], 0) := by
 unfold pbS penBool penAdd
 dsimp only
 rw [if_neg (by simp), if_neg (by simp; omega)]
theorem pi_ok {l : List UInt8} {x : Id} (h : FitId x) (hl : l.length + 9 <= 65536) : penId (l, 0) x = (l ++ idBytes x, 0) := by
 unfold penId idBytes
 rw [pn_ok h.c (by omega), pn_ok h.l (by simp [beBytes_len]; omega), pn_ok h.n (by simp [beBytes_len]; omega), pn_ok h.i (by simp [beBytes_len]; omega)]
 simp
theorem pis_ok : ∀ (I : List Id) (l : List UInt8), (∀ x ∈ I, FitId x) -> l.length + 9 * I.length <= 65536 -> I.foldl penId (l, 0) = (l ++ I.flatMap idBytes, 0)
 | [], l, _, _ => by simp
 | x :: I, l, h, hl => by
  rw [List.length_cons] at hl
  rw [List.foldl_cons, pi_ok (h x (by simp)) (by omega), pis_ok I _ (fun y hy => h y (by simp [hy])) (by rw [List.length_append, idBytes_len]; omega), List.flatMap_cons, List.append_assoc]
structure RpFit (o : Rp) : Prop where
 e : 0 <= o.e /\ o.e <= 18
 b : o.b.length <= 448
 ids : o.ids.length <= 20 /\ ∀ x ∈ o.ids, FitId x
 room : 0 <= o.room /\ o.room <= 20
theorem rep_back {o : Rp} (h : RpFit o) : (penOut (repPen o)).2 = 0 /\ repDec (penOut (repPen o)).1 = (o, 0) := by
 obtain ⟨oe, b, ids, room, wh⟩ := o
 obtain ⟨h1, h2, ⟨h3, h4⟩, h5⟩ := h
 dsimp only at h1 h2 h3 h4 h5
 have f1 : Fit oe 1 := ⟨by omega, by omega⟩
 have f2 : Fit (ids.length : Int) 2 := ⟨by omega, by omega⟩
 have f3 : Fit room 2 := ⟨by omega, by omega⟩
 have hil : (ids.flatMap idBytes).length = 9 * ids.length := by
  clear h3 h4 f2
  induction ids with
  | nil => rfl
  | cons x I ih => rw [List.flatMap_cons, List.length_append, idBytes_len, ih, List.length_cons]; omega
 have hp : repPen ⟨oe, b, ids, room, wh⟩ = (beBytes 1 oe.toNat ++ (beBytes 2 b.length ++ (b ++ (beBytes 2 ids.length ++ (ids.flatMap idBytes ++ (beBytes 2 room.toNat ++ [if wh then 1 else 0]))))), 0) := by
  unfold repPen
  dsimp only
  rw [pn_ok f1 (by simp), pr_ok (by omega) (by simp [beBytes_len]; omega), pn_ok f2 (by simp [beBytes_len]; omega), pis_ok ids _ h4 (by simp [beBytes_len]; omega), pn_ok f3 (by simp only [List.length_append, beBytes_len, hil, List.length_nil]; omega), pb_ok wh (by simp only [List.length_append, beBytes_len, hil, List.length_nil]; omega)]
  simp
 have ho : penOut (repPen ⟨oe, b, ids, room, wh⟩) = (beBytes 1 oe.toNat ++ (beBytes 2 b.length ++ (b ++ (beBytes 2 ids.length ++ (ids.flatMap idBytes ++ (beBytes 2 room.toNat ++ [if wh then 1 else 0]))))), 0) := by
  rw [hp]
  unfold penOut
  rw [if_neg (by simp)]
 rw [ho]
 refine ⟨rfl, ?_⟩
 dsimp only
 have e1 := en_back f1 (beBytes 2 b.length ++ (b ++ (beBytes 2 ids.length ++ (ids.flatMap idBytes ++ (beBytes 2 room.toNat ++ [if wh then 1 else 0])))))
 have e2 := er_back (b := b) (by omega) (beBytes 2 ids.length ++ (ids.flatMap idBytes ++ (beBytes 2 room.toNat ++ [if wh then 1 else 0])))
 have e3 := en_back f2 (ids.flatMap idBytes ++ (beBytes 2 room.toNat ++ [if wh then 1 else 0]))
 have e4 := giN_back ids (beBytes 2 room.toNat ++ [if wh then 1 else 0]) h4
 have e5 := en_back f3 [if wh then 1 else 0]
 have e6 := eb_back wh []
 rw [Int.toNat_natCast] at e3
 unfold repDec
 rw [e1.1, e1.2, if_neg (by omega), e2.1, e2.2, e3.1, e3.2, Int.toNat_natCast, e4]
 unfold repTail
 dsimp only
 rw [e5.1, e5.2, e6.1, e6.2]
 rfl
theorem pn_bad {r : PB} (h : r.2 ≠ 0) (x : Int) (n : Nat) : (pnS r x n).2 ≠ 0 := by
 unfold pnS penNum
 rw [if_pos h]
 exact h
theorem pn_good {l : List UInt8} {x : Int} {n : Nat} (h : (pnS (l, 0) x n).2 = 0) : Fit x n /\ pnS (l, 0) x n = (l ++ beBytes n x.toNat, 0) := by
 unfold pnS penNum penAdd at h ⊢
 dsimp only at h ⊢
 rw [if_neg (by simp)] at h ⊢
 by_cases hx : x < 0 ∨ ((256 ^ n : Nat) : Int) <= x
 ·rw [if_pos hx] at h; cases h
 ·rw [if_neg hx] at h ⊢
  refine ⟨⟨by omega, by omega⟩, ?_⟩
  rw [if_neg (by simp)] at h ⊢
  by_cases hl : 65536 < l.length + (beBytes n x.toNat).length
  ·rw [if_pos hl] at h; cases h
  ·rw [if_neg hl]
theorem pr_good {l b : List UInt8} (h : (prS (l, 0) b).2 = 0) : b.length <= 65535 /\ prS (l, 0) b = (l ++ (beBytes 2 b.length ++ b), 0) := by
 unfold prS penRaw penAdd at h ⊢
 dsimp only at h ⊢
 rw [if_neg (by simp)] at h ⊢
 by_cases hx : 65535 < b.length
 ·rw [if_pos hx] at h; cases h
 ·rw [if_neg hx] at h ⊢
  refine ⟨by omega, ?_⟩
  rw [if_neg (by simp)] at h ⊢
  by_cases hl : 65536 < l.length + (beBytes 2 b.length ++ b).length
  ·rw [if_pos hl] at h; cases h
  ·rw [if_neg hl]
theorem pr_bad {r : PB} (h : r.2 ≠ 0) (b : List UInt8) : (prS r b).2 ≠ 0 := by
 unfold prS penRaw
 rw [if_pos h]
 exact h
theorem pn_fst {r : PB} {x : Int} {n : Nat} (h : (pnS r x n).2 = 0) : r.2 = 0 := by
 by_cases h0 : r.2 = 0
 ·exact h0
 ·exact absurd h (pn_bad h0 x n)
theorem pi_good {l : List UInt8} {x : Id} (h : (penId (l, 0) x).2 = 0) : FitId x /\ penId (l, 0) x = (l ++ idBytes x, 0) := by
 unfold penId at h ⊢
 have a1 := pn_fst h
 have a2 := pn_fst a1
 have a3 := pn_fst a2
 obtain ⟨f1, e1⟩ := pn_good a3
 rw [e1] at a2 h ⊢
 rw [e1] at a1
 obtain ⟨f2, e2⟩ := pn_good a2
 rw [e2] at a1 h ⊢
 obtain ⟨f3, e3⟩ := pn_good a1
 rw [e3] at h ⊢
 obtain ⟨f4, e4⟩ := pn_good h
 refine ⟨⟨f1, f2, f3, f4⟩, ?_⟩
 rw [e4]
 simp [idBytes]
theorem req_back {r : Rq} (h : (reqEnc r).2 = 0) : reqDec (reqEnc r).1 = (r, 0) /\ kindB r.k = true := by
 obtain ⟨k, x, b⟩ := r
 unfold reqEnc at h ⊢
 by_cases hk : kindB k = true
 ·rw [if_pos hk] at h ⊢
  refine ⟨?_, hk⟩
  have hk6 : 1 <= k /\ k <= 6 := by unfold kindB at hk; simpa using hk
  have h0 : (reqPen ⟨k, x, b⟩).2 = 0 := by
   unfold penOut at h
   by_cases hb : (reqPen ⟨k, x, b⟩).2 ≠ 0
   ·rw [if_pos hb] at h; exact absurd h hb
   ·simpa using hb
  have hp : penOut (reqPen ⟨k, x, b⟩) = reqPen ⟨k, x, b⟩ := by unfold penOut; rw [if_neg (by simp [h0])]
  rw [hp]
  unfold reqPen at h0 ⊢
  dsimp only at h0 ⊢
  have f1 : Fit k 1 := ⟨by omega, by omega⟩
  rw [pn_ok f1 (by simp)] at h0 ⊢
  have a1 : (penId ([] ++ beBytes 1 k.toNat, 0) x).2 = 0 := by
   by_cases hz : (penId ([] ++ beBytes 1 k.toNat, 0) x).2 = 0
   ·exact hz
   ·exact absurd h0 (pr_bad hz b)
  obtain ⟨f2, e2⟩ := pi_good a1
  rw [e2] at h0 ⊢
  obtain ⟨hb, e3⟩ := pr_good h0
  rw [e3]
  dsimp only
  simp only [List.nil_append, List.append_assoc]
  have g1 := en_back f1 (idBytes x ++ (beBytes 2 b.length ++ b))
  have g2 := gi_back f2 (beBytes 2 b.length ++ b)
  have g3 := er_back hb []
  rw [List.append_nil] at g3
  unfold reqDec
  rw [g1.1, g1.2, if_neg (by simp [hk]), g2.1, g2.2, g3.1, g3.2]
  rfl
 ·rw [if_neg hk] at h; cases h
section
variable {t r : Sto} {F : Frag}
theorem fit_may {x : Id} (h : mayId x = true) : FitId x := by
 unfold mayId withinB6 at h
 simp at h
 obtain ⟨⟨⟨⟨a1, a2⟩, b1, b2⟩, c1, c2⟩, d1, d2⟩ := h
 exact ⟨⟨a1, by omega⟩, ⟨b1, by omega⟩, ⟨c1, by omega⟩, ⟨d1, by omega⟩⟩
theorem put_code (h : Keep t F) (x : Id) (b : List UInt8) : (t.put x b).1 = if mayId x = false then 1 else if 448 < b.length then 3 else match F x with | some c => if c = b then 0 else 7 | none => if t.room = 0 then 5 else 0 := by
 by_cases hm : mayId x = false
 ·rw [if_pos hm]
  unfold Sto.put
  rw [if_pos hm]
 ·rw [if_neg hm]
  by_cases hb : 448 < b.length
  ·rw [if_pos hb]
   unfold Sto.put
   rw [if_neg hm, if_pos hb]
  ·rw [if_neg hb]
   have hm' : mayId x = true := by simpa using hm
   cases hF : F x with
   | some c => rw [h.kept.put_there hF b (by omega)]
   | none =>
    dsimp only
    by_cases hr : t.room = 0
    ·rw [if_pos hr, h.kept.put_full hm' hF (by omega) hr]
    ·rw [if_neg hr]
     rcases h.kept.put_may hm' hF (b := b) (by omega) (by omega) with ⟨h1, _⟩ | ⟨_, h2, _⟩
     ·exact h1
     ·have := live_put h.live x b
      rw [this.1] at h2; cases h2
theorem put_after (h : Keep t F) (x : Id) (b : List UInt8) : ∃ F', Keep (t.put x b).2 F' /\ (t.put x b).2.whole = t.whole /\
  ((t.put x b).1 = 0 /\ F x = none -> F' = setF F x (some b) /\ (t.put x b).2.room + 1 = t.room) /\ (¬ ((t.put x b).1 = 0 /\ F x = none) -> F' = F /\ (t.put x b).2 = t) := by
 obtain ⟨F', h1, h2, h3⟩ := h.put x b
 refine ⟨F', h1, h2, fun hh => ?_, fun hh => ?_⟩
 ·rcases h3 with ⟨_, _, a, b⟩ | ⟨a, _, _⟩
  ·exact ⟨a, b⟩
  ·have := a hh.1
   rw [hh.2] at this; cases this
 ·rcases h3 with ⟨a, b, _, _⟩ | ⟨_, a, b⟩
  ·exact absurd ⟨a, b⟩ hh
  ·exact ⟨b, a⟩
structure Alike (t r : Sto) : Prop where
 both : ∃ F, Keep t F /\ Keep r F
 whole : t.whole = r.whole
 room : t.room = r.room
theorem Alike.step (h : Alike t r) (q : Rq) : (t.step q).1 = (r.step q).1 /\ Alike (t.step q).2 (r.step q).2 := by
 obtain ⟨⟨F, h1, h2⟩, hw, hr⟩ := h
 by_cases h0 : q.k < 1 ∨ 6 < q.k
 ·rw [step0 t q h0, step0 r q h0]
  exact ⟨rfl, ⟨⟨F, h1, h2⟩, hw, hr⟩⟩
 ·obtain ⟨k, x, b⟩ := q
  dsimp only at h0
  obtain rfl | rfl | rfl | rfl | rfl | rfl : k = 1 ∨ k = 2 ∨ k = 3 ∨ k = 4 ∨ k = 5 ∨ k = 6 := by omega
  ·rw [step1, step1]
   have hcode : (t.put x b).1 = (r.put x b).1 := by rw [put_code h1, put_code h2, hr]
   refine ⟨by dsimp only; rw [hcode], ?_⟩
   obtain ⟨F1, a1, a2, a3, a4⟩ := put_after h1 x b
   obtain ⟨F2, b1, b2, b3, b4⟩ := put_after h2 x b
   dsimp only
   by_cases hc : (t.put x b).1 = 0 /\ F x = none
   ·obtain ⟨e1, e2⟩ := a3 hc
    obtain ⟨e3, e4⟩ := b3 (by rw [<- hcode]; exact hc)
    exact ⟨⟨_, a1, by rw [e1, <- e3]; exact b1⟩, by rw [a2, b2, hw], by omega⟩
   ·obtain ⟨e1, e2⟩ := a4 hc
    obtain ⟨e3, e4⟩ := b4 (by rw [<- hcode]; exact hc)
    exact ⟨⟨_, a1, by rw [e1, <- e3]; exact b1⟩, by rw [a2, b2, hw], by rw [e2, e4, hr]⟩
  ·refine ⟨?_, ?_⟩
   ·rw [h1.gets, h2.gets, hw]
   ·rw [step2, step2]
    exact ⟨⟨F, h1, h2⟩, hw, hr⟩
  ·rw [step3, step3]
   obtain ⟨F1, a1, a2, a3⟩ := h1.del x
   obtain ⟨F2, b1, b2, b3⟩ := h2.del x
   rcases a3 with ⟨c1, c2, c3, c4⟩ | ⟨c1, c2, c3, c4⟩
   ·rcases b3 with ⟨d1, d2, d3, d4⟩ | ⟨d1, d2, d3, d4⟩
    ·exact ⟨by dsimp only; rw [c1, d1], ⟨⟨_, a1, by rw [c3, <- d3]; exact b1⟩, by dsimp only; rw [a2, b2, hw], by dsimp only; omega⟩⟩
    ·rw [c2] at d2; cases d2
   ·rcases b3 with ⟨d1, d2, d3, d4⟩ | ⟨d1, d2, d3, d4⟩
    ·rw [c2] at d2; cases d2
    ·exact ⟨by dsimp only; rw [c1, d1], ⟨⟨_, a1, by rw [c4, <- d4]; exact b1⟩, by dsimp only; rw [a2, b2, hw], by dsimp only; rw [c3, d3, hr]⟩⟩
  ·rw [step4, step4, ids_same h1.kept h2.kept]
   exact ⟨rfl, ⟨⟨F, h1, h2⟩, hw, hr⟩⟩
  ·rw [step5, step5, hw, hr]
   exact ⟨rfl, ⟨⟨F, h1, h2⟩, hw, hr⟩⟩
  ·rw [step6, step6]
   obtain ⟨a1, a2, a3, a4⟩ := h1.sets
   obtain ⟨b1, b2, b3, b4⟩ := h2.sets
   exact ⟨by dsimp only; rw [a1, b1], ⟨⟨F, a2, b2⟩, by dsimp only; rw [a3, b3], by dsimp only; rw [a4, b4, hr]⟩⟩
theorem Keep.again (h : Keep t F) (q : Rq) (hk : q.k = 1 ∨ q.k = 3) : ((t.step q).2.step q).1.e = (t.step q).1.e := by
 obtain ⟨k, x, b⟩ := q
 rcases hk with hk | hk
 ·dsimp only at hk
  subst hk
  rw [step1, step1]
  show ((t.put x b).2.put x b).1 = (t.put x b).1
  obtain ⟨F1, a1, a2, a3, a4⟩ := put_after h x b
  by_cases hc : (t.put x b).1 = 0 /\ F x = none
  ·obtain ⟨e1, e2⟩ := a3 hc
   have h0 := hc.1
   rw [put_code a1, e1, setF_self, h0]
   rw [put_code h, hc.2] at h0
   by_cases hm : mayId x = false
   ·rw [if_pos hm] at h0; cases h0
   ·rw [if_neg hm] at h0 ⊢
    by_cases hb : 448 < b.length
    ·rw [if_pos hb] at h0; cases h0
    ·rw [if_neg hb]
     simp
  ·obtain ⟨e1, e2⟩ := a4 hc
   rw [e2]
 ·dsimp only at hk
  subst hk
  rw [step3, step3]
  show ((t.del x).2.del x).1 = (t.del x).1
  obtain ⟨F1, a1, a2, a3⟩ := h.del x
  obtain ⟨F2, b1, b2, b3⟩ := a1.del x
  rcases a3 with ⟨c1, c2, c3, c4⟩ | ⟨c1, c2, c3, c4⟩
  ·rcases b3 with ⟨d1, d2, d3, d4⟩ | ⟨d1, d2, d3, d4⟩
   ·rw [c1, d1]
   ·rw [c2] at d2; cases d2
  ·rw [c3]
theorem get_small (h : Keep t F) (x : Id) : (t.get x).1.length <= 448 /\ ((t.get x).2 = 0 ∨ (t.get x).2 = 1 ∨ (t.get x).2 = 6) := ⟨h.kept.get_len x, h.kept.get_is x⟩
theorem Keep.fit (h : Keep t F) (hrows : t.s.rows.length <= 20) (q : Rq) : RpFit (t.step q).1 := by
 have herr : ∀ c : Int, 0 <= c -> c <= 18 -> RpFit (errRp c) := fun c h0 h1 => ⟨⟨h0, h1⟩, by simp [errRp], ⟨by simp [errRp], by simp [errRp]⟩, by simp [errRp]⟩
 by_cases h0 : q.k < 1 ∨ 6 < q.k
 ·rw [step0 t q h0]
  exact herr 1 (by omega) (by omega)
 ·obtain ⟨k, x, b⟩ := q
  dsimp only at h0
  have hil := h.kept.ids_len
  obtain rfl | rfl | rfl | rfl | rfl | rfl : k = 1 ∨ k = 2 ∨ k = 3 ∨ k = 4 ∨ k = 5 ∨ k = 6 := by omega
  ·rw [step1]
   have hc := put_code h x b
   refine herr _ ?_ ?_ <;> (rw [hc]; split; omega; split; omega; split; (split <;> omega); (split <;> omega))
  ·rw [step2]
   obtain ⟨h1, h2⟩ := get_small h x
   refine ⟨?_, h1, ⟨by simp, by simp⟩, by simp⟩
   dsimp only
   unfold lostOf
   split <;> rcases h2 with h2 | h2 | h2 <;> omega
  ·rw [step3]
   obtain ⟨F1, a1, a2, a3⟩ := h.del x
   rcases a3 with ⟨c1, _⟩ | ⟨c1, _⟩
   ·rw [c1]; exact herr 0 (by omega) (by omega)
   ·rw [c1]; exact herr 1 (by omega) (by omega)
  ·rw [step4]
   exact ⟨⟨by simp, by simp⟩, by simp, ⟨by dsimp only; omega, fun y hy => fit_may (Sto.ids_may h.kept.keys hy)⟩, by simp⟩
  ·rw [step5]
   exact ⟨⟨by simp, by simp⟩, by simp, ⟨by simp, by simp⟩, ⟨by dsimp only; omega, by dsimp only; omega⟩⟩
  ·rw [step6]
   rw [h.sets.1]
   exact herr 0 (by omega) (by omega)
end
def Lim20 (t : Sto) : Prop := 1 <= t.s.d.n /\ t.s.d.ops <= 800000000 /\ t.s.d.since.length <= 800000
structure PlaysAt (t r : Sto) (i : Nat) : Prop where
 alike : Alike t r
 tn : t.s.d.n = 41
 rn : r.s.d.n = 41
 trows : t.s.rows.length <= 20
 rrows : r.s.rows.length <= 20
 tops : t.s.d.ops <= 100 + 100 * i
 rops : r.s.d.ops <= 100 + 100 * i
theorem PlaysAt.new : ∃ d1 d t0, (DS.new 41).format = ((0, some t0), d) /\ t0 = ⟨⟨d, 1, List.replicate ((41 - 1) / 8) noRow⟩, false⟩ /\ PlaysAt t0 t0 0 /\ (DS.new 41).wipe ((41 - 1) / 8) 1 = (0, d1) /\ d1.Live /\ d1.n = 41 /\ d1.ops <= 41 /\ d1.since.length <= 41 /\ d1.sign 1 = (0, d) /\ d.slots 1 = (0, some ⟨d, 1, List.replicate ((41 - 1) / 8) noRow⟩) /\ d.n = 41 := by
 obtain ⟨d1, d, hf, hw, hl, hn, ho, hs, hsg, hsl, hdn⟩ := rfmt_plain 41 (by omega)
 obtain ⟨t, d', h1, h2, h3, h4, h5, h6⟩ := Keep.new 41 (by omega)
 obtain ⟨rfl, rfl⟩ : t = ⟨⟨d, 1, List.replicate ((41 - 1) / 8) noRow⟩, false⟩ /\ d' = d := by
  rw [hf] at h1
  have e1 := (Prod.ext_iff.1 h1).2
  have e2 := (Prod.ext_iff.1 (Prod.ext_iff.1 h1).1).2
  exact ⟨(Option.some.inj e2).symm, e1.symm⟩
 exact ⟨d1, d', _, hf, rfl, ⟨⟨⟨_, h2, h2⟩, rfl, rfl⟩, h4, h4, by simp, by simp, by omega, by omega⟩, hw, hl, hn, ho, hs, hsg, hsl, hdn⟩
structure Round20 (t r : Sto) (q : Rq) (i : Nat) (o o2 : Rp) (t1 t2 r1 r2 : Sto) (cb : List UInt8) : Prop where
 hand : handleR t (reqEnc q).1 = ((cb, 0), t1)
 hlim : (t.run (reqDec (reqEnc q).1).1).1.1.b.length <= 900000 /\ (t.run (reqDec (reqEnc q).1).1).1.1.ids.length <= 65535
 cbl : cb.length <= 65536
 dec : repDec cb = (o, 0)
 rrun : r.run q = ((o, 0), r1)
 trun2 : t1.run q = ((o2, 0), t2)
 rrun2 : r1.run q = ((o2, 0), r2)
 same : q.k = 1 ∨ q.k = 3 -> o2.e = o.e
 next : PlaysAt t2 r2 (i + 1)
 lt : Lim20 t
 lr : Lim20 r
 lt1 : Lim20 t1
 lr1 : Lim20 r1
 ol : o.b.length <= 1000 /\ o.ids.length <= 1000
 ol2 : o2.b.length <= 1000 /\ o2.ids.length <= 1000
 crash : ∀ ch, ∃ t3, (t2.s.d.crash ch).stOpen = (0, some t3) /\ PlaysAt t3 r2 (i + 1)
 crl : 0 < t2.s.d.n /\ t2.s.d.since.length <= 1000000
theorem PlaysAt.round {t r : Sto} {i : Nat} (h : PlaysAt t r i) (hi : i <= 1000) (q : Rq) (hq : (reqEnc q).2 = 0) : ∃ o o2 t1 t2 r1 r2 cb, Round20 t r q i o o2 t1 t2 r1 r2 cb := by
 obtain ⟨ha, tn, rn, trows, rrows, tops, rops⟩ := h
 obtain ⟨⟨F, h1, h2⟩, -, -⟩ := id ha
 obtain ⟨hb, hkb⟩ := req_back hq
 obtain ⟨e1, a1⟩ := ha.step q
 have f1 := step_far t q trows
 have g1 := step_far r q rrows
 obtain ⟨⟨F1, k1, k2⟩, -, -⟩ := id a1
 have tr1 : (t.step q).2.s.rows.length <= 20 := by rw [f1.rows]; exact trows
 have rr1 : (r.step q).2.s.rows.length <= 20 := by rw [g1.rows]; exact rrows
 obtain ⟨e2, a2⟩ := a1.step q
 have f2 := step_far (t.step q).2 q tr1
 have g2 := step_far (r.step q).2 q rr1
 obtain ⟨⟨F2, l1, l2⟩, -, -⟩ := id a2
 have fit := h1.fit trows q
 have fit2 := k1.fit tr1 q
 obtain ⟨b1, b2⟩ := rep_back fit
 have s0 := h1.since
 have s1 := h2.since
 have s2 := k1.since
 have s3 := k2.since
 have s4 := l1.since
 have n1 := f1.n
 have n2 := f2.n
 have m1 := g1.n
 have m2 := g2.n
 have o1 := f1.ops
 have o2 := f2.ops
 have p1 := g1.ops
 have p2 := g2.ops
 have tr2 : ((t.step q).2.step q).2.s.rows.length <= 20 := by rw [f2.rows]; exact tr1
 have rr2 : ((r.step q).2.step q).2.s.rows.length <= 20 := by rw [g2.rows]; exact rr1
 refine ⟨(t.step q).1, ((t.step q).2.step q).1, (t.step q).2, ((t.step q).2.step q).2, (r.step q).2, ((r.step q).2.step q).2, (penOut (repPen (t.step q).1)).1, ?_, ?_, repEnc_len _, b2, ?_, ?_, ?_, h1.again q, ⟨a2, by omega, by omega, tr2, rr2, by omega, by omega⟩, ⟨by omega, by omega, by rw [s0]; simp⟩, ⟨by omega, by omega, by rw [s1]; simp⟩, ⟨by omega, by omega, by rw [s2]; simp⟩, ⟨by omega, by omega, by rw [s3]; simp⟩, ⟨Nat.le_trans fit.b (by omega), Nat.le_trans fit.ids.1 (by omega)⟩, ⟨Nat.le_trans fit2.b (by omega), Nat.le_trans fit2.ids.1 (by omega)⟩, fun ch => ?_, ⟨by omega, by rw [s4]; simp⟩⟩
 ·unfold handleR
  rw [hb, if_neg (by simp), h1.run, if_neg (by simp)]
  have : penOut (repPen (t.step q).1) = ((penOut (repPen (t.step q).1)).1, 0) := Prod.ext rfl b1
  rw [<- this]
 ·rw [hb, h1.run]
  exact ⟨Nat.le_trans fit.b (by omega), Nat.le_trans fit.ids.1 (by omega)⟩
 ·rw [h2.run, e1]
 ·rw [k1.run]
 ·rw [k2.run, e2]
 ·obtain ⟨c1, c2⟩ := l1.crash ch
  refine ⟨_, c1, ⟨⟨⟨F2, c2, l2⟩, a2.whole, a2.room⟩, ?_, by omega, tr2, rr2, ?_, by omega⟩⟩
  ·show ((t.step q).2.step q).2.s.d.n = 41
   omega
  ·show 0 <= _
   omega
def ncs (nv lv : Value) : Array Value := #[nv, lv, .slice none 0 0, .slice none 0 0, .int .i64 0, .int .i64 (-1), .bool false]
def nrows (nv lv : Value) (NV LV : List Value) : List RowD := [⟨30, 1, nv, NV.length, NV⟩, ⟨30, 1, lv, LV.length, LV⟩, ⟨3, 1, .slice none 0 0, 0, []⟩, ⟨30, 1, .slice none 0 0, 0, []⟩]
structure NewAt (w0 w : World) (m : Nat) (nv lv : Value) (NV LV : List Value) : Prop where
 obj : ObjAt w m 134 (ncs nv lv) (nrows nv lv NV LV)
 now : ∀ c ∈ NV, BytesAt w c (zeros 64) /\ ∀ g, c.ownBlock = some g -> w0.heap.size <= g
 lasts : ∀ c ∈ LV, No8 c
 no8 : ∀ x ∈ blks m (nrows nv lv NV LV), NoU8 w x
 new : ∀ x ∈ blks m (nrows nv lv NV LV), w0.heap.size <= x
 chg : Chg [] w0 w
theorem zeros_ne : zeros 64 ≠ [] := by simp [zeros]
theorem NewAt.row {w0 w : World} {m : Nat} {nv lv : Value} {NV LV : List Value} (h : NewAt w0 w m nv lv NV LV) : w.ownsRow 0 30 1 nv NV.length NV /\ w.ownsRow 0 30 1 lv LV.length LV :=
 ⟨h.obj.rows ⟨30, 1, nv, NV.length, NV⟩ (by simp [nrows]), h.obj.rows ⟨30, 1, lv, LV.length, LV⟩ (by simp [nrows])⟩
theorem NewAt.row8 {w0 w : World} {m : Nat} {nv lv : Value} {NV LV : List Value} (h : NewAt w0 w m nv lv NV LV) : (∀ x, nv.ownBlock = some x -> NoU8 w x) /\ (∀ x, lv.ownBlock = some x -> NoU8 w x) /\ (∀ c ∈ NV, No8 c) :=
 ⟨fun x hx => h.no8 x (blks_row (r := ⟨30, 1, nv, NV.length, NV⟩) (by simp [nrows]) hx), fun x hx => h.no8 x (blks_row (r := ⟨30, 1, lv, LV.length, LV⟩) (by simp [nrows]) hx), fun c hc => (h.now c hc).1.no8⟩
theorem NewAt.keep {w0 w w' : World} {m : Nat} {nv lv : Value} {NV LV : List Value} (h : NewAt w0 w m nv lv NV LV) (hc : Chg [] w w') : NewAt w0 w' m nv lv NV LV :=
 ⟨h.obj.keep hc (by simp), fun c hm => ⟨(h.now c hm).1.chg hc (by simp), (h.now c hm).2⟩, h.lasts, fun x hx => (h.no8 x hx).keep (hc.block x (h.obj.lim x hx) (by simp)), h.new, h.chg.trans hc (by simp)⟩
theorem NewAt.put {w0 w w3 : World} {m : Nat} {nv lv nv' lv' : Value} {NV LV NV' LV' : List Value} (h : NewAt w0 w m nv lv NV LV) (ho : ObjAt w3 m 134 (ncs nv' lv') (nrows nv' lv' NV' LV'))
  (hb : ∀ x ∈ blks m (nrows nv' lv' NV' LV'), x ∈ blks m (nrows nv lv NV LV) ∨ w.heap.size <= x) (hc : Chg (blks m (nrows nv lv NV LV)) w w3) (h8 : ∀ x ∈ blks m (nrows nv' lv' NV' LV'), NoU8 w3 x)
  (hN : ∀ c ∈ NV', c ∈ NV ∨ (BytesAt w c (zeros 64) /\ ∀ g, c.ownBlock = some g -> w0.heap.size <= g)) (hL : ∀ c ∈ LV', No8 c) : NewAt w0 w3 m nv' lv' NV' LV' := by
 refine ⟨ho, fun c hm => ?_, hL, h8, fun x hx => ?_, h.chg.trans hc (fun x hx => .inr (h.new x hx))⟩
 ·have h1 : BytesAt w c (zeros 64) /\ ∀ g, c.ownBlock = some g -> w0.heap.size <= g := by
   rcases hN c hm with h1 | h1
   ·exact h.now c h1
   ·exact h1
  exact ⟨h1.1.chg hc (fun g hg hgm => (h.no8 g hgm).not_bytes c _ h1.1 zeros_ne hg), h1.2⟩
 ·rcases hb x hx with h1 | h1
  ·exact h.new x h1
  ·exact Nat.le_trans h.chg.size h1
theorem NewAt.put0 {w0 w w2 : World} {m : Nat} {nv lv : Value} {NV LV : List Value} (h : NewAt w0 w m nv lv NV LV) (u : Value) (g cap : Nat) (hg : w.grownBy w2 nv.ownBlock)
  (hrow : w2.ownsRow 0 30 1 (.slice (some ⟨g, 0, none⟩) (NV.length + 1) cap) (NV.length + 1) (NV ++ [u])) (hat : nv.ownBlock = some g ∨ g = w.heap.size) (h8 : NoU8 w2 g)
  (hu : BytesAt w u (zeros 64)) (hun : ∀ g, u.ownBlock = some g -> w0.heap.size <= g) : NewAt w0 (w2.setCell ⟨m, 0, none⟩ (.slice (some ⟨g, 0, none⟩) (NV.length + 1) cap)) m (.slice (some ⟨g, 0, none⟩) (NV.length + 1) cap) lv (NV ++ [u]) LV := by
 have hloc : ∀ k, (Value.slice (some ⟨g, 0, none⟩) (NV.length + 1) cap).ownBlock = some k -> nv.ownBlock = some k ∨ w.heap.size <= k := fun k hk => by
  obtain rfl : g = k := by simpa [Value.ownBlock] using hk
  rcases hat with h4 | h4
  ·exact .inl h4
  ·exact .inr (by omega)
 have hobj : ObjAt w m 134 (ncs nv lv) ([] ++ (⟨30, 1, nv, NV.length, NV⟩ : RowD) :: [⟨30, 1, lv, LV.length, LV⟩, ⟨3, 1, .slice none 0 0, 0, []⟩, ⟨30, 1, .slice none 0 0, 0, []⟩]) := h.obj
 obtain ⟨o1, o2, o3⟩ := hobj.field (r' := ⟨30, 1, .slice (some ⟨g, 0, none⟩) (NV.length + 1) cap, (NV ++ [u]).length, NV ++ [u]⟩) 0 hg (by
  show w2.ownsRow 0 30 1 (.slice (some ⟨g, 0, none⟩) (NV.length + 1) cap) (NV ++ [u]).length (NV ++ [u])
  rw [List.length_append]
  exact hrow) hloc
 have o8 := hobj.field8 h.no8 0 hg (r' := ⟨30, 1, .slice (some ⟨g, 0, none⟩) (NV.length + 1) cap, (NV ++ [u]).length, NV ++ [u]⟩) hloc (fun y hy => by
  obtain rfl : g = y := by simpa [Value.ownBlock] using hy
  exact h8) no8_slice
 exact h.put o1 o2 o3 o8 (fun c hc => by
  rcases List.mem_append.1 hc with hc | hc
  ·exact .inl hc
  ·rw [List.mem_singleton.1 hc]; exact .inr ⟨hu, hun⟩) h.lasts
theorem NewAt.put1 {w0 w w2 : World} {m : Nat} {nv lv : Value} {NV LV : List Value} (h : NewAt w0 w m nv lv NV LV) (u : Value) (g cap : Nat) (hg : w.grownBy w2 lv.ownBlock)
  (hrow : w2.ownsRow 0 30 1 (.slice (some ⟨g, 0, none⟩) (LV.length + 1) cap) (LV.length + 1) (LV ++ [u])) (hat : lv.ownBlock = some g ∨ g = w.heap.size) (h8 : NoU8 w2 g)
  (hu : No8 u) : NewAt w0 (w2.setCell ⟨m, 1, none⟩ (.slice (some ⟨g, 0, none⟩) (LV.length + 1) cap)) m nv (.slice (some ⟨g, 0, none⟩) (LV.length + 1) cap) NV (LV ++ [u]) := by
 have hloc : ∀ k, (Value.slice (some ⟨g, 0, none⟩) (LV.length + 1) cap).ownBlock = some k -> lv.ownBlock = some k ∨ w.heap.size <= k := fun k hk => by
  obtain rfl : g = k := by simpa [Value.ownBlock] using hk
  rcases hat with h4 | h4
  ·exact .inl h4
  ·exact .inr (by omega)
 have hobj : ObjAt w m 134 (ncs nv lv) ([⟨30, 1, nv, NV.length, NV⟩] ++ (⟨30, 1, lv, LV.length, LV⟩ : RowD) :: [⟨3, 1, .slice none 0 0, 0, []⟩, ⟨30, 1, .slice none 0 0, 0, []⟩]) := h.obj
 obtain ⟨o1, o2, o3⟩ := hobj.field (r' := ⟨30, 1, .slice (some ⟨g, 0, none⟩) (LV.length + 1) cap, (LV ++ [u]).length, LV ++ [u]⟩) 1 hg (by
  show w2.ownsRow 0 30 1 (.slice (some ⟨g, 0, none⟩) (LV.length + 1) cap) (LV ++ [u]).length (LV ++ [u])
  rw [List.length_append]
  exact hrow) hloc
 have o8 := hobj.field8 h.no8 1 hg (r' := ⟨30, 1, .slice (some ⟨g, 0, none⟩) (LV.length + 1) cap, (LV ++ [u]).length, LV ++ [u]⟩) hloc (fun y hy => by
  obtain rfl : g = y := by simpa [Value.ownBlock] using hy
  exact h8) no8_slice
 exact h.put o1 o2 o3 o8 (fun c hc => .inl hc) (fun c hc => by
  rcases List.mem_append.1 hc with hc | hc
  ·exact h.lasts c hc
  ·rw [List.mem_singleton.1 hc]; exact hu)
def RNewly (w w' : World) (m : Nat) (V F : List Nat) (d : DS) : Prop := RDiskAt w' m V F d /\ (∀ x ∈ F, w.heap.size <= x) /\ Chg [] w w'
theorem NewAt.done {w0 w : World} {m n : Nat} {nv lv : Value} {NV LV : List Value} (h : NewAt w0 w m nv lv NV LV) (hN : NV.length = n) (hL : LV.length = n) (hn : n <= 4160) : ∃ V F, RNewly w0 w m V F (DS.new n) := by
 have hrows : nrows nv lv NV LV = rrows n nv lv (.slice none 0 0) (.slice none 0 0) NV LV [] [] := by unfold nrows rrows; rw [hN, hL]; rfl
 refine ⟨blks m (nrows nv lv NV LV), blks m (nrows nv lv NV LV) ++ NV.flatMap (fun c => c.ownBlock.toList), ⟨nv, lv, .slice none 0 0, .slice none 0 0, NV, LV, [], [], ?_⟩, fun x hx => ?_, h.chg⟩
 ·refine ⟨?_, fun k hk => ?_, h.lasts, ⟨by simp, by simp⟩, ⟨by simp, by simp⟩, hn, ⟨by simp [DS.new], by simp [DS.new]⟩, by rw [hrows]; rfl, h.no8, fun x hx => List.mem_append_left _ hx, fun x hx => ?_⟩
  ·have := h.obj
   rw [hrows] at this
   exact this
  ·have hk : k < n := hk
   have hm : NV.getD k undef ∈ NV := by rw [List.getD_eq_getElem?_getD, List.getElem?_eq_getElem (by omega)]; exact List.getElem_mem _
   obtain ⟨b1, b2⟩ := h.now _ hm
   refine ⟨by simp [DS.new, zeros], b1, fun g hg => ⟨List.mem_append_right _ (List.mem_flatMap.2 ⟨_, hm, by rw [hg]; simp⟩), fun hgm => (h.no8 g hgm).not_bytes _ _ b1 zeros_ne hg⟩⟩
  ·rcases List.mem_append.1 hx with hx | hx
   ·exact h.obj.lim x hx
   ·obtain ⟨c, hc, hx⟩ := List.mem_flatMap.1 hx
    exact (h.now c hc).1.lt zeros_ne x (by simpa using hx)
 ·rcases List.mem_append.1 hx with hx | hx
  ·exact h.new x hx
  ·obtain ⟨c, hc, hx⟩ := List.mem_flatMap.1 hx
   exact (h.now c hc).2 x (by simpa using hx)
theorem new_at (w : World) : NewAt w (w.alloc (.cells (ncs (.slice none 0 0) (.slice none 0 0)) 134)) w.heap.size (.slice none 0 0) (.slice none 0 0) [] [] := by
 have hh := heap_alloc_new w (.cells (ncs (.slice none 0 0) (.slice none 0 0)) 134)
 have hb : blks w.heap.size (nrows (.slice none 0 0) (.slice none 0 0) [] []) = [w.heap.size] := rfl
 refine ⟨⟨hh, fun r hr => ?_, by rw [hb]; simp⟩, by simp, by simp, fun x hx => ?_, fun x hx => ?_, (Chg.refl _ _).alloc _⟩
 ·simp only [nrows, List.mem_cons, List.mem_nil_iff, or_false] at hr
  rcases hr with rfl | rfl | rfl | rfl <;> exact World.ownsRow_nil _ _ _ _
 ·rw [hb] at hx
  rw [List.mem_singleton.1 hx]
  refine NoU8.mk hh (no8_list (l := [_, _, _, _, _, _, _]) ?_)
  intro c hc
  simp only [List.mem_cons, List.mem_nil_iff, or_false] at hc
  rcases hc with rfl | rfl | rfl | rfl | rfl | rfl | rfl <;> (intro z; simp)
 ·rw [hb] at hx
  rw [List.mem_singleton.1 hx]
  exact Nat.le_refl _
def NewPost (w : World) (n : Nat) (e : Ending) (w' : World) : Prop := ∃ m V F, e = .returned (.tuple #[.pointer (some ⟨m, 0, none⟩), .int .i64 0]) /\ RNewly w w' m V F (DS.new n)
theorem rnewdisk_any (n : Nat) (wA : World) (h2 : 2 <= n) (hm : n <= 4160) : Calls Tryz.prog 32 #[.int .i64 (n : Int)] wA (NewPost wA n) := by
 have q1 : decide ((n : Int) < 2) = false := decide_eq_false (by omega)
 have q2 : decide ((n : Int) > 4160) = false := decide_eq_false (by omega)
 have hmk := make_64
 obtain ⟨i3, hi3, hz3, hs3, hy3⟩ := info_parts facts_bytes
 have I3 := LH (And.intro hi3 (And.intro hz3 (And.intro hs3 hy3)))
 obtain ⟨m, hmm⟩ : ∃ m, m = wA.heap.size := ⟨_, rfl⟩
 have HM := LH hmm
 have HN0 := LH (new_at wA)
 clear hi3 hz3 hs3 hy3 hmm
 go_enter Tryz.func32, Tryz.ntmps32
 go_wp2_with fail
 rw [<- HM.out]
 go_loopg [5] n (fun g' s5 wr => ∃ (i : Nat), s5 = .int .i64 (i : Int) /\ i <= n /\ n <= i + g' /\ Hid (∃ nv lv NV LV, NewAt wA wr m nv lv NV LV /\ NV.length = i /\ LV.length = i))
 case atStart => exact ⟨0, rfl, by omega, by omega, LH ⟨_, _, _, _, by rw [HM.out]; exact HN0.out, rfl, rfl⟩⟩
 case round =>
  obtain ⟨i, rfl, hi, hig, HR⟩ := hrel
  by_cases hlt : i < n
  ·have hiz : (i : Int) < (n : Int) := by omega
   obtain ⟨nv, lv, NV, LV, H, hNl, hLl⟩ := HR.out
   have e0 : wr.cell? ⟨m, 0, none⟩ = some nv := blk_cell H.obj.head 0 _ rfl
   have HH := LH H
   have HL := LH (And.intro hNl hLl)
   clear H hNl hLl
   go_wp2_with fail
   refine wp_region_L [(10, fun w' => w'.cell? ⟨m, 0, none⟩ = some nv)] (by kernel_rfl) ?_ (fun hHeld => ?_)
   ·exact (HoldC.cons (e0) HoldC.nil)
   refine tk 0 ?_ rfl (by kernel_rfl) (fun _ _ _ h => h) (.inl ⟨by rfl, ?_⟩) hHeld ?_; rotate_left; · (intro w _; go_simp; try with_reducible rfl)
   clear hHeld; intro hHeld; try simp only [gA,gB,gC,Act.put,gD,gE,gF]
   refine tk 1 ?_ rfl (by kernel_rfl) (fun _ _ _ h => h) (.inl ⟨by rfl, ?_⟩) hHeld ?_; rotate_left; · (intro w _; go_simp; try with_reducible rfl)
   clear hHeld; intro hHeld; try simp only [gA,gB,gC,Act.put,gD,gE,gF]
   refine tk 2 ?_ rfl (by kernel_rfl) (fun _ _ _ h => h) (.inl ⟨by rfl, ?_⟩) hHeld ?_; rotate_left; · (intro w _; go_simp; try with_reducible rfl)
   clear hHeld; intro hHeld; try simp only [gA,gB,gC,Act.put,gD,gE,gF]
   refine tk 3 ?_ rfl (by kernel_rfl) (fun _ _ _ h => h) (.inl ⟨by rfl, ?_⟩) hHeld ?_; rotate_left; · (intro w _; go_simp; try with_reducible rfl)
   clear hHeld; intro hHeld; try simp only [gA,gB,gC,Act.put,gD,gE,gF]
   refine ld 0 4 ?_ rfl rfl (by kernel_rfl) (fun _ _ _ h => h) (.inl ⟨by rfl, ?_⟩) hHeld ?_; rotate_left; · (intro w hSw; (try dsimp only at hSw); go_simp; try with_reducible rfl)
   clear hHeld; intro hHeld; try simp only [gA,gB,gC,Act.put,gD,gE,gF]
   refine wpAnyL_ready (rs := [5]) (by kernel_rfl) (by simp) (AllReadyL.cons (o := _) rfl (fun K hK => ?_) AllReadyL.nil)
   try simp only [gA,gB,gC]
   go_simp
   obtain ⟨z, hz⟩ : ∃ z, z = wr.heap.size := ⟨_, rfl⟩
   have HZ := LH hz
   try rw [<- hz]
   obtain ⟨w1, hw1⟩ : ∃ w1, w1 = (wr.alloc (.cells Z64 5)).drew := ⟨_, rfl⟩
   rw [<- hw1]
   have hc1 : Chg [] wr w1 := by rw [hw1]; exact ((Chg.refl [] wr).alloc _).drew
   have hB1 : BytesAt w1 (.slice (some ⟨z, 0, none⟩) 64 64) (zeros 64) := (row_of_block (w := w1) (N := z) (l := zeros 64) (by rw [hw1, hz]; exact heap_alloc_new wr _) (by simp [zeros, maxLen])).bytes
   have HB1 := LH hB1
   have HC1 := LH hc1
   have e1 := hc1.cell e0 (by simp)
   have hcA : Chg [] w1 (w1.alloc (.cells #[.slice (some ⟨z, 0, none⟩) 64 64] 30)) := (Chg.refl _ _).alloc _
   have H2 := LH ((HH.out.keep hc1).keep hcA)
   have HB2 := LH (hB1.chg hcA (by simp))
   have e2 := hcA.cell e1 (by simp)
   have HNW := LH (news_one (w := w1) (e := 30) (u := .slice (some ⟨z, 0, none⟩) 64 64) rfl)
   have hil : NV.length + 1 <= 4161 := by have := HL.out.1; omega
   have hzz : (zeros 64).length = 64 := by simp [zeros]
   have HZ0 : Hid (wA.heap.size <= z) := LH (by rw [hz]; exact HH.out.chg.size)
   clear hB1 hc1 hcA hz hw1
   clear hHeld
   refine hK.out _ _ ?_ (fun hHeld => ?_)
   ·exact (HoldC.cons (e1) HoldC.nil)
   clear hK K
   try simp only [gA,gB,gC,Act.put,gD,gE,gF]
   refine wpAnyL_ready (rs := [6]) (by kernel_rfl) (by simp) (AllReadyL.cons (o := _) rfl (fun K hK => ?_) AllReadyL.nil)
   try simp only [gA,gB,gC]
   go_simp
   clear hHeld
   refine hK.out _ _ ?_ (fun hHeld => ?_)
   ·exact (HoldC.cons (e2) HoldC.nil)
   clear hK K
   try simp only [gA,gB,gC,Act.put,gD,gE,gF]
   refine wpAnyL_ready (rs := [7]) (by kernel_rfl) (by simp) (AllReadyL.cons (o := _) rfl (fun K hK => ?_) AllReadyL.nil)
   try simp only [gA,gB,gC]
   try rw [if_pos (by rfl)]
   refine wp_append_no8 (.tmp 23) (.tmp 25) 131 (by rfl) 30 i3 (.slice none 0 0) 1 24 Tryz.underlying131 I3.out.1 I3.out.2.1 I3.out.2.2.1 I3.out.2.2.2 rfl (by omega) (one_z8 rfl no8_slice) nv NV.length NV (by rfl) H2.out.row.1 H2.out.row8.2.2 H2.out.row8.1 ⟨w1.heap.size, 0, none⟩ 1 (by rfl) [.slice (some ⟨z, 0, none⟩) 64 64] rfl HNW.out (fun u hu => by rw [List.mem_singleton.1 hu]; rfl) (fun u hu => by rw [List.mem_singleton.1 hu]; exact no8_slice) (by unfold maxLen; omega) (by omega) ?_
   intro g5 cap5 w5 hrow hg hat hlt5 h8
   have hm5 : w5.heap[m]? = _ := (hg.block m (blk_lt H2.out.obj.head) (fun e => H2.out.obj.row_ne (r := ⟨30, 1, nv, NV.length, NV⟩) (by simp [nrows]) e.symm rfl)).trans H2.out.obj.head
   have p6 := blk_cell hm5 0 _ rfl
   have p7 := blk_frozen hm5 0
   have p8 := blk_lt hm5
   have H3 := LH (H2.out.put0 (.slice (some ⟨z, 0, none⟩) 64 64) g5 cap5 hg hrow hat h8 HB2.out (fun g hg => by
    obtain rfl : z = g := by simpa [Value.ownBlock] using hg
    exact HZ0.out))
   clear hrow hg hat hlt5 h8 hm5
   clear hHeld
   refine hK.out _ _ ?_ (fun hHeld => ?_)
   ·exact (HoldC.cons (p6) HoldC.nil)
   clear hK K
   try simp only [gA,gB,gC,Act.put,gD,gE,gF]
   refine tk 8 ?_ rfl (by kernel_rfl) (fun _ _ _ h => h) (.inl ⟨by rfl, ?_⟩) hHeld ?_; rotate_left; · (intro w _; go_simp; try with_reducible rfl)
   clear hHeld; intro hHeld; try simp only [gA,gB,gC,Act.put,gD,gE,gF]
   refine tk 9 ?_ rfl (by kernel_rfl) (fun _ _ _ h => h) (.inl ⟨by rfl, ?_⟩) hHeld ?_; rotate_left; · (intro w _; go_simp; try with_reducible rfl)
   clear hHeld; intro hHeld; try simp only [gA,gB,gC,Act.put,gD,gE,gF]
   refine wpAnyL_ready (rs := [10]) (by kernel_rfl) (by simp) (AllReadyL.cons (o := _) rfl (fun K hK => ?_) AllReadyL.nil)
   try simp only [gA,gB,gC]
   go_simp
   clear hHeld
   refine hK.out _ _ ?_ (fun hHeld => ?_)
   ·exact (HoldC.past (by kernel_rfl) HoldC.nil)
   clear hK K
   try simp only [gA,gB,gC,Act.put,gD,gE,gF]
   refine wpAnyL_done (by kernel_rfl) ?_ _
   clear hHeld
   generalize w5.setCell ⟨m, 0, none⟩ (.slice (some ⟨g5, 0, none⟩) (NV.length + 1) cap5) = w6 at *
   clear p6 p7 p8 e0 e1 e2
   have H4 : Hid (∃ nv2 NV2, NewAt wA w6 m nv2 lv NV2 LV /\ NV2.length = i + 1) := LH ⟨_, _, H3.out, by have := HL.out.1; simp; exact this⟩
   have HL2 := LH HL.out.2
   clear HH H2 H3 HB1 HC1 HB2 HNW HZ0 hil
   obtain ⟨nv2, NV2, H5, hN2⟩ := H4.out
   have e0 : w6.cell? ⟨m, 1, none⟩ = some lv := blk_cell H5.obj.head 1 _ rfl
   have HN2 := LH hN2
   clear H4
   have H4 := LH H5
   clear H5 hN2
   go_wp2_with fail
   refine wp_region_L [(10, fun w' => w'.cell? ⟨m, 1, none⟩ = some lv)] (by kernel_rfl) ?_ (fun hHeld => ?_)
   ·exact (HoldC.cons (e0) HoldC.nil)
   refine tk 0 ?_ rfl (by kernel_rfl) (fun _ _ _ h => h) (.inl ⟨by rfl, ?_⟩) hHeld ?_; rotate_left; · (intro w _; go_simp; try with_reducible rfl)
   clear hHeld; intro hHeld; try simp only [gA,gB,gC,Act.put,gD,gE,gF]
   refine tk 1 ?_ rfl (by kernel_rfl) (fun _ _ _ h => h) (.inl ⟨by rfl, ?_⟩) hHeld ?_; rotate_left; · (intro w _; go_simp; try with_reducible rfl)
   clear hHeld; intro hHeld; try simp only [gA,gB,gC,Act.put,gD,gE,gF]
   refine tk 2 ?_ rfl (by kernel_rfl) (fun _ _ _ h => h) (.inl ⟨by rfl, ?_⟩) hHeld ?_; rotate_left; · (intro w _; go_simp; try with_reducible rfl)
   clear hHeld; intro hHeld; try simp only [gA,gB,gC,Act.put,gD,gE,gF]
   refine tk 3 ?_ rfl (by kernel_rfl) (fun _ _ _ h => h) (.inl ⟨by rfl, ?_⟩) hHeld ?_; rotate_left; · (intro w _; go_simp; try with_reducible rfl)
   clear hHeld; intro hHeld; try simp only [gA,gB,gC,Act.put,gD,gE,gF]
   refine ld 0 4 ?_ rfl rfl (by kernel_rfl) (fun _ _ _ h => h) (.inl ⟨by rfl, ?_⟩) hHeld ?_; rotate_left; · (intro w hSw; (try dsimp only at hSw); go_simp; try with_reducible rfl)
   clear hHeld; intro hHeld; try simp only [gA,gB,gC,Act.put,gD,gE,gF]
   refine wpAnyL_ready (rs := [5]) (by kernel_rfl) (by simp) (AllReadyL.cons (o := _) rfl (fun K hK => ?_) AllReadyL.nil)
   try simp only [gA,gB,gC]
   go_simp
   obtain ⟨zb, hz⟩ : ∃ zb, zb = w6.heap.size := ⟨_, rfl⟩
   have HZ := LH hz
   try rw [<- hz]
   obtain ⟨w1b, hw1⟩ : ∃ w1b, w1b = (w6.alloc (.cells Z64 5)).drew := ⟨_, rfl⟩
   rw [<- hw1]
   have hc1 : Chg [] w6 w1b := by rw [hw1]; exact ((Chg.refl [] w6).alloc _).drew
   have hB1 : BytesAt w1b (.slice (some ⟨zb, 0, none⟩) 64 64) (zeros 64) := (row_of_block (w := w1b) (N := zb) (l := zeros 64) (by rw [hw1, hz]; exact heap_alloc_new w6 _) (by simp [zeros, maxLen])).bytes
   have HB1 := LH hB1
   have HC1 := LH hc1
   have e1 := hc1.cell e0 (by simp)
   have hcA : Chg [] w1b (w1b.alloc (.cells #[.slice (some ⟨zb, 0, none⟩) 64 64] 30)) := (Chg.refl _ _).alloc _
   have H2 := LH ((H4.out.keep hc1).keep hcA)
   have HB2 := LH (hB1.chg hcA (by simp))
   have e2 := hcA.cell e1 (by simp)
   have HNW := LH (news_one (w := w1b) (e := 30) (u := .slice (some ⟨zb, 0, none⟩) 64 64) rfl)
   have hil : LV.length + 1 <= 4161 := by have := HL.out.2; omega
   have hzz : (zeros 64).length = 64 := by simp [zeros]
   have HZ0 : Hid (wA.heap.size <= zb) := LH (by rw [hz]; exact H4.out.chg.size)
   clear hB1 hc1 hcA hz hw1
   clear hHeld
   refine hK.out _ _ ?_ (fun hHeld => ?_)
   ·exact (HoldC.cons (e1) HoldC.nil)
   clear hK K
   try simp only [gA,gB,gC,Act.put,gD,gE,gF]
   refine wpAnyL_ready (rs := [6]) (by kernel_rfl) (by simp) (AllReadyL.cons (o := _) rfl (fun K hK => ?_) AllReadyL.nil)
   try simp only [gA,gB,gC]
   go_simp
   clear hHeld
   refine hK.out _ _ ?_ (fun hHeld => ?_)
   ·exact (HoldC.cons (e2) HoldC.nil)
   clear hK K
   try simp only [gA,gB,gC,Act.put,gD,gE,gF]
   refine wpAnyL_ready (rs := [7]) (by kernel_rfl) (by simp) (AllReadyL.cons (o := _) rfl (fun K hK => ?_) AllReadyL.nil)
   try simp only [gA,gB,gC]
   try rw [if_pos (by rfl)]
   refine wp_append_no8 (.tmp 33) (.tmp 35) 131 (by rfl) 30 i3 (.slice none 0 0) 1 24 Tryz.underlying131 I3.out.1 I3.out.2.1 I3.out.2.2.1 I3.out.2.2.2 rfl (by omega) (one_z8 rfl no8_slice) lv LV.length LV (by rfl) H2.out.row.2 H2.out.lasts H2.out.row8.2.1 ⟨w1b.heap.size, 0, none⟩ 1 (by rfl) [.slice (some ⟨zb, 0, none⟩) 64 64] rfl HNW.out (fun u hu => by rw [List.mem_singleton.1 hu]; rfl) (fun u hu => by rw [List.mem_singleton.1 hu]; exact no8_slice) (by unfold maxLen; omega) (by omega) ?_
   intro g5b cap5b w5b hrow hg hat hlt5 h8
   have hm5 : w5b.heap[m]? = _ := (hg.block m (blk_lt H2.out.obj.head) (fun e => H2.out.obj.row_ne (r := ⟨30, 1, lv, LV.length, LV⟩) (by simp [nrows]) e.symm rfl)).trans H2.out.obj.head
   have p6 := blk_cell hm5 1 _ rfl
   have p7 := blk_frozen hm5 1
   have p8 := blk_lt hm5
   have H3 := LH (H2.out.put1 (.slice (some ⟨zb, 0, none⟩) 64 64) g5b cap5b hg hrow hat h8 no8_slice)
   clear hrow hg hat hlt5 h8 hm5
   clear hHeld
   refine hK.out _ _ ?_ (fun hHeld => ?_)
   ·exact (HoldC.cons (p6) HoldC.nil)
   clear hK K
   try simp only [gA,gB,gC,Act.put,gD,gE,gF]
   refine tk 8 ?_ rfl (by kernel_rfl) (fun _ _ _ h => h) (.inl ⟨by rfl, ?_⟩) hHeld ?_; rotate_left; · (intro w _; go_simp; try with_reducible rfl)
   clear hHeld; intro hHeld; try simp only [gA,gB,gC,Act.put,gD,gE,gF]
   refine tk 9 ?_ rfl (by kernel_rfl) (fun _ _ _ h => h) (.inl ⟨by rfl, ?_⟩) hHeld ?_; rotate_left; · (intro w _; go_simp; try with_reducible rfl)
   clear hHeld; intro hHeld; try simp only [gA,gB,gC,Act.put,gD,gE,gF]
   refine wpAnyL_ready (rs := [10]) (by kernel_rfl) (by simp) (AllReadyL.cons (o := _) rfl (fun K hK => ?_) AllReadyL.nil)
   try simp only [gA,gB,gC]
   go_simp
   clear hHeld
   refine hK.out _ _ ?_ (fun hHeld => ?_)
   ·exact (HoldC.past (by kernel_rfl) HoldC.nil)
   clear hK K
   try simp only [gA,gB,gC,Act.put,gD,gE,gF]
   refine wpAnyL_done (by kernel_rfl) ?_ _
   clear hHeld
   generalize w5b.setCell ⟨m, 1, none⟩ (.slice (some ⟨g5b, 0, none⟩) (LV.length + 1) cap5b) = w6b at *
   clear p6 p7 p8 e0 e1 e2
   have HF : Hid (∃ nv lv NV LV, NewAt wA w6b m nv lv NV LV /\ NV.length = i + 1 /\ LV.length = i + 1) := LH ⟨_, _, _, _, H3.out, HN2.out, by have := HL2.out; simp; exact this⟩
   go_wp2
   go_roundg (gk - 1)
   case measure => omega
   case rel => exact ⟨i + 1, by go_num, by omega, by omega, HF⟩
  ·have hiz : ¬ (i : Int) < (n : Int) := by omega
   go_wp2
   go_ret2
   obtain ⟨nv, lv, NV, LV, H, hNl, hLl⟩ := HR.out
   obtain ⟨V, F, hd⟩ := H.done (n := n) (by omega) (by omega) hm
   exact ⟨m, V, F, rfl, hd⟩
theorem bytes_out {w w' : World} {v : Value} {l : List UInt8} {U : List Nat} {n : Nat} (h : BytesAt w v l) (hc : Chg U w w') (hU : ∀ x ∈ U, x < n) (hn : ∀ k, v.ownBlock = some k -> n <= k) : BytesAt w' v l :=
 h.chg hc (fun k hk hm => by have := hU k hm; have := hn k hk; omega)
theorem row_out {w w' : World} {base e size n N : Nat} {v : Value} {xs : List Value} {U : List Nat} (h : w.ownsRow base e size v n xs) (hc : Chg U w w') (hU : ∀ x ∈ U, x < N) (hn : N <= base) : w'.ownsRow base e size v n xs :=
 row_keep h (fun g hg => hc.block g (World.ownsRow.lt h g hg).2 (fun hm => by have := hU g hm; have := (World.ownsRow.lt h g hg).1; omega))
theorem plays20_any (a : Option Addr) (n cap : Nat) (f : Nat -> Rq × Value) (ov : Value) (ch : List UInt8) (w : World) (h : RqsAt w a n f) (hv : Came w ov ch) : Calls Tryz.prog 8 #[.slice a n cap, ov] w fun e w' => e = .returned (.bool true) /\ Chg [] w w' := by
 obtain ⟨d1, d, t0, hfm, ht0, hpl, hwp, hl1, hn1, ho1, hs1, hsg, hsl, hdn⟩ := PlaysAt.new
 have HIN0 := LH h
 have HV0 := LH hv
 have HFM := LH hfm
 have HPL := LH hpl
 have HRF := LH (fun m V F w3 (h3 : RDiskAt w3 m V F (DS.new 41)) => rstformat_new m V F 41 d1 d w3 h3 (by omega) (by omega) hwp hl1 hn1 ho1 hs1 hsg hsl hdn)
 rw [<- ht0] at HRF
 obtain ⟨oa, oc, hov⟩ := hv.1.slice
 subst hov
 have CW := LH (awake20_any w)
 clear h hv hfm hpl hwp hl1 hn1 ho1 hs1 hsg hsl hdn ht0
 go_enter Tryz.func8, Tryz.ntmps8
 go_wp2_with fail
 refine CW.out.mono ?_
 rintro e w1 ⟨rfl, hc1⟩
 have HC1 := LH hc1
 have HIN := LH (HIN0.out.keep hc1)
 have HV := LH (HV0.out.chg hc1)
 have CSM := LH (small20_any a n cap 50 f w1 HIN.out (by omega))
 clear hc1 CW HIN0 HV0
 go_wp2_with fail
 refine CSM.out.mono ?_
 rintro e w' ⟨he, hq⟩
 subst hq
 rcases he with ⟨he, hfew⟩ | he
 rotate_left
 ·subst he
  go_wp2_with fail
  go_ret
  exact ⟨rfl, HC1.out⟩
 subst he
 have HFEW := LH hfew
 have hn50 : n <= 50 := hfew.1
 clear hfew CSM
 by_cases h100 : 100 < ch.length
 ·have h100z : (100 : Int) < (ch.length : Int) := by omega
  go_wp2_with fail
  go_ret
  exact ⟨rfl, HC1.out⟩
 have h100z : ¬ (100 : Int) < (ch.length : Int) := by omega
 have CN := LH (own_newS (Chg.refl [] w1) 41 (by omega) (by omega) HFM.out)
 go_wp2_with fail
 refine CN.out.mono ?_
 rintro e w3 ⟨z, q, p, rfl, ho3⟩
 have HO3 := LH ho3
 have CN2 := LH (rnewdisk_any 41 w3 (by omega) (by omega))
 clear ho3 CN
 go_wp2_with fail
 refine CN2.out.mono ?_
 rintro e w4 ⟨m, V, F, rfl, hd4, hF4, hc4⟩
 have hlim4 := hd4.lim
 have HO4 : Hid (OwnS F w1 w4 z q p t0) := LH (HO3.out.add hc4 (fun x hx => ⟨.inr (hF4 x hx), hlim4.1 x hx⟩))
 have HF4 : Hid ((∀ x ∈ F, w1.heap.size <= x) /\ (∀ x ∈ V, x ∈ F) /\ ∀ x ∈ V, NoU8 w4 x) := LH ⟨fun x hx => Nat.le_trans HO3.out.chg.size (hF4 x hx), hlim4.2.1, hlim4.2.2⟩
 have CF := LH (HRF.out m V F w4 hd4)
 clear hd4 hF4 hc4 hlim4 CN2 HO3
 go_wp2_with fail
 refine CF.out.mono ?_
 rintro e w5 ⟨q2, U2, B2, rfl, hr5, hU5, hB5, hc5⟩
 have HP5 : Hid (Pair [] w1 w5 z q p q2 m U2 B2 t0 t0) := LH ⟨HO4.out.wrote hc5 (fun x hx => ⟨HF4.out.2.1 x hx, HF4.out.1 x (HF4.out.2.1 x hx)⟩) HF4.out.2.2 (fun x hx => by
  rw [List.append_nil] at hx
  exact ⟨hB5 x hx, hr5.lim.1 x hx⟩), hr5, fun x hx => by
  rcases hB5 x hx with h5 | h5
  ·exact HF4.out.1 x h5
  ·exact Nat.le_trans HO4.out.chg.size h5, by simp⟩
 clear hr5 hU5 hB5 hc5 CF HO4 HF4 h100z
 go_wp2_with fail
 go_loopg [5, 11, 12, 13, 14, 15, 16, 17, 18, 19, 20, 21, 22, 23, 24, 25] n (fun g' s5 s11 s12 s13 s14 s15 s16 s17 s18 s19 s20 s21 s22 s23 s24 s25 wr => ∃ (i z q p : Nat) (U2 B2 : List Nat) (t r : Sto), s5 = .pointer (some ⟨z, 0, none⟩) /\ s11 = .int .i64 (i : Int) /\ i <= n /\ n <= i + g' /\ Hid (Pair [] w1 wr z q p q2 m U2 B2 t r /\ PlaysAt t r i))
 case atStart => exact ⟨0, z, q, p, U2, B2, t0, t0, rfl, rfl, by omega, by omega, LH ⟨HP5.out, HPL.out⟩⟩
 case round =>
  clear HP5 HPL HFM HRF
  obtain ⟨i, z, q, p, U2, B2, t, r, rfl, rfl, hi, hig, HR⟩ := hrel
  have HP := LH HR.out.1
  have HPL := LH HR.out.2
  clear HR
  by_cases hlt : i < n
  ·have hiz : (i : Int) < (n : Int) := by omega
   have hiz1 : (i : Int).toNat = i := by omega
   obtain ⟨g, o, rfl, hcs⟩ : ∃ g o, a = some ⟨g, o, none⟩ /\ ∀ i, i < n -> RqAt w1 g (o + i * 6) (f i) := by
    rcases HIN.out with h | h
    ·omega
    ·exact h
   have hd := hcs i hlt
   have hfb := HFEW.out.2 i hlt
   obtain ⟨y, hy⟩ : ∃ y, y = f i := ⟨_, rfl⟩
   rw [<- hy] at hd hfb
   clear hy hcs
   obtain ⟨⟨rk, ⟨xc, xl, xn, xi⟩, b⟩, bv⟩ := y
   obtain ⟨ba, bc, hbv⟩ := hd.inn.came.1.slice
   try dsimp only at hbv
   subst hbv
   have HIQ := LH hd.inn
   have HD1 : Hid (∀ w', Chg [] w1 w' -> w'.cell? ⟨g, o + i * 6, none⟩ = some (.int .i64 rk) /\ w'.cell? ⟨g, o + i * 6 + 1, none⟩ = some (.int .i64 xc) /\ w'.cell? ⟨g, o + i * 6 + 2, none⟩ = some (.int .i64 xl) /\ w'.cell? ⟨g, o + i * 6 + 3, none⟩ = some (.int .i64 xn) /\ w'.cell? ⟨g, o + i * 6 + 4, none⟩ = some (.int .i64 xi) /\ w'.cell? ⟨g, o + i * 6 + 5, none⟩ = some (.slice ba b.length bc)) := LH (fun w' hc => by
    have h2 := hd.keep hc
    exact ⟨h2.c0, h2.c1, h2.c2, h2.c3, h2.c4, h2.c5⟩)
   have hxo : okD ⟨xc, xl, xn, xi⟩ := hd.inn.wx
   try dsimp only at hfb
   clear hd
   obtain ⟨c0, c1, c2, c3, c4, c5⟩ := HD1.out wr HP.out.own.chg
   have hinw := HIQ.out.keep HP.out.own.chg
   have CE := LH (rsvenc_any ⟨rk, ⟨xc, xl, xn, xi⟩, b⟩ (.slice ba b.length bc) wr hinw.came.1 (by show b.length <= _; omega) hinw.came.2)
   unfold rqV rqL at CE
   try dsimp only at CE
   obtain ⟨rE, hrE⟩ : ∃ rE, rE = reqEnc ⟨rk, ⟨xc, xl, xn, xi⟩, b⟩ := ⟨_, rfl⟩
   have hrl : rE.1.length <= 65536 := by rw [hrE]; exact reqEnc_len _
   have HRND : Hid (rE.2 = 0 -> ∃ o o2 t1 t2 r1 r2 cb, Round20 t r ⟨rk, ⟨xc, xl, xn, xi⟩, b⟩ i o o2 t1 t2 r1 r2 cb) := LH (fun hq => HPL.out.round (by omega) _ (by rw [<- hrE]; exact hq))
   rw [<- hrE] at CE
   have HRE := LH hrE
   clear hrE hinw
   obtain ⟨rb, rx⟩ := rE
   try dsimp only at hrl HRND
   go_wp2_with fail
   refine CE.out.mono ?_
   rintro e w2 ⟨x2, rfl, hx2, hn2, hc2⟩
   obtain ⟨a2, c2', rfl⟩ := hx2.slice
   try dsimp only at hx2
   have HP2 := LH (HP.out.keep hc2)
   have HX2 := LH hx2
   clear hx2 hn2 CE c0 c1 c2 c3 c4 c5
   by_cases hx0 : rx = 0
   rotate_left
   ·have qx : (rx != 0) = true := by simp [hx0]
    have HPN : Hid (PlaysAt t r (i + 1)) := LH ⟨HPL.out.alike, HPL.out.tn, HPL.out.rn, HPL.out.trows, HPL.out.rrows, by have := HPL.out.tops; omega, by have := HPL.out.rops; omega⟩
    clear hx0 hc2
    go_wp2_with fail
    go_roundg (gk - 1)
    case measure => omega
    case rel => exact ⟨i + 1, z, q, p, U2, B2, t, r, rfl, by go_num, by omega, by omega, LH ⟨HP2.out, HPN.out⟩⟩
   obtain ⟨o1, o2, t1, t2, r1, r2, cb, hrnd⟩ := HRND.out hx0
   have HRD := LH hrnd
   subst hx0
   have CH := LH (own_handle HP2.out.own _ rb HX2.out (by omega) HRD.out.lt.1 HRD.out.lt.2.1 HRD.out.lt.2.2 (by have := HRD.out.hlim; rw [<- HRE.out] at this; exact this))
   have hhand := HRD.out.hand
   rw [<- HRE.out] at hhand
   try dsimp only at hhand
   rw [hhand] at CH
   clear hrnd hhand HRND hc2
   go_wp2_with fail
   refine CH.out.mono ?_
   rintro e w3 ⟨x3, rfl, hx3, hn3, ho3, hk3⟩
   obtain ⟨a3, c3', rfl⟩ := hx3.slice
   try dsimp only at hx3 ho3
   have HP3 := LH (HP2.out.our ho3 hk3).1
   have hUB := HP2.out.ref.lim
   have HX3 := LH hx3
   have HN3 : Hid (∀ x ∈ U2, ∀ k, (Value.slice a3 cb.length c3').ownBlock = some k -> k ≠ x) := LH (fun x hx k hk => by
    have h1 := hUB.1 x (hUB.2.1 x hx)
    have h2 := hn3 k hk
    omega)
   clear hx3 hn3 ho3 hk3 hUB CH HP2 HX2
   obtain ⟨c0, c1, c2, c3, c4, c5⟩ := HD1.out w3 HP3.out.own.chg
   have hin3 := HIQ.out.keep HP3.out.own.chg
   have CR := LH (rstdo_any q2 m U2 B2 r ⟨rk, ⟨xc, xl, xn, xi⟩, b⟩ (.slice ba b.length bc) w3 HP3.out.ref hxo hin3.came.1 (by show b.length <= _; omega) HRD.out.lr.1 HRD.out.lr.2.1 HRD.out.lr.2.2)
   rw [HRD.out.rrun] at CR
   unfold rqV rqL at CR
   try dsimp only at CR
   clear hin3
   go_wp2_with fail
   refine CR.out.mono ?_
   obtain ⟨oe, ob, oi, orm, ow⟩ := o1
   rintro e w4 ⟨x4, rfl, ⟨bf, jf, rfl, hbf, hnf, hjf⟩, hs4⟩
   try dsimp only at hbf hjf hs4 ⊢
   obtain ⟨a4, c4', rfl⟩ := hbf.slice
   obtain ⟨a5, c5', rfl⟩ := row_sliceX hjf
   unfold rpV rpL
   try dsimp only
   obtain ⟨U3, B3, hp4, -, hcU4, hUB⟩ := HP3.out.refd hs4
   have hx4 : BytesAt w4 (.slice a3 cb.length c3') cb := HX3.out.chg hcU4 (fun k hk hm => HN3.out k hm k hk rfl)
   obtain ⟨w5, hw5⟩ : ∃ w5, w5 = w4.alloc (.cells #[.int .i64 oe, .slice a4 ob.length c4', .slice a5 oi.length c5', .int .i64 orm, .bool ow] 54) := ⟨_, rfl⟩
   obtain ⟨hp5, hb5, hc45⟩ := hp4.blk hw5
   have HP5 := LH hp5
   have HC5 := LH hb5
   have HX5 := LH (hx4.chg hc45 (by simp))
   have HW5 := LH hw5
   have HBF := LH (hbf.chg hc45 (by simp))
   have HJF := LH ((IdRow.of hjf).keep hc45)
   obtain ⟨C, hC⟩ : ∃ C, C = w4.heap.size := ⟨_, rfl⟩
   rw [<- hC] at HP5 HC5
   have HCE := LH hC
   have CD := LH (rsvdecr_any _ cb w5 HX5.out (by have := HRD.out.cbl; omega))
   rw [HRD.out.dec] at CD
   clear hbf hnf hjf hs4 hp4 hcU4 hUB hx4 hw5 hp5 hb5 hc45 hC CR HP3 HX3 HN3 c0 c1 c2 c3 c4 c5
   go_upto_region 17 with (fail)
   rw [<- HW5.out, <- HCE.out]
   go_wp2_with fail
   refine CD.out.mono ?_
   rintro e w6 ⟨x6, rfl, ⟨bg, jg, rfl, hbg, hng, hjg⟩, hc6⟩
   try dsimp only at hbg hjg ⊢
   obtain ⟨a6, c6', rfl⟩ := hbg.slice
   obtain ⟨a7, c7', rfl⟩ := row_sliceX hjg
   unfold rpV rpL
   try dsimp only
   obtain ⟨w7, hw7⟩ : ∃ w7, w7 = w6.alloc (.cells #[.int .i64 oe, .slice a6 ob.length c6', .slice a7 oi.length c7', .int .i64 orm, .bool ow] 54) := ⟨_, rfl⟩
   have hc67 : Chg [] w6 w7 := by rw [hw7]; exact (Chg.refl _ _).alloc _
   have hb7 : w7.heap[w6.heap.size]? = some (.cells #[.int .i64 oe, .slice a6 ob.length c6', .slice a7 oi.length c7', .int .i64 orm, .bool ow] 54 (0, 0)) := by rw [hw7]; exact heap_alloc_new w6 _
   have hc57 := hc6.trans hc67 (by simp)
   have HP7 := LH (HP5.out.keep hc57)
   have HC7 := LH (hc57.keep HC5.out (by simp))
   have HD7 := LH hb7
   have HBF7 := LH (HBF.out.chg hc57 (by simp))
   have HJF7 := LH (HJF.out.keep hc57)
   have HBG7 := LH (hbg.chg hc67 (by simp))
   have HJG7 := LH ((IdRow.of hjg).keep hc67)
   have HW7 := LH hw7
   obtain ⟨D, hD⟩ : ∃ D, D = w6.heap.size := ⟨_, rfl⟩
   rw [<- hD] at HD7
   have HDE := LH hD
   have CS := LH (same_any _ _ _ _ _ HBG7.out HBF7.out (by have := HRD.out.ol.1; dsimp only at this; omega) (by have := HRD.out.ol.1; dsimp only at this; omega))
   rw [decide_eq_true rfl] at CS
   clear hbg hng hjg hc6 hw7 hc67 hb7 hc57 hD CD HP5 HC5 HBF HJF HX5
   go_upto_region 18 with (fail)
   rw [<- HW7.out, <- HDE.out]
   obtain ⟨⟨p0, p1, p2, p3, p4⟩, -⟩ := fvf_cells HC7.out
   obtain ⟨⟨d0, d1', d2, d3, d4⟩, -⟩ := fvf_cells HD7.out
   go_wp2_with fail
   refine CS.out.mono ?_
   rintro e w8 ⟨rfl, nn, hq⟩
   have hc78 : Chg [] w7 w8 := by rw [hq]; exact (Chg.refl _ _).drewN nn
   have HP8 := LH (HP7.out.keep hc78)
   have HC8 := LH (hc78.keep HC7.out (by simp))
   have HD8 := LH (hc78.keep HD7.out (by simp))
   have CI := LH (rsameids_any _ _ oi w8 (HJG7.out.keep hc78) (HJF7.out.keep hc78) (by have := HRD.out.ol.2; dsimp only at this; omega))
   clear hq hc78 CS p0 p1 p2 p3 p4 d0 d1' d2 d3 d4 HP7 HC7 HD7 HBF7 HBG7
   obtain ⟨⟨p0, p1, p2, p3, p4⟩, -⟩ := fvf_cells HC8.out
   obtain ⟨⟨d0, d1', d2, d3, d4⟩, -⟩ := fvf_cells HD8.out
   go_wp2_with fail
   refine CI.out.mono ?_
   rintro e w9 ⟨rfl, hc9⟩
   have HP9 := LH (HP8.out.keep hc9)
   have HC9 := LH (hc9.keep HC8.out (by simp))
   have HD9 := LH (hc9.keep HD8.out (by simp))
   clear hc9 CI p0 p1 p2 p3 p4 d0 d1' d2 d3 d4 HP8 HC8 HD8 HJF7 HJG7
   obtain ⟨⟨p0, p1, p2, p3, p4⟩, -⟩ := fvf_cells HC9.out
   obtain ⟨⟨d0, d1', d2, d3, d4⟩, -⟩ := fvf_cells HD9.out
   obtain ⟨c0, c1, c2, c3, c4, c5⟩ := HD1.out w9 HP9.out.own.chg
   have CQ := LH (request20_any ⟨rk, ⟨xc, xl, xn, xi⟩, b⟩ ba b.length bc w9)
   try dsimp only at CQ
   go_wp2_with fail
   refine CQ.out.mono ?_
   rintro e wa ⟨rfl, hca⟩
   have HPa := LH (HP9.out.keep hca)
   have HCa := LH (hca.keep HC9.out (by simp))
   have hina := HIQ.out.keep HPa.out.own.chg
   have CO := LH (own_doC HPa.out.own ⟨rk, ⟨xc, xl, xn, xi⟩, b⟩ (.slice ba b.length bc) hxo hina.came.1 (fun hne k hk => .inl (HIQ.out.came.2 hne k hk)) (by show b.length <= _; omega) HRD.out.lt1.1 HRD.out.lt1.2.1 HRD.out.lt1.2.2)
   rw [HRD.out.trun2] at CO
   unfold rqV rqL at CO
   try dsimp only at CO
   clear hca hina CQ p0 p1 p2 p3 p4 d0 d1' d2 d3 d4 HP9 HC9 HD9
   go_wp2_with fail
   refine CO.out.mono ?_
   obtain ⟨ae, ab, ai, arm, aw⟩ := o2
   rintro e wb ⟨xb, rfl, ⟨bh, jh, rfl, hbh, hnh, hjh⟩, hob, hkb⟩
   try dsimp only at hbh hjh hob ⊢
   obtain ⟨a8, c8', rfl⟩ := hbh.slice
   obtain ⟨a9, c9', rfl⟩ := row_sliceX hjh
   unfold rpV rpL
   try dsimp only
   obtain ⟨hpb, hkZ⟩ := HPa.out.our hob hkb
   have hlB := HPa.out.ref.lim
   obtain ⟨wd, hwd⟩ : ∃ wd, wd = wb.alloc (.cells #[.int .i64 ae, .slice a8 ab.length c8', .slice a9 ai.length c9', .int .i64 arm, .bool aw] 32) := ⟨_, rfl⟩
   obtain ⟨hpd, hbd, hcbd⟩ := hpb.blk hwd
   have HPd := LH hpd
   have HEd := LH hbd
   have HCd := LH (hcbd.keep ((hkZ C (by simp)).trans HCa.out) (by simp))
   have HBd := LH (hbh.chg hcbd (by simp))
   have HJd := LH (row_keep hjh (fun k hk => hcbd.block k (World.ownsRow.lt hjh k hk).2 (by simp)))
   have HNd : Hid ((∀ x ∈ U3, x < wa.heap.size) /\ ∀ k, (Value.slice a8 ab.length c8').ownBlock = some k -> wa.heap.size <= k) := LH ⟨fun x hx => hlB.1 x (hlB.2.1 x hx), hnh⟩
   have HWd := LH hwd
   obtain ⟨E, hE⟩ : ∃ E, E = wb.heap.size := ⟨_, rfl⟩
   rw [<- hE] at HPd HEd
   have HEE := LH hE
   clear hbh hnh hjh hob hkb hpb hkZ hlB hwd hpd hbd hcbd hE CO HPa HCa
   obtain ⟨c0', c1', c2', c3'', c4'', c5''⟩ := HD1.out wd HPd.out.own.chg
   have hind := HIQ.out.keep HPd.out.own.chg
   have CR := LH (rstdo_any q2 m U3 B3 r1 ⟨rk, ⟨xc, xl, xn, xi⟩, b⟩ (.slice ba b.length bc) wd HPd.out.ref hxo hind.came.1 (by show b.length <= _; omega) HRD.out.lr1.1 HRD.out.lr1.2.1 HRD.out.lr1.2.2)
   rw [HRD.out.rrun2] at CR
   unfold rqV rqL at CR
   try dsimp only at CR
   clear hind c0 c1 c2 c3 c4 c5
   go_upto_region 21 with (fail)
   rw [<- HWd.out, <- HEE.out]
   go_wp2_with fail
   refine CR.out.mono ?_
   rintro e we ⟨xe, rfl, ⟨bi, ji, rfl, hbi, hni, hji⟩, hse⟩
   try dsimp only at hbi hji hse ⊢
   obtain ⟨aA, cA, rfl⟩ := hbi.slice
   obtain ⟨aB, cB, rfl⟩ := row_sliceX hji
   unfold rpV rpL
   try dsimp only
   obtain ⟨U4, B4, hpe, hkZ, hcUe, -⟩ := HPd.out.refd hse
   obtain ⟨wf, hwf⟩ : ∃ wf, wf = we.alloc (.cells #[.int .i64 ae, .slice aA ab.length cA, .slice aB ai.length cB, .int .i64 arm, .bool aw] 54) := ⟨_, rfl⟩
   obtain ⟨hpf, hbf, hcef⟩ := hpe.blk hwf
   have HPf := LH hpf
   have HFf := LH hbf
   have HCf := LH (hcef.keep ((hkZ C (by simp)).trans HCd.out) (by simp))
   have HEf := LH (hcef.keep ((hkZ E (by simp)).trans HEd.out) (by simp))
   have HBf := LH ((bytes_out HBd.out hcUe HNd.out.1 HNd.out.2).chg hcef (by simp))
   have HJf := LH ((IdRow.of (row_out HJd.out hcUe HNd.out.1 (Nat.le_refl _))).keep hcef)
   have HBi := LH (hbi.chg hcef (by simp))
   have HJi := LH ((IdRow.of hji).keep hcef)
   have HWf := LH hwf
   obtain ⟨G, hG⟩ : ∃ G, G = we.heap.size := ⟨_, rfl⟩
   rw [<- hG] at HPf HFf
   have HGE := LH hG
   clear hbi hni hji hse hpe hkZ hcUe hwf hpf hbf hcef hG CR HPd HEd HCd HBd HJd HNd c0' c1' c2' c3'' c4'' c5''
   have CSS := LH (same20_any ⟨ae, ab, ai, arm, aw⟩ a8 a9 aA aB c8' c9' cA cB wf HBf.out HBi.out HJf.out HJi.out (by have := HRD.out.ol2.1; dsimp only at this ⊢; omega) (by have := HRD.out.ol2.2; dsimp only at this ⊢; omega))
   try dsimp only at CSS
   go_upto_region 22 with (fail)
   rw [<- HWf.out, <- HGE.out]
   obtain ⟨⟨p0, p1, p2, p3, p4⟩, -⟩ := fvf_cells HEf.out
   obtain ⟨⟨d0, d1', d2, d3, d4⟩, -⟩ := fvf_cells HFf.out
   have HSM := LH HRD.out.same
   try dsimp only at HSM
   go_cut [183] (fun s183 wx => s183 = .bool false /\ Hid (Chg [] wf wx))
   case first =>
    have HC6 := LH (And.intro HCf.out HEf.out)
    by_cases hk1 : rk = 1
    ·have hee := HSM.out (.inl hk1)
     have q1 : (rk == 1) = true := by simp [hk1]
     rw [<- hee] at HC6
     clear hk1 hee
     go_wp2_with fail
     refine CSS.out.mono ?_
     rintro e wg ⟨rfl, hcg⟩
     have HCG := LH hcg
     obtain ⟨c0, -⟩ := HD1.out wg (HPf.out.own.chg.trans hcg (by simp))
     have e0 := blk_cell (hcg.keep HC6.out.1 (by simp)) 0 _ rfl
     have e1 := blk_cell (hcg.keep HC6.out.2 (by simp)) 0 _ rfl
     clear hcg CSS p0 p1 p2 p3 p4 d0 d1' d2 d3 d4
     go_wp2_with fail
     go_meet
     exact ⟨by simp, HCG⟩
    ·have q1 : (rk == 1) = false := by simp [hk1]
     by_cases hk3 : rk = 3
     ·have hee := HSM.out (.inr hk3)
      have q3 : (rk == 3) = true := by simp [hk3]
      rw [<- hee] at HC6
      clear hk1 hk3 hee
      go_wp2_with fail
      refine CSS.out.mono ?_
      rintro e wg ⟨rfl, hcg⟩
      have HCG := LH hcg
      obtain ⟨c0, -⟩ := HD1.out wg (HPf.out.own.chg.trans hcg (by simp))
      have e0 := blk_cell (hcg.keep HC6.out.1 (by simp)) 0 _ rfl
      have e1 := blk_cell (hcg.keep HC6.out.2 (by simp)) 0 _ rfl
      clear hcg CSS p0 p1 p2 p3 p4 d0 d1' d2 d3 d4
      go_wp2_with fail
      go_meet
      exact ⟨by simp, HCG⟩
     ·have q3 : (rk == 3) = false := by simp [hk3]
      clear hk1 hk3
      go_wp2_with fail
      refine CSS.out.mono ?_
      rintro e wg ⟨rfl, hcg⟩
      have HCG := LH hcg
      obtain ⟨c0, -⟩ := HD1.out wg (HPf.out.own.chg.trans hcg (by simp))
      clear hcg CSS p0 p1 p2 p3 p4 d0 d1' d2 d3 d4
      go_wp2_with fail
      go_meet
      exact ⟨by simp, HCG⟩
   case rest =>
   obtain ⟨rfl, HCG⟩ := hcut
   obtain ⟨wg, hwg⟩ : ∃ wg, wg = wc := ⟨_, rfl⟩
   rw [<- hwg] at HCG ⊢
   have HPg : Hid (Pair [] w1 wg z q p q2 m U4 B4 t2 r2) := LH ((HPf.out.keep HCG.out).drop (by simp))
   have HVg := LH (HV.out.chg HPg.out.own.chg)
   clear hwg p0 p1 p2 p3 p4 d0 d1' d2 d3 d4 CSS HSM HPf HFf HCf HEf HBf HJf HBi HJi
   go_upto_region 24 with (fail)
   go_cut [195] (fun s195 wx => ∃ gg, s195 = .bool gg /\ wx = wg)
   case first =>
    by_cases hio : i < ch.length
    ·have hioz : (i : Int) < (ch.length : Int) := by omega
     have hcell : wg.cell? ⟨(oa.getD ⟨0, 0, none⟩).block, (oa.getD ⟨0, 0, none⟩).off + i, none⟩ = some (bv (ch.getD i 0)) /\ ∃ g o, oa = some ⟨g, o, none⟩ := by
      obtain ⟨a', cap', e1, h1, h2, h3⟩ := HVg.out.1
      obtain ⟨rfl, -, -⟩ := Value.slice.inj e1
      rcases h3 with ⟨e2, _⟩ | ⟨g, o, rfl, h3⟩
      ·rw [e2] at hio; simp at hio
      ·exact ⟨h3 i hio, g, o, rfl⟩
     obtain ⟨hcell, gO, oO, rfl⟩ := hcell
     try dsimp only [Option.getD] at hcell
     unfold bv at hcell
     go_wp2_with fail
     go_meet
     exact ⟨_, rfl, rfl⟩
    ·have hioz : ¬ (i : Int) < (ch.length : Int) := by omega
     go_wp2_with fail
     go_meet
     exact ⟨_, rfl, rfl⟩
   case rest =>
   obtain ⟨gg, rfl, hwc2⟩ := hcut
   rw [hwc2]
   clear hwc2
   cases gg
   ·have HN := LH HRD.out.next
    go_wp2_with fail
    go_roundg (gk - 1)
    case measure => omega
    case rel => exact ⟨i + 1, z, q, p, U4, B4, t2, r2, rfl, by go_num, by omega, by omega, LH ⟨HPg.out, HN.out⟩⟩
   ·obtain ⟨t3, hop, hpl3⟩ := HRD.out.crash ch
    have HOP := LH (And.intro hop hpl3)
    have CST := LH (own_store HPg.out.own)
    have CDK := LH (owns_disk HPg.out.own)
    have CCR := LH (owns_crash HPg.out.own _ ch HRD.out.crl.1 HRD.out.crl.2 HVg.out.1 (by omega))
    clear hop hpl3
    go_wp2_with fail
    refine CST.out.mono ?_
    rintro e w' ⟨rfl, hq⟩
    subst hq
    go_wp2_with fail
    refine CDK.out.mono ?_
    rintro e w' ⟨rfl, hq⟩
    subst hq
    go_wp2_with fail
    refine CCR.out.mono ?_
    rintro e wh ⟨p8, S8, rfl, hd8, hS8, hc8⟩
    have hgl := HPg.out.own.gl
    have hz := HPg.out.own.chg.size
    have COP := LH (own_openSG (X := B4 ++ []) (w0 := w1) hd8 (fun x hx => ⟨Nat.le_trans hz (hS8 x hx), fun hm => by have := hgl x hm; have := hS8 x hx; omega⟩) (fun x hx => Nat.lt_of_lt_of_le (hgl x hx) hc8.size) (HPg.out.own.chg.trans hc8 (by simp)) HOP.out.1)
    have HC8 := LH hc8
    clear hd8 hS8 hc8 hgl hz CST CDK CCR
    go_wp2_with fail
    refine COP.out.mono ?_
    rintro e wi ⟨z3, q3, rfl, hoi, hci⟩
    have HPi : Hid (Pair [] w1 wi z3 q3 p8 q2 m U4 B4 t3 r2) := LH ⟨hoi, HPg.out.ref.keep (HC8.out.trans hci (by simp)) (by simp), HPg.out.newB, by simp⟩
    clear hoi hci COP
    go_wp2_with fail
    go_roundg (gk - 1)
    case measure => omega
    case rel => exact ⟨i + 1, z3, q3, p8, U4, B4, t3, r2, rfl, by go_num, by omega, by omega, LH ⟨HPi.out, HOP.out.2⟩⟩
  ·have hiz : ¬ (i : Int) < (n : Int) := by omega
   have HE : Hid (Chg [] w wr) := LH (HC1.out.trans HP.out.own.chg (by simp))
   go_wp2_with fail
   go_ret
   exact ⟨rfl, HE.out⟩
end Go.Proofs.YtdkhmfcfihbjeaaGreatDoor.W
namespace Go.Proofs.YtdkhmfcfihbjeaaGreatDoor.serverPlays
open Go.RowKit
section
open Go.RowKit Go.ChangeShapes Go.WideShapes
theorem walk {H : Type} {enc : TypeId × Value -> H} {held : Bool} {base b0 : Nat} (v0 : Value) (d0 : DataW H) (p0 : List MemPlace) (ha : Option Addr) (hl hc : Nat) (zs : List Int) (X : World) (h0 : Value.okWide Tryz.prog X .any b0 22 v0) (k0 : DataW.Trod enc Tryz.prog X base (fun _ => true) held 22 v0 d0 p0)
  (hz : IsRow .u8 X ha hl hc zs) : Calls Tryz.prog 8 #[v0, .slice ha hl hc] X fun e w' => e = .returned (.bool true) /\ Below X.heap.size X w' := by
 obtain ⟨a, n, cap, rfl⟩ := okWide_slice Tryz.underlying22 h0
 obtain ⟨f, hn, hin⟩ : ∃ f, n <= maxLen /\ Go.Proofs.YtdkhmfcfihbjeaaGreatDoor.W.RqsAt X a n f := by
  obtain ⟨fuel, hf⟩ := k0
  rcases Go.Proofs.YtdkhmfcfihbjeaaGreatDoor.W.open_rqs hf with hcs | ⟨x, l, c, f, hcs, hl, hm, hd⟩
  ·simp [Value.cells] at hcs
   obtain ⟨rfl, rfl, rfl⟩ := hcs
   exact ⟨fun _ => default, by unfold maxLen; omega, .inl rfl⟩
  ·simp [Value.cells] at hcs
   obtain ⟨rfl, rfl, rfl⟩ := hcs
   exact ⟨f, Nat.le_trans hl hm, hd⟩
 obtain ⟨l, hll, _, hv⟩ := Go.Proofs.YtdkhmfcfihbjeaaGreatDoor.W.IsRow.came hz
 exact (Go.Proofs.YtdkhmfcfihbjeaaGreatDoor.W.plays20_any a n cap f _ l X hin hv).mono fun e w' ⟨h1, h2⟩ => ⟨h1, h2.below (by simp)⟩
end
end Go.Proofs.YtdkhmfcfihbjeaaGreatDoor.serverPlays
