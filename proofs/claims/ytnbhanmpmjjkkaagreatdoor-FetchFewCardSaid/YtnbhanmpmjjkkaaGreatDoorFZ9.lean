/- Texts laid together. -/
import Derived.Test.YtnbhanmpmjjkkaaGreatDoorFZ8
import Derived.Deep.CutBlock
import Derived.Deep.DeepCutAuto
import Derived.Test.YtnbhanmpmjjkkaaGreatDoorFZ5
import Derived.Test.YtnbhanmpmjjkkaaGreatDoorFZ1
set_option linter.unusedVariables false
set_option linter.unusedSimpArgs false
set_option maxHeartbeats 64000000
set_option maxRecDepth 100000
namespace Go.Proofs.YtnbhanmpmjjkkaaGreatDoor.W
open Go.RowKit
def NodesPost (s : Sp) (data : List UInt8) (n : Nat) (w : World) : Ending -> World -> Prop := fun e w' => ∃ go co L, e = .returned (.slice (some ⟨go, 0, none⟩) n co) /\ NodesAt [go] w w' s data n go L /\ w.heap.size <= go
theorem NodesAt.base {X : List Nat} {w0 wb w : World} {s : Sp} {data : List UInt8} {n go : Nat} {L : List Sr} (h : NodesAt X wb w s data n go L) (hc : Chg [] w0 wb) : NodesAt X w0 w s data n go L :=
 ⟨⟨h.many.each, fun s' hs' x hx => ⟨(h.many.notb s' hs' x hx).1, Nat.le_trans hc.size (h.many.notb s' hs' x hx).2⟩, fun s' hs' => ⟨Nat.le_trans hc.size (h.many.zs s' hs').1, (h.many.zs s' hs').2⟩, h.many.xl, hc.trans h.many.chg (by simp)⟩, h.len, h.inX, h.cell, h.has⟩
theorem nodes_ok (s : Sp) (data : List UInt8) (v : Value) (n : Nat) (w : World) (hs : s.Ok) (h : BytesAt w v data) (h3 : 3 <= n) (h16 : n <= 16) (hL : 1 <= data.length) (hL2 : data.length <= 400 * (n - 1)) :
  Calls Tryz.prog 11 #[.int .i64 (n : Int), spV s, v] w (NodesPost s data n w) := by
 obtain ⟨va, vc, hv⟩ := h.slice
 have HOK := LH hs
 have HB0 := LH (heap_alloc_new w (.cells (spC s) 26))
 obtain ⟨w1, hww⟩ : ∃ w1, w1 = w.alloc (.cells (spC s) 26) := ⟨_, rfl⟩
 have hc1 : Chg [] w w1 := by rw [hww]; exact (Chg.refl _ _).alloc _
 have CC := LH (rcut_ok s data v n w1 hs (h.chg hc1 (by simp)) h3 h16 hL hL2)
 have HW := LH hww
 rw [<- hww] at HB0
 have hb1 : w1.heap[w.heap.size]? = some (.cells (spC s) 26 (0, 0)) := HB0.out
 have s0 := blk_cell hb1 0 _ rfl
 have s1 := blk_cell hb1 1 _ rfl
 have s2 := blk_cell hb1 2 _ rfl
 have HB := LH hb1
 have HC := LH hc1
 obtain ⟨t0, d0, tF, hfm, hrun, hfr, hft⟩ := fresh_new
 have HFM := LH hfm
 have HRUN := LH hrun
 have HFR := LH hfr
 have HFT := LH hft
 rw [hv] at CC ⊢
 clear h hv hs hww hc1 hb1 hfm hrun hfr hft HB0
 go_enter Tryz.func11, Tryz.ntmps11
 go_wp2_with fail
 rw [<- HW.out]
 refine CC.out.mono ?_
 rintro e w2 ⟨g, cap, R, rfl, hr, hRn, hRf⟩
 have HR := LH (And.intro hRn hRf)
 have HN0 : Hid (N1 w1 w2 g n cap R (.slice none 0 0) 0 []) := LH ⟨Many.nil hr.chg (fun x hx => (hr.xl x (by simpa [Value.ownBlock] using hx)).1), rfl, World.ownsRow_nil _ _ _ _, hr, fun q hq => by simp [Value.ownBlock] at hq, by simp⟩
 clear hr hRn hRf CC s0 s1 s2
 go_wp2_with fail
 go_loopg [7, 10] n (fun g' s7 s10 wr => ∃ (i : Nat) (L : List Sr) (a7 : Option Addr) (l7 c7 : Nat), s7 = .slice a7 l7 c7 /\ s10 = .int .i64 (i : Int) /\ i <= n /\ n <= i + g' /\ Hid (N1 w1 wr g n cap R s7 i L /\ l7 = i))
 case atStart => exact ⟨0, [], none, 0, 0, rfl, rfl, by omega, by omega, LH ⟨HN0.out, rfl⟩⟩
 case round =>
  obtain ⟨i, L, a7, l7, c7, rfl, rfl, hi, hig, HX⟩ := hrel
  clear HN0
  obtain ⟨s7, hs7⟩ : ∃ s7, s7 = Value.slice a7 l7 c7 := ⟨_, rfl⟩
  have HS7 := LH hs7
  rw [<- hs7] at HX
  clear hs7
  by_cases hlt : i < n
  ·have hiz : (i : Int) < (n : Int) := by omega
   have CN := LH (own_newS (Chg.refl [] wr) 33 (by omega) (by omega) HFM.out)
   go_wp2_with fail
   refine CN.out.mono ?_
   rintro e w3 ⟨z, q, p, rfl, ho⟩
   have CD := LH (own_doI ho ⟨6, id0, []⟩ (.slice none 0 0) HRUN.out (may_okD (by decide)) (BytesAt.nil _) (fun hne => absurd rfl hne) (by simp) HFT.out.1 (by have := HFT.out.2.1; omega) (by have := HFT.out.2.2; omega))
   clear ho CN
   go_wp2_with fail
   refine CD.out.mono ?_
   rintro e w4 ⟨a, c, a', c', rfl, -, -, -, ho4, -⟩
   have HO4 := LH ho4
   have HRW : Hid (w4.ownsRow w1.heap.size 54 1 s7 i (ptrL L)) := LH (row_keep HX.out.1.row (fun k hk => ho4.chg.block k (World.ownsRow.lt HX.out.1.row k hk).2 (by simp)))
   have HBS : Hid (w1.heap.size <= w4.heap.size) := LH (Nat.le_trans HX.out.1.rows.chg.size ho4.chg.size)
   have hone : ∀ x ∈ (#[Value.pointer (some ⟨z, 0, none⟩)] : Array Value).toList, x.oneCell' = true := by simp [Value.oneCell']
   have HONE := LH hone
   have hin : i + 1 <= maxLen := by unfold maxLen; omega
   clear ho4 hone CD
   go_wp2_with (at_builtin; refine wpList_app1F rfl (.tmp 35) (.tmp 37) 28 rfl w1.heap.size elSrvs s7 i (ptrL L) (by exact HS7.out.symm) HRW.out 1 #[Value.pointer (some ⟨z, 0, none⟩)] (by rfl) rfl HONE.out hin (by omega) HBS.out ?_; intro g5 c5 w5 ho5 hg5 hat5)
   have HN := LH (HX.out.1.more HO4.out HFR.out ho5 hg5 hat5)
   clear ho5 hg5 hat5
   go_roundg (gk - 1)
   case measure => omega
   case rel =>
    obtain ⟨U, hN⟩ := HN.out
    exact ⟨i + 1, _, _, _, _, rfl, by go_num, by omega, by omega, LH ⟨hN, rfl⟩⟩
  ·have HKN : Hid (i = n) := LH (by omega)
   have hiz : ¬ (i : Int) < (n : Int) := by omega
   have H1 := HX.out.1
   rw [HKN.out] at H1
   obtain ⟨go, co, hgo⟩ : ∃ go co, s7 = .slice (some ⟨go, 0, none⟩) n co := by
    rcases H1.row.2 with ⟨_, e2⟩ | ⟨g', cap', cur, e1, _⟩
    ·omega
    ·exact ⟨g', cap', e1⟩
   rw [hgo] at H1
   have H2 := LH (H1.two s data)
   have hv2 := HS7.out.symm.trans hgo
   injection hv2 with e1 e2 e3
   have e2 := e2.symm
   subst e1
   subst e2
   subst e3
   clear H1 HX hgo HS7
   go_wp2_with fail
   have HCB := LH (heap_alloc_new w (.cells (spC s) 26))
   go_loopg [13] n (fun g' s13 wr => ∃ (i : Nat) (L : List Sr), s13 = .int .i64 (i : Int) /\ i <= n /\ n <= i + g' /\ Hid (N2 w1 wr s data g n cap R go c7 i L))
   case atStart => exact ⟨0, L, rfl, by omega, by omega, H2⟩
   case round =>
    obtain ⟨i, L, rfl, hi, hig, HX⟩ := hrel
    clear H2
    by_cases hlt : i < n
    ·have hiz : (i : Int) < (n : Int) := by omega
     have hiz1 : (i : Int).toNat = i := by omega
     have hpl := place_lt s i (show 0 < n by omega)
     obtain ⟨x, hx⟩ : ∃ x, R[i]? = some x := ⟨R[i]'(by rw [HR.out.1]; exact hlt), List.getElem?_eq_getElem _⟩
     obtain ⟨s', hs'⟩ : ∃ s', L[placeN s i n]? = some s' := ⟨L[placeN s i n]'(by rw [HX.out.len]; exact hpl), List.getElem?_eq_getElem _⟩
     have HXI := LH hx
     have HS' := LH hs'
     have CP := LH (rplace_ok s i n wr.drew HOK.out hlt h3 h16)
     have HCE : Hid (∀ W, Chg [] wr W -> (W.cell? ⟨w.heap.size, 0, none⟩ = some (.int .i64 s.c) /\ W.cell? ⟨w.heap.size, 1, none⟩ = some (.int .i64 s.l) /\ W.cell? ⟨w.heap.size, 2, none⟩ = some (.int .i64 s.n)) /\ W.cell? ⟨go, placeN s i n, none⟩ = some (.pointer (some ⟨s'.z, 0, none⟩)) /\ W.cell? ⟨g, i, none⟩ = some x.1) := LH (fun W hW => by
      have hb := hW.keep (HX.out.many.chg.keep HB.out (by simp)) (by simp)
      obtain ⟨g', cap', hv', hra, hgb⟩ := HX.out.rows.at' (by rw [HR.out.1]; omega) (by rw [HR.out.1]; omega)
      have e1 : g = g' := by injection hv' with e1; simpa using e1
      subst e1
      exact ⟨⟨blk_cell hb 0 _ rfl, blk_cell hb 1 _ rfl, blk_cell hb 2 _ rfl⟩, hW.cell (HX.out.cell hs') (by simp), hW.cell (hra.row i x hx) (by simp)⟩)
     obtain ⟨hxb, -⟩ := HX.out.rows.each x (List.mem_of_getElem? hx)
     obtain ⟨xa, xc, hxv⟩ := hxb.slice
     have hx2 := HR.out.2 i x hx
     have CD := LH (fun (W : World) (hW : Chg [] wr W) => nodes_put (HX.out.keep0 hW) HOK.out h3 h16 hlt hL hL2 hs' hx hx2)
     rw [hxv] at HCE CD
     obtain ⟨cA, cB, cC⟩ := HCE.out wr (Chg.refl _ _)
     have hpz : (placeN s i n : Int) < (n : Int) := by omega
     have hpz1 : (placeN s i n : Int).toNat = placeN s i n := by omega
     generalize placeN s i n = pl at *
     clear hx hs' hxb hxv hx2
     go_wp2_with fail
     refine wp_region_L [(4, fun w' => (w'.cell? ⟨w.heap.size, 0, none⟩ = some (.int .i64 s.c) /\ w'.cell? ⟨w.heap.size, 1, none⟩ = some (.int .i64 s.l) /\ w'.cell? ⟨w.heap.size, 2, none⟩ = some (.int .i64 s.n))), (15, fun w' => w'.cell? ⟨go, pl, none⟩ = some (.pointer (some ⟨s'.z, 0, none⟩))), (15, fun w' => (w'.cell? ⟨w.heap.size, 0, none⟩ = some (.int .i64 s.c) /\ w'.cell? ⟨w.heap.size, 1, none⟩ = some (.int .i64 s.l) /\ w'.cell? ⟨w.heap.size, 2, none⟩ = some (.int .i64 s.n))), (15, fun w' => w'.cell? ⟨g, i, none⟩ = some (.slice xa x.2.length xc))] (by kernel_rfl) ?_ (fun hHeld => ?_)
     ·exact (HoldC.cons (cA) (HoldC.cons (cB) (HoldC.cons (cA) (HoldC.cons (cC) HoldC.nil))))
     refine tk 0 ?_ rfl (by kernel_rfl) (fun _ _ _ h => h) (.inl ⟨by rfl, ?_⟩) hHeld ?_; rotate_left; · (intro w _; go_simp; try with_reducible rfl)
     clear hHeld; intro hHeld; try simp only [gA,gB,gC,Act.put,gD,gE,gF]
     refine ld 0 1 ?_ rfl rfl (by kernel_rfl) (fun _ _ _ h => h) (.inl ⟨by rfl, ?_⟩) hHeld ?_; rotate_left; · (intro w hSw; (try dsimp only at hSw); go_simp; try with_reducible rfl)
     clear hHeld; intro hHeld; try simp only [gA,gB,gC,Act.put,gD,gE,gF]
     refine tk 2 ?_ rfl (by kernel_rfl) (fun _ _ _ h => h) (.inl ⟨by rfl, ?_⟩) hHeld ?_; rotate_left; · (intro w _; go_simp; try with_reducible rfl)
     clear hHeld; intro hHeld; try simp only [gA,gB,gC,Act.put,gD,gE,gF]
     refine tk 3 ?_ rfl (by kernel_rfl) (fun _ _ _ h => h) (.inl ⟨by rfl, ?_⟩) hHeld ?_; rotate_left; · (intro w _; go_simp; try with_reducible rfl)
     clear hHeld; intro hHeld; try simp only [gA,gB,gC,Act.put,gD,gE,gF]
     refine tk 8 ?_ rfl (by kernel_rfl) (fun _ _ _ h => h) (.inl ⟨by rfl, ?_⟩) hHeld ?_; rotate_left; · (intro w _; go_simp; try with_reducible rfl)
     clear hHeld; intro hHeld; try simp only [gA,gB,gC,Act.put,gD,gE,gF]
     refine tk 10 ?_ rfl (by kernel_rfl) (fun _ _ _ h => h) (.inl ⟨by rfl, ?_⟩) hHeld ?_; rotate_left; · (intro w _; go_simp; try with_reducible rfl)
     clear hHeld; intro hHeld; try simp only [gA,gB,gC,Act.put,gD,gE,gF]
     refine tk 11 ?_ rfl (by kernel_rfl) (fun _ _ _ h => h) (.inl ⟨by rfl, ?_⟩) hHeld ?_; rotate_left; · (intro w _; go_simp; try with_reducible rfl)
     clear hHeld; intro hHeld; try simp only [gA,gB,gC,Act.put,gD,gE,gF]
     refine tk 12 ?_ rfl (by kernel_rfl) (fun _ _ _ h => h) (.inl ⟨by rfl, ?_⟩) hHeld ?_; rotate_left; · (intro w _; go_simp; try with_reducible rfl)
     clear hHeld; intro hHeld; try simp only [gA,gB,gC,Act.put,gD,gE,gF]
     refine wpAnyL_loadP 2 [14, 9] (i := 7) (oi := _) (v := ?_) rfl rfl (by kernel_rfl) (by kernel_rfl) (by kernel_rfl) (by kernel_rfl) (by kernel_rfl) (by kernel_rfl) (fun _ _ _ h => h) (Or.inl ⟨by rfl, ?_⟩) (by assumption) (fun hNew => ?_)
     rotate_left
     ·intro w hSw
      (try dsimp only at hSw)
      go_simp
      try with_reducible rfl
     clear hHeld
     have hHeld := hNew
     clear hNew
     try simp only [gA,gB,gC,Act.put,gD,gE,gF]
     refine wpAnyL_loadP 3 [14] (i := 13) (oi := _) (v := ?_) rfl rfl (by kernel_rfl) (by kernel_rfl) (by kernel_rfl) (by kernel_rfl) (by kernel_rfl) (by kernel_rfl) (fun _ _ _ h => h) (Or.inl ⟨by rfl, ?_⟩) (by assumption) (fun hNew => ?_)
     rotate_left
     ·intro w hSw
      (try dsimp only at hSw)
      go_simp
      try with_reducible rfl
     clear hHeld
     have hHeld := hNew
     clear hNew
     try simp only [gA,gB,gC,Act.put,gD,gE,gF]
     refine tk 9 ?_ rfl (by kernel_rfl) (fun _ _ _ h => h) (.inl ⟨by rfl, ?_⟩) hHeld ?_; rotate_left; · (intro w _; go_simp; try with_reducible rfl)
     clear hHeld; intro hHeld; try simp only [gA,gB,gC,Act.put,gD,gE,gF]
     refine tk 14 ?_ rfl (by kernel_rfl) (fun _ _ _ h => h) (.inl ⟨by rfl, ?_⟩) hHeld ?_; rotate_left; · (intro w _; go_simp; try with_reducible rfl)
     clear hHeld; intro hHeld; try simp only [gA,gB,gC,Act.put,gD,gE,gF]
     refine wpAnyL_ready (rs := [4]) (by kernel_rfl) (by simp) (AllReadyL.cons (o := _) rfl (fun K hK => ?_) AllReadyL.nil)
     try simp only [gA,gB,gC]
     go_simp
     refine CP.out.mono ?_
     rintro e w5 ⟨rfl, hc5⟩
     have hc45 : Chg [] wr w5 := ((Chg.refl [] wr).drew).trans hc5 (by simp)
     obtain ⟨dA, dB, dC⟩ := HCE.out w5 hc45
     have CD5 := LH (CD.out w5 hc45)
     clear hc5 hc45 cA cB cC
     clear hHeld
     refine hK.out _ _ ?_ (fun hHeld => ?_)
     ·exact (HoldC.past (by kernel_rfl) (HoldC.cons (dB) (HoldC.cons (dA) (HoldC.cons (dC) HoldC.nil))))
     clear hK K
     try simp only [gA,gB,gC,Act.put,gD,gE,gF]
     refine tk 5 ?_ rfl (by kernel_rfl) (fun _ _ _ h => h) (.inl ⟨by rfl, ?_⟩) hHeld ?_; rotate_left; · (intro w _; go_simp; try with_reducible rfl)
     clear hHeld; intro hHeld; try simp only [gA,gB,gC,Act.put,gD,gE,gF]
     refine wpAnyL_loadP 1 [] (i := 6) (oi := _) (v := ?_) rfl rfl (by kernel_rfl) (by kernel_rfl) (by kernel_rfl) (by kernel_rfl) (by kernel_rfl) (by kernel_rfl) (fun _ _ _ h => h) (Or.inl ⟨by rfl, ?_⟩) (by assumption) (fun hNew => ?_)
     rotate_left
     ·intro w hSw
      (try dsimp only at hSw)
      go_simp
      try with_reducible rfl
     clear hHeld
     have hHeld := hNew
     clear hNew
     try simp only [gA,gB,gC,Act.put,gD,gE,gF]
     refine wpAnyL_ready (rs := [15]) (by kernel_rfl) (by simp) (AllReadyL.cons (o := _) rfl (fun K hK => ?_) AllReadyL.nil)
     try simp only [gA,gB,gC]
     go_simp
     refine CD5.out.mono ?_
     rintro e w6 ⟨⟨v6, rfl⟩, L', h'⟩
     have HN := LH h'
     clear h' CD5 dA dB dC
     clear hHeld
     refine hK.out _ _ ?_ (fun hHeld => ?_)
     ·exact (HoldC.past (by kernel_rfl) (HoldC.past (by kernel_rfl) (HoldC.past (by kernel_rfl) (HoldC.past (by kernel_rfl) HoldC.nil))))
     clear hK K
     try simp only [gA,gB,gC,Act.put,gD,gE,gF]
     refine wpAnyL_done (by kernel_rfl) ?_ _
     clear hHeld
     go_wp2_with fail
     go_roundg (gk - 1)
     case measure => omega
     case rel => exact ⟨i + 1, L', by go_num, by omega, by omega, HN⟩
    ·have HKN : Hid (i = n) := LH (by omega)
     have hiz : ¬ (i : Int) < (n : Int) := by omega
     go_wp2
     go_ret
     have h2 := HX.out
     rw [HKN.out] at h2
     exact ⟨go, c7, L, rfl, h2.ends.base HC.out, by have h3 := (World.ownsRow.lt h2.row go rfl).1; have h4 := HC.out.size; omega⟩
section
open Go.RowKit Go.Shelf
theorem count_setN (l : List Nat) (i v c : Nat) (hi : i < l.length) : (l.set i v).count c = l.count c - (if l.getD i 0 = c then 1 else 0) + (if v = c then 1 else 0) := by
 rw [List.count_set hi]
 simp [List.getD_eq_getElem?_getD, hi]
theorem count_pos_of {l : List Nat} {i c : Nat} (hi : i < l.length) (h : l.getD i 0 = c) : 1 <= l.count c := by
 refine List.count_pos_iff.2 ?_
 rw [<- h]
 simp [List.getD_eq_getElem?_getD, hi]
theorem not_of_count {l : List Nat} {c i : Nat} (h : l.count c = 0) (hi : i < l.length) : l.getD i 0 ≠ c := fun e => by
 have := count_pos_of hi e; omega
theorem two_of_count {l : List Nat} {c : Nat} (h : l.count c <= 1) {i j : Nat} (hi : i < l.length) (hj : j < l.length) (h1 : l.getD i 0 = c) (h2 : l.getD j 0 = c) : i = j := by
 induction l generalizing i j with
 | nil => simp at hi
 | cons a l ih =>
  rw [List.count_cons] at h
  cases i with
  | zero =>
   cases j with
   | zero => rfl
   | succ j =>
    have h1' : a = c := by simpa using h1
    have h2' := count_pos_of (l := l) (i := j) (by simpa using hj) (by simpa using h2)
    rw [if_pos (by simp [h1'])] at h
    omega
  | succ i =>
   cases j with
   | zero =>
    have h1' : a = c := by simpa using h2
    have h2' := count_pos_of (l := l) (i := i) (by simpa using hi) (by simpa using h1)
    rw [if_pos (by simp [h1'])] at h
    omega
   | succ j =>
    have := ih (by omega) (i := i) (j := j) (by simpa using hi) (by simpa using hj) (by simpa using h1) (by simpa using h2)
    omega
theorem ex_of_count {l : List Nat} {c : Nat} (h : 1 <= l.count c) : ∃ i, i < l.length /\ l.getD i 0 = c := by
 have := List.count_pos_iff.1 (show 0 < l.count c by omega)
 obtain ⟨i, hi⟩ := List.mem_iff_getElem?.1 this
 exact ⟨i, (List.getElem?_eq_some_iff.1 hi).1, by simp [List.getD_eq_getElem?_getD, hi]⟩
theorem mem_unask {known : List Nat} {a b i : Nat} : i ∈ unask known a b ↔ i < b /\ a <= i /\ known.getD i 0 = 0 := by
 unfold unask
 rw [List.mem_filter, List.mem_range, decide_eq_true_eq]
structure FInv (E : Env) (f : FS) : Prop where
 len : f.known.length = E.n
 k3 : ∀ i, f.known.getD i 0 <= 2
 c2 : f.known.count 2 <= 1
 fit : 1 <= f.len ∨ f.whole = true
 win : 1 ∈ f.known -> f.Within E.data.length
 calm : f.known.count 2 = 0 -> ∀ i, f.known.getD i 0 ≠ 0 -> i = 0 ∨ (f.lo E.data.length E.n <= i /\ i <= f.hi E.data.length E.n)
variable {E : Env} {f : FS}
theorem FInv.lohi (h : FInv E f) (hE : E.Ok) (h1 : 1 ∈ f.known) : f.lo E.data.length E.n <= f.hi E.data.length E.n /\ f.hi E.data.length E.n < E.n - 1 := by
 refine ⟨?_, FS.hi_lt (h.win h1) hE.l1 hE.n3⟩
 unfold FS.lo FS.hi
 have := hE.n3
 split
 ·omega
 ·refine Nat.div_le_div_right ?_
  rcases h.fit with h2 | h2
  ·omega
  ·rename_i h3; rw [h2] at h3; simp at h3
theorem FInv.ready (h : FInv E f) (hE : E.Ok) (hw : f.want E.data.length E.n = []) : f.Ready E := by
 have hn3 := hE.n3
 have hno : ∀ i, f.wlo E.data.length E.n <= i -> i <= f.whi E.data.length E.n -> f.known.getD i 0 ≠ 0 := fun i h1 h2 h3 => by
  have : i ∈ f.want E.data.length E.n := mem_unask.2 ⟨by omega, h1, h3⟩
  rw [hw] at this; cases this
 -- one has come
 have h1 : 1 ∈ f.known := by
  refine Classical.byContradiction fun hn => ?_
  have e1 : f.wlo E.data.length E.n = 0 := by unfold FS.wlo; rw [if_neg (fun e => hn e.1)]
  have e2 : f.whi E.data.length E.n = E.n - 1 := by unfold FS.whi; rw [if_neg (fun e => hn e.1)]
  rw [e1, e2] at hno
  have hall : ∀ i, i < E.n -> f.known.getD i 0 = 2 := fun i hi => by
   have a1 := hno i (by omega) (by omega)
   have a2 := h.k3 i
   have a3 : f.known.getD i 0 ≠ 1 := fun e => hn (by
    rw [<- e]
    have : i < f.known.length := by rw [h.len]; exact hi
    simp [List.getD_eq_getElem?_getD, this])
   omega
  have := two_of_count h.c2 (i := 0) (j := 1) (by rw [h.len]; omega) (by rw [h.len]; omega) (hall 0 (by omega)) (hall 1 (by omega))
  omega
 obtain ⟨hlo, hhi⟩ := h.lohi hE h1
 -- with one missing all has been asked for
 have hmiss : 0 < f.known.count 2 -> ∃ k, k < E.n /\ f.known.getD k 0 = 2 /\ ∀ i, i < E.n -> (f.known.getD i 0 = 1 ↔ i ≠ k) := fun hc => by
  have e1 : f.wlo E.data.length E.n = 0 := by unfold FS.wlo; rw [if_neg (fun e => by omega)]
  have e2 : f.whi E.data.length E.n = E.n - 1 := by unfold FS.whi; rw [if_neg (fun e => by omega)]
  rw [e1, e2] at hno
  obtain ⟨k, hk, hk2⟩ := ex_of_count (show 1 <= f.known.count 2 by omega)
  rw [h.len] at hk
  refine ⟨k, hk, hk2, fun i hi => ⟨fun e1 e2 => (by rw [e2, hk2] at e1; cases e1), fun hik => ?_⟩⟩
  have a1 := hno i (by omega) (by omega)
  have a2 := h.k3 i
  have a3 : f.known.getD i 0 ≠ 2 := fun e => hik (two_of_count h.c2 (by rw [h.len]; exact hi) (by rw [h.len]; exact hk) e hk2)
  omega
 have hcalm : f.known.count 2 = 0 -> ∀ i, f.lo E.data.length E.n <= i -> i <= f.hi E.data.length E.n -> f.known.getD i 0 = 1 := fun hc i hi1 hi2 => by
  have e1 : f.wlo E.data.length E.n = f.lo E.data.length E.n := by unfold FS.wlo; rw [if_pos ⟨h1, hc⟩]
  have e2 : f.whi E.data.length E.n = f.hi E.data.length E.n := by unfold FS.whi; rw [if_pos ⟨h1, hc⟩]
  rw [e1, e2] at hno
  have a1 := hno i hi1 hi2
  have a2 := h.k3 i
  have a3 := not_of_count hc (i := i) (by rw [h.len]; omega)
  omega
 refine ⟨h.win h1, fun hone => ?_, fun hall i hi1 hi2 => ?_⟩
 ·by_cases hc : f.known.count 2 = 0
  ·have hwh : f.whole = true := by
    rcases hone with h2 | ⟨h2, _⟩
    ·exact h2
    ·omega
   have hlo0 : f.lo E.data.length E.n = 0 := by unfold FS.lo; rw [if_pos hwh]
   have hhin : f.hi E.data.length E.n = E.n - 2 := by unfold FS.hi; rw [if_pos hwh]
   refine ⟨E.n - 1, by omega, fun i hi => ⟨fun e1 e2 => ?_, fun hik => hcalm hc i (by omega) (by omega)⟩⟩
   rcases h.calm hc i (by omega) with h3 | h3 <;> omega
  ·obtain ⟨k, hk, _, hk2⟩ := hmiss (by omega)
   exact ⟨k, hk, hk2⟩
 ·have hin : i < E.n := by clear hall hmiss hcalm; omega
  by_cases hc : f.known.count 2 = 0
  ·exact hcalm hc i hi1 hi2
  ·obtain ⟨k, hk, hk1, hk2⟩ := hmiss (Nat.pos_of_ne_zero hc)
   refine (hk2 i hin).2 (fun e => hall (.inr ⟨Nat.pos_of_ne_zero hc, i, hi1, hi2, by rw [e]; exact hk1⟩))
theorem FInv.able (h : FInv E f) (hE : E.Ok) : f.Able E := ⟨h.win, h.ready hE⟩
theorem FInv.first (h : FInv E f) (hE : E.Ok) {i : Nat} {l : List Nat} (hw : f.want E.data.length E.n = i :: l) : i < E.n /\ f.known.getD i 0 = 0 /\ (f.known.count 2 = 0 -> i = 0 ∨ (f.lo E.data.length E.n <= i /\ i <= f.hi E.data.length E.n)) := by
 have hn3 := hE.n3
 have hi : i ∈ f.want E.data.length E.n := by rw [hw]; simp
 obtain ⟨h1, h2, h3⟩ := mem_unask.1 hi
 refine ⟨?_, h3, fun hc => ?_⟩
 ·unfold FS.whi at h1
  split at h1
  ·rename_i h4
   have := (h.lohi hE h4.1).2
   omega
  ·omega
 ·by_cases h4 : 1 ∈ f.known
  ·right
   have e1 : f.wlo E.data.length E.n = f.lo E.data.length E.n := by unfold FS.wlo; rw [if_pos ⟨h4, hc⟩]
   have e2 : f.whi E.data.length E.n = f.hi E.data.length E.n := by unfold FS.whi; rw [if_pos ⟨h4, hc⟩]
   omega
  ·left
   have e1 : f.wlo E.data.length E.n = 0 := by unfold FS.wlo; rw [if_neg (fun e => h4 e.1)]
   have e2 : f.whi E.data.length E.n = E.n - 1 := by unfold FS.whi; rw [if_neg (fun e => h4 e.1)]
   have h0 : f.known.getD 0 0 = 0 := by
    have a2 := h.k3 0
    have a3 : f.known.getD 0 0 ≠ 1 := fun e => h4 (by
     rw [<- e]
     have : 0 < f.known.length := by rw [h.len]; omega
     simp [List.getD_eq_getElem?_getD, this])
    have a4 := not_of_count hc (i := 0) (by rw [h.len]; omega)
    omega
   have e3 : f.want E.data.length E.n = 0 :: (((List.range (E.n - 1)).map (· + 1)).filter (fun i => decide (0 <= i /\ f.known.getD i 0 = 0))) := by
    unfold FS.want unask
    rw [e1, e2, List.range_succ_eq_map, List.filter_cons_of_pos (by rw [decide_eq_true_eq]; exact ⟨Nat.le_refl _, h0⟩)]
   rw [e3] at hw
   exact (List.cons.inj hw).1.symm
theorem FInv.miss (h : FInv E f) (hE : E.Ok) {i : Nat} {l : List Nat} (hw : f.want E.data.length E.n = i :: l) (hc : ¬ 1 < (f.miss i).known.count 2) : FInv E (f.miss i) := by
 obtain ⟨hi, h0, _⟩ := h.first hE hw
 have hil : i < f.known.length := by rw [h.len]; exact hi
 refine ⟨by show (f.known.set i 2).length = _; rw [List.length_set]; exact h.len, fun j => ?_, by omega, h.fit, fun h1 => ?_, fun hcc => ?_⟩
 ·show (f.known.set i 2).getD j 0 <= 2
  rw [getD_setN _ _ _ _ hil]
  split
  ·omega
  ·exact h.k3 j
 ·have h2 := (mem_miss hil h0).1 h1
  exact ⟨h1, (h.win h2).2⟩
 ·exfalso
  have h3 : (f.known.set i 2).count 2 = 0 := hcc
  rw [count_setN _ _ _ _ hil] at h3
  simp at h3
theorem FInv.had (h : FInv E f) (hE : E.Ok) {i : Nat} {l : List Nat} (hw : f.want E.data.length E.n = i :: l) (hb : ¬ (f.whole = false /\ E.data.length < f.at' + f.len)) : FInv E (f.had i) := by
 obtain ⟨hi, h0, hcal⟩ := h.first hE hw
 have hil : i < f.known.length := by rw [h.len]; exact hi
 have hcount : (f.known.set i 1).count 2 = f.known.count 2 := by rw [count_setN _ _ _ _ hil, h0]; simp
 have hmem : 1 ∈ f.known.set i 1 := List.mem_iff_getElem?.2 ⟨i, by simp [hil]⟩
 refine ⟨by show (f.known.set i 1).length = _; rw [List.length_set]; exact h.len, fun j => ?_, by show (f.known.set i 1).count 2 <= 1; rw [hcount]; exact h.c2, h.fit, fun _ => ⟨hmem, ?_⟩, fun hcc j hj => ?_⟩
 ·show (f.known.set i 1).getD j 0 <= 2
  rw [getD_setN _ _ _ _ hil]
  split
  ·omega
  ·exact h.k3 j
 ·show f.whole = true ∨ (1 <= f.len /\ f.at' + f.len <= E.data.length)
  by_cases hwh : f.whole = true
  ·exact .inl hwh
  ·right
   rcases h.fit with h2 | h2
   ·exact ⟨h2, Nat.le_of_not_lt (fun e => hb ⟨by simpa using hwh, e⟩)⟩
   ·exact absurd h2 hwh
 ·have hc0 : f.known.count 2 = 0 := by rw [<- hcount]; exact hcc
  have hj' : (f.known.set i 1).getD j 0 ≠ 0 := hj
  rw [getD_setN _ _ _ _ hil] at hj'
  show j = 0 ∨ (f.lo E.data.length E.n <= j /\ j <= f.hi E.data.length E.n)
  by_cases hji : j = i
  ·rw [hji]; exact hcal hc0
  ·rw [if_neg hji] at hj'
   exact h.calm hc0 j hj'
def badK (k : UInt8) : Prop := k = 0 ∨ k = 2 ∨ k = 4
structure Going (E : Env) (kd : Nat -> UInt8) (f : FS) : Prop where
 inv : FInv E f
 kn : ∀ i, f.known.getD i 0 = 2 -> badK (kd (placeN E.s i E.n))
 nd : f.done = false
 na : f.asked = -1
 wn : ∃ i l, f.want E.data.length E.n = i :: l
structure Ended (E : Env) (kd : Nat -> UInt8) (f : FS) : Prop where
 d : f.done = true
 out : (f.e = 0 /\ f.out = f.aim E.data /\ (f.whole = true ∨ f.at' + f.len <= E.data.length)) ∨
  (f.e = 15 /\ f.out = [] /\ ∃ i j, i < E.n /\ j < E.n /\ i ≠ j /\ badK (kd (placeN E.s i E.n)) /\ badK (kd (placeN E.s j E.n))) ∨
  (f.e = 6 /\ f.out = [] /\ ∃ i, i < E.n /\ kd (placeN E.s i E.n) = 3) ∨
  (f.e = 4 /\ f.out = [] /\ f.whole = false /\ E.data.length < f.at' + f.len)
def Same3 (f f' : FS) : Prop := f'.at' = f.at' /\ f'.len = f.len /\ f'.whole = f.whole
def Stepped (E : Env) (kd : Nat -> UInt8) (f f' : FS) : Prop := Same3 f f' /\ (Ended E kd f' ∨ Going E kd f') /\ f'.known.count 0 + 1 = f.known.count 0
variable {kd : Nat -> UInt8}
theorem settled_step {g : FS} (hg : FInv E g) (hE : E.Ok) (hk : ∀ i, g.known.getD i 0 = 2 -> badK (kd (placeN E.s i E.n))) (hd : g.done = false) (ha : g.asked = -1) : Same3 g (g.settled E) /\ (Ended E kd (g.settled E) ∨ Going E kd (g.settled E)) /\ (g.settled E).known = g.known := by
 unfold FS.settled
 cases hw : g.want E.data.length E.n with
 | cons i l => exact ⟨⟨rfl, rfl, rfl⟩, .inr ⟨hg, hk, hd, ha, i, l, hw⟩, rfl⟩
 | nil =>
  refine ⟨⟨rfl, rfl, rfl⟩, .inl ⟨rfl, .inl ⟨rfl, rfl, ?_⟩⟩, rfl⟩
  have := (hg.ready hE hw).within.2
  rcases this with h1 | h1
  ·exact .inl h1
  ·exact .inr h1.2
theorem Going.bad (h : Going E kd f) (hE : E.Ok) {i : Nat} {l : List Nat} (hw : f.want E.data.length E.n = i :: l) (hb : badK (kd (placeN E.s i E.n))) : Stepped E kd f (f.bad E i) := by
 obtain ⟨hi, h0, _⟩ := h.inv.first hE hw
 have hil : i < f.known.length := by rw [h.inv.len]; exact hi
 have hc0 : (f.known.set i 2).count 0 + 1 = f.known.count 0 := by
  have := count_pos_of hil h0
  rw [count_setN _ _ _ _ hil, h0]
  simp
  omega
 have hkn : ∀ j, (f.known.set i 2).getD j 0 = 2 -> badK (kd (placeN E.s j E.n)) := fun j hj => by
  rw [getD_setN _ _ _ _ hil] at hj
  by_cases hji : j = i
  ·rw [hji]; exact hb
  ·rw [if_neg hji] at hj; exact h.kn j hj
 unfold FS.bad
 split
 ·rename_i hc
  refine ⟨⟨rfl, rfl, rfl⟩, .inl ⟨rfl, .inr (.inl ⟨rfl, rfl, ?_⟩)⟩, hc0⟩
  have hc' : 1 < (f.known.set i 2).count 2 := hc
  rw [count_setN _ _ _ _ hil, h0] at hc'
  rw [if_neg (by omega), if_pos rfl] at hc'
  obtain ⟨j, hj, hj2⟩ := ex_of_count (show 1 <= f.known.count 2 by omega)
  rw [h.inv.len] at hj
  exact ⟨j, i, hj, hi, fun e => (by rw [e, h0] at hj2; cases hj2), h.kn j hj2, hb⟩
 ·rename_i hc
  obtain ⟨s1, s2, s3⟩ := settled_step (g := f.miss i) (h.inv.miss hE hw hc) hE hkn h.nd rfl
  exact ⟨s1, s2, by rw [s3]; exact hc0⟩
theorem Going.good (h : Going E kd f) (hE : E.Ok) {i : Nat} {l : List Nat} (hw : f.want E.data.length E.n = i :: l) : Stepped E kd f (f.good E i) := by
 obtain ⟨hi, h0, _⟩ := h.inv.first hE hw
 have hil : i < f.known.length := by rw [h.inv.len]; exact hi
 have hc0 : (f.known.set i 1).count 0 + 1 = f.known.count 0 := by
  have := count_pos_of hil h0
  rw [count_setN _ _ _ _ hil, h0]
  simp
  omega
 have hkn : ∀ j, (f.known.set i 1).getD j 0 = 2 -> badK (kd (placeN E.s j E.n)) := fun j hj => by
  rw [getD_setN _ _ _ _ hil] at hj
  by_cases hji : j = i
  ·rw [if_pos hji] at hj; cases hj
  ·rw [if_neg hji] at hj; exact h.kn j hj
 unfold FS.good
 split
 ·rename_i hc
  exact ⟨⟨rfl, rfl, rfl⟩, .inl ⟨rfl, .inr (.inr (.inr ⟨rfl, rfl, hc.1, hc.2⟩))⟩, hc0⟩
 ·rename_i hc
  obtain ⟨s1, s2, s3⟩ := settled_step (g := f.had i) (h.inv.had hE hw hc) hE hkn h.nd rfl
  exact ⟨s1, s2, by rw [s3]; exact hc0⟩
theorem Going.none3 (h : Going E kd f) (hE : E.Ok) {i : Nat} {l : List Nat} (hw : f.want E.data.length E.n = i :: l) (hb : kd (placeN E.s i E.n) = 3) : Ended E kd (FS.ends { f with asked := -1 } [] 6) /\ Same3 f (FS.ends { f with asked := -1 } [] 6) :=
 ⟨⟨rfl, .inr (.inr (.inl ⟨rfl, rfl, i, (h.inv.first hE hw).1, hb⟩))⟩, rfl, rfl, rfl⟩
theorem Going.fresh (hE : E.Ok) (at' len : Nat) (whole : Bool) (hf : 1 <= len ∨ whole = true) : Going E kd (FS.fresh E.n at' len whole) := by
 have hn3 := hE.n3
 have hz : ∀ i, (FS.fresh E.n at' len whole).known.getD i 0 = 0 := fun i => by
  show (List.replicate E.n 0).getD i 0 = 0
  simp only [List.getD_eq_getElem?_getD, List.getElem?_replicate]
  split <;> rfl
 have h1 : 1 ∉ (FS.fresh E.n at' len whole).known := one_not_zero E.n
 have h2 : (FS.fresh E.n at' len whole).known.count 2 = 0 := by
  show (List.replicate E.n 0).count 2 = 0
  rw [List.count_replicate]; rfl
 refine ⟨⟨by show (List.replicate E.n 0).length = _; simp, fun i => by rw [hz]; omega, by omega, hf, fun e => absurd e h1, fun _ i hi => absurd (hz i) hi⟩, fun i hi => (by rw [hz] at hi; cases hi), rfl, rfl, ?_⟩
 have : 0 ∈ (FS.fresh E.n at' len whole).want E.data.length E.n := mem_unask.2 ⟨by omega, by unfold FS.wlo; rw [if_neg (fun e => h1 e.1)]; omega, hz 0⟩
 cases hw : (FS.fresh E.n at' len whole).want E.data.length E.n with
 | nil => rw [hw] at this; cases this
 | cons i l => exact ⟨i, l, rfl⟩
end
def GotP (s : Sp) (data : List UInt8) (n i : Nat) (w : World) (e : Ending) (w' : World) : Prop := ∃ a c a' c', e = .returned (.tuple #[.agg #[.int .i64 0, .slice a (fragN s data n i).length c, .slice a' 0 c', .int .i64 0, .bool false], .int .i64 0]) /\
 BytesAt w' (.slice a (fragN s data n i).length c) (fragN s data n i) /\ (∀ k, (Value.slice a (fragN s data n i).length c).ownBlock = some k -> w.heap.size <= k) /\ Chg [] w w'
theorem NodesAt.got {X : List Nat} {wb w : World} {s : Sp} {data : List UInt8} {n go : Nat} {L : List Sr} (h : NodesAt X wb w s data n go L) (hs : s.Ok) (h16 : n <= 16) {i : Nat} (hi : i < n) : ∃ s' : Sr, (∀ w', Chg [] w w' -> w'.cell? ⟨go, placeN s i n, none⟩ = some (.pointer (some ⟨s'.z, 0, none⟩))) /\
  ∀ w', Chg [] w w' -> Calls Tryz.prog 17 #[.pointer (some ⟨s'.z, 0, none⟩), getV s i] w' (GotP s data n i w') := by
 obtain ⟨s', hs', hh⟩ := h.has i hi
 refine ⟨s', fun w' hc => hc.cell (h.cell _ s' hs') (by simp), fun w' hc => ?_⟩
 obtain ⟨G, hsv, _⟩ := (h.many.keep0 hc).each _ s' hs'
 obtain ⟨hmay, hok⟩ := idF_may hs (show i < 16 by omega)
 obtain ⟨hrun, h1, h2, h3⟩ := hh.get hmay
 refine (svdo2_any ⟨2, idF s i, []⟩ (.slice none 0 0) w' hsv rfl hok (BytesAt.nil _) (fun hne => absurd rfl hne) (by simp) h1 (by omega) (by omega)).mono ?_
 rw [hrun]
 rintro e w2 ⟨⟨v, rfl, ⟨bv', iv', rfl, hb', hn', hi'⟩, _⟩, hc2⟩
 obtain ⟨a, c, rfl⟩ := hb'.slice
 obtain ⟨a', c', rfl⟩ : ∃ a c, iv' = .slice a 0 c := by
  rcases hi'.2 with ⟨h1, h2⟩ | ⟨g, cap, cur, h1, _⟩
  ·exact ⟨none, 0, h1⟩
  ·exact ⟨_, cap, h1⟩
 exact ⟨a, c, a', c', rfl, hb', hn', hc2⟩
theorem FtAt.notB {E : Env} {w : World} {f : FS} (h : FtAt E w f) : ∀ x ∈ E.T, NotB w x := fun x hx => by
 obtain ⟨F, T, ov, xs, h⟩ := h
 simp at hx
 rcases hx with rfl | rfl | rfl | rfl
 ·exact NotB.of h.head (by decide)
 ·exact NotB.of h.kn (by decide)
 ·exact NotB.of h.fr (by decide)
 ·exact NotB.of h.rs (by decide)
structure RunAt (E : Env) (X : List Nat) (wb w : World) (go : Nat) (L : List Sr) (hv : Value) (K : List UInt8) (f : FS) : Prop where
 ft : FtAt E w f
 nodes : NodesAt X wb w E.s E.data E.n go L
 tx : ∀ x ∈ E.T, x ∈ X /\ wb.heap.size <= x
 goT : go ∉ E.T
 how : BytesAt w hv K
 howT : K ≠ [] -> ∀ q, hv.ownBlock = some q -> q ∉ E.T
section
variable {E : Env} {X : List Nat} {wb w w' : World} {go : Nat} {L : List Sr} {hv : Value} {K : List UInt8} {f f' : FS}
theorem RunAt.keep0 (h : RunAt E X wb w go L hv K f) (hc : Chg [] w w') : RunAt E X wb w' go L hv K f :=
 ⟨h.ft.keep hc, h.nodes.keep0 hc, h.tx, h.goT, h.how.chg hc (by simp), h.howT⟩
theorem RunAt.step (h : RunAt E X wb w go L hv K f) (hc : Chg E.T w w') (hf : FtAt E w' f') : RunAt E X wb w' go L hv K f' :=
 ⟨hf, h.nodes.wrote hc (fun x hx => ⟨(h.tx x hx).1, h.ft.notB x hx, (h.tx x hx).2⟩) h.goT (fun x hx => ⟨.inl hx, Nat.lt_of_lt_of_le (h.nodes.many.xl x hx) hc.size⟩) h.nodes.inX, h.tx, h.goT, h.how.chgW hc h.howT, h.howT⟩
def kindAt (K : List UInt8) (j : Nat) : UInt8 := if j < K.length then K.getD j 0 else 1
def RunSt (E : Env) (kd : Nat -> UInt8) (f0 f : FS) (k : Nat) : Prop := Same3 f0 f /\ k <= E.n /\ ((Ended E kd f /\ 1 <= k) ∨ (Going E kd f /\ f.known.count 0 + k = E.n))
theorem Same3.trans {a b c : FS} (h1 : Same3 a b) (h2 : Same3 b c) : Same3 a c := ⟨h2.1.trans h1.1, h2.2.1.trans h1.2.1, h2.2.2.trans h1.2.2⟩
theorem Going.left {kd : Nat -> UInt8} (h : Going E kd f) (hE : E.Ok) : 1 <= f.known.count 0 := by
 obtain ⟨i, l, hw⟩ := h.wn
 obtain ⟨hi, h0, _⟩ := h.inv.first hE hw
 exact count_pos_of (by rw [h.inv.len]; exact hi) h0
theorem RunSt.next {kd : Nat -> UInt8} {f0 : FS} {k : Nat} (hs : Same3 f0 f) (hg : Going E kd f) (hc : f.known.count 0 + k = E.n) (h : Stepped E kd f f') (hE : E.Ok) : RunSt E kd f0 f' (k + 1) := by
 have h1 := hg.left hE
 obtain ⟨a, b, c⟩ := h
 refine ⟨hs.trans a, by omega, ?_⟩
 rcases b with b | b
 ·exact .inl ⟨b, by omega⟩
 ·exact .inr ⟨b, by omega⟩
theorem RunSt.end3 {kd : Nat -> UInt8} {f0 : FS} {k : Nat} (hs : Same3 f0 f) (hg : Going E kd f) (hc : f.known.count 0 + k = E.n) (h : Ended E kd f' /\ Same3 f f') (hE : E.Ok) : RunSt E kd f0 f' (k + 1) := by
 have h1 := hg.left hE
 exact ⟨hs.trans h.2, by omega, .inl ⟨h.1, by omega⟩⟩
theorem Ended.out_len {kd : Nat -> UInt8} (h : Ended E kd f) : f.out.length <= E.data.length := by
 rcases h.out with ⟨_, h1, _⟩ | ⟨_, h1, _⟩ | ⟨_, h1, _⟩ | ⟨_, h1, _⟩
 ·rw [h1]
  unfold FS.aim
  split
  ·exact Nat.le_refl _
  ·rw [List.length_take, List.length_drop]; omega
 all_goals (rw [h1]; simp)
end
def RunP (E : Env) (kd : Nat -> UInt8) (f0 : FS) (w : World) (e : Ending) (w' : World) : Prop := ∃ (f : FS) (v : Value) (k : Nat), e = .returned (.tuple #[v, .int .i64 f.e, .int .i64 (k : Int)]) /\ BRow w' v f.out /\ (∀ q, v.ownBlock = some q -> w.heap.size <= q) /\ Ended E kd f /\ Same3 f0 f /\ 1 <= k /\ k <= E.n /\ Chg E.T w w'
attribute [local go_sem] Oper.semAt_some
theorem three_bytes (w : World) : BytesAt (w.alloc (.cells #[.int .u8 1, .int .u8 2, .int .u8 3] 5)) (.slice (some ⟨w.heap.size, 0, none⟩) 3 3) [1, 2, 3] :=
 ⟨_, 3, rfl, by simp, by unfold maxLen; omega, .inr ⟨w.heap.size, 0, rfl, fun i hi => by
  have hb := heap_alloc_new w (.cells #[.int .u8 1, .int .u8 2, .int .u8 3] 5)
  match i, hi with
  | 0, _ => exact blk_cell hb 0 _ rfl
  | 1, _ => exact blk_cell hb 1 _ rfl
  | 2, _ => exact blk_cell hb 2 _ rfl⟩⟩
def Got1 (E : Env) (i : Nat) (w3 wx : World) (H : Nat) (ra ia : Option Addr) (rcap icap : Nat) : Prop := Chg [] w3 wx /\ wx.heap[H]? = some (.cells #[.int .i64 0, .slice ra (fragN E.s E.data E.n i).length rcap, .slice ia 0 icap, .int .i64 0, .bool false] 52 (0, 0)) /\
 BytesAt wx (.slice ra (fragN E.s E.data E.n i).length rcap) (fragN E.s E.data E.n i) /\ ∀ k, (Value.slice ra (fragN E.s E.data E.n i).length rcap).ownBlock = some k -> w3.heap.size <= k
theorem run_any {E : Env} {X : List Nat} {wb : World} {go co : Nat} {L : List Sr} {K : List UInt8} (hva : Option Addr) (hvc : Nat) (f0 : FS) (w : World) (hE : E.Ok) (h : RunAt E X wb w go L (.slice hva K.length hvc) K f0) (hg : Going E (kindAt K) f0) (hc0 : f0.known.count 0 = E.n) (hat : f0.at' <= 100000 /\ f0.len <= 100000) (hwb : wb.heap.size <= w.heap.size) :
  Calls Tryz.prog 13 #[fpV E, .slice (some ⟨go, 0, none⟩) E.n co, .slice hva K.length hvc] w (RunP E (kindAt K) f0 w) := by
 have H0 : Hid (RunAt E X wb w go L (.slice hva K.length hvc) K f0 /\ RunSt E (kindAt K) f0 f0 0 /\ Chg E.T w w) := LH ⟨h, ⟨⟨rfl, rfl, rfl⟩, by omega, .inr ⟨hg, hc0⟩⟩, Chg.refl _ _⟩
 have hn3 := hE.n3
 have hn16 := hE.n16
 have HE := LH hE
 have HTN : Hid (∀ x ∈ E.T, x < w.heap.size) := LH h.ft.lim
 clear h hg hc0
 go_enter Tryz.func13, Tryz.ntmps13
 go_wp2
 go_loopg [9] (E.n + 1) (fun g' s9 wr => ∃ (k : Nat) (f : FS), s9 = .int .i64 (k : Int) /\ k <= E.n /\ E.n + 1 <= k + g' /\ Hid (RunAt E X wb wr go L (.slice hva K.length hvc) K f /\ RunSt E (kindAt K) f0 f k /\ Chg E.T w wr))
 case atStart => exact ⟨0, f0, rfl, by omega, by omega, H0⟩
 case round =>
  obtain ⟨k, f, rfl, hk, hkg, HX⟩ := hrel
  clear H0
  have hkz : (k : Int) <= 40 := by omega
  rcases HX.out.2.1.2.2 with ⟨hend, hk1⟩ | ⟨hgo, hcount⟩
  ·have CA := LH (fask_done wr HE.out HX.out.1.ft hend.d)
   have HEN := LH hend
   have HK1 := LH hk1
   clear hend hk1
   go_wp2_with fail
   refine CA.out.mono ?_
   rintro e w2 ⟨rfl, hc2⟩
   have hcc : Chg [] wr (w2.alloc (.cells #[.int .i64 0, .int .i64 0, .int .i64 0, .int .i64 0, .int .i64 0, .slice none 0 0] 47)) := hc2.alloc _
   have CD := LH (fdone_any _ HE.out (HX.out.1.ft.keep hcc) HEN.out.d (by have := HEN.out.out_len; have := HE.out.l2; omega))
   have HCC := LH hcc
   clear hc2 CA hcc
   go_wp2_with fail
   refine CD.out.mono ?_
   rintro e w3 ⟨v, rfl, hb, hn, hc3⟩
   obtain ⟨va, vc, hve⟩ := hb.slice
   subst hve
   have HB := LH (And.intro hb (And.intro hn hc3))
   clear hb hn hc3 CD
   go_wp2
   refine bodyPost_ret (v := .tuple #[.slice va f.out.length vc, .int .i64 f.e, .int .i64 (k : Int)]) (by simp [results, Tryz.results13, go_sem]) rfl ?_
   exact ⟨f, _, k, rfl, HB.out.1, fun q hq => by have h1 := HB.out.2.1 q hq; have h2 := HCC.out.size; have h3 := HX.out.2.2.size; omega, HEN.out, HX.out.2.1.1, HK1.out, hk, (HX.out.2.2.trans (HCC.out.mono (T := E.T) (by simp)) (fun x hx => .inl hx)).trans (HB.out.2.2.mono (T := E.T) (by simp)) (fun x hx => .inl hx)⟩
  ·obtain ⟨i, l, hw⟩ := hgo.wn
   obtain ⟨hi, h0, -⟩ := hgo.inv.first HE.out hw
   have CA := LH (fask_next i wr HE.out HX.out.1.ft hgo.nd hi (.inr ⟨hgo.na, l, hw⟩) hgo.inv.win)
   have HGO := LH (And.intro hgo (And.intro hcount (And.intro hw h0)))
   have HPL := LH (place_lt E.s i (show 0 < E.n by omega))
   clear hgo hcount hw h0
   go_wp2_with fail
   refine CA.out.mono ?_
   rintro e w2 ⟨rfl, hf2, hc2⟩
   obtain ⟨w3, hw3⟩ : ∃ w3, w3 = w2.alloc (.cells #[.int .i64 2, .int .i64 E.s.c, .int .i64 E.s.l, .int .i64 E.s.n, .int .i64 (i : Int), .slice none 0 0] 47) := ⟨_, rfl⟩
   have hr3 : Chg [] w2 w3 := by rw [hw3]; exact (Chg.refl _ _).alloc _
   have HR3 := LH ((HX.out.1.step hc2 hf2).keep0 hr3)
   have HC3 : Hid (Chg E.T w w3) := LH ((HX.out.2.2.trans hc2 (fun x hx => .inl hx)).trans (hr3.mono (T := E.T) (by simp)) (fun x hx => .inl hx))
   have hb3 : w3.heap[w2.heap.size]? = some (.cells #[.int .i64 2, .int .i64 E.s.c, .int .i64 E.s.l, .int .i64 E.s.n, .int .i64 (i : Int), .slice none 0 0] 47 (0, 0)) := by rw [hw3]; exact heap_alloc_new w2 _
   have HB3 := LH hb3
   obtain ⟨s', hcell, hgot⟩ := HR3.out.nodes.got HE.out.s hn16 hi
   have HCELL := LH hcell
   have HGOT := LH hgot
   have HW3 := LH hw3
   have hpl := HPL.out
   obtain ⟨pl, hpp⟩ : ∃ pl, pl = placeN E.s i E.n := ⟨_, rfl⟩
   have HPN : Hid (placeN E.s i E.n = pl) := LH hpp.symm
   rw [<- hpp] at hpl HCELL HPL ⊢
   clear hpp
   have hplz : ¬ (pl : Int) < 0 := by omega
   have hplz2 : ¬ (E.n : Int) <= (pl : Int) := by omega
   have hplz3 : (pl : Int) < (E.n : Int) := by omega
   have hplz4 : (pl : Int).toNat = pl := by omega
   have r0 := blk_cell hb3 0 _ rfl
   clear hf2 hc2 hr3 hw3 CA hcell hgot hb3
   go_upto_region 12 with (fail)
   rw [<- HW3.out]
   go_cut [16, 17] (fun s16 s17 wx => ∃ (H : Nat) (ra ia : Option Addr) (rcap icap : Nat), s16 = .pointer (some ⟨H, 0, none⟩) /\ s17 = .int .i64 0 /\ Hid (Got1 E i w3 wx H ra ia rcap icap))
   case first =>
    have CG := LH (HGOT.out w3.drew ((Chg.refl [] w3).drew))
    have CG2 := LH (HGOT.out (w3.alloc (.cells #[.int .i64 0, .slice none 0 0, .slice none 0 0, .int .i64 0, .bool false] 52)).drew (((Chg.refl [] w3).alloc _).drew))
    have r1 := blk_cell HB3.out 1 _ rfl
    have r2 := blk_cell HB3.out 2 _ rfl
    have r3 := blk_cell HB3.out 3 _ rfl
    have r4 := blk_cell HB3.out 4 _ rfl
    have r5 := blk_cell HB3.out 5 _ rfl
    have rc := HCELL.out w3 (Chg.refl _ _)
    refine wp_region_L [(5, fun w' => w'.cell? ⟨go, pl, none⟩ = some (.pointer (some ⟨s'.z, 0, none⟩))), (5, fun w' => (w'.cell? ⟨w2.heap.size, 0, none⟩ = some (.int .i64 2) /\ w'.cell? ⟨w2.heap.size, 1, none⟩ = some (.int .i64 E.s.c) /\ w'.cell? ⟨w2.heap.size, 2, none⟩ = some (.int .i64 E.s.l) /\ w'.cell? ⟨w2.heap.size, 3, none⟩ = some (.int .i64 E.s.n) /\ w'.cell? ⟨w2.heap.size, 4, none⟩ = some (.int .i64 (i : Int)) /\ w'.cell? ⟨w2.heap.size, 5, none⟩ = some (.slice none 0 0)))] (by kernel_rfl) ?_ (fun hHeld => ?_)
    ·exact (HoldC.cons (rc) (HoldC.cons (⟨r0, r1, r2, r3, r4, r5⟩) HoldC.nil))
    refine tk 0 ?_ rfl (by kernel_rfl) (fun _ _ _ h => h) (.inl ⟨by rfl, ?_⟩) hHeld ?_; rotate_left; · (intro w _; go_simp; try with_reducible rfl)
    clear hHeld; intro hHeld; try simp only [gA,gB,gC,Act.put,gD,gE,gF]
    refine tk 1 ?_ rfl (by kernel_rfl) (fun _ _ _ h => h) (.inl ⟨by rfl, ?_⟩) hHeld ?_; rotate_left; · (intro w _; go_simp; try with_reducible rfl)
    clear hHeld; intro hHeld; try simp only [gA,gB,gC,Act.put,gD,gE,gF]
    refine tk 2 ?_ rfl (by kernel_rfl) (fun _ _ _ h => h) (.inl ⟨by rfl, ?_⟩) hHeld ?_; rotate_left; · (intro w _; go_simp; try with_reducible rfl)
    clear hHeld; intro hHeld; try simp only [gA,gB,gC,Act.put,gD,gE,gF]
    refine ld 0 3 ?_ rfl rfl (by kernel_rfl) (fun _ _ _ h => h) (.inl ⟨by rfl, ?_⟩) hHeld ?_; rotate_left; · (intro w hSw; (try dsimp only at hSw); go_simp; try with_reducible rfl)
    clear hHeld; intro hHeld; try simp only [gA,gB,gC,Act.put,gD,gE,gF]
    refine ld 1 4 ?_ rfl rfl (by kernel_rfl) (fun _ _ _ h => h) (.inl ⟨by rfl, ?_⟩) hHeld ?_; rotate_left; · (intro w hSw; (try dsimp only at hSw); go_simp; try with_reducible rfl)
    clear hHeld; intro hHeld; try simp only [gA,gB,gC,Act.put,gD,gE,gF]
    refine wpAnyL_ready (rs := [5, 9]) (by kernel_rfl) (by simp) ?_
    refine AllReadyL.cons (o := _) rfl (fun K hK => ?_) (AllReadyL.cons (o := _) rfl (fun K hK => ?_) AllReadyL.nil)
    ·try simp only [gA,gB,gC]
     go_simp
     refine CG.out.mono ?_
     rintro e w4 ⟨ra, rcap, ia, icap, rfl, hb4, hn4, hc4⟩
     clear CG CG2 r0 r1 r2 r3 r4 r5 rc
     clear hHeld
     refine hK.out _ _ ?_ (fun hHeld => ?_)
     ·exact (HoldC.past (by kernel_rfl) (HoldC.past (by kernel_rfl) HoldC.nil))
     clear hK K
     try simp only [gA,gB,gC,Act.put,gD,gE,gF]
     refine tk 6 ?_ rfl (by kernel_rfl) (fun _ _ _ h => h) (.inl ⟨by rfl, ?_⟩) hHeld ?_; rotate_left; · (intro w _; go_simp; try with_reducible rfl)
     clear hHeld; intro hHeld; try simp only [gA,gB,gC,Act.put,gD,gE,gF]
     refine tk 7 ?_ rfl (by kernel_rfl) (fun _ _ _ h => h) (.inl ⟨by rfl, ?_⟩) hHeld ?_; rotate_left; · (intro w _; go_simp; try with_reducible rfl)
     clear hHeld; intro hHeld; try simp only [gA,gB,gC,Act.put,gD,gE,gF]
     refine tk 8 ?_ rfl (by kernel_rfl) (fun _ _ _ h => h) (.inl ⟨by rfl, ?_⟩) hHeld ?_; rotate_left; · (intro w _; go_simp; try with_reducible rfl)
     clear hHeld; intro hHeld; try simp only [gA,gB,gC,Act.put,gD,gE,gF]
     refine wpAnyL_ready (rs := [9]) (by kernel_rfl) (by simp) (AllReadyL.cons (o := _) rfl (fun K hK => ?_) AllReadyL.nil)
     try simp only [gA,gB,gC]
     go_simp
     clear hHeld
     refine hK.out _ _ ?_ (fun hHeld => ?_)
     ·exact (HoldC.past (by kernel_rfl) (HoldC.past (by kernel_rfl) HoldC.nil))
     clear hK K
     try simp only [gA,gB,gC,Act.put,gD,gE,gF]
     refine wpAnyL_ready (rs := [10]) (by kernel_rfl) (by simp) (AllReadyL.cons (o := _) rfl (fun K hK => ?_) AllReadyL.nil)
     try simp only [gA,gB,gC]
     go_simp
     clear hHeld
     refine hK.out _ _ ?_ (fun hHeld => ?_)
     ·exact (HoldC.past (by kernel_rfl) (HoldC.past (by kernel_rfl) HoldC.nil))
     clear hK K
     try simp only [gA,gB,gC,Act.put,gD,gE,gF]
     refine tk 11 ?_ rfl (by kernel_rfl) (fun _ _ _ h => h) (.inl ⟨by rfl, ?_⟩) hHeld ?_; rotate_left; · (intro w _; go_simp; try with_reducible rfl)
     clear hHeld; intro hHeld; try simp only [gA,gB,gC,Act.put,gD,gE,gF]
     refine wpAnyL_done (by kernel_rfl) ?_ _
     clear hHeld
     have HN := LH (show Got1 E i w3 (w4.alloc (.cells #[.int .i64 0, .slice ra (fragN E.s E.data E.n i).length rcap, .slice ia 0 icap, .int .i64 0, .bool false] 52)) w4.heap.size ra ia rcap icap from ⟨(((Chg.refl [] w3).drew).trans hc4 (by simp)).alloc _, heap_alloc_new w4 _, hb4.chg ((Chg.refl [] w4).alloc _) (by simp), hn4⟩)
     clear hb4 hn4 hc4
     go_wp2_with fail
     go_meet
     exact ⟨_, ra, ia, rcap, icap, rfl, rfl, HN⟩
    ·try simp only [gA,gB,gC]
     go_simp
     have hcA : Chg [] w3 (w3.alloc (.cells #[.int .i64 0, .slice none 0 0, .slice none 0 0, .int .i64 0, .bool false] 52)).drew := ((Chg.refl [] w3).alloc _).drew
     have HA0 : Hid ((w3.alloc (.cells #[.int .i64 0, .slice none 0 0, .slice none 0 0, .int .i64 0, .bool false] 52)).drew.heap[w3.heap.size]? = some (.cells #[.int .i64 0, .slice none 0 0, .slice none 0 0, .int .i64 0, .bool false] 52 (0, 0))) := LH (heap_alloc_new w3 _)
     clear hHeld
     refine hK.out _ _ ?_ (fun hHeld => ?_)
     ·exact (HoldC.cons ((hcA.cell rc (by simp))) (HoldC.cons (⟨hcA.cell r0 (by simp), hcA.cell r1 (by simp), hcA.cell r2 (by simp), hcA.cell r3 (by simp), hcA.cell r4 (by simp), hcA.cell r5 (by simp)⟩) HoldC.nil))
     clear hK K
     try simp only [gA,gB,gC,Act.put,gD,gE,gF]
     refine wpAnyL_ready (rs := [5]) (by kernel_rfl) (by simp) (AllReadyL.cons (o := _) rfl (fun K hK => ?_) AllReadyL.nil)
     try simp only [gA,gB,gC]
     go_simp
     refine CG2.out.mono ?_
     rintro e w4 ⟨ra, rcap, ia, icap, rfl, hb4, hn4, hc4⟩
     have hz4 := hc4.keep HA0.out (by simp)
     have z0 := blk_cell hz4 0 _ rfl
     have z1 := blk_cell hz4 1 _ rfl
     have z2 := blk_cell hz4 2 _ rfl
     have z3 := blk_cell hz4 3 _ rfl
     have z4 := blk_cell hz4 4 _ rfl
     have y0 := blk_frozen hz4 0
     have y1 := blk_frozen hz4 1
     have y2 := blk_frozen hz4 2
     have y3 := blk_frozen hz4 3
     have y4 := blk_frozen hz4 4
     have yl := blk_lt hz4
     have HZ4 := LH hz4
     have HN4 := LH (And.intro hb4 (And.intro hn4 (hcA.trans hc4 (by simp))))
     clear CG CG2 r0 r1 r2 r3 r4 r5 rc hb4 hn4 hc4 hz4 hcA HA0
     clear hHeld
     refine hK.out _ _ ?_ (fun hHeld => ?_)
     ·exact (HoldC.past (by kernel_rfl) (HoldC.past (by kernel_rfl) HoldC.nil))
     clear hK K
     try simp only [gA,gB,gC,Act.put,gD,gE,gF]
     refine tk 6 ?_ rfl (by kernel_rfl) (fun _ _ _ h => h) (.inl ⟨by rfl, ?_⟩) hHeld ?_; rotate_left; · (intro w _; go_simp; try with_reducible rfl)
     clear hHeld; intro hHeld; try simp only [gA,gB,gC,Act.put,gD,gE,gF]
     refine tk 7 ?_ rfl (by kernel_rfl) (fun _ _ _ h => h) (.inl ⟨by rfl, ?_⟩) hHeld ?_; rotate_left; · (intro w _; go_simp; try with_reducible rfl)
     clear hHeld; intro hHeld; try simp only [gA,gB,gC,Act.put,gD,gE,gF]
     refine tk 8 ?_ rfl (by kernel_rfl) (fun _ _ _ h => h) (.inl ⟨by rfl, ?_⟩) hHeld ?_; rotate_left; · (intro w _; go_simp; try with_reducible rfl)
     clear hHeld; intro hHeld; try simp only [gA,gB,gC,Act.put,gD,gE,gF]
     refine wpAnyL_ready (rs := [10]) (by kernel_rfl) (by simp) (AllReadyL.cons (o := _) rfl (fun K hK => ?_) AllReadyL.nil)
     try simp only [gA,gB,gC]
     go_simp
     clear hHeld
     refine hK.out _ _ ?_ (fun hHeld => ?_)
     ·exact (HoldC.past (by kernel_rfl) (HoldC.past (by kernel_rfl) HoldC.nil))
     clear hK K
     try simp only [gA,gB,gC,Act.put,gD,gE,gF]
     refine tk 11 ?_ rfl (by kernel_rfl) (fun _ _ _ h => h) (.inl ⟨by rfl, ?_⟩) hHeld ?_; rotate_left; · (intro w _; go_simp; try with_reducible rfl)
     clear hHeld; intro hHeld; try simp only [gA,gB,gC,Act.put,gD,gE,gF]
     refine wpAnyL_done (by kernel_rfl) ?_ _
     clear hHeld
     have hH := five_set HZ4.out (.int .i64 0) (.slice ra (fragN E.s E.data E.n i).length rcap) (.slice ia 0 icap) (.int .i64 0) (.bool false)
     have hcH : Chg [w3.heap.size] w4 (w4.setCells w3.heap.size 0 [.int .i64 0, .slice ra (fragN E.s E.data E.n i).length rcap, .slice ia 0 icap, .int .i64 0, .bool false]) := (Chg.refl _ w4).setCells (.inl (by simp)) _
     have hc3H : Chg [] w3 (w4.setCells w3.heap.size 0 [.int .i64 0, .slice ra (fragN E.s E.data E.n i).length rcap, .slice ia 0 icap, .int .i64 0, .bool false]) := HN4.out.2.2.setCells (.inr (Nat.le_refl _)) _
     have hnk : ∀ k, (Value.slice ra (fragN E.s E.data E.n i).length rcap).ownBlock = some k -> w3.heap.size + 1 <= k := fun k hk => by have := HN4.out.2.1 k hk; simpa using this
     have HN := LH (show Got1 E i w3 (w4.setCells w3.heap.size 0 [.int .i64 0, .slice ra (fragN E.s E.data E.n i).length rcap, .slice ia 0 icap, .int .i64 0, .bool false]) w3.heap.size ra ia rcap icap from ⟨hc3H, hH, HN4.out.1.chg hcH (fun k hk hm => by have h1 := hnk k hk; have h2 := List.mem_singleton.1 hm; omega), fun k hk => by have := hnk k hk; omega⟩)
     simp only [World.setCells, Nat.zero_add, Nat.reduceAdd] at HN
     clear hH hcH hc3H hnk z0 z1 z2 z3 z4 y0 y1 y2 y3 y4 yl
     go_wp2_with fail
     go_meet
     exact ⟨_, ra, ia, rcap, icap, rfl, rfl, HN⟩
   case rest =>
   obtain ⟨H, ra, ia, rcap, icap, rfl, rfl, HG1⟩ := hcut
   obtain ⟨wd, hwd⟩ : ∃ wd : World, wd = wc := ⟨_, rfl⟩
   rw [<- hwd] at HG1 ⊢
   clear hwd
   have HRC := LH (HR3.out.keep0 HG1.out.1)
   have HTL : Hid (∀ x ∈ E.T, x < w3.heap.size) := LH HR3.out.ft.lim
   obtain ⟨c, hc⟩ : ∃ c, c = kindAt K pl := ⟨_, rfl⟩
   have HKC := LH hc
   clear hc
   go_upto_if 67 with (fail)
   go_cut [18] (fun s18 wx => s18 = .int .u8 (c.toNat : Int) /\ wx = wd)
   case first =>
    by_cases hpk : pl < K.length
    ·have hpkz : (pl : Int) < (K.length : Int) := by omega
     obtain ⟨a', cap', he, h1, h2, h3⟩ := HRC.out.how
     injection he with e1 e2 e3
     subst e1
     rcases h3 with ⟨h4, _⟩ | ⟨g, o, rfl, hcell⟩
     ·rw [h4] at hpk; simp at hpk
     have hcl := hcell pl hpk
     have HCC : Hid (K.getD pl 0 = c) := LH (by rw [HKC.out]; unfold kindAt; rw [if_pos hpk])
     rw [HCC.out] at hcl
     unfold bv at hcl
     clear hcell e2 e3 h1 h2
     go_wp2_with fail
     go_meet
     exact ⟨rfl, rfl⟩
    ·have hpkz : ¬ (pl : Int) < (K.length : Int) := by omega
     have HCC : Hid (c = 1) := LH (by rw [HKC.out]; unfold kindAt; rw [if_neg hpk])
     go_wp2_with fail
     go_meet
     exact ⟨by rw [HCC.out]; rfl, rfl⟩
   case rest =>
   obtain ⟨rfl, hwc⟩ := hcut
   rw [hwc]
   clear hwc
   have hgc : Hid (Chg E.T w wd) := LH (HC3.out.trans (HG1.out.1.mono (T := E.T) (by simp)) (fun x hx => .inl hx))
   have hS3 := HX.out.2.1.1
   have hbadA : Hid (badK c -> ∀ w5, FtAt E w5 (f.bad E i) -> Chg E.T wd w5 -> RunAt E X wb w5 go L (.slice hva K.length hvc) K (f.bad E i) /\ RunSt E (kindAt K) f0 (f.bad E i) (k + 1) /\ Chg E.T w w5) := LH (fun hb w5 hf hc5 => ⟨HRC.out.step hc5 hf, RunSt.next hS3 HGO.out.1 HGO.out.2.1 (HGO.out.1.bad HE.out HGO.out.2.2.1 (by rw [HPN.out, <- HKC.out]; exact hb)) HE.out, hgc.out.trans hc5 (fun x hx => .inl hx)⟩)
   have hab : Hid (¬ 1 < (f.miss i).known.count 2 -> (f.miss i).Able E) := LH (fun hh => (HGO.out.1.inv.miss HE.out HGO.out.2.2.1 hh).able HE.out)
   have hkR : Hid (k + 1 <= E.n) := LH (by have h1 := HGO.out.1.left HE.out; have h2 := HGO.out.2.1; omega)
   have hk1 := hkR.out
   obtain ⟨f2, hf2⟩ : ∃ f2 : FS, f2 = { f with asked := (i : Int) } := ⟨_, rfl⟩
   have HF2 : Hid (RunAt E X wb wd go L (.slice hva K.length hvc) K f2 /\ f2.done = false /\ f2.asked = (i : Int) /\ f2.known.getD i 0 = 0 /\ f2.bad E i = f.bad E i /\ f2.good E i = f.good E i /\ FS.ends { f2 with asked := -1 } [] 6 = FS.ends { f with asked := -1 } [] 6 /\ f2.miss i = f.miss i /\ f2.had i = f.had i /\ f2.at' = f.at' /\ f2.len = f.len /\ f2.whole = f.whole) := LH (by
    rw [hf2]
    exact ⟨HRC.out, HGO.out.1.nd, rfl, HGO.out.2.2.2, rfl, rfl, rfl, rfl, rfl, rfl, rfl, rfl⟩)
   clear hf2
   have hbadN : Hid (badK c -> ∀ w5, FtAt E w5 (f2.bad E i) -> Chg E.T wd w5 -> ∃ f', RunAt E X wb w5 go L (.slice hva K.length hvc) K f' /\ RunSt E (kindAt K) f0 f' (k + 1) /\ Chg E.T w w5) := LH (fun hb w5 hf hc5 => ⟨_, hbadA.out hb w5 (by rw [<- HF2.out.2.2.2.2.1]; exact hf) hc5⟩)
   by_cases h0c : c = 0
   ·have q0 : ((c.toNat : Int) == 0) = true := by rw [h0c]; rfl
    have CV := LH (fgive_bad (f := f2) i wd 0 0 none none 0 0 0 0 false false [] HE.out HF2.out.1.ft HF2.out.2.1 HF2.out.2.2.1 hi HF2.out.2.2.2.1 (.inl rfl) (BytesAt.nil _) (by simp) (by rw [HF2.out.2.2.2.2.2.2.2.1]; exact hab.out))
    have HB0 : Hid (badK c) := LH (.inl h0c)
    clear h0c
    go_wp2_with fail
    refine CV.out.mono ?_
    rintro e w5 ⟨rfl, hf, hc5⟩
    have HN := LH (hbadN.out HB0.out w5 hf hc5)
    clear hf hc5 CV
    go_wp2
    go_roundg (gk - 1)
    case measure => omega
    case rel =>
     obtain ⟨f', hN⟩ := HN.out
     exact ⟨k + 1, f', by go_num, by omega, by omega, LH hN⟩
   have q0 : ((c.toNat : Int) == 0) = false := beq_eq_false_iff_ne.2 (fun e => h0c (UInt8.toNat_inj.1 (by show c.toNat = 0; omega)))
   by_cases h2c : c = 2
   ·have q2 : ((c.toNat : Int) == 2) = true := by rw [h2c]; rfl
    have CV := LH (fgive_bad (f := f2) i wd 15 0 none none 0 0 0 0 false true [] HE.out HF2.out.1.ft HF2.out.2.1 HF2.out.2.2.1 hi HF2.out.2.2.2.1 (.inr (by omega)) (BytesAt.nil _) (by simp) (by rw [HF2.out.2.2.2.2.2.2.2.1]; exact hab.out))
    have HB0 : Hid (badK c) := LH (.inr (.inl h2c))
    clear h2c h0c
    go_wp2_with fail
    refine CV.out.mono ?_
    rintro e w5 ⟨rfl, hf, hc5⟩
    have HN := LH (hbadN.out HB0.out w5 hf hc5)
    clear hf hc5 CV
    go_wp2
    go_roundg (gk - 1)
    case measure => omega
    case rel =>
     obtain ⟨f', hN⟩ := HN.out
     exact ⟨k + 1, f', by go_num, by omega, by omega, LH hN⟩
   have q2 : ((c.toNat : Int) == 2) = false := beq_eq_false_iff_ne.2 (fun e => h2c (UInt8.toNat_inj.1 (by show c.toNat = 2; omega)))
   by_cases h3c : c = 3
   ·have q3 : ((c.toNat : Int) == 3) = true := by rw [h3c]; rfl
    have CV := LH (fgive_none (f := f2) i wd 0 none none 0 0 0 0 false HE.out HF2.out.1.ft HF2.out.2.1 HF2.out.2.2.1)
    have HB0 : Hid (c = 3) := LH h3c
    clear h3c h2c h0c
    go_wp2_with fail
    refine CV.out.mono ?_
    rintro e w5 ⟨rfl, hf, hc5⟩
    rw [HF2.out.2.2.2.2.2.2.1] at hf
    have HN : Hid (∃ f', RunAt E X wb w5 go L (.slice hva K.length hvc) K f' /\ RunSt E (kindAt K) f0 f' (k + 1) /\ Chg E.T w w5) := LH ⟨_, HRC.out.step hc5 hf, RunSt.end3 hS3 HGO.out.1 HGO.out.2.1 (HGO.out.1.none3 HE.out HGO.out.2.2.1 (by rw [HPN.out, <- HKC.out]; exact HB0.out)) HE.out, hgc.out.trans hc5 (fun x hx => .inl hx)⟩
    clear hf hc5 CV
    go_wp2
    go_roundg (gk - 1)
    case measure => omega
    case rel =>
     obtain ⟨f', hN⟩ := HN.out
     exact ⟨k + 1, f', by go_num, by omega, by omega, LH hN⟩
   have q3 : ((c.toNat : Int) == 3) = false := beq_eq_false_iff_ne.2 (fun e => h3c (UInt8.toNat_inj.1 (by show c.toNat = 3; omega)))
   by_cases h4c : c = 4
   ·have q4 : ((c.toNat : Int) == 4) = true := by rw [h4c]; rfl
    have hcw : Chg [] wd (wd.alloc (.cells #[.int .u8 1, .int .u8 2, .int .u8 3] 5)) := (Chg.refl [] wd).alloc _
    have CV := LH (fgive_bad (f := f2) i (wd.alloc (.cells #[.int .u8 1, .int .u8 2, .int .u8 3] 5)) 0 0 (some ⟨wd.heap.size, 0, none⟩) none 3 3 0 0 false true [1, 2, 3] HE.out (HF2.out.1.ft.keep hcw) HF2.out.2.1 HF2.out.2.2.1 hi HF2.out.2.2.2.1 (.inr (by omega)) (three_bytes wd) (by simp) (by rw [HF2.out.2.2.2.2.2.2.2.1]; exact hab.out))
    have HB0 : Hid (badK c) := LH (.inr (.inr h4c))
    have HCW := LH hcw
    clear h4c h3c h2c h0c hcw
    go_wp2_with fail
    refine CV.out.mono ?_
    rintro e w5 ⟨rfl, hf, hc5⟩
    have HN := LH (hbadN.out HB0.out w5 hf ((HCW.out.mono (T := E.T) (by simp)).trans hc5 (fun x hx => .inl hx)))
    clear hf hc5 CV
    go_wp2
    go_roundg (gk - 1)
    case measure => omega
    case rel =>
     obtain ⟨f', hN⟩ := HN.out
     exact ⟨k + 1, f', by go_num, by omega, by omega, LH hN⟩
   have q4 : ((c.toNat : Int) == 4) = false := beq_eq_false_iff_ne.2 (fun e => h4c (UInt8.toNat_inj.1 (by show c.toNat = 4; omega)))
   have HHH := HG1.out.2.1
   have p0 := blk_cell HHH 0 _ rfl
   have p1 := blk_cell HHH 1 _ rfl
   have p2 := blk_cell HHH 2 _ rfl
   have p3 := blk_cell HHH 3 _ rfl
   have p4 := blk_cell HHH 4 _ rfl
   have CV := LH (fgive_good (f := f2) i wd 0 ra ia (fragN E.s E.data E.n i).length rcap 0 icap false HE.out HF2.out.1.ft HF2.out.2.1 HF2.out.2.2.1 hi HG1.out.2.2.1 (fun q hq hm => by have h1 := HG1.out.2.2.2 q hq; have h2 := HTL.out q hm; omega) (by rw [HF2.out.2.2.2.2.2.2.2.2.2.1, HF2.out.2.2.2.2.2.2.2.2.2.2.1, hS3.1, hS3.2.1]; exact hat) (by rw [HF2.out.2.2.2.2.2.2.2.2.2.1, HF2.out.2.2.2.2.2.2.2.2.2.2.1, HF2.out.2.2.2.2.2.2.2.2.2.2.2, HF2.out.2.2.2.2.2.2.2.2.1]; exact fun hh => (HGO.out.1.inv.had HE.out HGO.out.2.2.1 hh).able HE.out))
   clear HHH h0c h2c h3c h4c
   go_wp2_with fail
   refine CV.out.mono ?_
   rintro e w5 ⟨rfl, hf, hc5⟩
   rw [HF2.out.2.2.2.2.2.1] at hf
   have HN : Hid (∃ f', RunAt E X wb w5 go L (.slice hva K.length hvc) K f' /\ RunSt E (kindAt K) f0 f' (k + 1) /\ Chg E.T w w5) := LH ⟨_, HRC.out.step hc5 hf, RunSt.next hS3 HGO.out.1 HGO.out.2.1 (HGO.out.1.good HE.out HGO.out.2.2.1) HE.out, hgc.out.trans hc5 (fun x hx => .inl hx)⟩
   clear hf hc5 CV p0 p1 p2 p3 p4
   go_wp2
   go_roundg (gk - 1)
   case measure => omega
   case rel =>
    obtain ⟨f', hN⟩ := HN.out
    exact ⟨k + 1, f', by go_num, by omega, by omega, LH hN⟩
theorem NodesAt.with' {X T : List Nat} {wb w w' : World} {s : Sp} {data : List UInt8} {n go : Nat} {L : List Sr} (h : NodesAt X wb w s data n go L) (hc : Chg [] w w') (hT : ∀ x ∈ T, w.heap.size <= x /\ x < w'.heap.size) : NodesAt (X ++ T) wb w' s data n go L :=
 h.wrote hc (by simp) (by simp) (fun x hx => by
  rcases List.mem_append.1 hx with hx | hx
  ·exact ⟨.inl hx, Nat.lt_of_lt_of_le (h.many.xl x hx) hc.size⟩
  ·exact ⟨.inr (hT x hx).1, (hT x hx).2⟩) (List.mem_append_left _ h.inX)
theorem run_start {X : List Nat} {wb w w' : World} {s : Sp} {data : List UInt8} {n go at' len fb kb gb rb : Nat} {whole : Bool} {L : List Sr} {hv : Value} {K : List UInt8} (h : NodesAt X wb w s data n go L) (hf : FtAt (newEnv s data n fb kb gb rb) w' (FS.fresh n at' len whole)) (hn : ∀ x ∈ (newEnv s data n fb kb gb rb).T, w.heap.size <= x) (hc : Chg [] w w') (hwb : wb.heap.size <= w.heap.size) (hK : BytesAt w' hv K) (hKT : K ≠ [] -> ∀ q, hv.ownBlock = some q -> q ∉ (newEnv s data n fb kb gb rb).T) :
  RunAt (newEnv s data n fb kb gb rb) (X ++ (newEnv s data n fb kb gb rb).T) wb w' go L hv K (FS.fresh n at' len whole) :=
 ⟨hf, h.with' hc (fun x hx => ⟨hn x hx, hf.lim x hx⟩), fun x hx => ⟨List.mem_append_right _ hx, Nat.le_trans hwb (hn x hx)⟩, fun hm => by have h1 := hn _ hm; have h2 := h.many.xl _ h.inX; omega, hK, hKT⟩
theorem fresh_zero (n at' len : Nat) (whole : Bool) : (FS.fresh n at' len whole).known.count 0 = n := by
 show (List.replicate n 0).count 0 = n
 rw [List.count_replicate]; simp
theorem Ended.fine {E : Env} {kd : Nat -> UInt8} {f : FS} (h : Ended E kd f) (hE : E.Ok) (hb : ∀ a b, a < E.n -> b < E.n -> badK (kd a) -> badK (kd b) -> a = b) (h3 : ∀ a, a < E.n -> kd a ≠ 3) (hf : f.whole = true ∨ f.at' + f.len <= E.data.length) : f.e = 0 /\ f.out = f.aim E.data := by
 have hn3 := hE.n3
 rcases h.out with ⟨h1, h2, _⟩ | ⟨_, _, i, j, hi, hj, hij, b1, b2⟩ | ⟨_, _, i, hi, h4⟩ | ⟨_, _, h4, h5⟩
 ·exact ⟨h1, h2⟩
 ·exact absurd (place_inj hi hj (hb _ _ (place_lt _ _ (by omega)) (place_lt _ _ (by omega)) b1 b2)) hij
 ·exact absurd h4 (h3 _ (place_lt _ _ (by omega)))
 ·rcases hf with hf | hf
  ·rw [hf] at h4; cases h4
  ·omega
theorem newEnv_ok {s : Sp} {data : List UInt8} {n fb kb gb rb : Nat} (hs : s.Ok) (h3 : 3 <= n) (h16 : n <= 16) (hL : 1 <= data.length) (hL2 : data.length <= 400 * (n - 1)) (hnd : (newEnv s data n fb kb gb rb).T.Nodup) : (newEnv s data n fb kb gb rb).Ok := ⟨hs, h3, h16, hL, hL2, hnd⟩
theorem lit5 (w : World) : BytesAt (w.alloc (.cells #[.int .u8 1, .int .u8 2, .int .u8 3, .int .u8 4, .int .u8 5] 5)) (.slice (some ⟨w.heap.size, 0, none⟩) 5 5) [1, 2, 3, 4, 5] :=
 ⟨_, 5, rfl, by simp, by unfold maxLen; omega, .inr ⟨w.heap.size, 0, rfl, fun i hi => by
  have hb := heap_alloc_new w (.cells #[.int .u8 1, .int .u8 2, .int .u8 3, .int .u8 4, .int .u8 5] 5)
  match i, hi with
  | 0, _ => exact blk_cell hb 0 _ rfl
  | 1, _ => exact blk_cell hb 1 _ rfl
  | 2, _ => exact blk_cell hb 2 _ rfl
  | 3, _ => exact blk_cell hb 3 _ rfl
  | 4, _ => exact blk_cell hb 4 _ rfl⟩⟩
theorem lit4 (w : World) : BytesAt (w.alloc (.cells #[.int .u8 1, .int .u8 0, .int .u8 1, .int .u8 1] 5)) (.slice (some ⟨w.heap.size, 0, none⟩) 4 4) [1, 0, 1, 1] :=
 ⟨_, 4, rfl, by simp, by unfold maxLen; omega, .inr ⟨w.heap.size, 0, rfl, fun i hi => by
  have hb := heap_alloc_new w (.cells #[.int .u8 1, .int .u8 0, .int .u8 1, .int .u8 1] 5)
  match i, hi with
  | 0, _ => exact blk_cell hb 0 _ rfl
  | 1, _ => exact blk_cell hb 1 _ rfl
  | 2, _ => exact blk_cell hb 2 _ rfl
  | 3, _ => exact blk_cell hb 3 _ rfl⟩⟩
theorem lit3 (w : World) : BytesAt (w.alloc (.cells #[.int .u8 2, .int .u8 3, .int .u8 4] 5)) (.slice (some ⟨w.heap.size, 0, none⟩) 3 3) [2, 3, 4] :=
 ⟨_, 3, rfl, by simp, by unfold maxLen; omega, .inr ⟨w.heap.size, 0, rfl, fun i hi => by
  have hb := heap_alloc_new w (.cells #[.int .u8 2, .int .u8 3, .int .u8 4] 5)
  match i, hi with
  | 0, _ => exact blk_cell hb 0 _ rfl
  | 1, _ => exact blk_cell hb 1 _ rfl
  | 2, _ => exact blk_cell hb 2 _ rfl⟩⟩
theorem kinds4 : (∀ a b, a < 4 -> b < 4 -> badK (kindAt [1, 0, 1, 1] a) -> badK (kindAt [1, 0, 1, 1] b) -> a = b) /\ ∀ a, a < 4 -> kindAt [1, 0, 1, 1] a ≠ 3 := by
 have h : ∀ a, a < 4 -> badK (kindAt [1, 0, 1, 1] a) -> a = 1 := fun a ha hb => by
  match a, ha with
  | 0, _ => rcases hb with hb | hb | hb <;> cases hb
  | 1, _ => rfl
  | 2, _ => rcases hb with hb | hb | hb <;> cases hb
  | 3, _ => rcases hb with hb | hb | hb <;> cases hb
 refine ⟨fun a b ha hb h1 h2 => by rw [h a ha h1, h b hb h2], fun a ha e => ?_⟩
 match a, ha with
 | 0, _ => cases e
 | 1, _ => cases e
 | 2, _ => cases e
 | 3, _ => cases e
theorem awake21_any (w : World) : Calls Tryz.prog 8 #[] w fun e w' => e = .returned (.bool true) /\ Chg [] w w' := by
 have CS := LH (stripe_ok 1 w)
 go_enter Tryz.func8, Tryz.ntmps8
 go_wp2_with fail
 refine CS.out.mono ?_
 rintro e w1 ⟨s, hs, rfl, hc1⟩
 obtain ⟨w2, hw2⟩ : ∃ w2, w2 = (w1.alloc (.cells (spC s) 26)).alloc (.cells #[.int .u8 1, .int .u8 2, .int .u8 3, .int .u8 4, .int .u8 5] 5) := ⟨_, rfl⟩
 have hc2 : Chg [] w w2 := by rw [hw2]; exact (hc1.alloc _).alloc _
 have hb2 : w2.heap[w1.heap.size]? = some (.cells (spC s) 26 (0, 0)) := by rw [hw2]; exact blk_alloc (heap_alloc_new w1 _)
 have hl2 : BytesAt w2 (.slice (some ⟨w1.heap.size + 1, 0, none⟩) 5 5) [1, 2, 3, 4, 5] := by
  have := lit5 (w1.alloc (.cells (spC s) 26))
  rw [hw2]
  simpa using this
 have CN := LH (nodes_ok s [1, 2, 3, 4, 5] (.slice (some ⟨w1.heap.size + 1, 0, none⟩) 5 5) 4 w2 hs hl2 (by omega) (by omega) (by simp) (by simp))
 have HS := LH hs
 have HW2 := LH hw2
 have HC2 := LH hc2
 have HB2 := LH hb2
 clear hs hc1 hw2 hc2 hb2 hl2 CS
 go_wp2_with fail
 rw [<- HW2.out]
 refine CN.out.mono ?_
 rintro e w3 ⟨go, co, L, rfl, hn, hgo⟩
 have hc3 : Chg [] w2 w3 := hn.many.chg
 have hb3 := hc3.keep HB2.out (by simp)
 have p0 := blk_cell hb3 0 _ rfl
 have p1 := blk_cell hb3 1 _ rfl
 have p2 := blk_cell hb3 2 _ rfl
 have HN := LH hn
 have HC3 := LH (HC2.out.trans hc3 (by simp))
 have CF := LH (fnew_ok s [1, 2, 3, 4, 5] 4 1 3 w3 HS.out (by omega) (by omega) (by omega) (by omega) (by omega))
 clear hn hgo hc3 hb3 CN
 go_wp2_with fail
 refine CF.out.mono ?_
 rintro e w4 ⟨fb, kb, gb, rb, rfl, hf, hnd, hnw, hc4⟩
 have hl4 := lit4 w4
 have hc5 : Chg [] w3 (w4.alloc (.cells #[.int .u8 1, .int .u8 0, .int .u8 1, .int .u8 1] 5)) := hc4.alloc _
 have HE := LH (newEnv_ok (data := [1, 2, 3, 4, 5]) HS.out (by omega) (by omega) (by simp) (by simp) hnd)
 have HR := LH (run_start HN.out (hf.keep ((Chg.refl [] w4).alloc _)) hnw hc5 HN.out.many.chg.size hl4 (fun _ q hq hm => by
  have h1 : w4.heap.size = q := by simpa [Value.ownBlock] using hq
  have h2 := hf.lim q hm
  omega))
 have CR := LH (run_any (co := co) (K := [1, 0, 1, 1]) (some ⟨w4.heap.size, 0, none⟩) 4 _ _ HE.out HR.out (Going.fresh HE.out 1 3 false (.inl (by omega))) (fresh_zero 4 1 3 false) ⟨by show 1 <= 100000; omega, by show 3 <= 100000; omega⟩ (Nat.le_trans HN.out.many.chg.size hc5.size))
 have HC5 := LH (HC3.out.trans hc5 (by simp))
 have HT : Hid (∀ x ∈ (newEnv s [1, 2, 3, 4, 5] 4 fb kb gb rb).T, w.heap.size <= x) := LH (fun x hx => Nat.le_trans HC3.out.size (hnw x hx))
 clear hf hnd hnw hc4 hl4 hc5 CF p0 p1 p2
 go_wp2_with fail
 refine CR.out.mono ?_
 rintro e w6 ⟨f, v, k, rfl, hv, hvn, hend, hsame, hk1, hk4, hc6⟩
 obtain ⟨va, vc, hve⟩ := hv.slice
 subst hve
 have hfin := hend.fine HE.out kinds4.1 kinds4.2 (.inr (by rw [hsame.1, hsame.2.1]; show 1 + 3 <= 5; omega))
 have hout : f.out = [2, 3, 4] := by
  rw [hfin.2]
  unfold FS.aim
  rw [hsame.1, hsame.2.1, hsame.2.2]
  rfl
 have hfe := hfin.1
 have hkz : (k : Int) <= 4 := by have : k <= 4 := hk4; omega
 have HC6 := LH (HC5.out.trans hc6 (fun x hx => .inr (HT.out x hx)))
 rw [hout] at hv hvn
 rw [hout, hfe]
 have CSm := LH (same_any _ _ [2, 3, 4] [2, 3, 4] _ ((hv.keep (w' := w6.alloc (.cells #[.int .u8 2, .int .u8 3, .int .u8 4] 5)) (fun g hg => heap_alloc_old w6 _ (hv.lt g hg))).bytes) (lit3 w6) (by simp) (by simp))
 clear hv hvn hend hsame hk1 hk4 hc6 hfin hout hfe CR
 go_wp2_with fail
 refine CSm.out.mono ?_
 rintro e w7 ⟨rfl, nq, rfl⟩
 clear CSm
 go_wp2
 go_ret
 exact ⟨rfl, (HC6.out.alloc _).drewN nq⟩
theorem bad_one : ¬ badK 1 := fun h => by rcases h with h | h | h <;> cases h
theorem Ended.well {E : Env} {kd : Nat -> UInt8} {f : FS} (h : Ended E kd f) (hk : ∀ j, kd j = 1) : (f.e = 0 /\ f.out = f.aim E.data /\ (f.whole = true ∨ f.at' + f.len <= E.data.length)) ∨ (f.e = 4 /\ f.out = [] /\ f.whole = false /\ E.data.length < f.at' + f.len) := by
 rcases h.out with h1 | ⟨_, _, i, j, _, _, _, b1, _⟩ | ⟨_, _, i, _, h4⟩ | h4
 ·exact .inl h1
 ·rw [hk] at b1; exact absurd b1 bad_one
 ·rw [hk] at h4; cases h4
 ·exact .inr h4
theorem few_count (l : List Nat) (lo hi : Nat) (hlo : lo <= hi) (h : ∀ i, l.getD i 0 ≠ 0 -> i = 0 ∨ (lo <= i /\ i <= hi)) : l.length <= l.count 0 + (hi - lo + 2) := by
 have key : ∀ m, m <= l.length -> m <= (l.take m).count 0 + (1 + (min m (hi + 1) - lo)) := fun m => by
  induction m with
  | zero => intro _; omega
  | succ m ih =>
   intro hm
   have ih' := ih (by omega)
   have hml : m < l.length := by omega
   rw [List.take_add_one, List.getElem?_eq_getElem hml, List.count_append]
   have hg : l.getD m 0 = l[m] := by simp [List.getD_eq_getElem?_getD, hml]
   have hc : (Option.some l[m]).toList.count 0 = if l[m] = 0 then 1 else 0 := by simp [List.count_cons]
   rw [hc]
   split
   ·omega
   ·rename_i hne
    rcases h m (by rw [hg]; exact hne) with h0 | h0
    ·subst h0; omega
    ·omega
 have h1 := key l.length (Nat.le_refl _)
 rw [List.take_length] at h1
 omega
def Few (E : Env) (f : FS) : Prop := ∀ i, f.known.getD i 0 ≠ 0 -> i = 0 ∨ (f.lo E.data.length E.n <= i /\ i <= f.hi E.data.length E.n)
theorem good_known {E : Env} {f : FS} {i : Nat} : (f.good E i).known = f.known.set i 1 := by
 unfold FS.good
 split
 ·rfl
 ·unfold FS.settled
  split <;> rfl
theorem Few.good {E : Env} {kd : Nat -> UInt8} {f : FS} (h : Few E f) (hg : Going E kd f) (hE : E.Ok) (hk : ∀ j, kd j = 1) {i : Nat} {l : List Nat} (hw : f.want E.data.length E.n = i :: l) : Few E (f.good E i) := by
 obtain ⟨hi, h0, hcal⟩ := hg.inv.first hE hw
 have hil : i < f.known.length := by rw [hg.inv.len]; exact hi
 have hc : f.known.count 2 = 0 := by
  refine Classical.byContradiction fun hne => ?_
  obtain ⟨j, hj, hj2⟩ := ex_of_count (show 1 <= f.known.count 2 by omega)
  have := hg.kn j hj2
  rw [hk] at this
  exact bad_one this
 obtain ⟨⟨s1, s2, s3⟩, _, _⟩ := hg.good hE hw
 intro j hj
 rw [good_known, getD_setN _ _ _ _ hil] at hj
 unfold FS.lo FS.hi
 rw [s1, s2, s3]
 by_cases hji : j = i
 ·rw [hji]; exact hcal hc
 ·rw [if_neg hji] at hj
  exact h j hj
theorem Few.fresh {E : Env} (at' len : Nat) (whole : Bool) : Few E (FS.fresh E.n at' len whole) := fun i hi => by
 refine absurd ?_ hi
 show (List.replicate E.n 0).getD i 0 = 0
 simp only [List.getD_eq_getElem?_getD, List.getElem?_replicate]
 split <;> rfl
theorem BytesAt.piece {w : World} {va : Option Addr} {cap : Nat} {l : List UInt8} (h : BytesAt w (.slice va l.length cap) l) (a n : Nat) (hn : a + n <= l.length) (h1 : 1 <= n) : ∃ g o, va = Option.some ⟨g, o, none⟩ /\ BytesAt w (.slice (Option.some ⟨g, o + a, none⟩) n (cap - a)) ((l.drop a).take n) := by
 obtain ⟨va', cap', e, h2, h3, h4⟩ := h
 cases e
 rcases h4 with ⟨h0, _⟩ | ⟨g, o, rfl, hcell⟩
 ·rw [h0] at hn; simp at hn; omega
 have hl : ((l.drop a).take n).length = n := by rw [List.length_take, List.length_drop]; omega
 refine ⟨g, o, rfl, _, _, by rw [hl], by rw [hl]; omega, by omega, .inr ⟨g, o + a, rfl, fun k hk => ?_⟩⟩
 rw [hl] at hk
 have := hcell (a + k) (by omega)
 rw [List.getD_eq_getElem?_getD, List.getElem?_take_of_lt hk, List.getElem?_drop, <- List.getD_eq_getElem?_getD, Nat.add_assoc]
 exact this
section
open Go.RowKit Go.Shelf
theorem rspan_ok (at_ count size n : Nat) (w : World) (hc : 1 <= count) (hac : at_ + count <= size) (hs : size <= 400 * (n - 1)) (h3 : 3 <= n) (h16 : n <= 16) :
  Calls Tryz.prog 15 #[.int .i64 (at_ : Int), .int .i64 (count : Int), .int .i64 (size : Int), .int .i64 (n : Int)] w fun e w' => e = .returned (.tuple #[.int .i64 ((at_ / eachN size n : Nat) : Int), .int .i64 (((at_ + count - 1) / eachN size n : Nat) : Int), .int .i64 0]) /\ Chg [] w w' := by
 have CS := LH (fun w => rmayn_ok (n : Int) w (by omega) (by omega))
 have CE := LH (fun w => reach_ok size n w (by omega) (by omega) h3 h16)
 have hp := each_pos (size := size) (n := n) (by omega)
 generalize eachN size n = E at *
 have h0 : ¬ (at_ : Int) < 0 := by omega
 have h1 : ¬ (count : Int) <= 0 := by omega
 have h2 : ¬ (size : Int) < 0 := by omega
 have hwn : IntKind.i64.wrap ((n : Int) - 1) = (n : Int) - 1 := IntWalk.i64_in _ ⟨by omega, by omega⟩
 have hwm : IntKind.i64.wrap (400 * ((n : Int) - 1)) = 400 * ((n : Int) - 1) := IntWalk.i64_in _ ⟨by omega, by omega⟩
 have hlm : ¬ 400 * ((n : Int) - 1) < (size : Int) := by omega
 have h5 : ¬ (size : Int) < (at_ : Int) := by omega
 have hw1 : IntKind.i64.wrap ((size : Int) - (at_ : Int)) = (size : Int) - (at_ : Int) := IntWalk.i64_in _ ⟨by omega, by omega⟩
 have h4 : ¬ (size : Int) - (at_ : Int) < (count : Int) := by omega
 have hw2 : IntKind.i64.wrap ((at_ : Int) + (count : Int)) = (at_ : Int) + (count : Int) := IntWalk.i64_in _ ⟨by omega, by omega⟩
 have hw3 : IntKind.i64.wrap ((at_ : Int) + (count : Int) - 1) = ((at_ + count - 1 : Nat) : Int) := by rw [IntWalk.i64_in _ ⟨by omega, by omega⟩]; omega
 have hz : ¬ (E : Int) = 0 := by omega
 have hz0 : ¬ E = 0 := by omega
 have hd1 := Nat.div_le_self at_ E
 have hd2 := Nat.div_le_self (at_ + count - 1) E
 have e1 : Int.tdiv (at_ : Int) (E : Int) = ((at_ / E : Nat) : Int) := (Int.ofNat_tdiv at_ E).symm
 have e2 : Int.tdiv ((at_ + count - 1 : Nat) : Int) (E : Int) = (((at_ + count - 1) / E : Nat) : Int) := (Int.ofNat_tdiv _ E).symm
 generalize hQ : at_ / E = q1 at *
 generalize hR : at_ + count - 1 = r1 at *
 generalize hQ2 : r1 / E = q2 at *
 have hw4 : IntKind.i64.wrap (q1 : Int) = (q1 : Int) := IntWalk.i64_in _ ⟨by omega, by omega⟩
 have hw5 : IntKind.i64.wrap (q2 : Int) = (q2 : Int) := IntWalk.i64_in _ ⟨by omega, by omega⟩
 go_enter Tryz.func15, Tryz.ntmps15
 go_wp2_with (first | (go_at_call 28; refine (CS.out _).mono ?_; rintro e w' ⟨rfl, hq⟩; subst hq) | (go_at_call 29; refine (CE.out _).mono ?_; rintro e w' ⟨rfl, hq⟩; subst hq))
 refine wp_region_L [] (by kernel_rfl) ?_ (fun hHeld => ?_)
 ·exact HoldC.nil
 refine tk 0 ?_ rfl (by kernel_rfl) (fun _ _ _ h => h) (.inl ⟨by rfl, ?_⟩) hHeld ?_; rotate_left; · (intro w _; go_simp; try with_reducible rfl)
 clear hHeld; intro hHeld; try simp only [gA,gB,gC,Act.put,gD,gE,gF]
 refine tk 1 ?_ rfl (by kernel_rfl) (fun _ _ _ h => h) (.inl ⟨by rfl, ?_⟩) hHeld ?_; rotate_left; · (intro w _; go_simp; try with_reducible rfl)
 clear hHeld; intro hHeld; try simp only [gA,gB,gC,Act.put,gD,gE,gF]
 refine tk 2 ?_ rfl (by kernel_rfl) (fun _ _ _ h => h) (.inl ⟨by rfl, ?_⟩) hHeld ?_; rotate_left; · (intro w _; go_simp; try with_reducible rfl)
 clear hHeld; intro hHeld; try simp only [gA,gB,gC,Act.put,gD,gE,gF]
 refine tk 3 ?_ rfl (by kernel_rfl) (fun _ _ _ h => h) (.inl ⟨by rfl, ?_⟩) hHeld ?_; rotate_left; · (intro w _; go_simp; try with_reducible rfl)
 clear hHeld; intro hHeld; try simp only [gA,gB,gC,Act.put,gD,gE,gF]
 refine tk 4 ?_ rfl (by kernel_rfl) (fun _ _ _ h => h) (.inl ⟨by rfl, ?_⟩) hHeld ?_; rotate_left; · (intro w _; go_simp; try with_reducible rfl)
 clear hHeld; intro hHeld; try simp only [gA,gB,gC,Act.put,gD,gE,gF]
 refine tk 5 ?_ rfl (by kernel_rfl) (fun _ _ _ h => h) (.inl ⟨by rfl, ?_⟩) hHeld ?_; rotate_left; · (intro w _; go_simp; try with_reducible rfl)
 clear hHeld; intro hHeld; try simp only [gA,gB,gC,Act.put,gD,gE,gF]
 refine tk 6 ?_ rfl (by kernel_rfl) (fun _ _ _ h => h) (.inl ⟨by rfl, ?_⟩) hHeld ?_; rotate_left; · (intro w _; go_simp; try with_reducible rfl)
 clear hHeld; intro hHeld; try simp only [gA,gB,gC,Act.put,gD,gE,gF]
 refine tk 7 ?_ rfl (by kernel_rfl) (fun _ _ _ h => h) (.inl ⟨by rfl, ?_⟩) hHeld ?_; rotate_left; · (intro w _; go_simp; try with_reducible rfl)
 clear hHeld; intro hHeld; try simp only [gA,gB,gC,Act.put,gD,gE,gF]
 refine tk 8 ?_ rfl (by kernel_rfl) (fun _ _ _ h => h) (.inl ⟨by rfl, ?_⟩) hHeld ?_; rotate_left; · (intro w _; go_simp; try with_reducible rfl)
 clear hHeld; intro hHeld; try simp only [gA,gB,gC,Act.put,gD,gE,gF]
 refine tk 9 ?_ rfl (by kernel_rfl) (fun _ _ _ h => h) (.inl ⟨by rfl, ?_⟩) hHeld ?_; rotate_left; · (intro w _; go_simp; try with_reducible rfl)
 clear hHeld; intro hHeld; try simp only [gA,gB,gC,Act.put,gD,gE,gF]
 refine tk 10 ?_ rfl (by kernel_rfl) (fun _ _ _ h => h) (.inl ⟨by rfl, ?_⟩) hHeld ?_; rotate_left; · (intro w _; go_simp; try with_reducible rfl)
 clear hHeld; intro hHeld; try simp only [gA,gB,gC,Act.put,gD,gE,gF]
 refine tk 11 ?_ rfl (by kernel_rfl) (fun _ _ _ h => h) (.inl ⟨by rfl, ?_⟩) hHeld ?_; rotate_left; · (intro w _; go_simp; try with_reducible rfl)
 clear hHeld; intro hHeld; try simp only [gA,gB,gC,Act.put,gD,gE,gF]
 refine wpAnyL_done (by kernel_rfl) ?_ _
 clear hHeld
 go_wp2
 go_ret3
 exact ⟨rfl, (Chg.refl [] w).drew⟩
end
abbrev rqC (s : Sp) (i : Nat) : Array Value := #[.int .i64 2, .int .i64 s.c, .int .i64 s.l, .int .i64 s.n, .int .i64 (i : Int), .slice none 0 0]
abbrev rqZ : Array Value := #[.int .i64 0, .int .i64 0, .int .i64 0, .int .i64 0, .int .i64 0, .slice none 0 0]
abbrev rpZ : Array Value := #[.int .i64 0, .slice none 0 0, .slice none 0 0, .int .i64 0, .bool false]
theorem tmod_nat (z : Int) (q : Nat) (hz : 0 <= z) (hq : 1 <= q) : ∃ a : Nat, z.tmod (q : Int) = (a : Int) /\ a < q := by
 have h5 := Int.emod_nonneg z (show (q : Int) ≠ 0 by omega)
 have h6 := Int.emod_lt_of_pos z (show 0 < (q : Int) by omega)
 exact ⟨(z % (q : Int)).toNat, by rw [Int.tmod_eq_emod_of_nonneg hz, Int.toNat_of_nonneg h5], by omega⟩
theorem cells6 {w : World} {b t : Nat} {a0 a1 a2 a3 a4 a5 : Value} (h : w.heap[b]? = some (.cells #[a0, a1, a2, a3, a4, a5] t (0, 0))) : w.cell? ⟨b, 0, none⟩ = some a0 /\ w.cell? ⟨b, 1, none⟩ = some a1 /\ w.cell? ⟨b, 2, none⟩ = some a2 /\ w.cell? ⟨b, 3, none⟩ = some a3 /\ w.cell? ⟨b, 4, none⟩ = some a4 /\ w.cell? ⟨b, 5, none⟩ = some a5 :=
 ⟨blk_cell h 0 _ rfl, blk_cell h 1 _ rfl, blk_cell h 2 _ rfl, blk_cell h 3 _ rfl, blk_cell h 4 _ rfl, blk_cell h 5 _ rfl⟩
def FewSt (E : Env) (X : List Nat) (wb w0 : World) (go : Nat) (L : List Sr) (f0 : FS) (k : Nat) (f : FS) (w : World) : Prop :=
 RunAt E X wb w go L (.slice none 0 0) [] f /\ Same3 f0 f /\ (Ended E (fun _ => 1) f ∨ Going E (fun _ => 1) f) /\ f.known.count 0 + k = E.n /\ f.known.length = E.n /\ Few E f /\ Chg [] w0 w
theorem few21_any (m z0 z1 : Int) (D : List UInt8) (va : Option Addr) (vc : Nat) (w : World) (h0 : 0 <= z0 /\ z0 <= 65535) (h1 : 0 <= z1 /\ z1 <= 65535) (h : BytesAt w (.slice va D.length vc) D) : Calls Tryz.prog 4 #[.int .i64 m, .slice va D.length vc, .agg #[.int .u16 z0, .int .u16 z1]] w fun e w' => e = .returned (.bool true) /\ Chg [] w w' := by
 obtain ⟨w0, hw0⟩ : ∃ w0, w0 = w.alloc (.cells #[.int .u16 z0, .int .u16 z1] 41) := ⟨_, rfl⟩
 have HC0 := LH (show Chg [] w w0 by rw [hw0]; exact (Chg.refl _ _).alloc _)
 have HB0 := LH (show w0.heap[w.heap.size]? = some (.cells #[.int .u16 z0, .int .u16 z1] 41 (0, 0)) by rw [hw0]; exact heap_alloc_new w _)
 have HW0 := LH hw0
 have CA := LH (awake21_any w0)
 have HD := LH h
 clear h hw0
 go_enter Tryz.func4, Tryz.ntmps4
 go_wp2_with fail
 rw [<- HW0.out]
 refine CA.out.mono ?_
 rintro e w1 ⟨rfl, hc1⟩
 have HC1 := LH (HC0.out.trans hc1 (by simp))
 have HB1 := LH (hc1.keep HB0.out (by simp))
 have CV := LH (servers13_ok m w1)
 clear hc1 CA HB0 HC0
 go_wp2_with fail
 refine CV.out.mono ?_
 rintro e w2 ⟨n, h3, h16, rfl, hw2⟩
 subst hw2
 have CS := LH (stripe_ok m w1)
 clear CV
 go_wp2_with fail
 refine CS.out.mono ?_
 rintro e w2 ⟨s, hs, rfl, hc2⟩
 obtain ⟨w3, hw3⟩ : ∃ w3, w3 = w2.alloc (.cells (spC s) 26) := ⟨_, rfl⟩
 have HW3 := LH hw3
 have HS := LH hs
 have HB3 := LH (show w3.heap[w2.heap.size]? = some (.cells (spC s) 26 (0, 0)) by rw [hw3]; exact heap_alloc_new w2 _)
 have hc13 : Chg [] w1 w3 := by rw [hw3]; exact hc2.alloc _
 have HC3 := LH (HC1.out.trans hc13 (by simp))
 have HA3 := LH (hc13.keep HB1.out (by simp))
 clear hs hc2 hw3 CS HC1 hc13 HB1
 by_cases hL0 : D.length = 0
 ·have b1 : ((D.length : Int) == 0) = true := by rw [hL0]; rfl
  go_wp2
  all_goals
   go_ret
   rw [<- HW3.out]
   exact ⟨rfl, HC3.out⟩
 have b1 : ((D.length : Int) == 0) = false := beq_eq_false_iff_ne.2 (by omega)
 by_cases hL1 : 800 < D.length
 ·have b2 : decide ((800 : Int) < (D.length : Int)) = true := decide_eq_true (by omega)
  go_wp2
  all_goals
   go_ret
   rw [<- HW3.out]
   exact ⟨rfl, HC3.out⟩
 have b2 : decide ((800 : Int) < (D.length : Int)) = false := decide_eq_false (by omega)
 have u1 : IntKind.i64.wrap ((n : Int) - 1) = (n : Int) - 1 := IntWalk.i64_in _ ⟨by omega, by omega⟩
 have u2 : IntKind.i64.wrap (400 * ((n : Int) - 1)) = 400 * ((n : Int) - 1) := IntWalk.i64_in _ ⟨by omega, by omega⟩
 by_cases hL2 : 400 * (n - 1) < D.length
 ·go_wp2
  all_goals first
   | (exfalso; omega)
   | (go_ret; rw [<- HW3.out]; exact ⟨rfl, HC3.out⟩)
 have CN := LH (nodes_ok s D (.slice va D.length vc) n w3 HS.out (HD.out.chg HC3.out (by simp)) h3 h16 (by omega) (by omega))
 go_wp2_with fail
 rw [<- HW3.out]
 refine CN.out.mono ?_
 rintro e w4 ⟨go, co, L, rfl, hn, hgo⟩
 have hc4 : Chg [] w3 w4 := hn.many.chg
 have hb4 := hc4.keep HB3.out (by simp)
 have ha4 := hc4.keep HA3.out (by simp)
 have x0 := blk_cell ha4 0 _ rfl
 have x1 := blk_cell ha4 1 _ rfl
 have p0 := blk_cell hb4 0 _ rfl
 have p1 := blk_cell hb4 1 _ rfl
 have p2 := blk_cell hb4 2 _ rfl
 have HN := LH hn
 have HC4 := LH (HC3.out.trans hc4 (by simp))
 clear hn hgo hc4 CN b1 b2 u1 u2 ha4 hb4
 have hLL : 1 <= D.length /\ D.length <= 800 /\ D.length <= 400 * (n - 1) := by omega
 clear hL0 hL1 hL2
 have hLz : ¬ (D.length : Int) = 0 := by omega
 obtain ⟨a, ha, ha2⟩ := tmod_nat z0 D.length h0.1 hLL.1
 have m1 : IntKind.i64.wrap ((D.length : Int) - (a : Int)) = (D.length : Int) - (a : Int) := IntWalk.i64_in _ ⟨by omega, by omega⟩
 obtain ⟨q, hq, hq2⟩ : ∃ q : Nat, min (64 : Int) ((D.length : Int) - (a : Int)) = (q : Int) /\ 1 <= q /\ q <= 64 /\ a + q <= D.length := ⟨min 64 (D.length - a), by omega, by omega, by omega, by omega⟩
 have hqz : ¬ (q : Int) = 0 := by omega
 obtain ⟨r, hr, hr2⟩ := tmod_nat z1 q h1.1 hq2.1
 obtain ⟨l, hl⟩ : ∃ l, l = r + 1 := ⟨_, rfl⟩
 have m3 : IntKind.i64.wrap (1 + (r : Int)) = (l : Int) := by rw [IntWalk.i64_in _ ⟨by omega, by omega⟩]; omega
 have hal : 1 <= l /\ l <= 64 /\ a + l <= D.length := by omega
 have CF := LH (fnew_ok s D n a l w4 HS.out h3 h16 (by omega) (by omega) (by omega))
 clear hl
 go_wp2_with fail
 refine CF.out.mono ?_
 rintro e w5 ⟨fb, kb, gb, rb, rfl, hf, hnd, hnw, hc5⟩
 have HE := LH (newEnv_ok (data := D) HS.out h3 h16 (by omega) (by omega) hnd)
 have HR := LH (run_start HN.out hf hnw hc5 HN.out.many.chg.size (BytesAt.nil _) (fun hne => absurd rfl hne))
 have HC5 := LH (HC4.out.trans hc5 (by simp))
 have HT : Hid (∀ x ∈ (newEnv s D n fb kb gb rb).T, w.heap.size <= x) := LH (fun x hx => Nat.le_trans HC4.out.size (hnw x hx))
 have CSP := LH (rspan_ok a l D.length n w5 (by omega) (by omega) (by omega) h3 h16)
 clear hf hnd hnw hc5 CF x0 x1 p0 p1 p2 ha hq hr m1 m3 hqz hLz
 obtain ⟨lo, hlo⟩ : ∃ lo, lo = a / eachN D.length n := ⟨_, rfl⟩
 obtain ⟨hi, hhi⟩ : ∃ hi, hi = (a + l - 1) / eachN D.length n := ⟨_, rfl⟩
 have hlh : lo <= hi := by rw [hlo, hhi]; exact Nat.div_le_div_right (by omega)
 have hhb : hi <= 2000 := by rw [hhi]; exact Nat.le_trans (Nat.div_le_self _ _) (by omega)
 rw [<- hlo, <- hhi] at CSP
 have Hl := LH (And.intro hlo hhi)
 clear hlo hhi
 go_wp2_with fail
 refine CSP.out.mono ?_
 rintro e w6 ⟨rfl, hc6⟩
 have q1 : ((n : Int) != (n : Int)) = false := by simp
 have H0 : Hid (FewSt (newEnv s D n fb kb gb rb) ([go] ++ (newEnv s D n fb kb gb rb).T) w3 w go L (FS.fresh n a l false) 0 (FS.fresh n a l false) w6) := LH ⟨HR.out.keep0 hc6, ⟨rfl, rfl, rfl⟩, .inr (Going.fresh HE.out a l false (.inl (by omega))), fresh_zero n a l false, by show (List.replicate n 0).length = n; simp, Few.fresh (E := newEnv s D n fb kb gb rb) a l false, HC5.out.trans hc6 (by simp)⟩
 clear hc6 CSP HR
 go_wp2_with fail
 go_loopg [17, 18] (n + 1) (fun g' s17 s18 wr => ∃ (k : Nat) (f : FS), s17 = .int .i64 (k : Int) /\ s18 = .int .i64 (k : Int) /\ k <= n /\ n + 1 <= k + g' /\ Hid (FewSt (newEnv s D n fb kb gb rb) ([go] ++ (newEnv s D n fb kb gb rb).T) w3 w go L (FS.fresh n a l false) k f wr))
 case atStart => exact ⟨0, _, rfl, rfl, by omega, by omega, H0⟩
 case round =>
  obtain ⟨k, f, rfl, rfl, hk, hkg, HX⟩ := hrel
  clear H0
  have hkz : (k : Int) <= (n : Int) := by omega
  rcases HX.out.2.2.1 with hend | hgo
  ·have HEN := LH hend
   have CA := LH (fask_done wr HE.out HX.out.1.ft hend.d)
   clear hend q1
   go_wp2_with fail
   refine CA.out.mono ?_
   rintro e w7 ⟨rfl, hc7⟩
   obtain ⟨w8, hw8⟩ : ∃ w8, w8 = w7.alloc (.cells rqZ 47) := ⟨_, rfl⟩
   have hc8 : Chg [] wr w8 := by rw [hw8]; exact hc7.alloc _
   have HB8 := LH (show w8.heap[w7.heap.size]? = some (.cells rqZ 47 (0, 0)) by rw [hw8]; exact heap_alloc_new w7 _)
   have HW8 := LH hw8
   have CB := LH (fask_done w8 HE.out (HX.out.1.ft.keep hc8) HEN.out.d)
   have HC8 := LH hc8
   clear hw8 hc7 hc8 CA
   go_wp2_with fail
   rw [<- HW8.out]
   refine CB.out.mono ?_
   rintro e w9 ⟨rfl, hc9⟩
   obtain ⟨w10, hw10⟩ : ∃ w10, w10 = w9.alloc (.cells rqZ 47) := ⟨_, rfl⟩
   have hc10 : Chg [] w8 w10 := by rw [hw10]; exact hc9.alloc _
   have hb10 : w10.heap[w9.heap.size]? = some (.cells rqZ 47 (0, 0)) := by rw [hw10]; exact heap_alloc_new w9 _
   have hb8 := hc10.keep HB8.out (by simp)
   have HW10 := LH hw10
   obtain ⟨y0, y1, y2, y3, y4, -⟩ := cells6 hb8
   obtain ⟨z0', z1', z2', z3', z4', -⟩ := cells6 hb10
   have C := LH (HC8.out.trans hc10 (by simp))
   clear hw10 hc9 hc10 hb10 hb8 CB HB8
   go_upto_region 20 with (fail)
   rw [<- HW10.out]
   have hs3 := HX.out.2.1
   have hfin : f.e = 0 /\ f.out = f.aim D := by
    rcases HEN.out.well (fun _ => rfl) with ⟨h1, h2, _⟩ | ⟨_, _, _, h4⟩
    ·exact ⟨h1, h2⟩
    ·rw [hs3.1, hs3.2.1] at h4; exact absurd h4 (by show ¬ D.length < a + l; omega)
   have hout : f.out = (D.drop a).take l := by
    rw [hfin.2]
    unfold FS.aim
    rw [hs3.1, hs3.2.1, hs3.2.2]
    rfl
   have hfe := hfin.1
   have Ho := LH hout
   have hflo : f.lo D.length n = lo := by
    unfold FS.lo
    rw [hs3.1, hs3.2.2]
    exact Hl.out.1.symm
   have hfhi : f.hi D.length n = hi := by
    unfold FS.hi
    rw [hs3.1, hs3.2.1, hs3.2.2]
    exact Hl.out.2.symm
   have hcnt := few_count f.known lo hi hlh (fun i hne => by
    have := HX.out.2.2.2.2.2.1 i hne
    rw [show f.lo (newEnv s D n fb kb gb rb).data.length (newEnv s D n fb kb gb rb).n = lo from hflo, show f.hi (newEnv s D n fb kb gb rb).data.length (newEnv s D n fb kb gb rb).n = hi from hfhi] at this
    exact this)
   have hkl : f.known.length = n := HX.out.2.2.2.2.1
   have hkc : f.known.count 0 + k = n := HX.out.2.2.2.1
   have hkq : (k : Int) <= (hi : Int) - (lo : Int) + 2 := by omega
   have m6 : IntKind.i64.wrap ((hi : Int) - (lo : Int)) = (hi : Int) - (lo : Int) := IntWalk.i64_in _ ⟨by omega, by omega⟩
   have m7 : IntKind.i64.wrap ((hi : Int) - (lo : Int) + 2) = (hi : Int) - (lo : Int) + 2 := IntWalk.i64_in _ ⟨by omega, by omega⟩
   have CD := LH (fdone_any w10 HE.out (HX.out.1.ft.keep C.out) HEN.out.d (by have h1 := HEN.out.out_len; have h2 : f.out.length <= D.length := h1; omega))
   clear hs3 hfin hout hflo hfhi hcnt hkl hkc
   go_wp2_with fail
   refine CD.out.mono ?_
   rintro e w11 ⟨v, rfl, hv, hvn, hc11⟩
   obtain ⟨ua, uc, hve⟩ := hv.slice
   subst hve
   have HC11 := LH ((HX.out.2.2.2.2.2.2.trans C.out (by simp)).trans hc11 (by simp))
   obtain ⟨g, o, hva, hpc⟩ := HD.out.piece a l (by omega) (by omega)
   have hdl : ((D.drop a).take l).length <= 1000000000 := by rw [List.length_take]; omega
   have CS1 : Hid (Calls Tryz.prog 14 #[.slice ua f.out.length uc, .slice (some ⟨g, o + a, none⟩) l (vc - a)] w11 fun e w' => e = .returned (.bool true) /\ ∃ n, w' = w11.drewN n) := LH ((same_any _ _ f.out _ w11 hv.bytes (hpc.chg HC11.out (by simp)) (by rw [Ho.out]; exact hdl) hdl).mono fun e w' ⟨h1, h2⟩ => ⟨by rw [h1, Ho.out]; simp, h2⟩)
   subst hva
   have hcap := HD.out.cap.1
   have m5 : IntKind.i64.wrap ((a : Int) + (l : Int)) = ((a + l : Nat) : Int) := by rw [IntWalk.i64_in _ ⟨by omega, by omega⟩]; omega
   have hcz : 0 <= (a : Int) + (l : Int) /\ (a : Int) + (l : Int) <= (vc : Int) := by omega
   rw [hfe]
   clear hv hvn hc11 hpc hdl CD hfe
   go_wp2_with fail
   refine CS1.out.mono ?_
   rintro e w12 ⟨rfl, nq, rfl⟩
   clear CS1
   go_wp2
   go_ret
   exact ⟨rfl, HC11.out.drewN nq⟩
  ·obtain ⟨i, lw, hw⟩ := hgo.wn
   obtain ⟨hi', h0', -⟩ := hgo.inv.first HE.out hw
   have CA := LH (fask_next i wr HE.out HX.out.1.ft hgo.nd hi' (.inr ⟨hgo.na, lw, hw⟩) hgo.inv.win)
   have G := LH (And.intro hgo (And.intro hw h0'))
   have HLF : Hid (1 <= f.known.count 0 /\ f.known.count 0 + k = n) := LH ⟨hgo.left HE.out, HX.out.2.2.2.1⟩
   clear hgo hw h0' q1
   go_wp2_with fail
   refine CA.out.mono ?_
   rintro e w7 ⟨rfl, hf7, hc7⟩
   obtain ⟨f2, hf2⟩ : ∃ f2 : FS, f2 = { f with asked := (i : Int) } := ⟨_, rfl⟩
   have HF2 := LH hf2
   rw [<- hf2] at hf7
   clear hf2
   obtain ⟨w8, hw8⟩ : ∃ w8, w8 = w7.alloc (.cells (rqC s i) 47) := ⟨_, rfl⟩
   have hr8 : Chg [] w7 w8 := by rw [hw8]; exact (Chg.refl _ _).alloc _
   have HR8 := LH ((HX.out.1.step hc7 hf7).keep0 hr8)
   have HC8 : Hid (Chg (newEnv s D n fb kb gb rb).T wr w8) := LH (hc7.trans (hr8.mono (T := (newEnv s D n fb kb gb rb).T) (by simp)) (fun x hx => .inl hx))
   have HB8 := LH (show w8.heap[w7.heap.size]? = some (.cells (rqC s i) 47 (0, 0)) by rw [hw8]; exact heap_alloc_new w7 _)
   have HW8 := LH hw8
   have h7T : w7.heap.size ∉ (newEnv s D n fb kb gb rb).T := fun hm => by
    have h1 := hf7.lim _ hm
    omega
   have CB := LH (fask_next (f := f2) i w8 HE.out HR8.out.ft (by rw [HF2.out]; exact G.out.1.nd) hi' (.inl (by rw [HF2.out])) (by rw [HF2.out]; exact G.out.1.inv.win))
   rw [show { f2 with asked := (i : Int) } = f2 by rw [HF2.out]] at CB
   clear hf7 hc7 hr8 hw8 CA
   go_wp2_with fail
   rw [<- HW8.out]
   refine CB.out.mono ?_
   rintro e w9 ⟨rfl, hf9, hc9⟩
   obtain ⟨w10, hw10⟩ : ∃ w10, w10 = w9.alloc (.cells (rqC s i) 47) := ⟨_, rfl⟩
   have hr10 : Chg [] w9 w10 := by rw [hw10]; exact (Chg.refl _ _).alloc _
   have R := LH ((HR8.out.step hc9 hf9).keep0 hr10)
   have hc10 : Chg (newEnv s D n fb kb gb rb).T w8 w10 := hc9.trans (hr10.mono (T := (newEnv s D n fb kb gb rb).T) (by simp)) (fun x hx => .inl hx)
   have C : Hid (Chg (newEnv s D n fb kb gb rb).T wr w10) := LH (HC8.out.trans hc10 (fun x hx => .inl hx))
   have hb10 : w10.heap[w9.heap.size]? = some (.cells (rqC s i) 47 (0, 0)) := by rw [hw10]; exact heap_alloc_new w9 _
   have hb8 := hc10.keep HB8.out h7T
   have HB10 := LH hb8
   have HW10 := LH hw10
   obtain ⟨s', hcell, hgot⟩ := R.out.nodes.got HE.out.s h16 hi'
   have Hg := LH hgot
   have hpl := place_lt s i (show 0 < n by omega)
   obtain ⟨pl, hpp⟩ : ∃ pl, pl = placeN s i n := ⟨_, rfl⟩
   have hd : ∀ w', Chg [] w10 w' -> w'.cell? ⟨go, pl, none⟩ = some (.pointer (some ⟨s'.z, 0, none⟩)) := by rw [hpp]; exact hcell
   have Hd := LH hd
   obtain ⟨y0, y1, y2, y3, y4, -⟩ := cells6 hb8
   obtain ⟨z0', z1', z2', z3', z4', -⟩ := cells6 hb10
   rw [<- show pl = placeN (newEnv s D n fb kb gb rb).s i (newEnv s D n fb kb gb rb).n from hpp]
   rw [<- hpp] at hpl
   clear hpp hcell hgot hd
   have e1 : ¬ (pl : Int) < 0 := by omega
   have e2 : ¬ (n : Int) <= (pl : Int) := by omega
   have e3 : (pl : Int) < (n : Int) := by omega
   have e4 : (pl : Int).toNat = pl := by omega
   have q2 : ((pl : Int) != (pl : Int)) = false := by simp
   clear hf9 hc9 hr10 hc10 hw10 hb10 hb8 CB
   go_upto_region 20 with (fail)
   rw [<- HW10.out]
   go_upto_region 26 with (fail)
   clear y0 y1 y2 y3 y4 z0' z1' z2' z3' z4' q2
   go_cut [25, 26] (fun s25 s26 wx => ∃ (H : Nat) (ra ia : Option Addr) (rcap icap : Nat), s25 = .pointer (some ⟨H, 0, none⟩) /\ s26 = .int .i64 0 /\ Hid (Got1 (newEnv s D n fb kb gb rb) i w10 wx H ra ia rcap icap))
   case first =>
    have CG := LH (Hg.out w10.drew ((Chg.refl [] w10).drew))
    have CG2 := LH (Hg.out (w10.alloc (.cells rpZ 52)).drew (((Chg.refl [] w10).alloc _).drew))
    obtain ⟨r0, r1, r2, r3, r4, r5⟩ := cells6 HB10.out
    have rc := Hd.out w10 (Chg.refl _ _)
    refine wp_region_L [(5, fun w' => w'.cell? ⟨go, pl, none⟩ = some (.pointer (some ⟨s'.z, 0, none⟩))), (5, fun w' => (w'.cell? ⟨w7.heap.size, 0, none⟩ = some (.int .i64 2) /\ w'.cell? ⟨w7.heap.size, 1, none⟩ = some (.int .i64 s.c) /\ w'.cell? ⟨w7.heap.size, 2, none⟩ = some (.int .i64 s.l) /\ w'.cell? ⟨w7.heap.size, 3, none⟩ = some (.int .i64 s.n) /\ w'.cell? ⟨w7.heap.size, 4, none⟩ = some (.int .i64 (i : Int)) /\ w'.cell? ⟨w7.heap.size, 5, none⟩ = some (.slice none 0 0)))] (by kernel_rfl) ?_ (fun hHeld => ?_)
    ·exact (HoldC.cons (rc) (HoldC.cons (⟨r0, r1, r2, r3, r4, r5⟩) HoldC.nil))
    refine tk 0 ?_ rfl (by kernel_rfl) (fun _ _ _ h => h) (.inl ⟨by rfl, ?_⟩) hHeld ?_; rotate_left; · (intro w _; go_simp; try with_reducible rfl)
    clear hHeld; intro hHeld; try simp only [gA,gB,gC,Act.put,gD,gE,gF]
    refine tk 1 ?_ rfl (by kernel_rfl) (fun _ _ _ h => h) (.inl ⟨by rfl, ?_⟩) hHeld ?_; rotate_left; · (intro w _; go_simp; try with_reducible rfl)
    clear hHeld; intro hHeld; try simp only [gA,gB,gC,Act.put,gD,gE,gF]
    refine tk 2 ?_ rfl (by kernel_rfl) (fun _ _ _ h => h) (.inl ⟨by rfl, ?_⟩) hHeld ?_; rotate_left; · (intro w _; go_simp; try with_reducible rfl)
    clear hHeld; intro hHeld; try simp only [gA,gB,gC,Act.put,gD,gE,gF]
    refine ld 0 3 ?_ rfl rfl (by kernel_rfl) (fun _ _ _ h => h) (.inl ⟨by rfl, ?_⟩) hHeld ?_; rotate_left; · (intro w hSw; (try dsimp only at hSw); go_simp; try with_reducible rfl)
    clear hHeld; intro hHeld; try simp only [gA,gB,gC,Act.put,gD,gE,gF]
    refine ld 1 4 ?_ rfl rfl (by kernel_rfl) (fun _ _ _ h => h) (.inl ⟨by rfl, ?_⟩) hHeld ?_; rotate_left; · (intro w hSw; (try dsimp only at hSw); go_simp; try with_reducible rfl)
    clear hHeld; intro hHeld; try simp only [gA,gB,gC,Act.put,gD,gE,gF]
    refine wpAnyL_ready (rs := [5, 9]) (by kernel_rfl) (by simp) ?_
    refine AllReadyL.cons (o := _) rfl (fun K hK => ?_) (AllReadyL.cons (o := _) rfl (fun K hK => ?_) AllReadyL.nil)
    ·try simp only [gA,gB,gC]
     go_simp
     refine CG.out.mono ?_
     rintro e w11 ⟨ra, rcap, ia, icap, rfl, hb4, hn4, hc4⟩
     clear CG CG2 r0 r1 r2 r3 r4 r5 rc
     clear hHeld
     refine hK.out _ _ ?_ (fun hHeld => ?_)
     ·exact (HoldC.past (by kernel_rfl) (HoldC.past (by kernel_rfl) HoldC.nil))
     clear hK K
     try simp only [gA,gB,gC,Act.put,gD,gE,gF]
     refine tk 6 ?_ rfl (by kernel_rfl) (fun _ _ _ h => h) (.inl ⟨by rfl, ?_⟩) hHeld ?_; rotate_left; · (intro w _; go_simp; try with_reducible rfl)
     clear hHeld; intro hHeld; try simp only [gA,gB,gC,Act.put,gD,gE,gF]
     refine tk 7 ?_ rfl (by kernel_rfl) (fun _ _ _ h => h) (.inl ⟨by rfl, ?_⟩) hHeld ?_; rotate_left; · (intro w _; go_simp; try with_reducible rfl)
     clear hHeld; intro hHeld; try simp only [gA,gB,gC,Act.put,gD,gE,gF]
     refine tk 8 ?_ rfl (by kernel_rfl) (fun _ _ _ h => h) (.inl ⟨by rfl, ?_⟩) hHeld ?_; rotate_left; · (intro w _; go_simp; try with_reducible rfl)
     clear hHeld; intro hHeld; try simp only [gA,gB,gC,Act.put,gD,gE,gF]
     refine wpAnyL_ready (rs := [9]) (by kernel_rfl) (by simp) (AllReadyL.cons (o := _) rfl (fun K hK => ?_) AllReadyL.nil)
     try simp only [gA,gB,gC]
     go_simp
     clear hHeld
     refine hK.out _ _ ?_ (fun hHeld => ?_)
     ·exact (HoldC.past (by kernel_rfl) (HoldC.past (by kernel_rfl) HoldC.nil))
     clear hK K
     try simp only [gA,gB,gC,Act.put,gD,gE,gF]
     refine wpAnyL_ready (rs := [10]) (by kernel_rfl) (by simp) (AllReadyL.cons (o := _) rfl (fun K hK => ?_) AllReadyL.nil)
     try simp only [gA,gB,gC]
     go_simp
     clear hHeld
     refine hK.out _ _ ?_ (fun hHeld => ?_)
     ·exact (HoldC.past (by kernel_rfl) (HoldC.past (by kernel_rfl) HoldC.nil))
     clear hK K
     try simp only [gA,gB,gC,Act.put,gD,gE,gF]
     refine tk 11 ?_ rfl (by kernel_rfl) (fun _ _ _ h => h) (.inl ⟨by rfl, ?_⟩) hHeld ?_; rotate_left; · (intro w _; go_simp; try with_reducible rfl)
     clear hHeld; intro hHeld; try simp only [gA,gB,gC,Act.put,gD,gE,gF]
     refine wpAnyL_done (by kernel_rfl) ?_ _
     clear hHeld
     have HN := LH (show Got1 (newEnv s D n fb kb gb rb) i w10 (w11.alloc (.cells #[.int .i64 0, .slice ra (fragN s D n i).length rcap, .slice ia 0 icap, .int .i64 0, .bool false] 52)) w11.heap.size ra ia rcap icap from ⟨(((Chg.refl [] w10).drew).trans hc4 (by simp)).alloc _, heap_alloc_new w11 _, hb4.chg ((Chg.refl [] w11).alloc _) (by simp), hn4⟩)
     clear hb4 hn4 hc4
     go_wp2_with fail
     go_meet
     exact ⟨_, ra, ia, rcap, icap, rfl, rfl, HN⟩
    ·try simp only [gA,gB,gC]
     go_simp
     have hcA : Chg [] w10 (w10.alloc (.cells rpZ 52)).drew := ((Chg.refl [] w10).alloc _).drew
     have HA0 : Hid ((w10.alloc (.cells rpZ 52)).drew.heap[w10.heap.size]? = some (.cells rpZ 52 (0, 0))) := LH (heap_alloc_new w10 _)
     clear hHeld
     refine hK.out _ _ ?_ (fun hHeld => ?_)
     ·exact (HoldC.cons ((hcA.cell rc (by simp))) (HoldC.cons (⟨hcA.cell r0 (by simp), hcA.cell r1 (by simp), hcA.cell r2 (by simp), hcA.cell r3 (by simp), hcA.cell r4 (by simp), hcA.cell r5 (by simp)⟩) HoldC.nil))
     clear hK K
     try simp only [gA,gB,gC,Act.put,gD,gE,gF]
     refine wpAnyL_ready (rs := [5]) (by kernel_rfl) (by simp) (AllReadyL.cons (o := _) rfl (fun K hK => ?_) AllReadyL.nil)
     try simp only [gA,gB,gC]
     go_simp
     refine CG2.out.mono ?_
     rintro e w11 ⟨ra, rcap, ia, icap, rfl, hb4, hn4, hc4⟩
     have hz4 := hc4.keep HA0.out (by simp)
     have z0 := blk_cell hz4 0 _ rfl
     have z1 := blk_cell hz4 1 _ rfl
     have z2 := blk_cell hz4 2 _ rfl
     have z3 := blk_cell hz4 3 _ rfl
     have z4 := blk_cell hz4 4 _ rfl
     have y0 := blk_frozen hz4 0
     have y1 := blk_frozen hz4 1
     have y2 := blk_frozen hz4 2
     have y3 := blk_frozen hz4 3
     have y4 := blk_frozen hz4 4
     have yl := blk_lt hz4
     have HZ4 := LH hz4
     have HN4 := LH (And.intro hb4 (And.intro hn4 (hcA.trans hc4 (by simp))))
     clear CG CG2 r0 r1 r2 r3 r4 r5 rc hb4 hn4 hc4 hz4 hcA HA0
     clear hHeld
     refine hK.out _ _ ?_ (fun hHeld => ?_)
     ·exact (HoldC.past (by kernel_rfl) (HoldC.past (by kernel_rfl) HoldC.nil))
     clear hK K
     try simp only [gA,gB,gC,Act.put,gD,gE,gF]
     refine tk 6 ?_ rfl (by kernel_rfl) (fun _ _ _ h => h) (.inl ⟨by rfl, ?_⟩) hHeld ?_; rotate_left; · (intro w _; go_simp; try with_reducible rfl)
     clear hHeld; intro hHeld; try simp only [gA,gB,gC,Act.put,gD,gE,gF]
     refine tk 7 ?_ rfl (by kernel_rfl) (fun _ _ _ h => h) (.inl ⟨by rfl, ?_⟩) hHeld ?_; rotate_left; · (intro w _; go_simp; try with_reducible rfl)
     clear hHeld; intro hHeld; try simp only [gA,gB,gC,Act.put,gD,gE,gF]
     refine tk 8 ?_ rfl (by kernel_rfl) (fun _ _ _ h => h) (.inl ⟨by rfl, ?_⟩) hHeld ?_; rotate_left; · (intro w _; go_simp; try with_reducible rfl)
     clear hHeld; intro hHeld; try simp only [gA,gB,gC,Act.put,gD,gE,gF]
     refine wpAnyL_ready (rs := [10]) (by kernel_rfl) (by simp) (AllReadyL.cons (o := _) rfl (fun K hK => ?_) AllReadyL.nil)
     try simp only [gA,gB,gC]
     go_simp
     clear hHeld
     refine hK.out _ _ ?_ (fun hHeld => ?_)
     ·exact (HoldC.past (by kernel_rfl) (HoldC.past (by kernel_rfl) HoldC.nil))
     clear hK K
     try simp only [gA,gB,gC,Act.put,gD,gE,gF]
     refine tk 11 ?_ rfl (by kernel_rfl) (fun _ _ _ h => h) (.inl ⟨by rfl, ?_⟩) hHeld ?_; rotate_left; · (intro w _; go_simp; try with_reducible rfl)
     clear hHeld; intro hHeld; try simp only [gA,gB,gC,Act.put,gD,gE,gF]
     refine wpAnyL_done (by kernel_rfl) ?_ _
     clear hHeld
     have hH := five_set HZ4.out (.int .i64 0) (.slice ra (fragN s D n i).length rcap) (.slice ia 0 icap) (.int .i64 0) (.bool false)
     have hcH : Chg [w10.heap.size] w11 (w11.setCells w10.heap.size 0 [.int .i64 0, .slice ra (fragN s D n i).length rcap, .slice ia 0 icap, .int .i64 0, .bool false]) := (Chg.refl _ w11).setCells (.inl (by simp)) _
     have hc3H : Chg [] w10 (w11.setCells w10.heap.size 0 [.int .i64 0, .slice ra (fragN s D n i).length rcap, .slice ia 0 icap, .int .i64 0, .bool false]) := HN4.out.2.2.setCells (.inr (Nat.le_refl _)) _
     have hnk : ∀ k, (Value.slice ra (fragN s D n i).length rcap).ownBlock = some k -> w10.heap.size + 1 <= k := fun k hk => by have := HN4.out.2.1 k hk; simpa using this
     have HN := LH (show Got1 (newEnv s D n fb kb gb rb) i w10 (w11.setCells w10.heap.size 0 [.int .i64 0, .slice ra (fragN s D n i).length rcap, .slice ia 0 icap, .int .i64 0, .bool false]) w10.heap.size ra ia rcap icap from ⟨hc3H, hH, HN4.out.1.chg hcH (fun k hk hm => by have h1 := hnk k hk; have h2 := List.mem_singleton.1 hm; omega), fun k hk => by have := hnk k hk; omega⟩)
     simp only [World.setCells, Nat.zero_add, Nat.reduceAdd] at HN
     clear hH hcH hc3H hnk z0 z1 z2 z3 z4 y0 y1 y2 y3 y4 yl
     go_wp2_with fail
     go_meet
     exact ⟨_, ra, ia, rcap, icap, rfl, rfl, HN⟩
   case rest =>
   obtain ⟨H, ra, ia, rcap, icap, rfl, rfl, HG1⟩ := hcut
   obtain ⟨wd, hwd⟩ : ∃ wd : World, wd = wc := ⟨_, rfl⟩
   rw [<- hwd] at HG1 ⊢
   clear hwd
   have HRC := LH (R.out.keep0 HG1.out.1)
   have HTL : Hid (∀ x ∈ (newEnv s D n fb kb gb rb).T, x < w10.heap.size) := LH R.out.ft.lim
   have HHH := HG1.out.2.1
   have p0 := blk_cell HHH 0 _ rfl
   have p1 := blk_cell HHH 1 _ rfl
   have p2 := blk_cell HHH 2 _ rfl
   have p3 := blk_cell HHH 3 _ rfl
   have p4 := blk_cell HHH 4 _ rfl
   have hS3 := HX.out.2.1
   have Hs := LH (G.out.1.good HE.out G.out.2.1)
   have CV := LH (fgive_good (f := f2) i wd 0 ra ia (fragN s D n i).length rcap 0 icap false HE.out HRC.out.ft (by rw [HF2.out]; exact G.out.1.nd) (by rw [HF2.out]) hi' HG1.out.2.2.1 (fun q hq hm => by have h1 := HG1.out.2.2.2 q hq; have h2 := HTL.out q hm; omega) (by rw [HF2.out]; show f.at' <= 100000 /\ f.len <= 100000; rw [hS3.1, hS3.2.1]; exact ⟨by show a <= 100000; omega, by show l <= 100000; omega⟩) (by rw [HF2.out]; exact fun hh => (G.out.1.inv.had HE.out G.out.2.1 hh).able HE.out))
   rw [show f2.good (newEnv s D n fb kb gb rb) i = f.good (newEnv s D n fb kb gb rb) i by rw [HF2.out]; rfl] at CV
   clear HHH hS3
   go_wp2_with fail
   refine CV.out.mono ?_
   rintro e w11 ⟨rfl, hf11, hc11⟩
   have CW := LH (fgive_noop (f := f.good (newEnv s D n fb kb gb rb) i) w11 6 0 none none 0 0 0 0 false true HE.out hf11 (by
    rcases Hs.out.2.1 with h | h
    ·exact .inl h.d
    ·exact .inr ⟨h.nd, by rw [h.na]; omega⟩))
   have HR11 := LH (HRC.out.step hc11 hf11)
   have HC11 : Hid (Chg [] w w11) := LH (((HX.out.2.2.2.2.2.2.trans C.out (fun x hx => .inr (HT.out x hx))).trans HG1.out.1 (by simp)).trans hc11 (fun x hx => .inr (HT.out x hx)))
   clear hf11 hc11 CV p0 p1 p2 p3 p4
   go_wp2_with fail
   refine CW.out.mono ?_
   rintro e w12 ⟨rfl, hc12⟩
   have HN : Hid (FewSt (newEnv s D n fb kb gb rb) ([go] ++ (newEnv s D n fb kb gb rb).T) w3 w go L (FS.fresh n a l false) (k + 1) (f.good (newEnv s D n fb kb gb rb) i) w12) := LH ⟨HR11.out.keep0 hc12, HX.out.2.1.trans Hs.out.1, Hs.out.2.1, by have h1 := Hs.out.2.2; have h2 := HX.out.2.2.2.1; omega, by rw [good_known, List.length_set]; exact HX.out.2.2.2.2.1, HX.out.2.2.2.2.2.1.good G.out.1 HE.out (fun _ => rfl) G.out.2.1, HC11.out.trans hc12 (by simp)⟩
   have hk1 : k + 1 <= n := by have := HLF.out; omega
   clear hc12 CW
   go_wp2
   go_roundg (gk - 1)
   case measure => omega
   case rel => exact ⟨k + 1, _, by go_num, by go_num, by omega, by omega, HN⟩
theorem IsRow.bytes {w : World} {a : Option Addr} {len cap : Nat} {zs : List Int} (h : IsRow .u8 w a len cap zs) : ∃ l, l.length = len /\ BytesAt w (.slice a len cap) l := by
 rcases h with ⟨rfl, rfl, rfl, rfl⟩ | ⟨x, rfl, h1, h2, h3, h4, h5⟩
 ·exact ⟨[], rfl, BytesAt.nil w⟩
 refine ⟨(zs.take len).map (fun z => UInt8.ofNat z.toNat), by rw [List.length_map, List.length_take]; omega, _, cap, by rw [List.length_map, List.length_take, Nat.min_eq_left (by omega)], by rw [List.length_map, List.length_take]; omega, h2, ?_⟩
 by_cases hc0 : cap = 0
 ·exact .inl ⟨List.eq_nil_of_length_eq_zero (by rw [List.length_map, List.length_take]; omega), hc0⟩
 obtain ⟨g, o, spot⟩ := x
 have hspot : spot = none := by simpa [Addr.add] using World.cell?_spot (h4 0 (by omega))
 subst hspot
 refine .inr ⟨g, o, rfl, fun i hi => ?_⟩
 rw [List.length_map, List.length_take] at hi
 have h6 := h4 i (by omega)
 have hi2 : i < zs.length := by omega
 have h7 := h5 zs[i] (List.getElem_mem hi2)
 rw [List.getD_eq_getElem?_getD, List.getElem?_eq_getElem hi2] at h6
 rw [add_none] at h6
 rw [h6, List.getD_eq_getElem?_getD, List.getElem?_map, List.getElem?_take, if_pos (by omega), List.getElem?_eq_getElem hi2]
 simp [Lit.wf, IntKind.min, IntKind.max, IntKind.signed, IntKind.bits] at h7
 show some (Value.int .u8 zs[i]) = some (bv (UInt8.ofNat zs[i].toNat))
 unfold bv
 rw [UInt8.toNat_ofNat']
 congr 2
 omega
end Go.Proofs.YtnbhanmpmjjkkaaGreatDoor.W
namespace Go.Proofs.YtnbhanmpmjjkkaaGreatDoor.fetchFew
open Go.RowKit
section
open Go.RowKit Go.ChangeShapes Go.WideShapes
theorem cellsOf_twow : Tryz.prog.cellsOf 41 = 2 := by kernel_rfl
theorem cellsOf_u16 : Tryz.prog.cellsOf 40 = 1 := by kernel_rfl
theorem open_twow {H : Type} {enc : TypeId × Value -> H} {w : World} {base base' : Nat} {held : Bool} {fuel : Nat} {v : Value} {x : DataW H × List MemPlace} (hv : Value.okWide Tryz.prog w .any base' 41 v)
  (h : DataW.trod enc Tryz.prog w base (fun _ => true) held fuel 41 v.cells.toList = some x) : ∃ z0 z1 : Int, v = .agg #[.int .u16 z0, .int .u16 z1] /\ (Lit.int .u16 z0).wf = true /\ (Lit.int .u16 z1).wf = true := by
 have hu := Tryz.underlying41
 unfold Value.okWide at hv
 simp only [hu] at hv
 obtain ⟨cs, rfl, hsz, _⟩ := hv
 rw [cellsOf_twow] at hsz
 obtain ⟨a, b, rfl⟩ : ∃ a b, cs = #[a, b] := by
  obtain ⟨l⟩ := cs
  match l, hsz with
  | [a, b], _ => exact ⟨a, b, rfl⟩
 cases fuel with
 | zero => simp [DataW.trod] at h
 | succ n =>
  unfold DataW.trod at h
  simp only [hu, Value.cells, cellsOf_twow, cellsOf_u16] at h
  rw [if_pos (by simp)] at h
  obtain ⟨xs, hxs, _⟩ := Option.map_eq_some_iff.1 h
  rw [show List.range 2 = [0, 1] from rfl, List.mapM_cons] at hxs
  obtain ⟨y0, h0, hxs⟩ := Option.bind_eq_some_iff.1 hxs
  rw [List.mapM_cons] at hxs
  obtain ⟨ys, hys, _⟩ := Option.bind_eq_some_iff.1 hxs
  obtain ⟨y1, h1, _⟩ := Option.bind_eq_some_iff.1 hys
  simp at h0 h1
  obtain ⟨z0, e0, _, w0⟩ := DataW.trod_int Tryz.underlying40 h0
  obtain ⟨z1, e1, _, w1⟩ := DataW.trod_int Tryz.underlying40 h1
  simp at e0 e1
  subst e0; subst e1
  exact ⟨z0, z1, rfl, w0, w1⟩
theorem wf16 {z : Int} (h : (Lit.int .u16 z).wf = true) : 0 <= z /\ z <= 65535 := by
 simp [Lit.wf, IntKind.min, IntKind.max, IntKind.signed, IntKind.bits] at h
 omega
theorem walk {H : Type} {enc : TypeId × Value -> H} {held : Bool} {base b2 : Nat} (m : Int) (va : Option Addr) (vl vc : Nat) (zs : List Int) (v2 : Value) (d2 : DataW H) (p2 : List MemPlace) (X : World) (wm : (Lit.int .i64 m).wf = true) (hz : IsRow .u8 X va vl vc zs) (hv2 : Value.okWide Tryz.prog X .any b2 41 v2) (k2 : DataW.Trod enc Tryz.prog X base (fun _ => true) held 41 v2 d2 p2) :
  Calls Tryz.prog 4 #[.int .i64 m, .slice va vl vc, v2] X fun e w' => e = .returned (.bool true) /\ Below X.heap.size X w' := by
 obtain ⟨l, rfl, hv⟩ := Go.Proofs.YtnbhanmpmjjkkaaGreatDoor.W.IsRow.bytes hz
 obtain ⟨fuel, hf⟩ := k2
 obtain ⟨z0, z1, rfl, w0, w1⟩ := open_twow hv2 hf
 exact (Go.Proofs.YtnbhanmpmjjkkaaGreatDoor.W.few21_any m z0 z1 l va vc X (wf16 w0) (wf16 w1) hv).mono fun e w' ⟨h1, h2⟩ => ⟨h1, h2.below (by simp)⟩
end
end Go.Proofs.YtnbhanmpmjjkkaaGreatDoor.fetchFew
