/- Texts laid together. -/
import Derived.Test.YtdkhmfcfihbjeaaGreatDoorPL5
import Derived.Test.YtdkhmfcfihbjeaaGreatDoorPL2
import Derived.Test.YtdkhmfcfihbjeaaGreatDoorPL1
import Derived.Test.YtdkhmfcfihbjeaaGreatDoorPL3
import Derived.LoopTactic
import Derived.Test.YtdkhmfcfihbjeaaGreatDoorPL4
import Derived.Deep.MidRow
set_option linter.unusedVariables false
set_option linter.unusedSimpArgs false
set_option maxHeartbeats 64000000
set_option maxRecDepth 100000
namespace Go.Proofs.YtdkhmfcfihbjeaaGreatDoor.W
open Go.RowKit
def RpAt (w0 w : World) (v : Value) (o : Rp) : Prop := ∃ bv iv, v = rpV o.e bv iv o.room o.whole /\ BytesAt w bv o.b /\ (∀ k, bv.ownBlock = some k -> w0.heap.size <= k) /\ w.ownsRow w0.heap.size 38 4 iv o.ids.length (o.ids.flatMap idE)
theorem RpAt.err {w0 w : World} (e : Int) : RpAt w0 w (rpV e (.slice none 0 0) (.slice none 0 0) 0 false) (errRp e) :=
 ⟨_, _, rfl, BytesAt.nil _, by simp [Value.ownBlock], World.ownsRow_nil _ _ _ _⟩
theorem ret_rp {fn : Func} {p : Tmp} (h : fn.results = #[.cell p 32]) (tmps : Array Value) {w : World} {b t : Nat} {e room : Int} {bv iv : Value} {wh : Bool} (hp : tmps.getD p undef = .pointer (some ⟨b, 0, none⟩)) (hb : w.heap[b]? = some (.cells (rpL e bv iv room wh).toArray t (0, 0))) :
  (results fn tmps).run Tryz.prog w = .ok (rpV e bv iv room wh) w := by
 have hl := run_loadVar_row (P := Tryz.prog) w b t 32 (rpL e bv iv room wh).toArray (0, 0) _ hb Tryz.underlying32 rfl (rp_size _ _ _ _ _)
 have he : (results fn tmps).run Tryz.prog w = ((asAddr (tmps.getD p undef)).run Tryz.prog w).andThen fun a w₁ => (loadVar 32 a).run Tryz.prog w₁ := by
  simp only [results, h]
  simp [Sem.run_bind, Result.andThen]
 rw [he, hp]
 simp only [asAddr, Sem.run_pure, Result.andThen_ok, hl]
 rfl
theorem zeroRp_no8 {w : World} {b t : Nat} (h : w.heap[b]? = some (.cells zeroRp t (0, 0))) : NoU8 w b := NoU8.mk h (by
 unfold zeroRp
 refine no8_list (l := [.int .i64 0, .slice none 0 0, .slice none 0 0, .int .i64 0, .bool false]) (fun c hc => ?_)
 simp only [List.mem_cons, List.mem_nil_iff, or_false] at hc
 rcases hc with rfl | rfl | rfl | rfl | rfl <;> (intro z; simp))
section
variable {G T U : List Nat} {w w2 w3 w4 : World} {q p : Nat} {t t' : Sto}
theorem StAt.gl (h : StAt G w q p U t) : ∀ x ∈ G, x < w.heap.size := by
 obtain ⟨sp, mb, Us, φ, N, h, rfl⟩ := h
 exact fun x hx => (h.far x hx).1
theorem StAt.with (h : StAt G w q p U t) (hU : ∀ x ∈ U, x ∉ G) (h2 : Chg [] w w2) (hT : ∀ x ∈ T, w.heap.size <= x /\ x < w2.heap.size) : StAt (T ++ G) w2 q p U t :=
 h.regroup (T := []) h2 (by simp) (by simp) hU (fun x hx => by
  rcases List.mem_append.1 hx with hx | hx
  ·exact ⟨.inr (hT x hx).1, (hT x hx).2⟩
  ·exact ⟨.inl hx, Nat.lt_of_lt_of_le (h.gl x hx) h2.size⟩)
theorem Std.local (hG : ∀ x ∈ G, x < w.heap.size) (hU : ∀ x ∈ U, x ∉ G) (hl : ∀ x ∈ U, x < w.heap.size) (h2 : Chg [] w w2) (hT : ∀ x ∈ T, w.heap.size <= x /\ x < w2.heap.size) (hs : Std (T ++ G) w2 w3 q p U t') (h8 : ∀ x ∈ T, NoU8 w3 x) (hc : Chg T w3 w4) : Std G w w4 q p U t' := by
 obtain ⟨U', a1, a2, a3⟩ := hs
 have hz := h2.size
 have hUT : ∀ x ∈ U', x ∉ T ++ G := fun x hx hm => by
  rcases a2 x hx with h | h
  ·rcases List.mem_append.1 hm with hm | hm
   ·have := hl x h; have := (hT x hm).1; omega
   ·exact hU x h hm
  ·rcases List.mem_append.1 hm with hm | hm
   ·have := (hT x hm).2; omega
   ·have := hG x hm; omega
 refine ⟨U', a1.regroup hc (fun x hx => List.mem_append_left _ hx) h8 hUT (fun x hx => ⟨.inl (List.mem_append_right _ hx), ?_⟩), fun x hx => ?_, ((h2.mono (T := U) (by simp)).trans a3 (fun x hx => .inl hx)).trans hc (fun x hx => .inr (hT x hx).1)⟩
 ·have := hG x hx; have := a3.size; have := hc.size; omega
 ·rcases a2 x hx with h | h
  ·exact .inl h
  ·exact .inr (by omega)
theorem Std.blk {b : Nat} {o : Obj} (hs : Std G w2 w3 q p U t') (hb : w2.heap[b]? = some o) (hU : b ∉ U) : w3.heap[b]? = some o := by
 obtain ⟨U', a1, a2, a3⟩ := hs
 exact a3.keep hb hU
def DeedPost (G : List Nat) (w : World) (q p : Nat) (U : List Nat) (o : Rp) (t' : Sto) (e : Ending) (w' : World) : Prop := ∃ v, e = .returned v /\ RpAt w w' v o /\ Std G w w' q p U t'
structure SvAt (G : List Nat) (w : World) (z q p : Nat) (U : List Nat) (t : Sto) : Prop where
 head : w.heap[z]? = some (.cells #[.pointer (some ⟨q, 0, none⟩)] 87 (0, 0))
 st : StAt G w q p U t
 out : z ∉ U
 far : ∀ x ∈ U, x ∉ G
theorem SvAt.keep0 {z : Nat} (h : SvAt G w z q p U t) (hc : Chg [] w w2) : SvAt G w2 z q p U t := ⟨hc.keep h.head (by simp), h.st.keep0 hc, h.out, h.far⟩
end
structure Begun (w w2 : World) (r : Rq) (bv : Value) : Prop where
 chg : Chg [] w w2
 rq : w2.heap[w.heap.size]? = some (.cells (rqL r bv).toArray 40 (0, 0))
 rp : w2.heap[w.heap.size + 1]? = some (.cells zeroRp 32 (0, 0))
theorem begun_of (w : World) (r : Rq) (bv : Value) : Begun w ((w.alloc (.cells (rqL r bv).toArray 40)).alloc (.cells zeroRp 32)) r bv :=
 ⟨((Chg.refl [] w).alloc _).alloc _, blk_alloc (heap_alloc_new w _), heap_at (by simp)⟩
section
variable {G U : List Nat} {z q p : Nat} {t : Sto}
structure Begins (G : List Nat) (w w2 : World) (z q p : Nat) (U : List Nat) (t : Sto) (r : Rq) (bv : Value) : Prop where
 chg : Chg [] w w2
 head : w2.heap[z]? = some (.cells #[.pointer (some ⟨q, 0, none⟩)] 87 (0, 0))
 rq : w2.heap[w.heap.size]? = some (.cells (rqL r bv).toArray 40 (0, 0))
 rp : w2.heap[w.heap.size + 1]? = some (.cells zeroRp 32 (0, 0))
 st : StAt ([w.heap.size + 1] ++ G) w2 q p U t
 out : w.heap.size + 1 ∉ U
 new : ∀ x ∈ [w.heap.size + 1], w.heap.size <= x /\ x < w2.heap.size
theorem SvAt.begins {w : World} (h : SvAt G w z q p U t) (r : Rq) (bv : Value) : Begins G w ((w.alloc (.cells (rqL r bv).toArray 40)).alloc (.cells zeroRp 32)) z q p U t r bv := by
 have B := begun_of w r bv
 generalize ((w.alloc (.cells (rqL r bv).toArray 40)).alloc (.cells zeroRp 32)) = w2 at *
 have hT : ∀ x ∈ [w.heap.size + 1], w.heap.size <= x /\ x < w2.heap.size := fun x hx => by
  rw [List.mem_singleton.1 hx]
  exact ⟨by omega, blk_lt B.rp⟩
 exact ⟨B.chg, B.chg.keep h.head (by simp), B.rq, B.rp, h.st.with h.far B.chg hT, fun hm => by have := h.st.lim _ hm; omega, hT⟩
theorem Begins.drew {w w2 : World} {r : Rq} {bv : Value} (h : Begins G w w2 z q p U t r bv) : Begins G w w2.drew z q p U t r bv :=
 ⟨h.chg.drew, h.head, h.rq, h.rp, h.st.keep0 ((Chg.refl [] w2).drew), h.out, h.new⟩
theorem Begins.ends {w w2 w3 : World} {r : Rq} {bv : Value} {t' : Sto} (hb : Begins G w w2 z q p U t r bv) (h : SvAt G w z q p U t) (hs : Std ([w.heap.size + 1] ++ G) w2 w3 q p U t') (u : List Value) : Std G w (w3.setCells (w.heap.size + 1) 0 u) q p U t' :=
 Std.local h.st.gl h.far h.st.lim hb.chg hb.new hs (fun x hx => by
  rw [List.mem_singleton.1 hx]
  exact zeroRp_no8 (hs.blk hb.rp hb.out)) ((Chg.refl _ w3).setCells (.inl (by simp)) u)
theorem rp_all (e : Int) (a c : Option Addr) (b d f g : Nat) (room : Int) (wh : Bool) : (rpL e (.slice a b f) (.slice c d g) room wh).toArray.all (·.oneCell') = true := all_oneCell_toArray (fun v hv => by
 simp only [rpL, List.mem_cons, List.mem_nil_iff, or_false] at hv
 rcases hv with rfl | rfl | rfl | rfl | rfl <;> rfl)
theorem err_all (e : Int) : (rpL e (.slice none 0 0) (.slice none 0 0) 0 false).toArray.all (·.oneCell') = true := rp_all e none none 0 0 0 0 0 false
theorem svput_any (r : Rq) (bv : Value) (w : World) (h : SvAt G w z q p U t) (hx : okD r.x) (hb : BytesAt w bv r.b) (hbU : r.b ≠ [] -> ∀ k, bv.ownBlock = some k -> k ∉ U) (hbl : r.b.length <= 1000000) (ho : t.s.d.ops <= 900000000) (hw : t.s.d.since.length <= 900000) :
  Calls Tryz.prog 82 #[.pointer (some ⟨z, 0, none⟩), rqV r bv] w (DeedPost G w q p U (errRp (t.put r.x r.b).1) (t.put r.x r.b).2) := by
 have HE0 := LH (h.begins r bv)
 obtain ⟨w2, hw2⟩ : ∃ w2, w2 = (w.alloc (.cells (rqL r bv).toArray 40)).alloc (.cells zeroRp 32) := ⟨_, rfl⟩
 rw [<- hw2] at HE0
 have HE := LH HE0.out.drew
 have CP := LH (stput_any q p U t r.x bv r.b w2.drew HE.out.st hx ((hb.chg HE0.out.chg (by simp)).keep (fun _ _ => rfl)) hbU hbl ho hw)
 have c0 := blk_cell HE0.out.head 0 _ rfl
 obtain ⟨B, hB⟩ : ∃ B, B = w.heap.size := ⟨_, rfl⟩
 have hrq := HE0.out.rq
 rw [<- hB] at hrq
 have q1 := blk_cell hrq 1 _ rfl
 have q2 := blk_cell hrq 2 _ rfl
 have q3 := blk_cell hrq 3 _ rfl
 have q4 := blk_cell hrq 4 _ rfl
 have q5 := blk_cell hrq 5 _ rfl
 have HH := LH h
 have HW2 := LH hw2
 have HB := LH hB
 obtain ⟨o, hoe⟩ : ∃ o, o = t.put r.x r.b := ⟨_, rfl⟩
 rw [<- hoe] at CP
 rw [<- hoe]
 obtain ⟨k, ⟨xc, xl, xn, xi⟩, b⟩ := r
 obtain ⟨ba, bc, hbv⟩ := hb.slice
 subst hbv
 clear hw2 hB hrq HE0 h hx hb hbU hoe
 unfold rqV rqL
 unfold rqL at HW2
 unfold idV idC at CP
 dsimp only at CP q1 q2 q3 q4 q5
 go_enter Tryz.func82, Tryz.ntmps82
 go_wp2_with fail
 rw [<- HB.out]
 rw [show zeroRp = #[.int .i64 0, .slice none 0 0, .slice none 0 0, .int .i64 0, .bool false] from rfl] at HW2
 rw [<- HW2.out]
 refine wp_region_L [(8, fun w' => w'.cell? ⟨z, 0, none⟩ = some (.pointer (some ⟨q, 0, none⟩))), (8, fun w' => (w'.cell? ⟨B, 1, none⟩ = some (.int .i64 xc) /\ w'.cell? ⟨B, 2, none⟩ = some (.int .i64 xl) /\ w'.cell? ⟨B, 3, none⟩ = some (.int .i64 xn) /\ w'.cell? ⟨B, 4, none⟩ = some (.int .i64 xi))), (8, fun w' => w'.cell? ⟨B, 5, none⟩ = some (.slice ba b.length bc))] (by kernel_rfl) ?_ (fun hHeld => ?_)
 ·exact (HoldC.cons (c0) (HoldC.cons (⟨q1, q2, q3, q4⟩) (HoldC.cons (q5) HoldC.nil)))
 refine tk 0 ?_ rfl (by kernel_rfl) (fun _ _ _ h => h) (.inl ⟨by rfl, ?_⟩) hHeld ?_; rotate_left; · (intro w _; go_simp; try with_reducible rfl)
 clear hHeld; intro hHeld; try simp only [gA,gB,gC,Act.put,gD,gE,gF]
 refine tk 1 ?_ rfl (by kernel_rfl) (fun _ _ _ h => h) (.inl ⟨by rfl, ?_⟩) hHeld ?_; rotate_left; · (intro w _; go_simp; try with_reducible rfl)
 clear hHeld; intro hHeld; try simp only [gA,gB,gC,Act.put,gD,gE,gF]
 refine tk 2 ?_ rfl (by kernel_rfl) (fun _ _ _ h => h) (.inl ⟨by rfl, ?_⟩) hHeld ?_; rotate_left; · (intro w _; go_simp; try with_reducible rfl)
 clear hHeld; intro hHeld; try simp only [gA,gB,gC,Act.put,gD,gE,gF]
 refine tk 4 ?_ rfl (by kernel_rfl) (fun _ _ _ h => h) (.inl ⟨by rfl, ?_⟩) hHeld ?_; rotate_left; · (intro w _; go_simp; try with_reducible rfl)
 clear hHeld; intro hHeld; try simp only [gA,gB,gC,Act.put,gD,gE,gF]
 refine tk 6 ?_ rfl (by kernel_rfl) (fun _ _ _ h => h) (.inl ⟨by rfl, ?_⟩) hHeld ?_; rotate_left; · (intro w _; go_simp; try with_reducible rfl)
 clear hHeld; intro hHeld; try simp only [gA,gB,gC,Act.put,gD,gE,gF]
 refine ld 0 3 ?_ rfl rfl (by kernel_rfl) (fun _ _ _ h => h) (.inl ⟨by rfl, ?_⟩) hHeld ?_; rotate_left; · (intro w hSw; (try dsimp only at hSw); go_simp; try with_reducible rfl)
 clear hHeld; intro hHeld; try simp only [gA,gB,gC,Act.put,gD,gE,gF]
 refine ld 1 5 ?_ rfl rfl (by kernel_rfl) (fun _ _ _ h => h) (.inl ⟨by rfl, ?_⟩) hHeld ?_; rotate_left; · (intro w hSw; (try dsimp only at hSw); go_simp; try with_reducible rfl)
 clear hHeld; intro hHeld; try simp only [gA,gB,gC,Act.put,gD,gE,gF]
 refine ld 2 7 ?_ rfl rfl (by kernel_rfl) (fun _ _ _ h => h) (.inl ⟨by rfl, ?_⟩) hHeld ?_; rotate_left; · (intro w hSw; (try dsimp only at hSw); go_simp; try with_reducible rfl)
 clear hHeld; intro hHeld; try simp only [gA,gB,gC,Act.put,gD,gE,gF]
 refine wpAnyL_ready (rs := [8]) (by kernel_rfl) (by simp) (AllReadyL.cons (o := _) rfl (fun K hK => ?_) AllReadyL.nil)
 try simp only [gA,gB,gC]
 go_simp
 refine CP.out.mono ?_
 rintro e w3 ⟨rfl, hs3⟩
 have hz3 := hs3.blk HE.out.rp HE.out.out
 rw [<- HB.out] at hz3
 have HZ := LH (five_set hz3 (.int .i64 o.1) (.slice none 0 0) (.slice none 0 0) (.int .i64 0) (.bool false))
 have HTH := LH (five_there hz3 _ rfl)
 have HS := LH (HE.out.ends HH.out hs3 (rpL o.1 (.slice none 0 0) (.slice none 0 0) 0 false))
 rw [<- HB.out] at HS
 clear hz3 hs3 CP c0 q1 q2 q3 q4 q5
 clear hHeld
 refine hK.out _ _ ?_ (fun hHeld => ?_)
 ·exact (HoldC.past (by kernel_rfl) (HoldC.past (by kernel_rfl) (HoldC.past (by kernel_rfl) HoldC.nil)))
 clear hK K
 try simp only [gA,gB,gC,Act.put,gD,gE,gF]
 refine tk 9 ?_ rfl (by kernel_rfl) (fun _ _ _ h => h) (.inl ⟨by rfl, ?_⟩) hHeld ?_; rotate_left; · (intro w _; go_simp; try with_reducible rfl)
 clear hHeld; intro hHeld; try simp only [gA,gB,gC,Act.put,gD,gE,gF]
 refine wpAnyL_ready (rs := [10]) (by kernel_rfl) (by simp) (AllReadyL.cons (o := _) rfl (fun K hK => ?_) AllReadyL.nil)
 try simp only [gA,gB,gC]
 rw [if_pos (by rfl)]
 refine wp_store_mid 32 (.tmp 4) (.tmp 14) (by rfl) (B + 1) 0 (rpL o.1 (.slice none 0 0) (.slice none 0 0) 0 false).toArray (by rfl) (by rfl) HTH.out (rp_size _ _ _ _ _) (err_all _) ?_
 clear hHeld
 refine hK.out _ _ ?_ (fun hHeld => ?_)
 ·exact (HoldC.past (by kernel_rfl) (HoldC.past (by kernel_rfl) (HoldC.past (by kernel_rfl) HoldC.nil)))
 clear hK K
 try simp only [gA,gB,gC,Act.put,gD,gE,gF]
 refine wpAnyL_done (by kernel_rfl) ?_ _
 clear hHeld
 go_wp2
 exact bodyPost_ret (ret_rp rfl _ rfl HZ.out) rfl ⟨_, rfl, RpAt.err _, HS.out⟩
end
def rrows (n : Nat) (nv lv av wv : Value) (NV LV AV WV : List Value) : List RowD := [⟨30, 1, nv, n, NV⟩, ⟨30, 1, lv, n, LV⟩, ⟨3, 1, av, AV.length, AV⟩, ⟨30, 1, wv, WV.length, WV⟩]
def rcs (d : DS) (nv lv av wv : Value) : Array Value := #[nv, lv, av, wv, .int .i64 (d.ops : Int), .int .i64 d.fuse, .bool d.dead]
structure RDiskOk (w : World) (m : Nat) (V F : List Nat) (d : DS) (nv lv av wv : Value) (NV LV AV WV : List Value) : Prop where
 obj : ObjAt w m 134 (rcs d nv lv av wv) (rrows d.n nv lv av wv NV LV AV WV)
 now : ∀ k, k < d.n -> (d.now k).length = 64 /\ BytesAt w (NV.getD k undef) (d.now k) /\ ∀ g, (NV.getD k undef).ownBlock = some g -> g ∈ F /\ g ∉ V
 lasts : ∀ c ∈ LV, No8 c
 ats : (∀ c ∈ AV, No8 c) /\ AV.length <= d.since.length
 wrote : (∀ c ∈ WV, No8 c) /\ WV.length <= d.since.length
 few : d.n <= 4160
 fuse : -1 <= d.fuse /\ d.fuse <= 9223372036854775807
 mem : V = blks m (rrows d.n nv lv av wv NV LV AV WV)
 no8 : ∀ x ∈ V, NoU8 w x
 sub : ∀ x ∈ V, x ∈ F
 lim : ∀ x ∈ F, x < w.heap.size
def RDiskAt (w : World) (m : Nat) (V F : List Nat) (d : DS) : Prop := ∃ nv lv av wv NV LV AV WV, RDiskOk w m V F d nv lv av wv NV LV AV WV
theorem RDiskAt.keep {w w' : World} {m : Nat} {V F T : List Nat} {d : DS} (h : RDiskAt w m V F d) (hc : Chg T w w') (ha : ∀ x ∈ F, x ∉ T) : RDiskAt w' m V F d := by
 obtain ⟨nv, lv, av, wv, NV, LV, AV, WV, h⟩ := h
 refine ⟨nv, lv, av, wv, NV, LV, AV, WV, h.obj.keep hc (fun x hx => ha x (h.sub x (by rw [h.mem]; exact hx))), fun k hk => ?_, h.lasts, h.ats, h.wrote, h.few, h.fuse, h.mem, fun x hx => (h.no8 x hx).keep (hc.block x (h.lim x (h.sub x hx)) (ha x (h.sub x hx))), h.sub, fun x hx => Nat.lt_of_lt_of_le (h.lim x hx) hc.size⟩
 obtain ⟨h1, h2, h3⟩ := h.now k hk
 exact ⟨h1, h2.chg hc (fun g hg => ha g (h3 g hg).1), h3⟩
theorem RDiskOk.keep0 {w w' : World} {m : Nat} {V F : List Nat} {d : DS} {nv lv av wv : Value} {NV LV AV WV : List Value} (h : RDiskOk w m V F d nv lv av wv NV LV AV WV) (hc : Chg [] w w') : RDiskOk w' m V F d nv lv av wv NV LV AV WV := by
 refine ⟨h.obj.keep hc (by simp), fun k hk => ?_, h.lasts, h.ats, h.wrote, h.few, h.fuse, h.mem, fun x hx => (h.no8 x hx).keep (hc.block x (h.lim x (h.sub x hx)) (by simp)), h.sub, fun x hx => Nat.lt_of_lt_of_le (h.lim x hx) hc.size⟩
 obtain ⟨h1, h2, h3⟩ := h.now k hk
 exact ⟨h1, h2.chg hc (by simp), h3⟩
theorem RDiskAt.lim {w : World} {m : Nat} {V F : List Nat} {d : DS} (h : RDiskAt w m V F d) : (∀ x ∈ F, x < w.heap.size) /\ (∀ x ∈ V, x ∈ F) /\ ∀ x ∈ V, NoU8 w x := by
 obtain ⟨nv, lv, av, wv, NV, LV, AV, WV, h⟩ := h
 exact ⟨h.lim, h.sub, h.no8⟩
def RDid (w w' : World) (m : Nat) (V F : List Nat) (d : DS) : Prop := ∃ V' F', RDiskAt w' m V' F' d /\ (∀ x ∈ V', x ∈ V ∨ w.heap.size <= x) /\ (∀ x ∈ F', x ∈ F ∨ w.heap.size <= x) /\ Chg V w w'
theorem RDid.same {w : World} {m : Nat} {V F : List Nat} {d : DS} (h : RDiskAt w m V F d) : RDid w w m V F d := ⟨V, F, h, fun x hx => .inl hx, fun x hx => .inl hx, Chg.refl _ _⟩
theorem RDid.glue {w w1 w2 : World} {m : Nat} {V F V1 F1 : List Nat} {d : DS} (hv : ∀ x ∈ V1, x ∈ V ∨ w.heap.size <= x) (hf : ∀ x ∈ F1, x ∈ F ∨ w.heap.size <= x) (hc : Chg V w w1) (h : RDid w1 w2 m V1 F1 d) : RDid w w2 m V F d := by
 obtain ⟨V2, F2, b1, b2, b3, b4⟩ := h
 refine ⟨V2, F2, b1, fun x hx => ?_, fun x hx => ?_, hc.trans b4 hv⟩
 ·rcases b2 x hx with h | h
  ·exact hv x h
  ·exact .inr (Nat.le_trans hc.size h)
 ·rcases b3 x hx with h | h
  ·exact hf x h
  ·exact .inr (Nat.le_trans hc.size h)
theorem RDid.pre {w0 w w' : World} {m : Nat} {V F : List Nat} {d : DS} (hc : Chg [] w0 w) (h : RDid w w' m V F d) : RDid w0 w' m V F d := RDid.glue (fun x hx => .inl hx) (fun x hx => .inl hx) (hc.mono (by simp)) h
theorem RDiskOk.head {w : World} {m : Nat} {V F : List Nat} {d : DS} {nv lv av wv : Value} {NV LV AV WV : List Value} (h : RDiskOk w m V F d nv lv av wv NV LV AV WV) : w.heap[m]? = some (.cells #[nv, lv, av, wv, .int .i64 (d.ops : Int), .int .i64 d.fuse, .bool d.dead] 134 (0, 0)) := h.obj.head
theorem RDiskOk.put {w w' : World} {m : Nat} {V F : List Nat} {d d' : DS} {nv lv av wv : Value} {NV LV AV WV : List Value} (h : RDiskOk w m V F d nv lv av wv NV LV AV WV) (hc : Chg [m] w w') (hn : NoU8 w' m)
  (hh : w'.heap[m]? = some (.cells (rcs d' nv lv av wv) 134 (0, 0))) (e1 : d'.n = d.n) (e2 : d'.now = d.now) (e3 : d'.since = d.since) (e5 : -1 <= d'.fuse /\ d'.fuse <= 9223372036854775807) : RDid w w' m V F d' := by
 have hmV : m ∈ V := by rw [h.mem]; exact blks_head
 have hNV : ∀ k, k < d.n -> ∀ g, (NV.getD k undef).ownBlock = some g -> g ∉ [m] := fun k hk g hg hm => (h.now k hk).2.2 g hg |>.2 (by rw [List.mem_singleton.1 hm]; exact hmV)
 refine ⟨V, F, ⟨nv, lv, av, wv, NV, LV, AV, WV, ⟨hh, fun r hr => ?_, by rw [e1]; exact h.obj.apart⟩, fun k hk => ?_, h.lasts, by rw [e3]; exact h.ats, by rw [e3]; exact h.wrote, by rw [e1]; exact h.few, e5, by rw [e1]; exact h.mem, fun x hx => ?_, h.sub, fun x hx => Nat.lt_of_lt_of_le (h.lim x hx) hc.size⟩, fun x hx => .inl hx, fun x hx => .inl hx, hc.mono (fun x hx => .inl (by rw [List.mem_singleton.1 hx]; exact hmV))⟩
 ·rw [e1] at hr
  exact row_keep (h.obj.rows r hr) (fun g hg => hc.block g (World.ownsRow.lt (h.obj.rows r hr) g hg).2 (by
   intro hm
   exact h.obj.row_ne hr hg (List.mem_singleton.1 hm)))
 ·rw [e1] at hk
  rw [e2]
  obtain ⟨h1, h2, h3⟩ := h.now k hk
  exact ⟨h1, h2.chg hc (hNV k hk), h3⟩
 ·by_cases hxm : x = m
  ·rw [hxm]; exact hn
  ·exact (h.no8 x hx).keep (hc.block x (h.lim x (h.sub x hx)) (by simp; exact hxm))
theorem rop_any (m : Nat) (V F : List Nat) (d : DS) (w : World) (h : RDiskAt w m V F d) (ho : d.ops <= 1000000000) :
  Calls Tryz.prog 108 #[.pointer (some ⟨m, 0, none⟩)] w fun e w' => e = .returned (.bool (!d.op.1)) /\ RDid w w' m V F d.op.2 := by
 obtain ⟨nv, lv, av, wv, NV, LV, AV, WV, H⟩ := h
 have HH := LH H
 have c4 := blk_cell H.head 4 _ rfl
 have c5 := blk_cell H.head 5 _ rfl
 have c6 := blk_cell H.head 6 _ rfl
 have f4 := blk_frozen H.head 4
 have f5 := blk_frozen H.head 5
 have f6 := blk_frozen H.head 6
 have hb := H.fuse
 have hlt := blk_lt H.head
 have n0 : NoU8 w m := H.no8 m (by rw [H.mem]; exact blks_head)
 clear H
 by_cases h0 : d.fuse = 0
 ·have ho : Hid (d.op = (false, { d with dead := true })) := LH (by unfold DS.op; rw [if_pos h0])
  have HF : Hid (RDid w (w.setCell ⟨m, 6, none⟩ (.bool true)) m V F { d with dead := true }) := LH (HH.out.put ((Chg.refl _ _).setCell (.inl (by simp)) _) (n0.set hlt no8_bool) (set_blk HH.out.head) rfl rfl rfl HH.out.fuse)
  rw [ho.out]
  rw [h0] at c5
  clear h0 hb n0
  go_enter Tryz.func108, Tryz.ntmps108
  go_wp2
  go_ret
  exact ⟨rfl, HF.out⟩
 ·have he : (d.fuse == 0) = false := by simp [h0]
  by_cases hp : 0 < d.fuse
  ·have ho2 : Hid (d.op = (true, { d with fuse := d.fuse - 1, ops := d.ops + 1 })) := LH (by unfold DS.op; rw [if_neg h0, if_pos hp])
   have HF : Hid (RDid w ((w.setCell ⟨m, 5, none⟩ (.int .i64 (d.fuse - 1))).setCell ⟨m, 4, none⟩ (.int .i64 ((d.ops : Int) + 1))) m V F { d with fuse := d.fuse - 1, ops := d.ops + 1 }) :=
    LH (HH.out.put (((Chg.refl _ _).setCell (.inl (by simp)) _).setCell (.inl (by simp)) _) ((n0.set hlt no8_i64).set (by simpa [World.setCell] using hlt) no8_i64) (set_blk (set_blk HH.out.head)) rfl rfl rfl (by show -1 <= d.fuse - 1 /\ d.fuse - 1 <= 9223372036854775807; omega))
   have d1 : decide (d.fuse > 0) = true := decide_eq_true hp
   have w1 : IntKind.i64.wrap (d.fuse - 1) = d.fuse - 1 := by rw [IntKind.wrap_i64]; omega
   have w2 : IntKind.i64.wrap ((d.ops : Int) + 1) = (d.ops : Int) + 1 := by rw [IntKind.wrap_i64]; omega
   rw [ho2.out]
   clear ho2 n0
   generalize d.fuse = fu at *
   generalize d.ops = op at *
   go_enter Tryz.func108, Tryz.ntmps108
   go_wp2
   go_ret
   exact ⟨rfl, HF.out⟩
  ·have ho2 : Hid (d.op = (true, { d with fuse := d.fuse, ops := d.ops + 1 })) := LH (by unfold DS.op; rw [if_neg h0, if_neg hp])
   have HF : Hid (RDid w (w.setCell ⟨m, 4, none⟩ (.int .i64 ((d.ops : Int) + 1))) m V F { d with fuse := d.fuse, ops := d.ops + 1 }) :=
    LH (HH.out.put ((Chg.refl _ _).setCell (.inl (by simp)) _) (n0.set hlt no8_i64) (set_blk HH.out.head) rfl rfl rfl HH.out.fuse)
   have d1 : decide (d.fuse > 0) = false := decide_eq_false hp
   have w2 : IntKind.i64.wrap ((d.ops : Int) + 1) = (d.ops : Int) + 1 := by rw [IntKind.wrap_i64]; omega
   rw [ho2.out]
   clear ho2 n0
   generalize d.fuse = fu at *
   generalize d.ops = op at *
   go_enter Tryz.func108, Tryz.ntmps108
   go_wp2
   go_ret
   exact ⟨rfl, HF.out⟩
theorem ObjAt.field {w w2 : World} {p t : Nat} {cs : Array Value} {a b : List RowD} {r r' : RowD} (h : ObjAt w p t cs (a ++ r :: b)) (j : Nat) (hg : w.grownBy w2 r.v.ownBlock) (hrow : r'.At w2)
  (hat : ∀ k, r'.v.ownBlock = some k -> r.v.ownBlock = some k ∨ w.heap.size <= k) : ObjAt (w2.setCell ⟨p, j, none⟩ r'.v) p t (cs.setIfInBounds j r'.v) (a ++ r' :: b) /\ (∀ x ∈ blks p (a ++ r' :: b), x ∈ blks p (a ++ r :: b) ∨ w.heap.size <= x) /\ Chg (blks p (a ++ r :: b)) w (w2.setCell ⟨p, j, none⟩ r'.v) := by
 obtain ⟨g1, g2, g3⟩ := h.grow hg hrow hat
 exact ⟨g1.setHead j r'.v, g2, g3.setCell (p := ⟨p, j, none⟩) (.inl blks_head) _⟩
theorem RDiskOk.turn {w w3 : World} {m : Nat} {V F : List Nat} {d d' : DS} {nv lv av wv av' wv' : Value} {NV LV AV WV AV' WV' : List Value} (h : RDiskOk w m V F d nv lv av wv NV LV AV WV)
  (hobj : ObjAt w3 m 134 (rcs d' nv lv av' wv') (rrows d'.n nv lv av' wv' NV LV AV' WV')) (hb : ∀ x ∈ blks m (rrows d'.n nv lv av' wv' NV LV AV' WV'), x ∈ V ∨ w.heap.size <= x) (hc : Chg V w w3)
  (h8 : ∀ x ∈ blks m (rrows d'.n nv lv av' wv' NV LV AV' WV'), NoU8 w3 x) (en : d'.n = d.n) (enow : d'.now = d.now) (ef : d'.fuse = d.fuse) (hA : (∀ c ∈ AV', No8 c) /\ AV'.length <= d'.since.length) (hW : (∀ c ∈ WV', No8 c) /\ WV'.length <= d'.since.length) :
  RDiskOk w3 m (blks m (rrows d'.n nv lv av' wv' NV LV AV' WV')) (F ++ blks m (rrows d'.n nv lv av' wv' NV LV AV' WV')) d' nv lv av' wv' NV LV AV' WV' := by
 refine ⟨hobj, fun k hk => ?_, h.lasts, hA, hW, by rw [en]; exact h.few, by rw [ef]; exact h.fuse, rfl, h8, fun x hx => List.mem_append_right _ hx, fun x hx => ?_⟩
 ·rw [en] at hk
  rw [enow]
  obtain ⟨h1, h2, h3⟩ := h.now k hk
  refine ⟨h1, h2.chg hc (fun g hg => (h3 g hg).2), fun g hg => ⟨List.mem_append_left _ (h3 g hg).1, fun hm => ?_⟩⟩
  rcases hb g hm with h4 | h4
  ·exact (h3 g hg).2 h4
  ·have := h.lim g (h3 g hg).1; omega
 ·rcases List.mem_append.1 hx with hx | hx
  ·exact Nat.lt_of_lt_of_le (h.lim x hx) hc.size
  ·exact hobj.lim x hx
theorem RDiskOk.row {w : World} {m : Nat} {V F : List Nat} {d : DS} {nv lv av wv : Value} {NV LV AV WV : List Value} (h : RDiskOk w m V F d nv lv av wv NV LV AV WV) : w.ownsRow 0 30 1 nv d.n NV /\ w.ownsRow 0 30 1 lv d.n LV /\ w.ownsRow 0 3 1 av AV.length AV /\ w.ownsRow 0 30 1 wv WV.length WV :=
 ⟨h.obj.rows _ (by simp [rrows] : (⟨30, 1, nv, d.n, NV⟩ : RowD) ∈ _), h.obj.rows _ (by simp [rrows] : (⟨30, 1, lv, d.n, LV⟩ : RowD) ∈ _), h.obj.rows _ (by simp [rrows] : (⟨3, 1, av, AV.length, AV⟩ : RowD) ∈ _), h.obj.rows _ (by simp [rrows] : (⟨30, 1, wv, WV.length, WV⟩ : RowD) ∈ _)⟩
theorem RDiskOk.in {w : World} {m : Nat} {V F : List Nat} {d : DS} {nv lv av wv : Value} {NV LV AV WV : List Value} (h : RDiskOk w m V F d nv lv av wv NV LV AV WV) : m ∈ V /\ (∀ x, nv.ownBlock = some x -> x ∈ V) /\ (∀ x, lv.ownBlock = some x -> x ∈ V) /\ (∀ x, av.ownBlock = some x -> x ∈ V) /\ ∀ x, wv.ownBlock = some x -> x ∈ V := by
 rw [h.mem]
 refine ⟨blks_head, fun x hx => ?_, fun x hx => ?_, fun x hx => ?_, fun x hx => ?_⟩
 ·exact blks_row (r := ⟨30, 1, nv, d.n, NV⟩) (by simp [rrows]) hx
 ·exact blks_row (r := ⟨30, 1, lv, d.n, LV⟩) (by simp [rrows]) hx
 ·exact blks_row (r := ⟨3, 1, av, AV.length, AV⟩) (by simp [rrows]) hx
 ·exact blks_row (r := ⟨30, 1, wv, WV.length, WV⟩) (by simp [rrows]) hx
theorem ObjAt.other_ne {w : World} {p t : Nat} {cs : Array Value} {a b : List RowD} {r q : RowD} (h : ObjAt w p t cs (a ++ r :: b)) (hq : q ∈ a ∨ q ∈ b) {x : Nat} (hx : q.v.ownBlock = some x) : r.v.ownBlock ≠ some x := fun hr => by
 have hnd := (List.nodup_cons.1 h.apart).2
 rw [List.filterMap_append, List.filterMap_cons, hr] at hnd
 simp only at hnd
 have hd := List.nodup_append.1 hnd
 rcases hq with hq | hq
 ·exact hd.2.2 x (List.mem_filterMap.2 ⟨q, hq, hx⟩) x (List.mem_cons_self ..) rfl
 ·exact (List.nodup_cons.1 hd.2.1).1 (List.mem_filterMap.2 ⟨q, hq, hx⟩)
theorem ObjAt.field8 {w w2 : World} {p t : Nat} {cs : Array Value} {a b : List RowD} {r r' : RowD} (h : ObjAt w p t cs (a ++ r :: b)) (h8 : ∀ x ∈ blks p (a ++ r :: b), NoU8 w x) (j : Nat) (hg : w.grownBy w2 r.v.ownBlock)
  (hat : ∀ k, r'.v.ownBlock = some k -> r.v.ownBlock = some k ∨ w.heap.size <= k) (h8' : ∀ x, r'.v.ownBlock = some x -> NoU8 w2 x) (hu : No8 r'.v) : ∀ x ∈ blks p (a ++ r' :: b), NoU8 (w2.setCell ⟨p, j, none⟩ r'.v) x := fun x hx => by
 have hmr : r ∈ a ++ r :: b := List.mem_append_right _ (List.mem_cons_self ..)
 have hpl := blk_lt h.head
 have hp2 : w2.heap[p]? = w.heap[p]? := hg.block p hpl (fun e => h.row_ne hmr e.symm rfl)
 have hset : ∀ x, x ≠ p -> (w2.setCell ⟨p, j, none⟩ r'.v).heap[x]? = w2.heap[x]? := fun x hx => Below.heap_setCell w2 ⟨p, j, none⟩ _ x hx
 have hother : ∀ q, q ∈ a ∨ q ∈ b -> q ∈ a ++ r :: b -> q.v.ownBlock = some x -> NoU8 (w2.setCell ⟨p, j, none⟩ r'.v) x := fun q hq hm he => by
  have h1 := h.row_ne hm he
  have h2 := h.other_ne hq he
  have h3 := h.lim x (blks_row hm he)
  exact (h8 x (blks_row hm he)).keep ((hset x h1).trans (hg.block x h3 (fun e => h2 e.symm)))
 rcases mem_blks hx with rfl | ⟨q, hq, he⟩
 ·exact ((h8 x blks_head).keep hp2).set (Nat.lt_of_lt_of_le hpl hg.size) hu
 ·rcases List.mem_append.1 hq with hq | hq
  ·exact hother q (.inl hq) (List.mem_append_left _ hq) he
  ·rcases List.mem_cons.1 hq with rfl | hq
   ·have hxp : x ≠ p := fun e => by
     rcases hat x he with h1 | h1
     ·exact h.row_ne hmr h1 e
     ·omega
    exact (h8' x he).keep (hset x hxp)
   ·exact hother q (.inr hq) (List.mem_append_right _ (List.mem_cons_of_mem _ hq)) he
theorem RDiskOk.at {w w2 : World} {m : Nat} {V F : List Nat} {d : DS} {nv lv av wv : Value} {NV LV AV WV : List Value} (h : RDiskOk w m V F d nv lv av wv NV LV AV WV) (x : Nat × List UInt8) (u : Value) (g cap : Nat) (hg : w.grownBy w2 av.ownBlock)
  (hrow : w2.ownsRow 0 3 1 (.slice (some ⟨g, 0, none⟩) (AV.length + 1) cap) (AV.length + 1) (AV ++ [u])) (hat : av.ownBlock = some g ∨ g = w.heap.size) (h8 : NoU8 w2 g) (hu : No8 u) :
  ∃ V' F', RDiskOk (w2.setCell ⟨m, 2, none⟩ (.slice (some ⟨g, 0, none⟩) (AV.length + 1) cap)) m V' F' { d with since := d.since ++ [x] } nv lv (.slice (some ⟨g, 0, none⟩) (AV.length + 1) cap) wv NV LV (AV ++ [u]) WV /\
   (∀ x ∈ V', x ∈ V ∨ w.heap.size <= x) /\ (∀ x ∈ F', x ∈ F ∨ w.heap.size <= x) /\ Chg V w (w2.setCell ⟨m, 2, none⟩ (.slice (some ⟨g, 0, none⟩) (AV.length + 1) cap)) := by
 have hloc : ∀ k, (Value.slice (some ⟨g, 0, none⟩) (AV.length + 1) cap).ownBlock = some k -> av.ownBlock = some k ∨ w.heap.size <= k := fun k hk => by
  obtain rfl : g = k := by simpa [Value.ownBlock] using hk
  rcases hat with h4 | h4
  ·exact .inl h4
  ·exact .inr (by omega)
 have hobj : ObjAt w m 134 (rcs d nv lv av wv) ([⟨30, 1, nv, d.n, NV⟩, ⟨30, 1, lv, d.n, LV⟩] ++ (⟨3, 1, av, AV.length, AV⟩ : RowD) :: [⟨30, 1, wv, WV.length, WV⟩]) := h.obj
 obtain ⟨o1, o2, o3⟩ := hobj.field (r' := ⟨3, 1, .slice (some ⟨g, 0, none⟩) (AV.length + 1) cap, (AV ++ [u]).length, AV ++ [u]⟩) 2 hg (by
  show w2.ownsRow 0 3 1 (.slice (some ⟨g, 0, none⟩) (AV.length + 1) cap) (AV ++ [u]).length (AV ++ [u])
  rw [List.length_append]
  exact hrow) hloc
 have hV : V = blks m (rrows d.n nv lv av wv NV LV AV WV) := h.mem
 have hV' : ∀ x ∈ blks m (rrows d.n nv lv (.slice (some ⟨g, 0, none⟩) (AV.length + 1) cap) wv NV LV (AV ++ [u]) WV), x ∈ V ∨ w.heap.size <= x := fun x hx => by rw [hV]; exact o2 x hx
 have hc : Chg V w (w2.setCell ⟨m, 2, none⟩ (.slice (some ⟨g, 0, none⟩) (AV.length + 1) cap)) := by rw [hV]; exact o3
 refine ⟨_, _, h.turn (d' := { d with since := d.since ++ [x] }) o1 hV' hc (hobj.field8 (fun y hy => h.no8 y (by rw [h.mem]; exact hy)) 2 hg (r' := ⟨3, 1, .slice (some ⟨g, 0, none⟩) (AV.length + 1) cap, (AV ++ [u]).length, AV ++ [u]⟩) hloc (fun y hy => by
  obtain rfl : g = y := by simpa [Value.ownBlock] using hy
  exact h8) no8_slice) rfl rfl rfl ⟨fun c hc => ?_, by simp; exact h.ats.2⟩ ⟨h.wrote.1, by simp; exact Nat.le_succ_of_le h.wrote.2⟩, hV', fun y hy => ?_, hc⟩
 ·rcases List.mem_append.1 hc with hc | hc
  ·exact h.ats.1 c hc
  ·rw [List.mem_singleton.1 hc]; exact hu
 ·rcases List.mem_append.1 hy with hy | hy
  ·exact .inl hy
  ·rcases hV' y hy with h4 | h4
   ·exact .inl (h.sub y h4)
   ·exact .inr h4
theorem RDiskOk.more {w w2 : World} {m : Nat} {V F : List Nat} {d : DS} {nv lv av wv : Value} {NV LV AV WV : List Value} (h : RDiskOk w m V F d nv lv av wv NV LV AV WV) (u : Value) (g cap : Nat) (hg : w.grownBy w2 wv.ownBlock)
  (hrow : w2.ownsRow 0 30 1 (.slice (some ⟨g, 0, none⟩) (WV.length + 1) cap) (WV.length + 1) (WV ++ [u])) (hat : wv.ownBlock = some g ∨ g = w.heap.size) (h8 : NoU8 w2 g) (hu : No8 u) (hl : WV.length + 1 <= d.since.length) :
  RDid w (w2.setCell ⟨m, 3, none⟩ (.slice (some ⟨g, 0, none⟩) (WV.length + 1) cap)) m V F d := by
 have hloc : ∀ k, (Value.slice (some ⟨g, 0, none⟩) (WV.length + 1) cap).ownBlock = some k -> wv.ownBlock = some k ∨ w.heap.size <= k := fun k hk => by
  obtain rfl : g = k := by simpa [Value.ownBlock] using hk
  rcases hat with h4 | h4
  ·exact .inl h4
  ·exact .inr (by omega)
 have hobj : ObjAt w m 134 (rcs d nv lv av wv) ([⟨30, 1, nv, d.n, NV⟩, ⟨30, 1, lv, d.n, LV⟩, ⟨3, 1, av, AV.length, AV⟩] ++ (⟨30, 1, wv, WV.length, WV⟩ : RowD) :: []) := h.obj
 obtain ⟨o1, o2, o3⟩ := hobj.field (r' := ⟨30, 1, .slice (some ⟨g, 0, none⟩) (WV.length + 1) cap, (WV ++ [u]).length, WV ++ [u]⟩) 3 hg (by
  show w2.ownsRow 0 30 1 (.slice (some ⟨g, 0, none⟩) (WV.length + 1) cap) (WV ++ [u]).length (WV ++ [u])
  rw [List.length_append]
  exact hrow) hloc
 have hV : V = blks m (rrows d.n nv lv av wv NV LV AV WV) := h.mem
 have hV' : ∀ x ∈ blks m (rrows d.n nv lv av (.slice (some ⟨g, 0, none⟩) (WV.length + 1) cap) NV LV AV (WV ++ [u])), x ∈ V ∨ w.heap.size <= x := fun x hx => by rw [hV]; exact o2 x hx
 have hc : Chg V w (w2.setCell ⟨m, 3, none⟩ (.slice (some ⟨g, 0, none⟩) (WV.length + 1) cap)) := by rw [hV]; exact o3
 refine ⟨_, _, ⟨_, _, _, _, _, _, _, _, h.turn (d' := d) o1 hV' hc (hobj.field8 (fun y hy => h.no8 y (by rw [h.mem]; exact hy)) 3 hg (r' := ⟨30, 1, .slice (some ⟨g, 0, none⟩) (WV.length + 1) cap, (WV ++ [u]).length, WV ++ [u]⟩) hloc (fun y hy => by
  obtain rfl : g = y := by simpa [Value.ownBlock] using hy
  exact h8) no8_slice) rfl rfl rfl h.ats ⟨fun c hc => ?_, by simp; exact hl⟩⟩, hV', fun y hy => ?_, hc⟩
 ·rcases List.mem_append.1 hc with hc | hc
  ·exact h.wrote.1 c hc
  ·rw [List.mem_singleton.1 hc]; exact hu
 ·rcases List.mem_append.1 hy with hy | hy
  ·exact .inl hy
  ·rcases hV' y hy with h4 | h4
   ·exact .inl (h.sub y h4)
   ·exact .inr h4
theorem RDiskOk.sec {w : World} {m : Nat} {V F : List Nat} {d : DS} {nv lv av wv : Value} {NV LV AV WV : List Value} (h : RDiskOk w m V F d nv lv av wv NV LV AV WV) (k g cap : Nat) (b : List UInt8) (u : Value) (hk : k < d.n) (hnv : nv = .slice (some ⟨g, 0, none⟩) d.n cap) (hb : b.length = 64) (hu : BytesAt w u b)
  (hown : ∀ x, u.ownBlock = some x -> x < w.heap.size /\ x ∉ V) : RDid w (w.setCell ⟨g, k, none⟩ u) m V (F ++ u.ownBlock.toList) { d with now := upd d.now k b } := by
 have hgV : g ∈ V := h.in.2.1 g (by rw [hnv]; rfl)
 have hc : Chg [g] w (w.setCell ⟨g, k, none⟩ u) := (Chg.refl _ w).setCell (p := ⟨g, k, none⟩) (.inl (by simp)) _
 have hcV : Chg V w (w.setCell ⟨g, k, none⟩ u) := hc.mono (fun x hx => .inl (by rw [List.mem_singleton.1 hx]; exact hgV))
 have hrows := h.row
 have hne : ∀ (r : RowD), r ∈ [(⟨30, 1, lv, d.n, LV⟩ : RowD), ⟨3, 1, av, AV.length, AV⟩, ⟨30, 1, wv, WV.length, WV⟩] -> r.v.ownBlock ≠ some g := fun r hr he => by
  have hobj : ObjAt w m 134 (rcs d nv lv av wv) ([] ++ (⟨30, 1, nv, d.n, NV⟩ : RowD) :: [⟨30, 1, lv, d.n, LV⟩, ⟨3, 1, av, AV.length, AV⟩, ⟨30, 1, wv, WV.length, WV⟩]) := h.obj
  exact hobj.other_ne (.inr hr) he (by rw [hnv]; rfl)
 have hmg : m ≠ g := fun e => h.obj.row_ne (r := ⟨30, 1, nv, d.n, NV⟩) (by simp [rrows]) (k := g) (by rw [hnv]; rfl) e.symm
 have hlen : NV.length = d.n := by have := hrows.1.1; omega
 refine ⟨V, _, ⟨nv, lv, av, wv, NV.set k u, LV, AV, WV, ⟨hc.keep h.obj.head (by simp; exact hmg), fun r hr => ?_, h.obj.apart⟩, fun j hj => ?_, h.lasts, h.ats, h.wrote, h.few, h.fuse, h.mem, fun x hx => ?_, fun x hx => List.mem_append_left _ (h.sub x hx), fun x hx => ?_⟩, fun x hx => .inl hx, fun x hx => .inl hx, hcV⟩
 ·simp only [rrows, List.mem_cons, List.mem_nil_iff, or_false] at hr
  rcases hr with rfl | hr
  ·show (w.setCell ⟨g, k, none⟩ u).ownsRow 0 30 1 nv d.n (NV.set k u)
   have h1 := hrows.1
   rw [hnv] at h1 ⊢
   exact row_set h1 k u (by omega)
  ·have hmem : r ∈ rrows d.n nv lv av wv NV LV AV WV := by rcases hr with rfl | rfl | rfl <;> simp [rrows]
   have hr' : r ∈ [(⟨30, 1, lv, d.n, LV⟩ : RowD), ⟨3, 1, av, AV.length, AV⟩, ⟨30, 1, wv, WV.length, WV⟩] := by rcases hr with rfl | rfl | rfl <;> simp
   exact row_keep (h.obj.rows r hmem) (fun y hy => hc.block y (World.ownsRow.lt (h.obj.rows r hmem) y hy).2 (by
    intro hm
    rw [List.mem_singleton.1 hm] at hy
    exact hne r hr' hy))
 ·show (upd d.now k b j).length = 64 /\ BytesAt _ ((NV.set k u).getD j undef) (upd d.now k b j) /\ _
  have hset : (NV.set k u).getD j undef = if j = k then u else NV.getD j undef := by
   rw [List.getD_eq_getElem?_getD, List.getElem?_set, List.getD_eq_getElem?_getD]
   by_cases hjk : k = j
   ·subst hjk; simp [hlen, hk]
   ·rw [if_neg hjk, if_neg (fun e => hjk e.symm)]
  rw [hset]
  unfold upd
  by_cases hjk : j = k
  ·rw [if_pos hjk, if_pos hjk]
   refine ⟨hb, hu.chg hcV (fun x hx => (hown x hx).2), fun x hx => ⟨List.mem_append_right _ (by rw [hx]; simp), (hown x hx).2⟩⟩
  ·rw [if_neg hjk, if_neg hjk]
   obtain ⟨h1, h2, h3⟩ := h.now j hj
   exact ⟨h1, h2.chg hcV (fun x hx => (h3 x hx).2), fun x hx => ⟨List.mem_append_left _ (h3 x hx).1, (h3 x hx).2⟩⟩
 ·by_cases hxg : x = g
  ·rw [hxg]
   exact (h.no8 g hgV).set (h.lim g (h.sub g hgV)) hu.no8
  ·exact (h.no8 x hx).keep (hc.block x (h.lim x (h.sub x hx)) (by simp; exact hxg))
 ·rcases List.mem_append.1 hx with hx | hx
  ·exact Nat.lt_of_lt_of_le (h.lim x hx) hc.size
  ·have := (hown x (by simpa using hx)).1
   simpa [World.setCell] using this
theorem RDiskOk.last {w : World} {m : Nat} {V F : List Nat} {d : DS} {nv lv av wv : Value} {NV LV AV WV : List Value} (h : RDiskOk w m V F d nv lv av wv NV LV AV WV) (k g cap : Nat) (u : Value) (hk : k < d.n) (hlv : lv = .slice (some ⟨g, 0, none⟩) d.n cap) (hu : No8 u) :
  RDiskOk (w.setCell ⟨g, k, none⟩ u) m V F d nv lv av wv NV (LV.set k u) AV WV /\ Chg V w (w.setCell ⟨g, k, none⟩ u) := by
 have hgV : g ∈ V := h.in.2.2.1 g (by rw [hlv]; rfl)
 have hc : Chg [g] w (w.setCell ⟨g, k, none⟩ u) := (Chg.refl _ w).setCell (p := ⟨g, k, none⟩) (.inl (by simp)) _
 have hcV : Chg V w (w.setCell ⟨g, k, none⟩ u) := hc.mono (fun x hx => .inl (by rw [List.mem_singleton.1 hx]; exact hgV))
 have hrows := h.row
 have hne : ∀ (r : RowD), r ∈ [(⟨30, 1, nv, d.n, NV⟩ : RowD), ⟨3, 1, av, AV.length, AV⟩, ⟨30, 1, wv, WV.length, WV⟩] -> r.v.ownBlock ≠ some g := fun r hr he => by
  have hobj : ObjAt w m 134 (rcs d nv lv av wv) ([⟨30, 1, nv, d.n, NV⟩] ++ (⟨30, 1, lv, d.n, LV⟩ : RowD) :: [⟨3, 1, av, AV.length, AV⟩, ⟨30, 1, wv, WV.length, WV⟩]) := h.obj
  refine hobj.other_ne (q := r) ?_ he (by rw [hlv]; rfl)
  simp only [List.mem_cons, List.mem_nil_iff, or_false] at hr ⊢
  exact hr
 have hmg : m ≠ g := fun e => h.obj.row_ne (r := ⟨30, 1, lv, d.n, LV⟩) (by simp [rrows]) (k := g) (by rw [hlv]; rfl) e.symm
 refine ⟨⟨⟨hc.keep h.obj.head (by simp; exact hmg), fun r hr => ?_, h.obj.apart⟩, fun j hj => ?_, fun c hc => ?_, h.ats, h.wrote, h.few, h.fuse, h.mem, fun x hx => ?_, h.sub, fun x hx => Nat.lt_of_lt_of_le (h.lim x hx) hc.size⟩, hcV⟩
 ·simp only [rrows, List.mem_cons, List.mem_nil_iff, or_false] at hr
  by_cases hrl : r = ⟨30, 1, lv, d.n, LV.set k u⟩
  ·subst hrl
   show (w.setCell ⟨g, k, none⟩ u).ownsRow 0 30 1 lv d.n (LV.set k u)
   have h1 := hrows.2.1
   rw [hlv] at h1 ⊢
   exact row_set h1 k u (by omega)
  ·have hmem : r ∈ rrows d.n nv lv av wv NV LV AV WV := by
    rcases hr with rfl | rfl | rfl | rfl
    ·simp [rrows]
    ·exact absurd rfl hrl
    ·simp [rrows]
    ·simp [rrows]
   have hr' : r ∈ [(⟨30, 1, nv, d.n, NV⟩ : RowD), ⟨3, 1, av, AV.length, AV⟩, ⟨30, 1, wv, WV.length, WV⟩] := by
    rcases hr with rfl | rfl | rfl | rfl
    ·simp
    ·exact absurd rfl hrl
    ·simp
    ·simp
   exact row_keep (h.obj.rows r hmem) (fun y hy => hc.block y (World.ownsRow.lt (h.obj.rows r hmem) y hy).2 (by
    intro hm
    rw [List.mem_singleton.1 hm] at hy
    exact hne r hr' hy))
 ·obtain ⟨h1, h2, h3⟩ := h.now j hj
  exact ⟨h1, h2.chg hcV (fun x hx => (h3 x hx).2), h3⟩
 ·rcases List.mem_or_eq_of_mem_set hc with hc | hc
  ·exact h.lasts c hc
  ·rw [hc]; exact hu
 ·by_cases hxg : x = g
  ·rw [hxg]
   exact (h.no8 g hgV).set (h.lim g (h.sub g hgV)) hu
  ·exact (h.no8 x hx).keep (hc.block x (h.lim x (h.sub x hx)) (by simp; exact hxg))
theorem RDiskOk.calm {w : World} {m : Nat} {V F : List Nat} {d : DS} {nv lv av wv : Value} {NV LV AV WV : List Value} (h : RDiskOk w m V F d nv lv av wv NV LV AV WV) (la : Nat -> List UInt8) :
  RDid w ((w.setCell ⟨m, 2, none⟩ (.slice none 0 0)).setCell ⟨m, 3, none⟩ (.slice none 0 0)) m V F { d with lasts := la, since := [] } := by
 have hobj : ObjAt w m 134 (rcs d nv lv av wv) ([⟨30, 1, nv, d.n, NV⟩, ⟨30, 1, lv, d.n, LV⟩] ++ (⟨3, 1, av, AV.length, AV⟩ : RowD) :: [⟨30, 1, wv, WV.length, WV⟩]) := h.obj
 have hg0 : ∀ r, w.grownBy w r := fun r => ⟨rfl, rfl, rfl, Nat.le_refl _, fun _ _ _ => rfl⟩
 obtain ⟨o1, o2, o3⟩ := hobj.field (r' := ⟨3, 1, .slice none 0 0, 0, []⟩) 2 (hg0 _) (World.ownsRow_nil _ _ _ _) (fun k hk => by cases hk)
 have o8 := hobj.field8 (fun y hy => h.no8 y (by rw [h.mem]; exact hy)) 2 (hg0 _) (r' := ⟨3, 1, .slice none 0 0, 0, []⟩) (fun k hk => by cases hk) (fun y hy => by cases hy) no8_slice
 have hV : V = blks m (rrows d.n nv lv av wv NV LV AV WV) := h.mem
 have o3 : Chg V w (w.setCell ⟨m, 2, none⟩ (.slice none 0 0)) := by rw [hV]; exact o3
 have hV1 : ∀ x ∈ blks m (rrows d.n nv lv (.slice none 0 0) wv NV LV [] WV), x ∈ V ∨ w.heap.size <= x := fun x hx => by rw [hV]; exact o2 x hx
 have h1 := h.turn (d' := d) (av' := .slice none 0 0) (wv' := wv) (AV' := []) (WV' := WV) o1 hV1 o3 o8 rfl rfl rfl ⟨by simp, by simp⟩ h.wrote
 have hw1 : (w.setCell ⟨m, 2, none⟩ (.slice none 0 0)).heap.size = w.heap.size := by simp [World.setCell]
 generalize w.setCell ⟨m, 2, none⟩ (.slice none 0 0) = w1 at *
 have hobj1 : ObjAt w1 m 134 (rcs d nv lv (.slice none 0 0) wv) ([⟨30, 1, nv, d.n, NV⟩, ⟨30, 1, lv, d.n, LV⟩, ⟨3, 1, .slice none 0 0, ([] : List Value).length, []⟩] ++ (⟨30, 1, wv, WV.length, WV⟩ : RowD) :: []) := h1.obj
 have hg1 : ∀ r, w1.grownBy w1 r := fun r => ⟨rfl, rfl, rfl, Nat.le_refl _, fun _ _ _ => rfl⟩
 obtain ⟨q1, q2, q3⟩ := hobj1.field (r' := ⟨30, 1, .slice none 0 0, 0, []⟩) 3 (hg1 _) (World.ownsRow_nil _ _ _ _) (fun k hk => by cases hk)
 have q8 := hobj1.field8 (fun y hy => h1.no8 y hy) 3 (hg1 _) (r' := ⟨30, 1, .slice none 0 0, 0, []⟩) (fun k hk => by cases hk) (fun y hy => by cases hy) no8_slice
 have q2' : ∀ x ∈ blks m (rrows d.n nv lv (.slice none 0 0) (.slice none 0 0) NV LV [] []), x ∈ blks m (rrows d.n nv lv (.slice none 0 0) wv NV LV [] WV) ∨ w1.heap.size <= x := q2
 have h2 := h1.turn (d' := { d with lasts := la, since := [] }) (av' := .slice none 0 0) (wv' := .slice none 0 0) (AV' := []) (WV' := []) q1 q2' q3 q8 rfl rfl rfl ⟨by simp, by simp⟩ ⟨by simp, by simp⟩
 have hV2 : ∀ x ∈ blks m (rrows d.n nv lv (.slice none 0 0) (.slice none 0 0) NV LV [] []), x ∈ V ∨ w.heap.size <= x := fun x hx => by
  rcases q2' x hx with h4 | h4
  ·exact hV1 x h4
  ·exact .inr (by omega)
 refine ⟨_, _, ⟨_, _, _, _, _, _, _, _, h2⟩, hV2, fun x hx => ?_, o3.trans q3 hV1⟩
 have hin : ∀ x, x ∈ V ∨ w.heap.size <= x -> x ∈ F ∨ w.heap.size <= x := fun x hx => hx.imp (h.sub x) id
 rcases List.mem_append.1 hx with hx | hx
 ·rcases List.mem_append.1 hx with hx | hx
  ·exact .inl hx
  ·exact hin x (hV1 x hx)
 ·exact hin x (hV2 x hx)
theorem facts_bytes : (Tryz.prog.info? 30).map (fun i => (i.zero, i.size, i.bytes)) = some (some (.slice none 0 0), 1, 24) := by kernel_rfl
theorem facts_intR : (Tryz.prog.info? 3).map (fun i => (i.zero, i.size, i.bytes)) = some (some (.int .i64 0), 1, 8) := by kernel_rfl
theorem write_eq (d : DS) (k : Nat) (b : List UInt8) (hd : d.dead = false) (hk : k < d.n) (hb : b.length = 64) :
  d.write (k : Int) b = if d.op.1 then (0, { d.op.2 with since := d.since ++ [(k, b)], now := upd d.now k b }) else (14, { d.op.2 with since := d.since ++ [(k, b)] }) := by
 unfold DS.write
 rw [if_neg (by rw [hd]; simp), if_pos ⟨by omega, by omega, hb⟩, Int.toNat_natCast]
 unfold DS.op
 by_cases hf : d.fuse = 0
 ·simp [hf]
 ·simp [hf]
theorem op_rest (d : DS) : d.op.2.n = d.n /\ d.op.2.now = d.now /\ d.op.2.since = d.since := by
 unfold DS.op
 split <;> exact ⟨rfl, rfl, rfl⟩
theorem rwrite_ok (m : Nat) (V F : List Nat) (d : DS) (k : Nat) (a : Option Addr) (cap : Nat) (b : List UInt8) (w : World) (h : RDiskAt w m V F d) (ho : d.ops <= 1000000000) (hw : d.since.length <= 1000000) (hd : d.dead = false) (hk : k < d.n) (hb : b.length = 64)
  (hv : BytesAt w (.slice a 64 cap) b) (hvo : ∀ x, (Value.slice a 64 cap).ownBlock = some x -> x ∉ V) :
  Calls Tryz.prog 68 #[.pointer (some ⟨m, 0, none⟩), .int .i64 (k : Int), .slice a 64 cap] w fun e w' => e = .returned (.int .i64 (d.write (k : Int) b).1) /\ RDid w w' m V F (d.write (k : Int) b).2 := by
 have CO := LH (rop_any m V F d w h ho)
 obtain ⟨nv, lv, av, wv, NV, LV, AV, WV, H⟩ := h
 have c0 := blk_cell H.head 0 _ rfl
 have c6 := blk_cell H.head 6 _ rfl
 obtain ⟨gn, cn, hnv, _, _⟩ : ∃ g cap, nv = .slice (some ⟨g, 0, none⟩) d.n cap /\ True /\ True := by
  rcases H.row.1.2 with ⟨_, h0⟩ | ⟨g, cap, cur, rfl, _⟩
  ·omega
  ·exact ⟨g, cap, rfl, trivial, trivial⟩
 subst hnv
 have HWE := LH (write_eq d k b hd hk hb)
 have HV := LH hv
 have HVO := LH hvo
 have HB := LH hb
 have hkz : ¬ (d.n : Int) <= (k : Int) := by omega
 have hkz0 : ¬ (k : Int) < 0 := by omega
 have HD := LH hd
 have c6' : w.cell? ⟨m, 6, none⟩ = some (.bool false) := by rw [<- hd]; exact c6
 have HN := LH hk
 obtain ⟨n, hn⟩ : ∃ n, n = d.n := ⟨_, rfl⟩
 rw [<- hn] at c0 hkz
 have HNN := LH hn
 clear H hv hvo hb hd c6 hn hk
 go_enter Tryz.func68, Tryz.ntmps68
 go_wp2_with fail
 refine CO.out.mono ?_
 rintro e w1 ⟨rfl, hd1⟩
 obtain ⟨o1, o2, o3⟩ := op_rest d
 obtain ⟨q, hq⟩ : ∃ q, q = d.op.1 := ⟨_, rfl⟩
 obtain ⟨d1, hd1e⟩ : ∃ d1, d1 = d.op.2 := ⟨_, rfl⟩
 rw [<- hd1e] at hd1 o1 o2 o3
 rw [<- hd1e, <- hq] at HWE
 rw [<- hq]
 obtain ⟨V1, F1, ⟨nv1, lv1, av1, wv1, NV1, LV1, AV1, WV1, H1⟩, hV1, hF1, hc1⟩ := hd1
 have HV1 := LH hV1
 have HF1 := LH hF1
 have HC1 := LH hc1
 have HH1 := LH H1
 have O1 := LH (And.intro o1 (And.intro o2 o3))
 have l2 := blk_cell H1.head 2 _ rfl
 have m2 := blk_frozen H1.head 2
 have hml := blk_lt H1.head
 clear H1 hV1 hF1 hc1 CO c0 c6' hq hd1e o1 o2 o3
 obtain ⟨i2, hi2, hz2, hs2, hy2⟩ := info_parts facts_intR
 obtain ⟨i3, hi3, hz3, hs3, hy3⟩ := info_parts facts_bytes
 have I2 := LH (And.intro hi2 (And.intro hz2 (And.intro hs2 hy2)))
 have I3 := LH (And.intro hi3 (And.intro hz3 (And.intro hs3 hy3)))
 have hcA : Chg [] w1 (w1.alloc (.cells #[.int .i64 (k : Int)] 3)) := (Chg.refl _ _).alloc _
 have HA := LH (HH1.out.keep0 hcA)
 have hl1 : AV1.length + 1 <= 1000001 := by have h := HH1.out.ats.2; rw [O1.out.2.2] at h; omega
 have hl2 : WV1.length + 1 <= 1000001 := by have h := HH1.out.wrote.2; rw [O1.out.2.2] at h; omega
 obtain ⟨wA, hwA⟩ : ∃ wA, wA = w1.alloc (.cells #[.int .i64 (k : Int)] 3) := ⟨_, rfl⟩
 have HNW := LH (news_one (w := w1) (e := 3) (u := .int .i64 (k : Int)) rfl)
 have HWA := LH hwA
 have HCA := LH hcA
 clear hi2 hz2 hs2 hy2 hi3 hz3 hs3 hy3 hcA hwA
 go_wp2_with (at_builtin; refine wpList_append_no8 rfl (.tmp 34) (.tmp 36) 132 rfl 3 i2 (.int .i64 0) 1 8 Tryz.underlying132 I2.out.1 I2.out.2.1 I2.out.2.2.1 I2.out.2.2.2 rfl (by omega) (one_z8 rfl no8_i64) av1 AV1.length AV1 rfl HA.out.row.2.2.1 HA.out.ats.1 (fun x hx => HA.out.no8 x (HA.out.in.2.2.2.1 x hx)) ⟨w1.heap.size, 0, none⟩ 1 rfl [.int .i64 (k : Int)] rfl HNW.out (fun u hu => by rw [List.mem_singleton.1 hu]; rfl) (fun u hu => by rw [List.mem_singleton.1 hu]; exact no8_i64) (by unfold maxLen; omega) (by omega) ?_; intro g2 cap2 w2 hrow hg hat hlt h8; refine stay_of ?_)
 have hm2 : w2.heap[m]? = _ := (hg.block m (blk_lt HA.out.head) (fun e => HA.out.obj.row_ne (r := ⟨3, 1, av1, AV1.length, AV1⟩) (by simp [rrows]) e.symm rfl)).trans HA.out.head
 have d2 := blk_cell hm2 2 _ rfl
 have e2 := blk_frozen hm2 2
 have f2 := blk_lt hm2
 obtain ⟨V2, F2, H2, hV2, hF2, hc2⟩ := HA.out.at (k, b) (.int .i64 (k : Int)) g2 cap2 hg hrow hat h8 no8_i64
 have hglue : ∀ w' d', RDid (w2.setCell ⟨m, 2, none⟩ (.slice (some ⟨g2, 0, none⟩) (AV1.length + 1) cap2)) w' m V2 F2 d' -> RDid w w' m V F d' := fun w' d' h => RDid.glue HV1.out HF1.out HC1.out (RDid.pre HCA.out (RDid.glue hV2 hF2 hc2 h))
 have hlt64 : ∀ x, (Value.slice a 64 cap).ownBlock = some x -> x < w.heap.size := HV.out.lt (by intro e; have := HB.out; rw [e] at this; simp at this)
 have hbv : BytesAt (w2.setCell ⟨m, 2, none⟩ (.slice (some ⟨g2, 0, none⟩) (AV1.length + 1) cap2)) (.slice a 64 cap) b := by
  have hsz := HC1.out.size
  refine ((HV.out.chg HC1.out HVO.out).chg HCA.out (by simp)).chg hc2 (fun x hx hm => ?_)
  rcases HV1.out x hm with h4 | h4
  ·exact HVO.out x hx h4
  ·have := hlt64 x hx; omega
 have hvo2 : ∀ x, (Value.slice a 64 cap).ownBlock = some x -> x ∉ V2 := fun x hx hm => by
  have hsz := HC1.out.size
  have hl := hlt64 x hx
  rcases hV2 x hm with h4 | h4
  ·rcases HV1.out x h4 with h5 | h5
   ·exact HVO.out x hx h5
   ·omega
  ·simp at h4; omega
 have HG := LH hglue
 have HH2 := LH H2
 have HBV := LH (And.intro hbv hvo2)
 unfold Stay
 clear hglue hbv hvo2 hlt64 H2 hV2 hF2 hc2 hrow hg hat hlt h8 hm2 l2 m2 hml
 go_wp2_with fail
 generalize w2.setCell ⟨m, 2, none⟩ (.slice (some ⟨g2, 0, none⟩) (AV1.length + 1) cap2) = w3 at *
 have p3 : w3.cell? ⟨m, 3, none⟩ = some wv1 := blk_cell HH2.out.head 3 _ rfl
 clear d2 e2 f2
 refine wp_region_L [(11, fun w' => w'.cell? ⟨m, 3, none⟩ = some wv1)] (by kernel_rfl) ?_ (fun hHeld => ?_)
 ·exact (HoldC.cons (p3) HoldC.nil)
 refine tk 0 ?_ rfl (by kernel_rfl) (fun _ _ _ h => h) (.inl ⟨by rfl, ?_⟩) hHeld ?_; rotate_left; · (intro w _; go_simp; try with_reducible rfl)
 clear hHeld; intro hHeld; try simp only [gA,gB,gC,Act.put,gD,gE,gF]
 refine tk 1 ?_ rfl (by kernel_rfl) (fun _ _ _ h => h) (.inl ⟨by rfl, ?_⟩) hHeld ?_; rotate_left; · (intro w _; go_simp; try with_reducible rfl)
 clear hHeld; intro hHeld; try simp only [gA,gB,gC,Act.put,gD,gE,gF]
 refine tk 2 ?_ rfl (by kernel_rfl) (fun _ _ _ h => h) (.inl ⟨by rfl, ?_⟩) hHeld ?_; rotate_left; · (intro w _; go_simp; try with_reducible rfl)
 clear hHeld; intro hHeld; try simp only [gA,gB,gC,Act.put,gD,gE,gF]
 refine tk 3 ?_ rfl (by kernel_rfl) (fun _ _ _ h => h) (.inl ⟨by rfl, ?_⟩) hHeld ?_; rotate_left; · (intro w _; go_simp; try with_reducible rfl)
 clear hHeld; intro hHeld; try simp only [gA,gB,gC,Act.put,gD,gE,gF]
 refine tk 5 ?_ rfl (by kernel_rfl) (fun _ _ _ h => h) (.inl ⟨by rfl, ?_⟩) hHeld ?_; rotate_left; · (intro w _; go_simp; try with_reducible rfl)
 clear hHeld; intro hHeld; try simp only [gA,gB,gC,Act.put,gD,gE,gF]
 refine ld 0 4 ?_ rfl rfl (by kernel_rfl) (fun _ _ _ h => h) (.inl ⟨by rfl, ?_⟩) hHeld ?_; rotate_left; · (intro w hSw; (try dsimp only at hSw); go_simp; try with_reducible rfl)
 clear hHeld; intro hHeld; try simp only [gA,gB,gC,Act.put,gD,gE,gF]
 refine wpAnyL_ready (rs := [6]) (by kernel_rfl) (by simp) (AllReadyL.cons (o := _) rfl (fun K hK => ?_) AllReadyL.nil)
 try simp only [gA,gB,gC]
 go_simp
 refine (rcopy_any (.slice a 64 cap) b w3.drew (HBV.out.1.chg (by exact (Chg.refl [] w3).drew) (by simp)) (by rw [HB.out]; omega)).mono ?_
 rintro e w4 ⟨v4, rfl, hb4, ho4, hc4⟩
 obtain ⟨a4, c4, hv4⟩ := hb4.bytes.slice
 subst hv4
 have hc4 : Chg [] w3 w4 := (by exact (Chg.refl [] w3).drew : Chg [] w3 w3.drew).trans hc4 (by simp)
 have HB4 := LH hb4
 have hcB : Chg [] w4 (w4.alloc (.cells #[.slice a4 b.length c4] 30)) := (Chg.refl _ _).alloc _
 have H4 := LH (HH2.out.keep0 (hc4.trans hcB (by simp)))
 have HC4 := LH (hc4.trans hcB (by simp))
 have p4 := hc4.cell p3 (by simp)
 have p5 := hcB.cell p4 (by simp)
 have HN4 := LH (news_one (w := w4) (e := 30) (u := .slice a4 b.length c4) rfl)
 have h84 := hb4.bytes.no8
 have hone : (Value.slice a4 b.length c4).oneCell' = true := rfl
 clear hb4 ho4 hc4 hcB p3
 try go_wp2_with fail
 clear hHeld
 refine hK.out _ _ ?_ (fun hHeld => ?_)
 ·exact (HoldC.cons (p4) HoldC.nil)
 clear hK K
 try simp only [gA,gB,gC,Act.put,gD,gE,gF]
 refine wpAnyL_ready (rs := [7]) (by kernel_rfl) (by simp) (AllReadyL.cons (o := _) rfl (fun K hK => ?_) AllReadyL.nil)
 try simp only [gA,gB,gC]
 go_simp
 clear hHeld
 refine hK.out _ _ ?_ (fun hHeld => ?_)
 ·exact (HoldC.cons (p5) HoldC.nil)
 clear hK K
 try simp only [gA,gB,gC,Act.put,gD,gE,gF]
 refine wpAnyL_ready (rs := [8]) (by kernel_rfl) (by simp) (AllReadyL.cons (o := _) rfl (fun K hK => ?_) AllReadyL.nil)
 try simp only [gA,gB,gC]
 rw [if_pos (by rfl)]
 refine wp_append_no8 (.tmp 44) (.tmp 47) 131 (by rfl) 30 i3 (.slice none 0 0) 1 24 Tryz.underlying131 I3.out.1 I3.out.2.1 I3.out.2.2.1 I3.out.2.2.2 rfl (by omega) (one_z8 rfl no8_slice) wv1 WV1.length WV1 (by rfl) H4.out.row.2.2.2 H4.out.wrote.1 (fun x hx => H4.out.no8 x (H4.out.in.2.2.2.2 x hx)) ⟨w4.heap.size, 0, none⟩ 1 (by rfl) [.slice a4 b.length c4] rfl HN4.out (fun u hu => by rw [List.mem_singleton.1 hu]; exact hone) (fun u hu => by rw [List.mem_singleton.1 hu]; exact h84) (by unfold maxLen; omega) (by omega) ?_
 intro g5 cap5 w5 hrow hg hat hlt h8
 have hm5 : w5.heap[m]? = _ := (hg.block m (blk_lt H4.out.head) (fun e => H4.out.obj.row_ne (r := ⟨30, 1, wv1, WV1.length, WV1⟩) (by simp [rrows]) e.symm rfl)).trans H4.out.head
 have p6 := blk_cell hm5 3 _ rfl
 have p7 := blk_frozen hm5 3
 have p8 := blk_lt hm5
 have hD6 := H4.out.more (.slice a4 b.length c4) g5 cap5 hg hrow hat h8 h84 (by simp; exact HH1.out.wrote.2)
 have HD6 := LH (RDid.pre HC4.out hD6)
 clear hrow hg hat hlt h8 hm5 hD6 p4 p5 hone h84
 clear hHeld
 refine hK.out _ _ ?_ (fun hHeld => ?_)
 ·exact (HoldC.cons (p6) HoldC.nil)
 clear hK K
 try simp only [gA,gB,gC,Act.put,gD,gE,gF]
 refine tk 9 ?_ rfl (by kernel_rfl) (fun _ _ _ h => h) (.inl ⟨by rfl, ?_⟩) hHeld ?_; rotate_left; · (intro w _; go_simp; try with_reducible rfl)
 clear hHeld; intro hHeld; try simp only [gA,gB,gC,Act.put,gD,gE,gF]
 refine tk 10 ?_ rfl (by kernel_rfl) (fun _ _ _ h => h) (.inl ⟨by rfl, ?_⟩) hHeld ?_; rotate_left; · (intro w _; go_simp; try with_reducible rfl)
 clear hHeld; intro hHeld; try simp only [gA,gB,gC,Act.put,gD,gE,gF]
 refine wpAnyL_ready (rs := [11]) (by kernel_rfl) (by simp) (AllReadyL.cons (o := _) rfl (fun K hK => ?_) AllReadyL.nil)
 try simp only [gA,gB,gC]
 go_simp
 clear hHeld
 refine hK.out _ _ ?_ (fun hHeld => ?_)
 ·exact (HoldC.past (by kernel_rfl) HoldC.nil)
 clear hK K
 try simp only [gA,gB,gC,Act.put,gD,gE,gF]
 refine wpAnyL_done (by kernel_rfl) ?_ _
 clear hHeld
 generalize w5.setCell ⟨m, 3, none⟩ (.slice (some ⟨g5, 0, none⟩) (WV1.length + 1) cap5) = w6 at *
 clear p6 p7 p8
 cases q
 ·simp only [Bool.false_eq_true, if_false] at HWE
  go_wp2
  go_ret
  rw [HWE.out]
  exact ⟨rfl, by
   have h := HG.out _ _ HD6.out
   rw [O1.out.2.2] at h
   exact h⟩
 ·simp only [if_true] at HWE
  obtain ⟨V3, F3, ⟨nv3, lv3, av3, wv3, NV3, LV3, AV3, WV3, H3⟩, hV3, hF3, hc3⟩ := HD6.out
  have hn3 : n = d1.n := by rw [HNN.out, O1.out.1]
  obtain ⟨g7, c7, hnv3, -⟩ : ∃ g cap, nv3 = .slice (some ⟨g, 0, none⟩) d1.n cap /\ True := by
   rcases H3.row.1.2 with ⟨_, h0⟩ | ⟨g, cap, cur, h1, _⟩
   ·have : d1.n = 0 := h0
    omega
   ·exact ⟨g, cap, h1, trivial⟩
  have p0 : w6.cell? ⟨m, 0, none⟩ = some (.slice (some ⟨g7, 0, none⟩) n c7) := by rw [hn3, <- hnv3]; exact blk_cell H3.head 0 _ rfl
  have hb6 : BytesAt w6 (.slice a 64 cap) b := HBV.out.1.chg hc3 HBV.out.2
  have HH3 := LH H3
  have HNV := LH hnv3
  have HN3 := LH hn3
  have HG3 := LH (And.intro hV3 (And.intro hF3 hc3))
  have hkz1 : (k : Int).toNat = k := by omega
  clear H3 hV3 hF3 hc3 hnv3 hn3
  go_wp2_with fail
  refine wp_region_L [(8, fun w' => w'.cell? ⟨m, 0, none⟩ = some (.slice (some ⟨g7, 0, none⟩) n c7))] (by kernel_rfl) ?_ (fun hHeld => ?_)
  ·exact (HoldC.cons (p0) HoldC.nil)
  refine tk 0 ?_ rfl (by kernel_rfl) (fun _ _ _ h => h) (.inl ⟨by rfl, ?_⟩) hHeld ?_; rotate_left; · (intro w _; go_simp; try with_reducible rfl)
  clear hHeld; intro hHeld; try simp only [gA,gB,gC,Act.put,gD,gE,gF]
  refine tk 1 ?_ rfl (by kernel_rfl) (fun _ _ _ h => h) (.inl ⟨by rfl, ?_⟩) hHeld ?_; rotate_left; · (intro w _; go_simp; try with_reducible rfl)
  clear hHeld; intro hHeld; try simp only [gA,gB,gC,Act.put,gD,gE,gF]
  refine tk 2 ?_ rfl (by kernel_rfl) (fun _ _ _ h => h) (.inl ⟨by rfl, ?_⟩) hHeld ?_; rotate_left; · (intro w _; go_simp; try with_reducible rfl)
  clear hHeld; intro hHeld; try simp only [gA,gB,gC,Act.put,gD,gE,gF]
  refine tk 4 ?_ rfl (by kernel_rfl) (fun _ _ _ h => h) (.inl ⟨by rfl, ?_⟩) hHeld ?_; rotate_left; · (intro w _; go_simp; try with_reducible rfl)
  clear hHeld; intro hHeld; try simp only [gA,gB,gC,Act.put,gD,gE,gF]
  refine tk 5 ?_ rfl (by kernel_rfl) (fun _ _ _ h => h) (.inl ⟨by rfl, ?_⟩) hHeld ?_; rotate_left; · (intro w _; go_simp; try with_reducible rfl)
  clear hHeld; intro hHeld; try simp only [gA,gB,gC,Act.put,gD,gE,gF]
  refine ld 0 3 ?_ rfl rfl (by kernel_rfl) (fun _ _ _ h => h) (.inl ⟨by rfl, ?_⟩) hHeld ?_; rotate_left; · (intro w hSw; (try dsimp only at hSw); go_simp; try with_reducible rfl)
  clear hHeld; intro hHeld; try simp only [gA,gB,gC,Act.put,gD,gE,gF]
  refine wpAnyL_ready (rs := [6]) (by kernel_rfl) (by simp) (AllReadyL.cons (o := _) rfl (fun K hK => ?_) AllReadyL.nil)
  try simp only [gA,gB,gC]
  go_simp
  refine (rcopy_any (.slice a 64 cap) b w6.drew (hb6.chg (by exact (Chg.refl [] w6).drew) (by simp)) (by rw [HB.out]; omega)).mono ?_
  rintro e w7 ⟨v7, rfl, hb7, ho7, hc7⟩
  have hc7 : Chg [] w6 w7 := (by exact (Chg.refl [] w6).drew : Chg [] w6 w6.drew).trans hc7 (by simp)
  have H7 := LH (HH3.out.keep0 hc7)
  have p1 := hc7.cell p0 (by simp)
  have hd7 := H7.out.sec k g7 c7 b v7 (by rw [<- HN3.out]; omega) HNV.out HB.out hb7.bytes (fun x hx => ⟨hb7.lt x hx, fun hm => by
   have h1 := ho7 x hx
   have h2 := HH3.out.lim x (HH3.out.sub x hm)
   have h3 : w6.drew.heap.size = w6.heap.size := rfl
   omega⟩)
  have HD7 : Hid (RDid w (w7.setCell ⟨g7, k, none⟩ v7) m V F (d.write (k : Int) b).2) := LH (by
   rw [HWE.out]
   have h1 : RDid w6 (w7.setCell ⟨g7, k, none⟩ v7) m V3 F3 { ({ d1 with since := d1.since ++ [(k, b)] } : DS) with now := upd ({ d1 with since := d1.since ++ [(k, b)] } : DS).now k b } := by
    obtain ⟨V8, F8, q1, q2, q3, q4⟩ := hd7
    refine ⟨V8, F8, q1, fun x hx => (q2 x hx).imp id (fun h => Nat.le_trans hc7.size h), fun x hx => ?_, (hc7.mono (by simp)).trans q4 (fun x hx => .inl hx)⟩
    rcases q3 x hx with h4 | h4
    ·rcases List.mem_append.1 h4 with h4 | h4
     ·exact .inl h4
     ·have h5 := ho7 x (by simpa using h4)
      exact .inr h5
    ·exact .inr (Nat.le_trans hc7.size h4)
   have h2 := HG.out _ _ (RDid.glue HG3.out.1 HG3.out.2.1 HG3.out.2.2 h1)
   rw [O1.out.2.2] at h2
   have h3 : upd d.now k b = upd d1.now k b := by rw [O1.out.2.1]
   rw [h3]
   exact h2)
  have gl : g7 < w7.heap.size := Nat.lt_of_lt_of_le (HH3.out.lim g7 (HH3.out.sub g7 (HH3.out.in.2.1 g7 (by rw [HNV.out]; rfl)))) hc7.size
  have gc : ∃ u, w7.cell? ⟨g7, k, none⟩ = some u := by
   have hr := H7.out.row.1
   rw [HNV.out] at hr
   have hl : k < NV3.length := by have := hr.1; rw [<- HN3.out] at this; omega
   have := hr.cells (g := g7) rfl k NV3[k] (List.getElem?_eq_getElem hl)
   rw [add_none, Nat.zero_add] at this
   exact ⟨_, this⟩
  obtain ⟨u7, hu7⟩ := gc
  have gf : w7.frozen? ⟨g7, k, none⟩ = false := by
   have hr := H7.out.row.1
   rw [HNV.out] at hr
   rcases hr.2 with ⟨h1, _⟩ | ⟨g', cap', cur, hv, _, hg, _⟩
   ·cases h1
   ·obtain rfl : g7 = g' := by simp at hv; exact hv.1
    exact blk_frozen hg k
  obtain ⟨a7, c7', hv7⟩ := hb7.bytes.slice
  subst hv7
  clear hb7 ho7 hc7 hd7
  try go_wp2_with fail
  clear hHeld
  refine hK.out _ _ ?_ (fun hHeld => ?_)
  ·exact (HoldC.cons (p1) HoldC.nil)
  clear hK K
  try simp only [gA,gB,gC,Act.put,gD,gE,gF]
  refine tk 7 ?_ rfl (by kernel_rfl) (fun _ _ _ h => h) (.inl ⟨by rfl, ?_⟩) hHeld ?_; rotate_left; · (intro w _; go_simp; try with_reducible rfl)
  clear hHeld; intro hHeld; try simp only [gA,gB,gC,Act.put,gD,gE,gF]
  refine wpAnyL_ready (rs := [8]) (by kernel_rfl) (by simp) (AllReadyL.cons (o := _) rfl (fun K hK => ?_) AllReadyL.nil)
  try simp only [gA,gB,gC]
  go_simp
  clear hHeld
  refine hK.out _ _ ?_ (fun hHeld => ?_)
  ·exact (HoldC.past (by kernel_rfl) HoldC.nil)
  clear hK K
  try simp only [gA,gB,gC,Act.put,gD,gE,gF]
  refine wpAnyL_done (by kernel_rfl) ?_ _
  clear hHeld
  go_wp2
  go_ret
  exact ⟨by rw [HWE.out]; rfl, HD7.out⟩
theorem rwrite_dead (m : Nat) (V F : List Nat) (d : DS) (k : Int) (v : Value) (b : List UInt8) (w : World) (h : RDiskAt w m V F d) (hd : d.dead = true) :
  Calls Tryz.prog 68 #[.pointer (some ⟨m, 0, none⟩), .int .i64 k, v] w fun e w' => e = .returned (.int .i64 (d.write k b).1) /\ RDid w w' m V F (d.write k b).2 := by
 have HF := LH (RDid.same h)
 obtain ⟨nv, lv, av, wv, NV, LV, AV, WV, H⟩ := h
 have c6 := blk_cell H.head 6 _ rfl
 have c6' : w.cell? ⟨m, 6, none⟩ = some (.bool true) := by rw [<- hd]; exact c6
 have HW : Hid (d.write k b = (14, d)) := LH (by unfold DS.write; rw [if_pos hd])
 rw [HW.out]
 clear H c6 hd
 go_enter Tryz.func68, Tryz.ntmps68
 go_wp2
 go_ret
 exact ⟨rfl, HF.out⟩
theorem rwrite_any (m : Nat) (V F : List Nat) (d : DS) (k : Nat) (v : Value) (b : List UInt8) (w : World) (h : RDiskAt w m V F d) (ho : d.ops <= 1000000000) (hw : d.since.length <= 1000000) (hk : k < d.n) (hb : b.length = 64)
  (hv : BytesAt w v b) (hvo : ∀ x, v.ownBlock = some x -> x ∉ V) :
  Calls Tryz.prog 68 #[.pointer (some ⟨m, 0, none⟩), .int .i64 (k : Int), v] w fun e w' => e = .returned (.int .i64 (d.write (k : Int) b).1) /\ RDid w w' m V F (d.write (k : Int) b).2 := by
 by_cases hd : d.dead = true
 ·exact rwrite_dead m V F d k v b w h hd
 ·obtain ⟨a, cap, rfl⟩ := hv.slice
  rw [hb] at hv hvo ⊢
  exact rwrite_ok m V F d k a cap b w h ho hw (by simpa using hd) hk hb hv hvo
theorem RDiskOk.form {w : World} {m : Nat} {V F : List Nat} {d : DS} {nv lv av wv : Value} {NV LV AV WV : List Value} (h : RDiskOk w m V F d nv lv av wv NV LV AV WV) (hn : 0 < d.n) :
  (∃ g cap, nv = .slice (some ⟨g, 0, none⟩) d.n cap) /\ ∃ g cap, lv = .slice (some ⟨g, 0, none⟩) d.n cap := by
 constructor
 ·rcases h.row.1.2 with ⟨_, h0⟩ | ⟨g, cap, cur, h1, _⟩
  ·omega
  ·exact ⟨g, cap, h1⟩
 ·rcases h.row.2.1.2 with ⟨_, h0⟩ | ⟨g, cap, cur, h1, _⟩
  ·omega
  ·exact ⟨g, cap, h1⟩
theorem own_cell {w : World} {base e g n cap : Nat} {xs : List Value} (h : w.ownsRow base e 1 (.slice (some ⟨g, 0, none⟩) n cap) n xs) (k : Nat) (hk : k < n) : xs.length = n /\ w.cell? ⟨g, k, none⟩ = some (xs.getD k undef) /\ w.frozen? ⟨g, k, none⟩ = false /\ g < w.heap.size := by
 have hl : xs.length = n := by have := h.1; omega
 refine ⟨hl, ?_, ?_, (World.ownsRow.lt h g rfl).2⟩
 ·have := h.cells (g := g) rfl k xs[k] (List.getElem?_eq_getElem (by omega))
  rw [add_none, Nat.zero_add] at this
  rw [this, List.getD_eq_getElem?_getD, List.getElem?_eq_getElem (by omega)]
  rfl
 ·rcases h.2 with ⟨h1, _⟩ | ⟨g', cap', cur, hv, _, hg, _⟩
  ·cases h1
  ·obtain rfl : g = g' := by simp at hv; exact hv.1
   exact blk_frozen hg k
theorem rsync_any (m : Nat) (V F : List Nat) (d : DS) (w : World) (h : RDiskAt w m V F d) (ho : d.ops <= 1000000000) :
  Calls Tryz.prog 69 #[.pointer (some ⟨m, 0, none⟩)] w fun e w' => e = .returned (.int .i64 (d.sync).1) /\ RDid w w' m V F (d.sync).2 := by
 have CO := LH (rop_any m V F d w h ho)
 have HF := LH (RDid.same h)
 obtain ⟨nv, lv, av, wv, NV, LV, AV, WV, H⟩ := h
 have c6 := blk_cell H.head 6 _ rfl
 clear H
 by_cases hd : d.dead = true
 ·have c6' : w.cell? ⟨m, 6, none⟩ = some (.bool true) := by rw [<- hd]; exact c6
  have HS : Hid (d.sync = (14, d)) := LH (by unfold DS.sync; rw [if_pos hd])
  rw [HS.out]
  clear c6 hd CO
  go_enter Tryz.func69, Tryz.ntmps69
  go_wp2
  go_ret
  exact ⟨rfl, HF.out⟩
 ·have hd' : d.dead = false := by simpa using hd
  have c6' : w.cell? ⟨m, 6, none⟩ = some (.bool false) := by rw [<- hd']; exact c6
  have HS : Hid (d.sync = if d.op.1 then (0, { d.op.2 with lasts := applied d.op.2.since d.op.2.lasts, since := [] }) else (14, d.op.2)) := LH (by unfold DS.sync; rw [if_neg hd])
  obtain ⟨q, hq⟩ : ∃ q, q = d.op.1 := ⟨_, rfl⟩
  obtain ⟨d1, hd1⟩ : ∃ d1, d1 = d.op.2 := ⟨_, rfl⟩
  rw [<- hq, <- hd1] at HS
  rw [<- hq, <- hd1] at CO
  clear c6 hd hd' HF hq hd1
  go_enter Tryz.func69, Tryz.ntmps69
  go_wp2_with fail
  refine CO.out.mono ?_
  rintro e w1 ⟨rfl, hr1⟩
  have HR1 := LH hr1
  clear hr1 CO
  cases q
  ·simp only [Bool.false_eq_true, if_false] at HS
   go_wp2
   go_ret
   rw [HS.out]
   exact ⟨rfl, HR1.out⟩
  ·simp only [if_true] at HS
   obtain ⟨n, hn⟩ : ∃ n, n = d1.n := ⟨_, rfl⟩
   have HN := LH hn
   have hfew : n <= 4160 := by
    obtain ⟨_, _, ⟨_, _, _, _, _, _, _, _, H⟩, _⟩ := HR1.out
    rw [hn]; exact H.few
   clear hn c6'
   go_wp2_with fail
   go_loopg [3] n (fun g' s3 wr => ∃ (i : Nat), s3 = .int .i64 (i : Int) /\ i <= n /\ n <= i + g' /\ Hid (RDid w wr m V F d1))
   case atStart => exact ⟨0, rfl, by omega, by omega, HR1⟩
   case round =>
    obtain ⟨i, rfl, hi, hig, HR⟩ := hrel
    clear HR1
    obtain ⟨V2, F2, ⟨nv, lv, av, wv, NV, LV, AV, WV, H⟩, hV2, hF2, hc2⟩ := HR.out
    have H0 := LH H
    have HG := LH (And.intro hV2 (And.intro hF2 hc2))
    have p0 := blk_cell H.head 0 _ rfl
    have p1 := blk_cell H.head 1 _ rfl
    by_cases hlt : i < n
    ·obtain ⟨⟨gn, cn, hnv⟩, gl, cl, hlv⟩ := H.form (by rw [<- HN.out]; omega)
     have hn1 := H.row.1
     have hl1 := H.row.2.1
     rw [hnv] at hn1
     rw [hlv] at hl1
     obtain ⟨hNl, k0, _, _⟩ := own_cell hn1 i (by rw [<- HN.out]; exact hlt)
     obtain ⟨hLl, k1, k2, k3⟩ := own_cell hl1 i (by rw [<- HN.out]; exact hlt)
     obtain ⟨b1, b2, b3⟩ := H.now i (by rw [<- HN.out]; exact hlt)
     have e0 : wr.cell? ⟨m, 0, none⟩ = some (.slice (some ⟨gn, 0, none⟩) n cn) := by rw [HN.out, <- hnv]; exact p0
     have e1 : wr.cell? ⟨m, 1, none⟩ = some (.slice (some ⟨gl, 0, none⟩) n cl) := by rw [HN.out, <- hlv]; exact p1
     obtain ⟨ax, cx, hx⟩ := b2.slice
     rw [b1] at hx
     rw [hx] at k0 b2
     have B2 := LH (And.intro b1 b2)
     have HLV := LH hlv
     have hiz : (i : Int) < (n : Int) := by omega
     have hiz0 : (0 : Int) <= (i : Int) := by omega
     have hiz1 : (i : Int).toNat = i := by omega
     have K3 := LH (And.intro k2 (And.intro k3 (And.intro k1 hLl)))
     clear H hV2 hF2 hc2 p0 p1 hnv hlv hn1 hl1 hNl hLl b1 b2 b3 hx k1 k2 k3
     go_wp2_with fail
     refine wp_region_L [(14, fun w' => w'.cell? ⟨m, 1, none⟩ = some (.slice (some ⟨gl, 0, none⟩) n cl)), (14, fun w' => w'.cell? ⟨m, 0, none⟩ = some (.slice (some ⟨gn, 0, none⟩) n cn)), (14, fun w' => w'.cell? ⟨gn, i, none⟩ = some (.slice ax 64 cx))] (by kernel_rfl) ?_ (fun hHeld => ?_)
     ·exact (HoldC.cons (e1) (HoldC.cons (e0) (HoldC.cons (k0) HoldC.nil)))
     refine tk 0 ?_ rfl (by kernel_rfl) (fun _ _ _ h => h) (.inl ⟨by rfl, ?_⟩) hHeld ?_; rotate_left; · (intro w _; go_simp; try with_reducible rfl)
     clear hHeld; intro hHeld; try simp only [gA,gB,gC,Act.put,gD,gE,gF]
     refine tk 1 ?_ rfl (by kernel_rfl) (fun _ _ _ h => h) (.inl ⟨by rfl, ?_⟩) hHeld ?_; rotate_left; · (intro w _; go_simp; try with_reducible rfl)
     clear hHeld; intro hHeld; try simp only [gA,gB,gC,Act.put,gD,gE,gF]
     refine tk 2 ?_ rfl (by kernel_rfl) (fun _ _ _ h => h) (.inl ⟨by rfl, ?_⟩) hHeld ?_; rotate_left; · (intro w _; go_simp; try with_reducible rfl)
     clear hHeld; intro hHeld; try simp only [gA,gB,gC,Act.put,gD,gE,gF]
     refine tk 4 ?_ rfl (by kernel_rfl) (fun _ _ _ h => h) (.inl ⟨by rfl, ?_⟩) hHeld ?_; rotate_left; · (intro w _; go_simp; try with_reducible rfl)
     clear hHeld; intro hHeld; try simp only [gA,gB,gC,Act.put,gD,gE,gF]
     refine tk 5 ?_ rfl (by kernel_rfl) (fun _ _ _ h => h) (.inl ⟨by rfl, ?_⟩) hHeld ?_; rotate_left; · (intro w _; go_simp; try with_reducible rfl)
     clear hHeld; intro hHeld; try simp only [gA,gB,gC,Act.put,gD,gE,gF]
     refine tk 6 ?_ rfl (by kernel_rfl) (fun _ _ _ h => h) (.inl ⟨by rfl, ?_⟩) hHeld ?_; rotate_left; · (intro w _; go_simp; try with_reducible rfl)
     clear hHeld; intro hHeld; try simp only [gA,gB,gC,Act.put,gD,gE,gF]
     refine tk 7 ?_ rfl (by kernel_rfl) (fun _ _ _ h => h) (.inl ⟨by rfl, ?_⟩) hHeld ?_; rotate_left; · (intro w _; go_simp; try with_reducible rfl)
     clear hHeld; intro hHeld; try simp only [gA,gB,gC,Act.put,gD,gE,gF]
     refine tk 9 ?_ rfl (by kernel_rfl) (fun _ _ _ h => h) (.inl ⟨by rfl, ?_⟩) hHeld ?_; rotate_left; · (intro w _; go_simp; try with_reducible rfl)
     clear hHeld; intro hHeld; try simp only [gA,gB,gC,Act.put,gD,gE,gF]
     refine ld 0 3 ?_ rfl rfl (by kernel_rfl) (fun _ _ _ h => h) (.inl ⟨by rfl, ?_⟩) hHeld ?_; rotate_left; · (intro w hSw; (try dsimp only at hSw); go_simp; try with_reducible rfl)
     clear hHeld; intro hHeld; try simp only [gA,gB,gC,Act.put,gD,gE,gF]
     refine ld 1 8 ?_ rfl rfl (by kernel_rfl) (fun _ _ _ h => h) (.inl ⟨by rfl, ?_⟩) hHeld ?_; rotate_left; · (intro w hSw; (try dsimp only at hSw); go_simp; try with_reducible rfl)
     clear hHeld; intro hHeld; try simp only [gA,gB,gC,Act.put,gD,gE,gF]
     refine tk 10 ?_ rfl (by kernel_rfl) (fun _ _ _ h => h) (.inl ⟨by rfl, ?_⟩) hHeld ?_; rotate_left; · (intro w _; go_simp; try with_reducible rfl)
     clear hHeld; intro hHeld; try simp only [gA,gB,gC,Act.put,gD,gE,gF]
     refine ld 2 11 ?_ rfl rfl (by kernel_rfl) (fun _ _ _ h => h) (.inl ⟨by rfl, ?_⟩) hHeld ?_; rotate_left; · (intro w hSw; (try dsimp only at hSw); go_simp; try with_reducible rfl)
     clear hHeld; intro hHeld; try simp only [gA,gB,gC,Act.put,gD,gE,gF]
     refine wpAnyL_ready (rs := [12]) (by kernel_rfl) (by simp) (AllReadyL.cons (o := _) rfl (fun K hK => ?_) AllReadyL.nil)
     try simp only [gA,gB,gC]
     go_simp
     refine (rcopy_any (.slice ax 64 cx) (d1.now i) wr.drew (B2.out.2.chg (by exact (Chg.refl [] wr).drew) (by simp)) (by rw [B2.out.1]; omega)).mono ?_
     rintro e w4 ⟨v4, rfl, hb4, ho4, hc4⟩
     have hc4 : Chg [] wr w4 := (by exact (Chg.refl [] wr).drew : Chg [] wr wr.drew).trans hc4 (by simp)
     have q1 := hc4.cell e1 (by simp)
     have q0 := hc4.cell e0 (by simp)
     have qk := hc4.cell k0 (by simp)
     obtain ⟨r1, r2⟩ := (H0.out.keep0 hc4).last i gl cl v4 (by rw [<- HN.out]; exact hlt) HLV.out hb4.bytes.no8
     have HR5 : Hid (RDid w (w4.setCell ⟨gl, i, none⟩ v4) m V F d1) := LH (RDid.glue HG.out.1 HG.out.2.1 HG.out.2.2 ⟨V2, F2, ⟨_, _, _, _, _, _, _, _, r1⟩, fun x hx => .inl hx, fun x hx => .inl hx, (hc4.mono (by simp)).trans r2 (fun x hx => .inl hx)⟩)
     have s1 := hc4.cell K3.out.2.2.1 (by simp)
     have hglt : gl < w4.heap.size := Nat.lt_of_lt_of_le K3.out.2.1 hc4.size
     have hfro : w4.frozen? ⟨gl, i, none⟩ = false := by
      have hr := (H0.out.keep0 hc4).row.2.1
      rw [HLV.out] at hr
      exact (own_cell hr i (by rw [<- HN.out]; exact hlt)).2.2.1
     obtain ⟨a4, c4, hv4⟩ := hb4.bytes.slice
     subst hv4
     clear hb4 ho4 hc4 r1 r2
     try go_wp2_with fail
     clear hHeld
     refine hK.out _ _ ?_ (fun hHeld => ?_)
     ·exact (HoldC.cons (q1) (HoldC.cons (q0) (HoldC.cons (qk) HoldC.nil)))
     clear hK K
     try simp only [gA,gB,gC,Act.put,gD,gE,gF]
     refine tk 13 ?_ rfl (by kernel_rfl) (fun _ _ _ h => h) (.inl ⟨by rfl, ?_⟩) hHeld ?_; rotate_left; · (intro w _; go_simp; try with_reducible rfl)
     clear hHeld; intro hHeld; try simp only [gA,gB,gC,Act.put,gD,gE,gF]
     refine wpAnyL_ready (rs := [14]) (by kernel_rfl) (by simp) (AllReadyL.cons (o := _) rfl (fun K hK => ?_) AllReadyL.nil)
     try simp only [gA,gB,gC]
     go_simp
     clear hHeld
     refine hK.out _ _ ?_ (fun hHeld => ?_)
     ·exact (HoldC.past (by kernel_rfl) (HoldC.past (by kernel_rfl) (HoldC.past (by kernel_rfl) HoldC.nil)))
     clear hK K
     try simp only [gA,gB,gC,Act.put,gD,gE,gF]
     refine wpAnyL_done (by kernel_rfl) ?_ _
     clear hHeld
     clear q1 q0 qk s1 hglt hfro e0 e1 k0
     generalize w4.setCell ⟨gl, i, none⟩ (.slice a4 (d1.now i).length c4) = w5 at *
     go_wp2
     go_roundg (gk - 1)
     case measure => omega
     case rel => exact ⟨i + 1, by go_num, by omega, by omega, HR5⟩
    ·have hnv0 : ∃ a cap, nv = .slice a n cap := by
      rcases H.row.1.2 with ⟨h1, h0⟩ | ⟨g, cap, cur, h1, _⟩
      ·exact ⟨none, 0, by rw [h1, HN.out]; simp; exact h0.symm⟩
      ·exact ⟨_, cap, by rw [h1, HN.out]⟩
     obtain ⟨a0, c0, hnv⟩ := hnv0
     have e0 : wr.cell? ⟨m, 0, none⟩ = some (.slice a0 n c0) := by rw [<- hnv]; exact p0
     have hiz : ¬ (i : Int) < (n : Int) := by omega
     have HC : Hid (RDid w ((wr.setCell ⟨m, 2, none⟩ (.slice none 0 0)).setCell ⟨m, 3, none⟩ (.slice none 0 0)) m V F { d1 with lasts := applied d1.since d1.lasts, since := [] }) := LH (RDid.glue hV2 hF2 hc2 (H.calm _))
     have p2 := blk_cell H.head 2 _ rfl
     have f2 := blk_frozen H.head 2
     have p3 := blk_cell H.head 3 _ rfl
     have f3 := blk_frozen H.head 3
     have hml := blk_lt H.head
     clear H hV2 hF2 hc2 p0 p1 hnv
     go_wp2
     go_ret
     exact ⟨by rw [HS.out]; rfl, by rw [HS.out]; exact HC.out⟩
def qcell (x : SRow × Value) : List Value := [.bool x.1.used, x.2, .int .i64 (x.1.n : Int)]
def qcells (R : List (SRow × Value)) : List Value := R.flatMap qcell
theorem qcells_at : ∀ (R : List (SRow × Value)) (i j : Nat) (x : SRow × Value), R[i]? = some x -> j < 3 -> (qcells R)[i * 3 + j]? = (qcell x)[j]?
 | [], i, j, x, h, _ => by simp at h
 | y :: R, i, j, x, h, hj => by
  have e : qcells (y :: R) = qcell y ++ qcells R := rfl
  have hy : (qcell y).length = 3 := rfl
  rw [e]
  cases i with
  | zero =>
   simp at h; subst h
   rw [Nat.zero_mul, Nat.zero_add, List.getElem?_append_left (by omega)]
  | succ i =>
   rw [List.getElem?_append_right (by omega), hy, show (i + 1) * 3 + j - 3 = i * 3 + j by omega]
   exact qcells_at R i j x (by simpa using h) hj
theorem qcells_app (R : List (SRow × Value)) (x : SRow × Value) : qcells (R ++ [x]) = qcells R ++ qcell x := by simp [qcells]
theorem qcells_set : ∀ (R : List (SRow × Value)) (i : Nat) (x : SRow × Value), i < R.length -> qcells (R.set i x) = (((qcells R).set (i * 3) (.bool x.1.used)).set (i * 3 + 1) x.2).set (i * 3 + 2) (.int .i64 (x.1.n : Int))
 | [], i, x, h => by simp at h
 | y :: R, i, x, h => by
  have e : ∀ z, qcells (z :: R) = qcell z ++ qcells R := fun _ => rfl
  cases i with
  | zero => rw [List.set_cons_zero, e, e]; rfl
  | succ i =>
   have ih := qcells_set R i x (by simpa using h)
   have e2 : qcells (y :: R.set i x) = qcell y ++ qcells (R.set i x) := rfl
   rw [List.set_cons_succ, e2, ih, e]
   have h3 : (qcell y).length = 3 := rfl
   rw [List.set_append_right _ _ (by omega), List.set_append_right _ _ (by omega), List.set_append_right _ _ (by omega), h3, show (i + 1) * 3 - 3 = i * 3 by omega, show (i + 1) * 3 + 1 - 3 = i * 3 + 1 by omega, show (i + 1) * 3 + 2 - 3 = i * 3 + 2 by omega]
theorem qcells_no8 {w : World} : ∀ (R : List (SRow × Value)), (∀ x ∈ R, BytesAt w x.2 x.1.key) -> ∀ c ∈ qcells R, No8 c := by
 intro R hR c hc
 obtain ⟨x, hx, hc⟩ := List.mem_flatMap.1 hc
 simp only [qcell, List.mem_cons, List.mem_nil_iff, or_false] at hc
 rcases hc with rfl | rfl | rfl
 ·exact no8_bool
 ·exact (hR x hx).no8
 ·exact no8_i64
def rowQ (rv : Value) (R : List (SRow × Value)) : RowD := ⟨168, 3, rv, R.length, qcells R⟩
structure RSlotsOk (w : World) (q m : Nat) (V F W A : List Nat) (s : SS) (rv : Value) (R : List (SRow × Value)) : Prop where
 obj : ObjAt w q 166 #[.pointer (some ⟨m, 0, none⟩), .int .i64 (s.first : Int), rv] [rowQ rv R]
 disk : RDiskAt w m V F s.d
 rows : R.map (·.1) = s.rows
 sep : ∀ x ∈ blks q [rowQ rv R], x ∉ F
 keys : ∀ x ∈ R, BytesAt w x.2 x.1.key /\ ∀ g, x.2.ownBlock = some g -> g ∈ A /\ g ∉ W
 mem : W = V ++ blks q [rowQ rv R]
 no8 : ∀ x ∈ blks q [rowQ rv R], NoU8 w x
 aF : ∀ x ∈ F, x ∈ A
 aB : ∀ x ∈ blks q [rowQ rv R], x ∈ A
 lim : ∀ x ∈ A, x < w.heap.size
 ok : s.Ok
def RSlotsAt (w : World) (q m : Nat) (W A : List Nat) (s : SS) : Prop := ∃ V F rv R, RSlotsOk w q m V F W A s rv R
theorem RSlotsOk.sub {w : World} {q m : Nat} {V F W A : List Nat} {s : SS} {rv : Value} {R : List (SRow × Value)} (h : RSlotsOk w q m V F W A s rv R) : (∀ x ∈ V, x ∈ W) /\ (∀ x ∈ blks q [rowQ rv R], x ∈ W) /\ (∀ x ∈ W, x ∈ A) /\ (∀ x ∈ W, NoU8 w x) /\ (∀ x ∈ V, x ∈ F) := by
 obtain ⟨hl, hs, h8⟩ := h.disk.lim
 refine ⟨fun x hx => by rw [h.mem]; exact List.mem_append_left _ hx, fun x hx => by rw [h.mem]; exact List.mem_append_right _ hx, fun x hx => ?_, fun x hx => ?_, hs⟩
 ·rw [h.mem] at hx
  rcases List.mem_append.1 hx with hx | hx
  ·exact h.aF x (hs x hx)
  ·exact h.aB x hx
 ·rw [h.mem] at hx
  rcases List.mem_append.1 hx with hx | hx
  ·exact h8 x hx
  ·exact h.no8 x hx
theorem RSlotsOk.keep {w w' : World} {q m : Nat} {V F W A T : List Nat} {s : SS} {rv : Value} {R : List (SRow × Value)} (h : RSlotsOk w q m V F W A s rv R) (hc : Chg T w w') (ha : ∀ x ∈ A, x ∉ T) : RSlotsOk w' q m V F W A s rv R := by
 refine ⟨h.obj.keep hc (fun x hx => ha x (h.aB x hx)), h.disk.keep hc (fun x hx => ha x (h.aF x hx)), h.rows, h.sep, fun x hx => ?_, h.mem, fun x hx => (h.no8 x hx).keep (hc.block x (h.lim x (h.aB x hx)) (ha x (h.aB x hx))), h.aF, h.aB, fun x hx => Nat.lt_of_lt_of_le (h.lim x hx) hc.size, h.ok⟩
 obtain ⟨h1, h2⟩ := h.keys x hx
 exact ⟨h1.chg hc (fun k hk => ha k (h2 k hk).1), h2⟩
theorem RSlotsAt.keep {w w' : World} {q m : Nat} {W A T : List Nat} {s : SS} (h : RSlotsAt w q m W A s) (hc : Chg T w w') (ha : ∀ x ∈ A, x ∉ T) : RSlotsAt w' q m W A s := by
 obtain ⟨V, F, rv, R, h⟩ := h
 exact ⟨V, F, rv, R, h.keep hc ha⟩
theorem RSlotsAt.lim {w : World} {q m : Nat} {W A : List Nat} {s : SS} (h : RSlotsAt w q m W A s) : (∀ x ∈ A, x < w.heap.size) /\ (∀ x ∈ W, x ∈ A) /\ ∀ x ∈ W, NoU8 w x := by
 obtain ⟨V, F, rv, R, h⟩ := h
 exact ⟨h.lim, h.sub.2.2.1, h.sub.2.2.2.1⟩
def RSid (w w' : World) (q m : Nat) (W A : List Nat) (s : SS) : Prop := ∃ W' A', RSlotsAt w' q m W' A' s /\ (∀ x ∈ W', x ∈ W ∨ w.heap.size <= x) /\ (∀ x ∈ A', x ∈ A ∨ w.heap.size <= x) /\ Chg W w w'
theorem RSid.same {w : World} {q m : Nat} {W A : List Nat} {s : SS} (h : RSlotsAt w q m W A s) : RSid w w q m W A s := ⟨W, A, h, fun x hx => .inl hx, fun x hx => .inl hx, Chg.refl _ _⟩
theorem RSid.glue {w w1 w2 : World} {q m : Nat} {W A W1 A1 : List Nat} {s : SS} (hv : ∀ x ∈ W1, x ∈ W ∨ w.heap.size <= x) (hf : ∀ x ∈ A1, x ∈ A ∨ w.heap.size <= x) (hc : Chg W w w1) (h : RSid w1 w2 q m W1 A1 s) : RSid w w2 q m W A s := by
 obtain ⟨V2, F2, b1, b2, b3, b4⟩ := h
 refine ⟨V2, F2, b1, fun x hx => ?_, fun x hx => ?_, hc.trans b4 hv⟩
 ·rcases b2 x hx with h | h
  ·exact hv x h
  ·exact .inr (Nat.le_trans hc.size h)
 ·rcases b3 x hx with h | h
  ·exact hf x h
  ·exact .inr (Nat.le_trans hc.size h)
theorem RSid.pre {w0 w w' : World} {q m : Nat} {W A : List Nat} {s : SS} (hc : Chg [] w0 w) (h : RSid w w' q m W A s) : RSid w0 w' q m W A s := RSid.glue (fun x hx => .inl hx) (fun x hx => .inl hx) (hc.mono (by simp)) h
theorem RSlotsOk.did {w w' : World} {q m : Nat} {V F W A : List Nat} {s : SS} {rv : Value} {R : List (SRow × Value)} {d : DS} (h : RSlotsOk w q m V F W A s rv R) (hd : RDid w w' m V F d) (hn : d.n = s.d.n) : RSid w w' q m W A { s with d := d } := by
 obtain ⟨V', F', b1, b2, b3, b4⟩ := hd
 obtain ⟨s1, s2, s3, s4, s5⟩ := h.sub
 have hbV : ∀ x ∈ blks q [rowQ rv R], x ∉ V := fun x hx hm => h.sep x hx (s5 x hm)
 have hsz := b4.size
 refine ⟨V' ++ blks q [rowQ rv R], A ++ F', ⟨V', F', rv, R, h.obj.keep b4 hbV, b1, h.rows, fun x hx hm => ?_, fun x hx => ?_, rfl, fun x hx => (h.no8 x hx).keep (b4.block x (h.obj.lim x hx) (hbV x hx)), fun x hx => List.mem_append_right _ hx, fun x hx => List.mem_append_left _ (h.aB x hx), fun x hx => ?_, ⟨by show s.first + 8 * s.rows.length <= d.n; rw [hn]; exact h.ok.room, h.ok.rows⟩⟩, fun x hx => ?_, fun x hx => ?_, b4.mono (fun x hx => .inl (s1 x hx))⟩
 ·rcases b3 x hm with h1 | h1
  ·exact h.sep x hx h1
  ·have := h.obj.lim x hx; omega
 ·obtain ⟨k1, k2⟩ := h.keys x hx
  refine ⟨k1.chg b4 (fun k hk hm => (k2 k hk).2 (s1 k hm)), fun g hg => ⟨List.mem_append_left _ (k2 g hg).1, fun hm => ?_⟩⟩
  rcases List.mem_append.1 hm with hm | hm
  ·rcases b2 g hm with h1 | h1
   ·exact (k2 g hg).2 (s1 g h1)
   ·have := h.lim g (k2 g hg).1; omega
  ·exact (k2 g hg).2 (s2 g hm)
 ·rcases List.mem_append.1 hx with hx | hx
  ·exact Nat.lt_of_lt_of_le (h.lim x hx) hsz
  ·exact b1.lim.1 x hx
 ·rcases List.mem_append.1 hx with hx | hx
  ·exact (b2 x hx).imp (s1 x) id
  ·exact .inl (s2 x hx)
 ·rcases List.mem_append.1 hx with hx | hx
  ·exact .inl hx
  ·exact (b3 x hx).imp (h.aF x) id
theorem RSlotsOk.len {w : World} {q m : Nat} {V F W A : List Nat} {s : SS} {rv : Value} {R : List (SRow × Value)} (h : RSlotsOk w q m V F W A s rv R) : R.length = s.rows.length := by rw [<- h.rows, List.length_map]
theorem RSlotsOk.few {w : World} {q m : Nat} {V F W A : List Nat} {s : SS} {rv : Value} {R : List (SRow × Value)} (h : RSlotsOk w q m V F W A s rv R) : s.first + 8 * s.rows.length <= s.d.n /\ s.d.n <= 4160 := by
 obtain ⟨_, _, _, _, _, _, _, _, hd⟩ := h.disk
 exact ⟨h.ok.room, hd.few⟩
theorem RSlotsOk.row {w : World} {q m : Nat} {V F W A : List Nat} {s : SS} {rv : Value} {R : List (SRow × Value)} (h : RSlotsOk w q m V F W A s rv R) : w.ownsRow 0 168 3 rv R.length (qcells R) := h.obj.rows _ (List.mem_singleton.2 rfl)
theorem RSlotsOk.form {w : World} {q m : Nat} {V F W A : List Nat} {s : SS} {rv : Value} {R : List (SRow × Value)} (h : RSlotsOk w q m V F W A s rv R) : ∃ a cap, rv = .slice a s.rows.length cap /\ s.rows.length <= cap := by
 rw [<- h.len]
 rcases h.row.2 with ⟨h1, h2⟩ | ⟨g, cap, cur, h1, _, _, h3, h4, _⟩
 ·exact ⟨none, 0, by rw [h1, h2], by omega⟩
 ·exact ⟨_, cap, h1, h3⟩
theorem RSlotsOk.at {w : World} {q m : Nat} {V F W A : List Nat} {s : SS} {rv : Value} {R : List (SRow × Value)} (h : RSlotsOk w q m V F W A s rv R) (i : Nat) (hi : i < s.rows.length) :
  ∃ g cap kv, rv = .slice (some ⟨g, 0, none⟩) s.rows.length cap /\ s.rows.length <= cap /\ cap <= maxLen /\ w.cell? ⟨g, i * 3, none⟩ = some (.bool (s.rows.getD i noRow).used) /\
   w.cell? ⟨g, i * 3 + 1, none⟩ = some kv /\ w.cell? ⟨g, i * 3 + 2, none⟩ = some (.int .i64 ((s.rows.getD i noRow).n : Int)) /\ BytesAt w kv (s.rows.getD i noRow).key /\ ∀ k, kv.ownBlock = some k -> k ∈ A /\ k ∉ W := by
 have hl := h.len
 have hr := h.row
 have hiR : i < R.length := by omega
 have hri : s.rows.getD i noRow = (R[i]).1 := by
  rw [<- h.rows, List.getD_eq_getElem?_getD, List.getElem?_map, List.getElem?_eq_getElem hiR]; rfl
 rcases hr.2 with ⟨h1, h2⟩ | ⟨g, cap, cur, h1, _, _, h3, h4, _⟩
 ·omega
 ·subst h1
  have hcell : ∀ j, j < 3 -> ∀ u, (qcell R[i])[j]? = some u -> w.cell? ⟨g, i * 3 + j, none⟩ = some u := fun j hj u hu => by
   have := hr.cells (g := g) rfl (i * 3 + j) u (by rw [qcells_at R i j R[i] (List.getElem?_eq_getElem hiR) hj]; exact hu)
   rwa [add_none, Nat.zero_add] at this
  refine ⟨g, cap, (R[i]).2, by rw [hl], by omega, h4, ?_, ?_, ?_, ?_⟩
  ·rw [hri]; exact hcell 0 (by omega) _ rfl
  ·exact hcell 1 (by omega) _ rfl
  ·rw [hri]; exact hcell 2 (by omega) _ rfl
  ·rw [hri]; exact h.keys _ (List.getElem_mem hiR)
theorem RSlotsOk.there {w : World} {q m : Nat} {V F W A : List Nat} {s : SS} {rv : Value} {R : List (SRow × Value)} (h : RSlotsOk w q m V F W A s rv R) (i : Nat) (hi : i < s.rows.length) (g cap : Nat) (hrv : rv = .slice (some ⟨g, 0, none⟩) s.rows.length cap) : w.there g (i * 3) 3 := by
 have hl := h.len
 rcases h.row.2 with ⟨h1, h2⟩ | ⟨g', cap', cur, h1, _, hb, h3, h4, h5, _⟩
 ·omega
 ·rw [hrv] at h1
  obtain ⟨rfl, -, rfl⟩ : g = g' /\ s.rows.length = R.length /\ cap = cap' := by simpa using h1
  intro j hj
  have hlt : i * 3 + j < cur.size := by
   have : (i + 1) * 3 <= cap * 3 := Nat.mul_le_mul_right _ (by omega)
   omega
  exact ⟨by rw [blk_cell hb _ _ (Array.getElem?_eq_getElem hlt)]; rfl, blk_frozen hb _⟩
theorem NoU8.set3 {w : World} {g i : Nat} {a b c : Value} (h : NoU8 w g) (hl : g < w.heap.size) (ha : No8 a) (hb : No8 b) (hc : No8 c) : NoU8 (w.setCells g i [a, b, c]) g := by
 have s1 : (w.setCell ⟨g, i, none⟩ a).heap.size = w.heap.size := by simp [World.setCell]
 have s2 : ((w.setCell ⟨g, i, none⟩ a).setCell ⟨g, i + 1, none⟩ b).heap.size = w.heap.size := by simp [World.setCell]
 exact ((h.set hl ha).set (by rw [s1]; exact hl) hb).set (by rw [s2]; exact hl) hc
theorem RSlotsOk.setRow {w : World} {q m : Nat} {V F W A : List Nat} {s : SS} {rv : Value} {R : List (SRow × Value)} {N : Nat} (h : RSlotsOk w q m V F W A s rv R) (i : Nat) (hi : i < s.rows.length) (g cap : Nat) (hrv : rv = .slice (some ⟨g, 0, none⟩) s.rows.length cap)
  (r : SRow) (kv : Value) (hk : BytesAt w kv r.key) (hkU : ∀ k, kv.ownBlock = some k -> k < w.heap.size /\ k ∉ W) (hkA : ∀ k, kv.ownBlock = some k -> k ∉ A -> N <= k) (hN : N <= w.heap.size) (hr : r.n <= 448 /\ r.key.length <= 40) :
  ∃ A', RSlotsAt (w.setCells g (i * 3) [.bool r.used, kv, .int .i64 (r.n : Int)]) q m W A' { s with rows := s.rows.set i r } /\ (∀ x ∈ A', x ∈ A ∨ N <= x) /\ Chg W w (w.setCells g (i * 3) [.bool r.used, kv, .int .i64 (r.n : Int)]) := by
 have hl := h.len
 obtain ⟨s1, s2, s3, s4, s5⟩ := h.sub
 have hC : Chg [g] w (w.setCells g (i * 3) [.bool r.used, kv, .int .i64 (r.n : Int)]) := (Chg.refl _ _).setCells (.inl (by simp)) _
 have hob : rv.ownBlock = some g := by rw [hrv]; rfl
 have hgb : g ∈ blks q [rowQ rv R] := blks_row (r := rowQ rv R) (List.mem_singleton.2 rfl) hob
 have hgW := s2 g hgb
 have hrow := h.row
 have hR' : (rowQ rv (R.set i (r, kv))).At (w.setCells g (i * 3) [.bool r.used, kv, .int .i64 (r.n : Int)]) := by
  show (w.setCells g (i * 3) [.bool r.used, kv, .int .i64 (r.n : Int)]).ownsRow 0 168 3 rv (R.set i (r, kv)).length (qcells (R.set i (r, kv)))
  rw [List.length_set, qcells_set R i _ (by omega)]
  rw [hrv, <- hl] at hrow ⊢
  exact row_set (row_set (row_set hrow (i * 3) _ (by omega)) (i * 3 + 1) _ (by omega)) (i * 3 + 2) _ (by omega)
 have hgr := ObjAt.grow (a := []) (b := []) h.obj (r' := rowQ rv (R.set i (r, kv))) (by rw [show (rowQ rv R).v.ownBlock = some g from hob]; exact hC.grownBy) hR' (fun k hk => .inl hk)
 have h8 := (h.no8 g hgb).set3 (i := i * 3) (h.obj.lim g hgb) (no8_bool (x := r.used)) hk.no8 (no8_i64 (x := (r.n : Int)))
 generalize w.setCells g (i * 3) [.bool r.used, kv, .int .i64 (r.n : Int)] = X at *
 have hgu : ∀ x ∈ [g], x ∈ W := fun x hx => (List.mem_singleton.1 hx) ▸ hgW
 have hnot : ∀ k, k ∉ W -> k ∉ [g] := fun k hk hm => hk (hgu k hm)
 refine ⟨A ++ kv.ownBlock.toList, ⟨V, F, rv, R.set i (r, kv), hgr.1, h.disk.keep hC (fun x hx hm => ?_), ?_, h.sep, fun x hx => ?_, h.mem, fun x hx => ?_, fun x hx => List.mem_append_left _ (h.aF x hx), fun x hx => List.mem_append_left _ (h.aB x hx), fun x hx => ?_, ⟨?_, fun x hx => ?_⟩⟩, fun x hx => ?_, hC.mono (fun x hx => .inl (hgu x hx))⟩
 ·exact h.sep _ hgb (by rw [<- List.mem_singleton.1 hm]; exact hx)
 ·rw [List.map_set, h.rows]
 ·rcases List.mem_or_eq_of_mem_set hx with hx | rfl
  ·obtain ⟨k1, k2⟩ := h.keys x hx
   exact ⟨k1.chg hC (fun k hk => hnot k (k2 k hk).2), fun g' hg' => ⟨List.mem_append_left _ (k2 g' hg').1, (k2 g' hg').2⟩⟩
  ·exact ⟨hk.chg hC (fun k hk => hnot k (hkU k hk).2), fun g' hg' => ⟨List.mem_append_right _ (by rw [hg']; simp), (hkU g' hg').2⟩⟩
 ·by_cases hxg : x = g
  ·rw [hxg]; exact h8
  ·exact (h.no8 x hx).keep (hC.block x (h.obj.lim x hx) (by simp; exact hxg))
 ·rcases List.mem_append.1 hx with hx | hx
  ·exact Nat.lt_of_lt_of_le (h.lim x hx) hC.size
  ·exact Nat.lt_of_lt_of_le (hkU x (by simpa using hx)).1 hC.size
 ·show s.first + 8 * (s.rows.set i r).length <= s.d.n
  rw [List.length_set]
  exact h.ok.room
 ·rcases List.mem_or_eq_of_mem_set hx with hx | rfl
  ·exact h.ok.rows x hx
  ·exact hr
 ·rcases List.mem_append.1 hx with hx | hx
  ·exact .inl hx
  ·by_cases hA : x ∈ A
   ·exact .inl hA
   ·exact .inr (hkA x (by simpa using hx) hA)
theorem rfree_any (q m : Nat) (W A : List Nat) (s : SS) (w : World) (h : RSlotsAt w q m W A s) : Calls Tryz.prog 113 #[.pointer (some ⟨q, 0, none⟩)] w fun e w' => e = .returned (.int .i64 s.free) /\ w = w' := by
 obtain ⟨V, F, rv, R, H⟩ := h
 have HH := LH H
 obtain ⟨a, cap0, hrv, hcap⟩ := H.form
 have c2 := blk_cell H.obj.head 2 _ rfl
 have hfew := H.few
 obtain ⟨n, hn⟩ : ∃ n, n = s.rows.length := ⟨_, rfl⟩
 rw [<- hn] at hrv hcap
 have HN := LH hn
 have HRV := LH hrv
 subst hrv
 have hnf : n <= 1000 := by omega
 clear H hfew hn
 go_enter Tryz.func113, Tryz.ntmps113
 go_wp2_with fail
 go_loop [3] (fun i => ∃ k : Nat, k <= n /\ i = .int .i64 k /\ Hid (∀ x, x < k -> (s.rows.getD x noRow).used = true)) (fun i => n - (intOf i).toNat)
 case atStart => exact ⟨0, Nat.zero_le _, rfl, LH (fun q hq => absurd hq (by omega))⟩
 case round =>
  obtain ⟨k, hk, rfl, HZ⟩ := hrel
  by_cases hlt : k < n
  ·obtain ⟨g, cap, kv, hrv2, hcap2, hcm, k0, k1, k2, k3, k4⟩ := HH.out.at k (by rw [<- HN.out]; exact hlt)
   have hF := rowFree_drop s.rows k (by rw [<- HN.out]; omega) HZ.out 0
   rw [List.drop_eq_getElem_cons (by rw [<- HN.out]; exact hlt)] at hF
   have hge : s.rows.getD k noRow = s.rows[k]'(by rw [<- HN.out]; exact hlt) := by rw [List.getD_eq_getElem?_getD, List.getElem?_eq_getElem]; rfl
   rw [<- hge] at hF
   rw [<- HN.out] at hrv2
   obtain ⟨rfl, rfl⟩ : a = some ⟨g, 0, none⟩ /\ cap0 = cap := by
    have := Value.slice.inj hrv2
    exact ⟨this.1, this.2.2⟩
   have hkz : (k : Int) < (n : Int) := by omega
   have hkz1 : (k : Int).toNat = k := by omega
   have hu : ∃ u, u = (s.rows.getD k noRow).used := ⟨_, rfl⟩
   obtain ⟨u, hu⟩ := hu
   rw [<- hu] at k0
   have HU := LH hu
   have HF := LH hF
   clear hu hF hge hrv2 k1 k2 k3 k4
   cases u
   ·have HX : Hid (s.free = (k : Int)) := LH (by
     unfold SS.free
     rw [HF.out, rowFree_cons]
     rw [if_pos HU.out.symm]
     simp)
    go_wp2
    go_ret
    exact ⟨by rw [HX.out]; rfl, rfl⟩
   ·have HZ1 : Hid (∀ x, x < k + 1 -> (s.rows.getD x noRow).used = true) := LH (fun x hx => by
     rcases Nat.lt_or_ge x k with h | h
     ·exact HZ.out x h
     ·obtain rfl : x = k := by omega
      exact HU.out.symm)
    go_wp2
    go_round
    case rel => exact ⟨k + 1, by omega, by go_num, HZ1⟩
    case measure => simp [intOf]; omega
  ·have hkn : k = n := by omega
   have HX : Hid (s.free = -1) := LH (by
    unfold SS.free
    rw [rowFree_drop s.rows k (by rw [hkn, HN.out]; exact Nat.le_refl _) HZ.out 0, List.drop_of_length_le (by rw [hkn, HN.out]; exact Nat.le_refl _)]
    rfl)
   have hkz : ¬ (k : Int) < (n : Int) := by omega
   clear hkn
   go_wp2
   go_ret
   exact ⟨by rw [HX.out]; rfl, rfl⟩
theorem rfind_any (q m : Nat) (W A : List Nat) (s : SS) (kv0 : Value) (key : List UInt8) (w : World) (h : RSlotsAt w q m W A s) (hk0 : BytesAt w kv0 key) (hkl : key.length <= 1000000) :
  Calls Tryz.prog 111 #[.pointer (some ⟨q, 0, none⟩), kv0] w fun e w' => e = .returned (.int .i64 (s.find key)) /\ Chg [] w w' := by
 obtain ⟨V, F, rv, R, H⟩ := h
 have HH := LH H
 obtain ⟨a, cap0, hrv, hcap⟩ := H.form
 have c2 := blk_cell H.obj.head 2 _ rfl
 have hfew := H.few
 have HK0 := LH hk0
 obtain ⟨n, hn⟩ : ∃ n, n = s.rows.length := ⟨_, rfl⟩
 rw [<- hn] at hrv hcap
 have HN := LH hn
 have HRV := LH hrv
 subst hrv
 have hnf : n <= 1000 := by omega
 have hk40 : Hid (∀ x, ((s.rows.getD x noRow).key).length <= 40) := LH (fun x => by
  rw [List.getD_eq_getElem?_getD]
  cases he : s.rows[x]? with
  | none => decide
  | some r => exact (H.ok.rows r (List.mem_of_getElem? he)).2)
 clear H hfew hn hk0
 go_enter Tryz.func111, Tryz.ntmps111
 go_wp2_with fail
 go_loopg [5] n (fun g' s5 wr => ∃ k : Nat, s5 = .int .i64 (k : Int) /\ k <= n /\ n <= k + g' /\ Hid (∀ x, x < k -> ((s.rows.getD x noRow).used && decide ((s.rows.getD x noRow).key = key)) = false) /\ Hid (Chg [] w wr))
 case atStart => exact ⟨0, rfl, Nat.zero_le _, by omega, LH (fun q hq => absurd hq (by omega)), LH (Chg.refl _ _)⟩
 case round =>
  obtain ⟨k, rfl, hk, hkg, HZ, HC⟩ := hrel
  have d2 := HC.out.cell c2 (by simp)
  by_cases hlt : k < n
  ·obtain ⟨g, cap, kv, hrv2, hcap2, hcm, k0, k1, k2, k3, k4⟩ := (HH.out.keep HC.out (by simp)).at k (by rw [<- HN.out]; exact hlt)
   have hF := rowFind_drop key s.rows k (by rw [<- HN.out]; omega) HZ.out 0
   rw [List.drop_eq_getElem_cons (by rw [<- HN.out]; exact hlt)] at hF
   have hge : s.rows.getD k noRow = s.rows[k]'(by rw [<- HN.out]; exact hlt) := by rw [List.getD_eq_getElem?_getD, List.getElem?_eq_getElem]; rfl
   rw [<- hge] at hF
   rw [<- HN.out] at hrv2
   obtain ⟨rfl, rfl⟩ : a = some ⟨g, 0, none⟩ /\ cap0 = cap := by
    have := Value.slice.inj hrv2
    exact ⟨this.1, this.2.2⟩
   have hkz : (k : Int) < (n : Int) := by omega
   have hkz1 : (k : Int).toNat = k := by omega
   obtain ⟨u, hu⟩ : ∃ u, u = (s.rows.getD k noRow).used := ⟨_, rfl⟩
   rw [<- hu] at k0
   have HU := LH hu
   have HF := LH hF
   have CE := LH (same_any kv kv0 _ key wr k3 (HK0.out.chg HC.out (by simp)) (by have := hk40.out k; omega) (by omega))
   obtain ⟨ak, ck, hkv⟩ := k3.slice
   subst hkv
   clear hu hF hge hrv2 k2 k3 k4
   have stepZ : ((s.rows.getD k noRow).used && decide ((s.rows.getD k noRow).key = key)) = false -> Hid (∀ x, x < k + 1 -> ((s.rows.getD x noRow).used && decide ((s.rows.getD x noRow).key = key)) = false) := fun h9 => LH (fun x hx => by
    rcases Nat.lt_or_ge x k with h | h
    ·exact HZ.out x h
    ·obtain rfl : x = k := by omega
     exact h9)
   have HS := LH stepZ
   clear stepZ
   cases u
   ·have HZ1 := HS.out (by rw [<- HU.out]; rfl)
    clear CE
    go_wp2
    go_roundg (gk - 1)
    case rel => exact ⟨k + 1, by go_num, by omega, by omega, HZ1, HC⟩
    case measure => omega
   ·by_cases he : (s.rows.getD k noRow).key = key
    ·rw [decide_eq_true he] at CE
     have HX : Hid (s.find key = (k : Int)) := LH (by
      unfold SS.find
      rw [HF.out, rowFind_cons, if_pos (by rw [<- HU.out, decide_eq_true he]; rfl)]
      simp)
     clear he
     go_wp2_with fail
     refine CE.out.mono ?_
     rintro e w' ⟨rfl, nn, hq⟩
     have HC2 : Hid (Chg [] w w') := LH (by rw [hq]; exact HC.out.drewN nn)
     clear hq
     go_wp2
     go_ret
     exact ⟨by rw [HX.out]; rfl, HC2.out⟩
    ·rw [decide_eq_false he] at CE
     have HZ1 := HS.out (by rw [decide_eq_false he, Bool.and_false])
     clear he
     go_wp2_with fail
     refine CE.out.mono ?_
     rintro e w' ⟨rfl, nn, hq⟩
     have HC2 : Hid (Chg [] w w') := LH (by rw [hq]; exact HC.out.drewN nn)
     clear hq
     go_wp2
     go_roundg (gk - 1)
     case rel => exact ⟨k + 1, by go_num, by omega, by omega, HZ1, HC2⟩
     case measure => omega
  ·have hkn : k = n := by omega
   have HX : Hid (s.find key = -1) := LH (by
    unfold SS.find
    rw [rowFind_drop key s.rows k (by rw [hkn, HN.out]; exact Nat.le_refl _) HZ.out 0, List.drop_of_length_le (by rw [hkn, HN.out]; exact Nat.le_refl _)]
    rfl)
   have hkz : ¬ (k : Int) < (n : Int) := by omega
   clear hkn
   go_wp2
   go_ret
   exact ⟨by rw [HX.out]; rfl, HC.out⟩
theorem allZ_true (l : List UInt8) (h : ∀ q, q < l.length -> l.getD q 0 = 0) : allZ l = true := by
 rw [<- ltrim_nil, ltrim_at l l.length (Nat.le_refl _) h (fun h => absurd h (by omega))]
 simp
theorem allZ_false (l : List UInt8) (k : Nat) (hk : k < l.length) (h : l.getD k 0 ≠ 0) : allZ l = false := by
 unfold allZ
 rw [List.all_eq_false]
 refine ⟨l[k], List.getElem_mem hk, ?_⟩
 rw [List.getD_eq_getElem?_getD, List.getElem?_eq_getElem hk] at h
 simpa using h
theorem rnought_any (v : Value) (l : List UInt8) (w : World) (h : BytesAt w v l) (hl : l.length <= 1000000000) :
  Calls Tryz.prog 140 #[v] w fun e w' => e = .returned (.bool (allZ l)) /\ w = w' := by
 obtain ⟨a, cap, rfl, h1, h2, h3⟩ := h
 have H3 := LH h3
 clear h3
 go_enter Tryz.func140, Tryz.ntmps140
 go_wp2
 go_loop [3] (fun i => ∃ k : Nat, k <= l.length /\ i = .int .i64 k /\ Hid (∀ q, q < k -> l.getD q 0 = 0)) (fun i => l.length - (intOf i).toNat)
 case atStart => exact ⟨0, Nat.zero_le _, rfl, LH (fun q hq => absurd hq (by omega))⟩
 case round =>
  obtain ⟨k, hk, rfl, HZ⟩ := hrel
  by_cases hlt : k < l.length
  ·rcases H3.out with ⟨h0, _⟩ | ⟨g, o, rfl, hcell⟩
   ·rw [h0] at hlt; simp at hlt
   have hcl : w.cell? ⟨g, o + k, none⟩ = some (.int .u8 ((l.getD k 0).toNat : Int)) := hcell k hlt
   obtain ⟨c, hc⟩ : ∃ c, c = l.getD k 0 := ⟨_, rfl⟩
   rw [<- hc] at hcl
   have HC := LH hc
   have hkz : (k : Int) < (l.length : Int) := by omega
   have hkz1 : (k : Int).toNat = k := by omega
   clear hc hcell
   by_cases hc0 : c = 0
   ·have hq : (((c.toNat : Int)) != 0) = false := by rw [hc0]; rfl
    have HZ1 : Hid (∀ q, q < k + 1 -> l.getD q 0 = 0) := LH (fun q hq => by
     rcases Nat.lt_or_ge q k with h | h
     ·exact HZ.out q h
     ·obtain rfl : q = k := by omega
      rw [<- HC.out, hc0])
    clear hc0
    go_wp2
    go_round
    case rel => exact ⟨k + 1, by omega, by go_num, HZ1⟩
    case measure => simp [intOf]; omega
   ·have hq : (((c.toNat : Int)) != 0) = true := by
     rw [bne_iff_ne]
     intro h
     exact hc0 (UInt8.toNat_inj.1 (by simpa using h))
    have HF : Hid (allZ l = false) := LH (allZ_false l k hlt (by rw [<- HC.out]; exact hc0))
    clear hc0
    go_wp2
    go_ret
    exact ⟨by rw [HF.out]; rfl, rfl⟩
  ·have hkn : k = l.length := by omega
   have HF : Hid (allZ l = true) := LH (allZ_true l (by rw [<- hkn]; exact HZ.out))
   clear hkn
   go_wp2
   go_ret
   exact ⟨by rw [HF.out]; rfl, rfl⟩
theorem rnought_nil (a : Option Addr) (cap : Nat) (w : World) : Calls Tryz.prog 140 #[.slice a 0 cap] w fun e w' => e = .returned (.bool true) /\ w = w' := by
 go_enter Tryz.func140, Tryz.ntmps140
 go_wp2
 go_loop [3] (fun i => i = .int .i64 0) (fun i => 0)
 case atStart => rfl
 case round =>
  subst hrel
  go_wp2
  go_ret
  exact ⟨rfl, rfl⟩
theorem rnought_eye (v : Value) (g : Nat) (l : List UInt8) (w : World) (h : REyeV w v g l) (hl : l.length <= 1000000) :
  Calls Tryz.prog 140 #[v] w fun e w' => e = .returned (.bool (allZ l)) /\ w = w' := by
 rcases h with ⟨rfl, a, cap, rfl⟩ | ⟨o, cap, rfl, h1, h2, h3, hc⟩
 ·exact rnought_nil a cap w
 ·exact rnought_any _ l w ⟨_, cap, rfl, h1, h2, .inr ⟨g, o, rfl, hc⟩⟩ (by omega)
def RHeadPost (b : List UInt8) (w : World) (e : Ending) (w' : World) : Prop :=
 Chg [] w w' /\ match headOf b with
 | some r => ∃ kv, e = .returned (.tuple #[.agg #[.bool r.used, kv, .int .i64 (r.n : Int)], .bool true]) /\ BRow w' kv r.key /\ ∀ k, kv.ownBlock = some k -> w.heap.size <= k
 | none => e = .returned (.tuple #[.agg #[.bool false, .slice none 0 0, .int .i64 0], .bool false])
theorem rhead_any (v : Value) (b : List UInt8) (w : World) (h : BytesAt w v b) (hl : b.length <= 1000000) :
  Calls Tryz.prog 109 #[v] w (RHeadPost b w) := by
 obtain ⟨a, cap, rfl⟩ := h.slice
 obtain ⟨w0, hw0⟩ : ∃ w0, w0 = w.alloc (.cells #[.bool false, .slice none 0 0, .int .i64 0] 168) := ⟨_, rfl⟩
 have hc0 : Chg [] w w0 := by rw [hw0]; exact (Chg.refl _ _).alloc _
 have hr0 : w0.heap[w.heap.size]? = some (.cells #[.bool false, .slice none 0 0, .int .i64 0] 168 (0, 0)) := by rw [hw0]; exact heap_alloc_new w _
 have h0 : BytesAt w0 (.slice a b.length cap) b := h.chg hc0 (by simp)
 have CZ := LH (rnought_any _ b w0 h0 (by omega))
 have HW0 := LH hw0
 have hfin : ∀ (w5 : World) (u0 u1 u2 : Value), Chg [] w w5 -> Chg [] w (((w5.setCell ⟨w.heap.size, 0, none⟩ u0).setCell ⟨w.heap.size, 1, none⟩ u1).setCell ⟨w.heap.size, 2, none⟩ u2) := fun w5 u0 u1 u2 hc =>
  Chg.mono (S := [w.heap.size]) ((((hc.mono (by simp)).setCell (.inl (by simp)) _).setCell (.inl (by simp)) _).setCell (.inl (by simp)) _) (fun x hx => .inr (by simp at hx; omega))
 have HFIN := LH hfin
 clear hfin
 obtain ⟨rb, hrb⟩ : ∃ rb, rb = w.heap.size := ⟨_, rfl⟩
 have HRB := LH hrb
 by_cases hz : allZ b = true
 ·have hh : headOf b = some noRow := by unfold headOf; rw [if_pos hz]
  have hP : ∀ w', Chg [] w w' -> RHeadPost b w (.returned (.tuple #[.agg #[.bool false, .slice none 0 0, .int .i64 0], .bool true])) w' := fun w' hc => by
   refine ⟨hc, ?_⟩
   rw [hh]
   exact ⟨.slice none 0 0, rfl, BRow.nil _, by simp [Value.ownBlock]⟩
  have HP := LH hP
  have HC0 := LH hc0
  have HR0 := LH hr0
  rw [<- hrb] at HR0 HFIN
  rw [hz] at CZ
  clear h h0 hz hh hP hc0 hr0 hw0 hrb
  go_enter Tryz.func109, Tryz.ntmps109
  go_wp2_with fail
  rw [<- HW0.out, <- HRB.out]
  refine CZ.out.mono ?_
  rintro e w1 ⟨rfl, rfl⟩
  have c0 := blk_cell HR0.out 0 _ rfl
  have f0 := blk_frozen HR0.out 0
  have c1 := blk_cell HR0.out 1 _ rfl
  have f1 := blk_frozen HR0.out 1
  have c2 := blk_cell HR0.out 2 _ rfl
  have f2 := blk_frozen HR0.out 2
  have hl6 := blk_lt HR0.out
  go_wp2
  have hb3 := set3 (u0 := .bool false) (u1 := .slice none 0 0) (u2 := .int .i64 0) HR0.out
  refine bodyPost_ret (v := .tuple #[.agg #[.bool false, .slice none 0 0, .int .i64 0], .bool true]) (by simp [results, Tryz.results109, go_sem, blk_cell hb3 0 _ rfl, blk_cell hb3 1 _ rfl, blk_cell hb3 2 _ rfl]) rfl (HP.out _ (HFIN.out _ _ _ _ HC0.out))
 ·have hzf : allZ b = false := by simpa using hz
  have hhd : headOf b = if (eyeRaw (eyeNum (eyeNum b 0 1).2.1 (eyeNum b 0 1).2.2 2).2.1 (eyeNum (eyeNum b 0 1).2.1 (eyeNum b 0 1).2.2 2).2.2 40).2.2 ≠ 0 ∨ (eyeNum b 0 1).1 ≠ 1 ∨ 448 < (eyeNum (eyeNum b 0 1).2.1 (eyeNum b 0 1).2.2 2).1 ∨
   allZ (eyeRaw (eyeNum (eyeNum b 0 1).2.1 (eyeNum b 0 1).2.2 2).2.1 (eyeNum (eyeNum b 0 1).2.1 (eyeNum b 0 1).2.2 2).2.2 40).2.1 = false then none
  else some ⟨true, (eyeNum (eyeNum b 0 1).2.1 (eyeNum b 0 1).2.2 2).1.toNat, (eyeRaw (eyeNum (eyeNum b 0 1).2.1 (eyeNum b 0 1).2.2 2).2.1 (eyeNum (eyeNum b 0 1).2.1 (eyeNum b 0 1).2.2 2).2.2 40).1⟩ := by
   unfold headOf; rw [if_neg hz]
  rw [hzf] at CZ
  have hn2 := eyeNum_nonneg (eyeNum b 0 1).2.1 (eyeNum b 0 1).2.2 2
  have CN1 := fun (b' g : Nat) (w' : World) (h : REyeAt w' b' g b 0) => rnum_any b' g b 0 1 w' h (by omega) (by omega)
  rw [show (1 : Int).toNat = 1 from rfl] at CN1
  generalize hr1 : eyeNum b 0 1 = r1 at *
  have CN2 := fun (b' g : Nat) (w' : World) (h : REyeAt w' b' g r1.2.1 r1.2.2) => rnum_any b' g r1.2.1 r1.2.2 2 w' h (by omega) (by omega)
  rw [show (2 : Int).toNat = 2 from rfl] at CN2
  generalize hr2 : eyeNum r1.2.1 r1.2.2 2 = r2 at *
  have CR3 := fun (b' g : Nat) (w' : World) (h : REyeAt w' b' g r2.2.1 r2.2.2) => rraw_any b' g r2.2.1 r2.2.2 40 w' h (by omega)
  generalize hr3 : eyeRaw r2.2.1 r2.2.2 40 = r3 at *
  obtain ⟨k1, l1, e1⟩ := r1
  obtain ⟨k2, l2, e2⟩ := r2
  obtain ⟨key, l3, e3⟩ := r3
  dsimp only at hhd hn2 CN1 CN2 CR3
  clear hr1 hr2 hr3
  have HHD := LH hhd
  have HN1 := LH CN1
  have HN2 := LH CN2
  have HR3 := LH CR3
  have HC0 := LH hc0
  have HR0 := LH hr0
  rw [<- hrb] at HR0 HFIN
  have hbn : b ≠ [] := fun e => hz (by rw [e]; rfl)
  have hE0 : ∃ g, g < w0.heap.size /\ REyeV w0 (.slice a b.length cap) g b := by
   obtain ⟨a', c', he, h1, h2, h3⟩ := h0
   obtain ⟨rfl, rfl⟩ : a = a' /\ cap = c' := by simpa using he
   rcases h3 with ⟨h3, _⟩ | ⟨g, o, rfl, hcell⟩
   ·exact absurd h3 hbn
   ·have hg := World.block_lt_of_cell? w0 _ (hcell 0 (List.length_pos_iff.2 hbn))
    exact ⟨g, hg, .inr ⟨o, cap, rfl, h1, h2, hg, hcell⟩⟩
  obtain ⟨eg, heg, hEV⟩ := hE0
  obtain ⟨w1, hw1⟩ : ∃ w1, w1 = w0.alloc (.cells #[.slice a b.length cap, .int .i64 0] 127) := ⟨_, rfl⟩
  have hc1 : Chg [] w0 w1 := by rw [hw1]; exact (Chg.refl _ _).alloc _
  obtain ⟨eb, heb⟩ : ∃ eb, eb = w0.heap.size := ⟨_, rfl⟩
  have HEB := LH heb
  have HE1 : Hid (REyeAt w1 eb eg b 0) := LH ⟨_, by rw [hw1, heb]; exact heap_alloc_new w0 _, hEV.keepC hc1 (by simp), by omega, hl⟩
  have hrlt := blk_lt hr0
  rw [<- hrb] at hrlt
  have hreb : rb < eb := by omega
  have hweb : w.heap.size <= eb := by omega
  have HRW1 : Hid (w1.heap[rb]? = some (.cells #[.bool false, .slice none 0 0, .int .i64 0] 168 (0, 0))) := LH (hc1.keep HR0.out (by simp))
  have HC1 : Hid (Chg [] w w1) := LH (hc0.trans hc1 (by simp))
  have HW1 := LH hw1
  have HWE := LH hweb
  have hne : rb ∉ [eb] := by simp; omega
  have HNE := LH hne
  have HNW : Hid (∀ x, x ∈ [eb] -> x ∈ ([] : List Nat) ∨ w.heap.size <= x) := LH (fun x hx => .inr (by simp at hx; omega))
  clear h h0 hz hzf hhd CN1 CN2 CR3 hc0 hr0 hw0 hbn heg hEV hw1 hc1 heb hrlt hreb hweb hne hrb
  go_enter Tryz.func109, Tryz.ntmps109
  go_wp2_with fail
  rw [<- HW0.out, <- HRB.out]
  refine CZ.out.mono ?_
  rintro e w' ⟨rfl, rfl⟩
  go_wp2_with fail
  rw [<- HW1.out, <- HEB.out]
  refine (HN1.out eb eg w1 HE1.out).mono ?_
  rintro e w3 ⟨rfl, hE3, hc3⟩
  have HC3 := LH (HC1.out.trans hc3 HNW.out)
  have HRW3 := LH (hc3.keep HRW1.out HNE.out)
  have HE3 := LH hE3
  clear hE3 hc3 HE1 HC1 HRW1
  go_wp2_with fail
  refine (HN2.out eb eg w3 HE3.out).mono ?_
  rintro e w4 ⟨rfl, hE4, hc4⟩
  have HC4 := LH (HC3.out.trans hc4 HNW.out)
  have HRW4 := LH (hc4.keep HRW3.out HNE.out)
  have HE4 := LH hE4
  clear hE4 hc4 HE3 HC3 HRW3
  go_wp2_with fail
  refine (HR3.out eb eg w4 HE4.out).mono ?_
  rintro e w5 ⟨kv, rfl, hkr, hkn, hE5, hc5⟩
  have HC5 := LH (HC4.out.trans hc5 HNW.out)
  have HRW5 := LH (hc5.keep HRW4.out HNE.out)
  have HKN : Hid (∀ k, kv.ownBlock = some k -> w.heap.size < k) := LH (fun k hk => by
   have h1 := hkn k hk
   have h2 := blk_lt HRW4.out
   rw [HRB.out] at h2
   omega)
  have hkform : ∃ a5 c5, kv = .slice a5 key.length c5 := by
   obtain ⟨a5, c5, h5, _⟩ := hkr.bytes
   exact ⟨a5, c5, h5⟩
  obtain ⟨a5, c5, hkv⟩ := hkform
  have HKV := LH hkv
  have HK5 := LH hkr
  obtain ⟨ev, heh, hev, _, hl3⟩ := hE5
  have d0 := blk_cell heh 0 _ rfl
  have d1 := blk_cell heh 1 _ rfl
  have CZ3 := LH (rnought_eye ev eg l3 w5 hev hl3)
  obtain ⟨av, lv, cv, hevv⟩ : ∃ a L cap, ev = .slice a L cap := by obtain ⟨a, c, h⟩ := hev.slice; exact ⟨a, _, c, h⟩
  subst hevv
  clear hc5 HC4 HRW4 HE4 hkr hkn hkv heh hev hl3
  have hPn : ∀ (w' : World), (e3 ≠ 0 ∨ k1 ≠ 1 ∨ 448 < k2 ∨ allZ l3 = false) -> Chg [] w w' -> RHeadPost b w (.returned (.tuple #[.agg #[.bool false, .slice none 0 0, .int .i64 0], .bool false])) w' := fun w' h1 h3 => by
   refine ⟨h3, ?_⟩
   rw [HHD.out, if_pos h1]
  have hPs : ∀ (kv : Value) (w' : World), ¬ (e3 ≠ 0 ∨ k1 ≠ 1 ∨ 448 < k2 ∨ allZ l3 = false) -> Chg [] w w' -> BRow w' kv key -> (∀ k, kv.ownBlock = some k -> w.heap.size <= k) -> RHeadPost b w (.returned (.tuple #[.agg #[.bool true, kv, .int .i64 k2], .bool true])) w' := fun kv w' h1 h2 h3 h4 => by
   refine ⟨h2, ?_⟩
   rw [HHD.out, if_neg h1]
   exact ⟨kv, by rw [show ((k2.toNat : Nat) : Int) = k2 by omega], h3, h4⟩
  have HPN := LH hPn
  have HPS := LH hPs
  clear hPn hPs
  have c0 := blk_cell HRW5.out 0 _ rfl
  have f0 := blk_frozen HRW5.out 0
  have c1 := blk_cell HRW5.out 1 _ rfl
  have f1 := blk_frozen HRW5.out 1
  have c2 := blk_cell HRW5.out 2 _ rfl
  have f2 := blk_frozen HRW5.out 2
  have hl6 := blk_lt HRW5.out
  by_cases he3 : e3 = 0
  ·have q1 : (e3 != 0) = false := by simp [he3]
   by_cases hk1 : k1 = 1
   ·have q2 : (k1 != 1) = false := by simp [hk1]
    by_cases hk2 : 448 < k2
    ·have q3 : decide (k2 > 448) = true := decide_eq_true hk2
     have HPX := LH (HPN.out · (.inr (.inr (.inl hk2))))
     clear he3 hk1 hk2
     go_wp2
     have hb3 := set3 (u0 := .bool false) (u1 := .slice none 0 0) (u2 := .int .i64 0) HRW5.out
     exact bodyPost_ret (v := .tuple #[.agg #[.bool false, .slice none 0 0, .int .i64 0], .bool false]) (by simp [results, Tryz.results109, go_sem, blk_cell hb3 0 _ rfl, blk_cell hb3 1 _ rfl, blk_cell hb3 2 _ rfl]) rfl (HPX.out _ (HFIN.out _ _ _ _ HC5.out))
    ·have q3 : decide (k2 > 448) = false := decide_eq_false hk2
     have HK := LH (And.intro he3 (And.intro hk1 hk2))
     clear he3 hk1 hk2
     go_wp2_with fail
     refine CZ3.out.mono ?_
     rintro e w' ⟨rfl, rfl⟩
     by_cases hz3 : allZ l3 = true
     ·have hno : ¬ (e3 ≠ 0 ∨ k1 ≠ 1 ∨ 448 < k2 ∨ allZ l3 = false) := by
       obtain ⟨h1, h2, h3⟩ := HK.out
       rw [hz3]; simp [h1, h2]; omega
      have HPX := LH (HPS.out · · hno)
      rw [hz3]
      clear hz3 hno
      obtain rfl := HKV.out
      go_wp2
      have hb3 := set3 (u0 := .bool true) (u1 := .slice a5 key.length c5) (u2 := .int .i64 k2) HRW5.out
      refine bodyPost_ret (v := .tuple #[.agg #[.bool true, .slice a5 key.length c5, .int .i64 k2], .bool true]) (by simp [results, Tryz.results109, go_sem, blk_cell hb3 0 _ rfl, blk_cell hb3 1 _ rfl, blk_cell hb3 2 _ rfl]) rfl (HPX.out _ _ (HFIN.out _ _ _ _ HC5.out) ?_ (fun k hk => Nat.le_of_lt (HKN.out k hk)))
      exact HK5.out.keep (fun k hk => by
       have hne := HKN.out k hk
       have hrb := HRB.out
       exact ((Below.heap_setCell _ ⟨rb, 2, none⟩ _ k (by show k ≠ rb; omega)).trans (Below.heap_setCell _ ⟨rb, 1, none⟩ _ k (by show k ≠ rb; omega))).trans (Below.heap_setCell _ ⟨rb, 0, none⟩ _ k (by show k ≠ rb; omega)))
     ·have hzf : allZ l3 = false := by simpa using hz3
      have HPX := LH (HPN.out · (.inr (.inr (.inr hzf))))
      rw [hzf]
      clear hz3 hzf
      go_wp2
      have hb3 := set3 (u0 := .bool false) (u1 := .slice none 0 0) (u2 := .int .i64 0) HRW5.out
      exact bodyPost_ret (v := .tuple #[.agg #[.bool false, .slice none 0 0, .int .i64 0], .bool false]) (by simp [results, Tryz.results109, go_sem, blk_cell hb3 0 _ rfl, blk_cell hb3 1 _ rfl, blk_cell hb3 2 _ rfl]) rfl (HPX.out _ (HFIN.out _ _ _ _ HC5.out))
   ·have q2 : (k1 != 1) = true := by simp [hk1]
    have HPX := LH (HPN.out · (.inr (.inl hk1)))
    clear he3 hk1
    go_wp2
    have hb3 := set3 (u0 := .bool false) (u1 := .slice none 0 0) (u2 := .int .i64 0) HRW5.out
    exact bodyPost_ret (v := .tuple #[.agg #[.bool false, .slice none 0 0, .int .i64 0], .bool false]) (by simp [results, Tryz.results109, go_sem, blk_cell hb3 0 _ rfl, blk_cell hb3 1 _ rfl, blk_cell hb3 2 _ rfl]) rfl (HPX.out _ (HFIN.out _ _ _ _ HC5.out))
  ·have q1 : (e3 != 0) = true := by simp [he3]
   have HPX := LH (HPN.out · (.inl he3))
   clear he3
   go_wp2
   have hb3 := set3 (u0 := .bool false) (u1 := .slice none 0 0) (u2 := .int .i64 0) HRW5.out
   exact bodyPost_ret (v := .tuple #[.agg #[.bool false, .slice none 0 0, .int .i64 0], .bool false]) (by simp [results, Tryz.results109, go_sem, blk_cell hb3 0 _ rfl, blk_cell hb3 1 _ rfl, blk_cell hb3 2 _ rfl]) rfl (HPX.out _ (HFIN.out _ _ _ _ HC5.out))
theorem RDiskAt.read {w : World} {m : Nat} {V F : List Nat} {d : DS} (h : RDiskAt w m V F d) :
  w.cell? ⟨m, 6, none⟩ = some (.bool d.dead) /\ d.n <= 4160 /\ ∃ a cap, w.cell? ⟨m, 0, none⟩ = some (.slice a d.n cap) /\ ∀ k, k < d.n -> ∃ g ax cx, a = some ⟨g, 0, none⟩ /\ w.cell? ⟨g, k, none⟩ = some (.slice ax 64 cx) /\ BytesAt w (.slice ax 64 cx) (d.now k) /\ (d.now k).length = 64 := by
 obtain ⟨nv, lv, av, wv, NV, LV, AV, WV, H⟩ := h
 have hrow := H.row.1
 have c0 : w.cell? ⟨m, 0, none⟩ = some nv := blk_cell H.head 0 _ rfl
 refine ⟨blk_cell H.head 6 _ rfl, H.few, ?_⟩
 by_cases hn : 0 < d.n
 ·obtain ⟨⟨gn, cn, hnv⟩, _⟩ := H.form hn
  refine ⟨_, cn, by rw [c0, hnv], fun k hk => ?_⟩
  rw [hnv] at hrow
  obtain ⟨hNl, k0, _, _⟩ := own_cell hrow k hk
  obtain ⟨b1, b2, b3⟩ := H.now k hk
  obtain ⟨ax, cx, hx⟩ := b2.slice
  rw [b1] at hx
  rw [hx] at k0 b2
  exact ⟨gn, ax, cx, rfl, k0, b2, b1⟩
 ·rcases hrow.2 with ⟨h1, h2⟩ | ⟨g, cap, cur, h1, _⟩
  ·exact ⟨none, 0, by rw [c0, h1]; simp; omega, fun k hk => by omega⟩
  ·exact ⟨_, cap, by rw [c0, h1], fun k hk => by omega⟩
theorem rget_any (q m : Nat) (W A : List Nat) (s : SS) (i : Int) (w : World) (h : RSlotsAt w q m W A s) : Calls Tryz.prog 112 #[.pointer (some ⟨q, 0, none⟩), .int .i64 i] w (GetPost (s.get i) w) := by
 obtain ⟨V, F, rv, R, H⟩ := h
 have HH := LH H
 have c0 : w.cell? ⟨q, 0, none⟩ = some (.pointer (some ⟨m, 0, none⟩)) := blk_cell H.obj.head 0 _ rfl
 have c1 : w.cell? ⟨q, 1, none⟩ = some (.int .i64 (s.first : Int)) := blk_cell H.obj.head 1 _ rfl
 have c2 : w.cell? ⟨q, 2, none⟩ = some rv := blk_cell H.obj.head 2 _ rfl
 obtain ⟨a0, cap0, hrv0, hcap0⟩ := H.form
 have hfew := H.few
 by_cases hi : s.has i
 ·have hi' := hi
  obtain ⟨h0, h1⟩ := hi'
  obtain ⟨j, rfl⟩ := Int.eq_ofNat_of_zero_le h0
  have hjl : j < s.rows.length := by omega
  obtain ⟨g, cap, kv, hrv, hcap, hcm, k0, k1, k2, k3, k4⟩ := H.at j hjl
  have hrow : s.row (j : Int) = s.rows.getD j noRow := rfl
  have hn448 : (s.rows.getD j noRow).n <= 448 := by
   rw [List.getD_eq_getElem?_getD, List.getElem?_eq_getElem hjl]
   exact (H.ok.rows _ (List.getElem_mem _)).1
  have hroom := H.ok.room
  have q0 : decide ((j : Int) < 0) = false := decide_eq_false (by omega)
  have q1 : decide ((j : Int) ≥ (s.rows.length : Int)) = false := decide_eq_false (by omega)
  by_cases hu : (s.row (j : Int)).used = false
  ·have hg : s.get (j : Int) = ([], 6) := by unfold SS.get; rw [if_neg (by simpa using hi), if_pos hu]
   have HP := LH (fun (w' : World) (hc : Chg [] w w') => GetPost.nil (c := 6) hc)
   have HG := LH hg
   rw [HG.out]
   rw [hrow] at hu
   rw [hu] at k0
   subst hrv
   generalize s.rows.getD j noRow = r at *
   generalize s.rows.length = n at *
   have hjz : (j : Int) < (n : Int) := by omega
   have hjz1 : (j : Int).toNat = j := by omega
   clear H HH c0 c1 k1 k2 k3 k4 hu hg hi hrow hroom hrv0
   go_enter Tryz.func112, Tryz.ntmps112
   go_wp2
   go_ret2
   exact HP.out _ (Chg.refl _ _)
  ·have hu' : (s.rows.getD j noRow).used = true := by rw [<- hrow]; simpa using hu
   have hg : s.get (j : Int) = if s.d.dead then ([], 14) else (s.data (j : Int), 0) := by
    unfold SS.get; rw [if_neg (by simpa using hi), if_neg hu]
   have hdat : s.data (j : Int) = (flat (nsec (s.rows.getD j noRow).n) (fun k => s.d.now (s.pos j + 1 + k))).take (s.rows.getD j noRow).n := rfl
   have hpos : s.pos (j : Int) = s.first + 8 * j := rfl
   rw [hu'] at k0
   obtain ⟨p6, hnd, an, cn, p0, hsec⟩ := H.disk.read
   subst hrv
   have HG := LH hg
   have HDAT := LH hdat
   have HSEC := LH (fun wr (hc : Chg [] w wr) => ((H.keep hc (by simp)).disk.read).2.2)
   have hfj : ((s.first : Int) + (j : Int) * 8) = ((s.pos (j : Int) : Nat) : Int) := by rw [hpos]; omega
   have hpl : s.pos (j : Int) + 8 <= s.d.n := by rw [hpos]; omega
   have hff : s.first <= 4160 := by omega
   generalize hrr : s.rows.getD j noRow = r at *
   generalize s.pos (j : Int) = pos at *
   generalize hrl : s.rows.length = n at *
   generalize s.first = fst at *
   have hjz : (j : Int) < (n : Int) := by omega
   have hjz1 : (j : Int).toNat = j := by omega
   have hj5 : j <= 1000 := by omega
   have hnj : ¬ n <= j := by omega
   have hm7 : nsec r.n <= 7 := by unfold nsec; omega
   have hmn : r.n <= nsec r.n * 64 := by unfold nsec; omega
   have hmm : ∀ k, k < nsec r.n ↔ k * 64 < r.n := fun k => by unfold nsec; omega
   obtain ⟨M, hM⟩ : ∃ M, M = nsec r.n := ⟨_, rfl⟩
   rw [<- hM] at hm7 hmn hmm
   have HM := LH hM
   obtain ⟨rn, hrn⟩ : ∃ rn, rn = r.n := ⟨_, rfl⟩
   rw [<- hrn] at hmn k2 hn448 hmm
   have HRN := LH hrn
   have HMM := LH hmm
   clear H k1 k3 k4 hu' hg hi hrow hdat hroom hM hrn hrr hrl hu hfew hpos hmm hsec hrv0
   by_cases hd : s.d.dead = true
   ·have HP := LH (fun (w' : World) (hc : Chg [] w w') => GetPost.nil (c := 14) hc)
    have HGG : Hid (s.get (j : Int) = ([], 14)) := LH (by rw [HG.out, if_pos hd])
    rw [HGG.out]
    rw [hd] at p6
    clear hd
    go_enter Tryz.func112, Tryz.ntmps112
    go_wp2
    go_ret2
    exact HP.out _ (Chg.refl _ _)
   ·have hd' : s.d.dead = false := by simpa using hd
    have HGG : Hid (s.get (j : Int) = (s.data (j : Int), 0)) := LH (by rw [HG.out, if_neg hd])
    rw [HGG.out]
    rw [hd'] at p6
    have HC := LH (And.intro c0 (And.intro c2 (And.intro k0 k2)))
    have HP0 := LH p0
    clear hd hd'
    go_enter Tryz.func112, Tryz.ntmps112
    go_wp2_with fail
    go_loopg [6, 8] M (fun g' s6 s8 wr => ∃ (k : Nat) (a6 : Option Addr) (c6 : Nat), s6 = .slice a6 (k * 64) c6 /\ s8 = .int .i64 (k : Int) /\ k <= M /\ M <= k + g' /\ Hid (BRow wr s6 (flat k (fun k => s.d.now (pos + 1 + k))) /\ (∀ g, s6.ownBlock = some g -> w.heap.size <= g) /\ Chg [] w wr))
    case atStart => exact ⟨0, none, 0, rfl, rfl, by omega, by omega, LH ⟨BRow.nil _, by simp [Value.ownBlock], Chg.refl _ _⟩⟩
    case round =>
     obtain ⟨k, a6, c6, rfl, rfl, hk, hkg, HR⟩ := hrel
     obtain ⟨s6, hs6⟩ : ∃ s6, s6 = Value.slice a6 (k * 64) c6 := ⟨_, rfl⟩
     have HS6 := LH hs6
     rw [<- hs6] at HR
     clear hs6 c0 c2 k0 k2 p0 p6 c1
     have c0 := HR.out.2.2.cell HC.out.1 (by simp)
     have c2 := HR.out.2.2.cell HC.out.2.1 (by simp)
     have k2 := HR.out.2.2.cell HC.out.2.2.2 (by simp)
     have p0 := HR.out.2.2.cell HP0.out (by simp)
     have hmk := HMM.out k
     by_cases hlt : k < M
     ·have hk64 : decide ((k : Int) * 64 < (rn : Int)) = true := decide_eq_true (by have := hmk.1 hlt; omega)
      obtain ⟨a', c', e', hsec⟩ := HSEC.out wr HR.out.2.2
      obtain ⟨rfl, rfl⟩ : an = a' /\ cn = c' := by
       have := p0.symm.trans e'
       simpa using this
      obtain ⟨gn, ax, cx, rfl, e1, b1, l1⟩ := hsec (pos + 1 + k) (by omega)
      have HB3 := LH b1
      have HL1 := LH l1
      have hpk : ((pos : Int) + 1 + (k : Int)).toNat = pos + 1 + k := by omega
      have hpz : (0 : Int) <= (pos : Int) + 1 + (k : Int) := by omega
      have hpn : (pos : Int) + 1 + (k : Int) < (s.d.n : Int) := by omega
      have hlen64 : Hid (∀ x, x < s.d.n -> (s.d.now x).length = 64) := LH (fun x hx => by
       obtain ⟨_, _, _, _, _, _, h9⟩ := hsec x hx
       exact h9)
      have hsz : Hid ((flat k (fun k => s.d.now (pos + 1 + k))).length + (s.d.now (pos + 1 + k)).length <= 140737488355328) := LH (by
       rw [flat_len k _ (fun i hi => hlen64.out _ (by omega)), HL1.out]; omega)
      clear e' hsec b1 l1
      go_wp2_with (at_builtin; refine wpList_appB rfl (.tmp 57) (.tmp 69) rfl s6 (flat k (fun k => s.d.now (pos + 1 + k))) HS6.out.symm HR.out.1 _ (s.d.now (pos + 1 + k)) (by rfl) HB3.out hsz.out ?_; intro v4 w4 ho4 hg4 hat4)
      have HO4 := LH ho4
      have HG4 := LH hg4
      have HA4 := LH hat4
      clear ho4 hg4 hat4
      go_roundg (gk - 1)
      case measure => omega
      case rel =>
       have hr : BRow w4 v4 (flat (k + 1) (fun k => s.d.now (pos + 1 + k))) := by rw [flat_succ]; exact HO4.out
       obtain ⟨a, c4, he, _⟩ := hr.bytes
       rw [flat_len (k + 1) _ (fun i hi => hlen64.out _ (by omega))] at he
       refine ⟨k + 1, a, c4, he, by go_num, by omega, by omega, LH ⟨hr, fun g hg => ?_, HR.out.2.2.grown HG4.out (fun g hg => .inr (HR.out.2.1 g hg))⟩⟩
       rcases HA4.out with h | h
       ·exact HR.out.2.1 g (by rw [<- h]; exact hg)
       ·rw [h] at hg
        have h1 := HR.out.2.2.size
        have h2 : wr.heap.size = g := by simpa using hg
        omega
     ·have hkm : k = M := by omega
      have hk64 : decide ((k : Int) * 64 < (rn : Int)) = false := decide_eq_false (by
       have := fun h => hlt (hmk.2 h)
       omega)
      obtain rfl := hkm.symm
      obtain ⟨a', c', e', hsec⟩ := HSEC.out wr HR.out.2.2
      have hlen64 : Hid (∀ x, x < s.d.n -> (s.d.now x).length = 64) := LH (fun x hx => by
       obtain ⟨_, _, _, _, _, _, h9⟩ := hsec x hx
       exact h9)
      have hfl := flat_len M (fun k => s.d.now (pos + 1 + k)) (fun i hi => hlen64.out _ (by omega))
      have hlt2 : ((flat M (fun k => s.d.now (pos + 1 + k))).take rn).length = rn := by rw [List.length_take]; omega
      have hcb : M * 64 <= c6 := by
       obtain ⟨_, c, he, h1, _⟩ := HR.out.1.bytes
       rw [HS6.out] at he
       have e1 := (Value.slice.inj he).2.1
       have e2 := (Value.slice.inj he).2.2
       omega
      have hcm6 : c6 <= maxLen := by
       obtain ⟨_, c, he, h1, h2, _⟩ := HR.out.1.bytes
       rw [HS6.out] at he
       have e2 := (Value.slice.inj he).2.2
       omega
      have hb : BytesAt wr (.slice a6 rn c6) (s.data (j : Int)) := by
       obtain ⟨a, c, he, h1, h2, h3⟩ := HR.out.1.bytes
       rw [HS6.out] at he
       obtain rfl := (Value.slice.inj he).1
       obtain rfl := (Value.slice.inj he).2.2
       rw [HDAT.out, <- HM.out, <- HRN.out]
       refine ⟨a6, c6, by rw [hlt2], by rw [hlt2]; omega, h2, ?_⟩
       rcases h3 with ⟨h3, h4⟩ | ⟨g, o, e, hcell⟩
       ·left
        exact ⟨by rw [h3]; simp, h4⟩
       ·right
        refine ⟨g, o, e, fun x hx => ?_⟩
        rw [hlt2] at hx
        rw [getD_take _ _ _ hx]
        exact hcell x (by omega)
      have hdl : (s.data (j : Int)).length <= 1000000000 := by rw [HDAT.out, <- HM.out, <- HRN.out, hlt2]; omega
      have CC := LH (rcopy_any (.slice a6 rn c6) (s.data (j : Int)) wr hb hdl)
      unfold maxLen at hcm6
      have hrz : (rn : Int) <= (c6 : Int) := by omega
      have hrz1 : (rn : Int).toNat = rn := by omega
      obtain rfl := HS6.out
      clear e' hsec hfl hlt2 hb hdl
      go_wp2_with fail
      refine CC.out.mono ?_
      rintro e w5 ⟨v5, rfl, hb5, ho5, hc5⟩
      have HFIN : Hid (GetPost (s.data (j : Int), 0) w (.returned (.tuple #[v5, .int .i64 0])) w5) := LH ⟨⟨_, rfl, hb5.bytes, fun g hg => Nat.le_trans HR.out.2.2.size (ho5 g hg)⟩, HR.out.2.2.trans hc5 (by simp)⟩
      clear hb5 ho5 hc5
      go_wp2
      go_ret2
      exact HFIN.out
 ·have hg : s.get i = ([], 1) := by unfold SS.get; rw [if_pos (by simpa using hi)]
  have HP := LH (fun (w' : World) (hc : Chg [] w w') => GetPost.nil (c := 1) hc)
  have HG := LH hg
  rw [HG.out]
  have HI := LH hi
  subst hrv0
  generalize hnn : s.rows.length = n at *
  have HNN := LH hnn
  clear H HH hg hi hfew c0 c1
  by_cases h0 : i < 0
  ·have q0 : decide (i < 0) = true := decide_eq_true h0
   go_enter Tryz.func112, Tryz.ntmps112
   go_wp2
   go_ret2
   exact HP.out _ (Chg.refl _ _)
  ·have q0 : decide (i < 0) = false := decide_eq_false h0
   have q1 : decide (i ≥ (n : Int)) = true := decide_eq_true (by
    have h9 := HI.out
    unfold SS.has at h9
    have h8 := HNN.out
    omega)
   go_enter Tryz.func112, Tryz.ntmps112
   go_wp2
   go_ret2
   exact HP.out _ (Chg.refl _ _)
theorem upto_none {rows : List SRow} {k : List UInt8} : ∀ n : Nat, (∀ j, j < n -> rowIs rows k j = false) -> upto rows n k = [] := fun n h => by
 unfold upto
 rw [List.filter_eq_nil_iff]
 intro j hj
 rw [h j (List.mem_range.1 hj)]
 simp
theorem upto_first {rows : List SRow} {k : List UInt8} {i : Nat} (hi : rowIs rows k i = true) (h0 : ∀ j, j < i -> rowIs rows k j = false) : ∀ n : Nat, i < n -> ∃ r, upto rows n k = i :: r
 | 0, h => by omega
 | n + 1, h => by
  rw [upto_succ]
  by_cases hin : i < n
  ·obtain ⟨r, hr⟩ := upto_first hi h0 n hin
   exact ⟨_, by rw [hr, List.cons_append]⟩
  ·obtain rfl : i = n := by omega
   rw [upto_none i h0, hi]
   exact ⟨[], rfl⟩
theorem rowFind_spec (key : List UInt8) : ∀ (l : List SRow) (k : Nat), (rowFind key l k = -1 /\ ∀ j, j < l.length -> rowIs l key j = false) ∨ ∃ n, n < l.length /\ rowFind key l k = ((k + n : Nat) : Int) /\ rowIs l key n = true /\ ∀ j, j < n -> rowIs l key j = false
 | [], k => .inl ⟨rfl, fun j hj => by simp at hj⟩
 | r :: rs, k => by
  unfold rowFind
  by_cases h : (r.used && decide (r.key = key)) = true
  ·rw [if_pos h]
   exact .inr ⟨0, by simp, by simp, h, fun j hj => by omega⟩
  ·rw [if_neg h]
   have h' : (r.used && decide (r.key = key)) = false := by simpa using h
   rcases rowFind_spec key rs (k + 1) with ⟨h1, h2⟩ | ⟨n, h1, h2, h3, h4⟩
   ·refine .inl ⟨h1, fun j hj => ?_⟩
    cases j with
    | zero => exact h'
    | succ j => exact h2 j (by simpa using hj)
   ·refine .inr ⟨n + 1, by simpa using h1, by rw [h2]; congr 1; omega, h3, fun j hj => ?_⟩
    cases j with
    | zero => exact h'
    | succ j => exact h4 j (by omega)
def headI (l : List Nat) : Int := match l with | [] => -1 | i :: _ => (i : Int)
theorem find_upto (s : SS) (key : List UInt8) : s.find key = headI (upto s.rows s.rows.length key) := by
 unfold SS.find
 rcases rowFind_spec key s.rows 0 with ⟨h1, h2⟩ | ⟨n, h1, h2, h3, h4⟩
 ·rw [h1, upto_none _ h2]; rfl
 ·obtain ⟨r, hr⟩ := upto_first h3 h4 _ h1
  rw [h2, hr, Nat.zero_add]; rfl
theorem Sto.find {t : Sto} {x : Id} (h : mayId x = true) : t.s.find (idKey x) = headI (t.at x) := by rw [find_upto, Sto.at_may h]
structure RStOk (w : World) (q sp m : Nat) (W A : List Nat) (t : Sto) : Prop where
 head : w.heap[q]? = some (.cells #[.pointer (some ⟨m, 0, none⟩), .pointer (some ⟨sp, 0, none⟩), .bool t.whole] 141 (0, 0))
 slots : RSlotsAt w sp m W A t.s
 out : q ∉ A
 ok : keysOk t.s.rows
def RStAt (w : World) (q m : Nat) (U B : List Nat) (t : Sto) : Prop := ∃ sp W A, RStOk w q sp m W A t /\ U = q :: W /\ B = q :: A
theorem RStOk.lt {w : World} {q sp m : Nat} {W A : List Nat} {t : Sto} (h : RStOk w q sp m W A t) : (∀ x ∈ q :: A, x < w.heap.size) /\ (∀ x ∈ q :: W, x ∈ q :: A) /\ ∀ x ∈ q :: W, NoU8 w x := by
 obtain ⟨h1, h2, h3⟩ := h.slots.lim
 refine ⟨fun x hx => ?_, fun x hx => ?_, fun x hx => ?_⟩
 ·rcases List.mem_cons.1 hx with rfl | hx
  ·exact blk_lt h.head
  ·exact h1 x hx
 ·rcases List.mem_cons.1 hx with rfl | hx
  ·simp
  ·exact List.mem_cons_of_mem _ (h2 x hx)
 ·rcases List.mem_cons.1 hx with rfl | hx
  ·exact NoU8.mk h.head (no8_list (by simp [no8_ptr, no8_bool]))
  ·exact h3 x hx
theorem RStAt.lim {w : World} {q m : Nat} {U B : List Nat} {t : Sto} (h : RStAt w q m U B t) : (∀ x ∈ B, x < w.heap.size) /\ (∀ x ∈ U, x ∈ B) /\ ∀ x ∈ U, NoU8 w x := by
 obtain ⟨sp, W, A, h, rfl, rfl⟩ := h
 exact h.lt
theorem RStOk.keep {w w' : World} {q sp m : Nat} {W A T : List Nat} {t : Sto} (h : RStOk w q sp m W A t) (hc : Chg T w w') (ha : ∀ x ∈ q :: A, x ∉ T) : RStOk w' q sp m W A t :=
 ⟨hc.keep h.head (ha q (by simp)), h.slots.keep hc (fun x hx => ha x (List.mem_cons_of_mem _ hx)), h.out, h.ok⟩
theorem RStAt.keep {w w' : World} {q m : Nat} {U B T : List Nat} {t : Sto} (h : RStAt w q m U B t) (hc : Chg T w w') (ha : ∀ x ∈ B, x ∉ T) : RStAt w' q m U B t := by
 obtain ⟨sp, W, A, h, rfl, rfl⟩ := h
 exact ⟨sp, W, A, h.keep hc ha, rfl, rfl⟩
def RStd (w w' : World) (q m : Nat) (U B : List Nat) (t : Sto) : Prop := ∃ U' B', RStAt w' q m U' B' t /\ (∀ x ∈ U', x ∈ U ∨ w.heap.size <= x) /\ (∀ x ∈ B', x ∈ B ∨ w.heap.size <= x) /\ Chg U w w'
theorem RStd.same {w : World} {q m : Nat} {U B : List Nat} {t : Sto} (h : RStAt w q m U B t) : RStd w w q m U B t := ⟨U, B, h, fun x hx => .inl hx, fun x hx => .inl hx, Chg.refl _ _⟩
theorem RStd.glue {w w1 w2 : World} {q m : Nat} {U B U1 B1 : List Nat} {t : Sto} (hv : ∀ x ∈ U1, x ∈ U ∨ w.heap.size <= x) (hf : ∀ x ∈ B1, x ∈ B ∨ w.heap.size <= x) (hc : Chg U w w1) (h : RStd w1 w2 q m U1 B1 t) : RStd w w2 q m U B t := by
 obtain ⟨V2, F2, b1, b2, b3, b4⟩ := h
 refine ⟨V2, F2, b1, fun x hx => ?_, fun x hx => ?_, hc.trans b4 hv⟩
 ·rcases b2 x hx with h | h
  ·exact hv x h
  ·exact .inr (Nat.le_trans hc.size h)
 ·rcases b3 x hx with h | h
  ·exact hf x h
  ·exact .inr (Nat.le_trans hc.size h)
theorem RStd.pre {w0 w w' : World} {q m : Nat} {U B : List Nat} {t : Sto} (hc : Chg [] w0 w) (h : RStd w w' q m U B t) : RStd w0 w' q m U B t := RStd.glue (fun x hx => .inl hx) (fun x hx => .inl hx) (hc.mono (by simp)) h
theorem RStd.post {w w1 w' : World} {q m : Nat} {U B : List Nat} {t : Sto} (h : RStd w w1 q m U B t) (hc : Chg [] w1 w') : RStd w w' q m U B t := by
 obtain ⟨W1, A1, a1, a2, a3, a4⟩ := h
 exact ⟨W1, A1, a1.keep hc (by simp), a2, a3, a4.trans hc (by simp)⟩
theorem RStOk.did {w w' : World} {q sp m : Nat} {W A : List Nat} {t : Sto} {s : SS} (h : RStOk w q sp m W A t) (hd : RSid w w' sp m W A s) (hk : keysOk s.rows) : RStd w w' q m (q :: W) (q :: A) { t with s := s } := by
 obtain ⟨W', A', a1, a2, a3, a4⟩ := hd
 have hl := h.lt
 have hq : q < w.heap.size := hl.1 q (by simp)
 have hW : q ∉ W := fun hm => h.out (h.slots.lim.2.1 q hm)
 refine ⟨q :: W', q :: A', ⟨sp, W', A', ⟨a4.keep h.head hW, a1, fun hm => ?_, hk⟩, rfl, rfl⟩, fun x hx => ?_, fun x hx => ?_, a4.mono (fun x hx => .inl (List.mem_cons_of_mem _ hx))⟩
 ·rcases a3 q hm with h4 | h4
  ·exact h.out h4
  ·omega
 ·rcases List.mem_cons.1 hx with rfl | hx
  ·exact .inl (by simp)
  ·rcases a2 x hx with h4 | h4
   ·exact .inl (List.mem_cons_of_mem _ h4)
   ·exact .inr h4
 ·rcases List.mem_cons.1 hx with rfl | hx
  ·exact .inl (by simp)
  ·rcases a3 x hx with h4 | h4
   ·exact .inl (List.mem_cons_of_mem _ h4)
   ·exact .inr h4
theorem RStOk.cells {w : World} {q sp m : Nat} {W A : List Nat} {t : Sto} (h : RStOk w q sp m W A t) : w.cell? ⟨q, 0, none⟩ = some (.pointer (some ⟨m, 0, none⟩)) /\ w.cell? ⟨q, 1, none⟩ = some (.pointer (some ⟨sp, 0, none⟩)) /\ w.cell? ⟨q, 2, none⟩ = some (.bool t.whole) :=
 ⟨blk_cell h.head 0 _ rfl, blk_cell h.head 1 _ rfl, blk_cell h.head 2 _ rfl⟩
theorem RSlotsAt.okk {w : World} {q m : Nat} {W A : List Nat} {s : SS} (h : RSlotsAt w q m W A s) : s.Ok := by
 obtain ⟨V, F, rv, R, H⟩ := h
 exact H.ok
theorem RSlotsAt.fewR {w : World} {q m : Nat} {W A : List Nat} {s : SS} (h : RSlotsAt w q m W A s) : s.first + 8 * s.rows.length <= s.d.n /\ s.d.n <= 4160 := by
 obtain ⟨V, F, rv, R, H⟩ := h
 exact H.few
theorem rend_any (b g : Nat) (l : List UInt8) (bad : Int) (w : World) (h : REyeAt w b g l bad) :
  Calls Tryz.prog 63 #[.pointer (some ⟨b, 0, none⟩)] w fun e w' => e = .returned (.int .i64 (endOf l bad)) /\ w = w' := by
 obtain ⟨v, hb, hv, _, _⟩ := h
 obtain ⟨a, cap, rfl⟩ := hv.slice
 have h0 := blk_cell hb 0 _ rfl
 have h1 := blk_cell hb 1 _ rfl
 unfold endOf
 clear hb hv
 by_cases hbad : bad = 0
 ·subst hbad
  rw [if_neg (by simp)]
  by_cases hl : l = []
  ·subst hl
   rw [if_pos rfl]
   go_enter Tryz.func63, Tryz.ntmps63
   go_wp2
   go_ret
   exact ⟨rfl, rfl⟩
  ·rw [if_neg hl]
   have hp : 0 < l.length := List.length_pos_iff.2 hl
   clear hl
   go_enter Tryz.func63, Tryz.ntmps63
   go_wp2
   go_ret
   exact ⟨rfl, rfl⟩
 ·rw [if_pos hbad]
  have q : (bad != 0) = true := by simp [hbad]
  clear hbad
  go_enter Tryz.func63, Tryz.ntmps63
  go_wp2
  go_ret
  exact ⟨rfl, rfl⟩
structure REyeNew (w0 w : World) (b g N : Nat) (x : Id) (r : Int × List UInt8 × Int) : Prop where
 eye : REyeAt w b g r.2.1 r.2.2
 chg : Chg [] w0 w
 own : w0.heap.size <= b
 blk : w.heap[N]? = some (.cells (idC x) 38 (0, 0))
 own2 : w0.heap.size <= N
 ne : N ≠ b /\ N ≠ g
theorem REyeNew.num {w0 w : World} {b g N : Nat} {x : Id} {r : Int × List UInt8 × Int} (h : REyeNew w0 w b g N x r) (n : Nat) (h1 : 1 <= n) (h7 : n <= 7) (r' : Int × List UInt8 × Int) (hr : r' = eyeNum r.2.1 r.2.2 n) :
  Calls Tryz.prog 59 #[.pointer (some ⟨b, 0, none⟩), .int .i64 n] w fun e w' => e = .returned (.int .i64 r'.1) /\ REyeNew w0 w' b g N x r' := by
 subst hr
 refine (rnum_any b g r.2.1 r.2.2 n w h.eye (by omega) (by omega)).mono ?_
 rintro e w' ⟨rfl, h2, h3⟩
 refine ⟨rfl, h2, h.chg.trans h3 (fun x hx => .inr ?_), h.own, h3.keep h.blk (by simpa using h.ne.1), h.own2, h.ne⟩
 rw [List.mem_singleton.1 hx]; exact h.own
theorem REyeNew.set {w0 w : World} {b g N : Nat} {x y : Id} {r : Int × List UInt8 × Int} (h : REyeNew w0 w b g N x r) (j : Nat) (u : Value) (hy : (idC x).setIfInBounds j u = idC y) : REyeNew w0 (w.setCell ⟨N, j, none⟩ u) b g N y r := by
 have hc : Chg [N] w (w.setCell ⟨N, j, none⟩ u) := (Chg.refl [N] w).setCell (p := ⟨N, j, none⟩) (.inl (by simp)) u
 refine ⟨h.eye.keep hc (by simpa using Ne.symm h.ne.1) (by simpa using Ne.symm h.ne.2), h.chg.setCell (p := ⟨N, j, none⟩) (.inr h.own2) u, h.own, ?_, h.own2, h.ne⟩
 rw [<- hy]; exact set_blk h.blk
theorem REyeNew.cells {w0 w : World} {b g N : Nat} {a c d e : Int} {r : Int × List UInt8 × Int} (h : REyeNew w0 w b g N ⟨a, c, d, e⟩ r) : (w.cell? ⟨N, 0, none⟩ = some (.int .i64 a) /\ w.cell? ⟨N, 1, none⟩ = some (.int .i64 c) /\ w.cell? ⟨N, 2, none⟩ = some (.int .i64 d) /\ w.cell? ⟨N, 3, none⟩ = some (.int .i64 e)) /\
  w.frozen? ⟨N, 0, none⟩ = false /\ w.frozen? ⟨N, 1, none⟩ = false /\ w.frozen? ⟨N, 2, none⟩ = false /\ w.frozen? ⟨N, 3, none⟩ = false :=
 ⟨id_cells h.blk, blk_frozen h.blk 0, blk_frozen h.blk 1, blk_frozen h.blk 2, blk_frozen h.blk 3⟩
theorem BytesAt.reye {w : World} {v : Value} {l : List UInt8} (h : BytesAt w v l) (M : Nat) : ∃ g, REyeV w v g l /\ (g < w.heap.size ∨ g = M) := by
 obtain ⟨a, cap, rfl, h1, h2, h3⟩ := h
 by_cases hl : l = []
 ·subst hl
  exact ⟨M, .inl ⟨rfl, a, cap, rfl⟩, .inr rfl⟩
 ·rcases h3 with ⟨h3, _⟩ | ⟨g, o, rfl, hc⟩
  ·exact absurd h3 hl
  ·have hp : 0 < l.length := List.length_pos_iff.2 hl
   have hg := World.block_lt_of_cell? w _ (hc 0 hp)
   exact ⟨g, .inr ⟨o, cap, rfl, h1, h2, hg, hc⟩, .inl hg⟩
theorem runkey_any (v : Value) (l : List UInt8) (w : World) (h : BytesAt w v l) (hl : l.length <= 100000) :
  Calls Tryz.prog 116 #[v] w fun e w' => e = .returned (.tuple #[idV (unId l), .bool (unOk l)]) /\ Chg [] w w' := by
 obtain ⟨w1, hw1⟩ : ∃ w1, w1 = w.alloc (.cells (idC ⟨0, 0, 0, 0⟩) 38) := ⟨_, rfl⟩
 have hc1 : Chg [] w w1 := by rw [hw1]; exact (Chg.refl [] w).alloc _
 have hb1 : w1.heap[w.heap.size]? = some (.cells (idC ⟨0, 0, 0, 0⟩) 38 (0, 0)) := by rw [hw1]; exact heap_alloc_new w _
 have hs1 : w1.heap.size = w.heap.size + 1 := by rw [hw1]; simp
 obtain ⟨w2, hw2⟩ : ∃ w2, w2 = w1.alloc (.cells #[v, .int .i64 0] 127) := ⟨_, rfl⟩
 have hc2 : Chg [] w1 w2 := by rw [hw2]; exact (Chg.refl [] w1).alloc _
 have hb2 : w2.heap[w1.heap.size]? = some (.cells #[v, .int .i64 0] 127 (0, 0)) := by rw [hw2]; exact heap_alloc_new w1 _
 have hs2 : w2.heap.size = w.heap.size + 1 + 1 := by rw [hw2]; simp [hs1]
 obtain ⟨w3, hw3⟩ : ∃ w3, w3 = w2.alloc (.cells (idC ⟨0, 0, 0, 0⟩) 38) := ⟨_, rfl⟩
 have hc3 : Chg [] w2 w3 := by rw [hw3]; exact (Chg.refl [] w2).alloc _
 have hb3 : w3.heap[w2.heap.size]? = some (.cells (idC ⟨0, 0, 0, 0⟩) 38 (0, 0)) := by rw [hw3]; exact heap_alloc_new w2 _
 obtain ⟨g, hev, hgg⟩ := h.reye w.heap.size
 have hc13 : Chg [] w1 w3 := hc2.trans hc3 (by simp)
 have hen : REyeNew w1 w3 w1.heap.size g w2.heap.size ⟨0, 0, 0, 0⟩ (0, l, 0) := ⟨⟨v, hc3.keep hb2 (by simp), hev.keepC (hc1.trans hc13 (by simp)) (by simp), by omega, by dsimp only; omega⟩, hc13, Nat.le_refl _, hb3, hc2.size, by omega, by omega⟩
 have CN := LH (hen.num 1 (by omega) (by omega) (un1 l) rfl)
 have HB := LH hb1
 have HB2 := LH (hc13.keep hb1 (by simp))
 have HC1 := LH hc1
 have HW1 := LH hw1
 have HW2 := LH hw2
 have HW3 := LH hw3
 have HS1 := LH hs1
 have HS2 := LH hs2
 obtain ⟨a, cap, hv⟩ := h.slice
 subst hv
 have HU : Hid (unId l = ⟨(un1 l).1, (un2 l).1, (un3 l).1, (un4 l).1⟩ /\ unOk l = (decide (endOf (un4 l).2.1 (un4 l).2.2 = 0) && mayId (unId l))) := LH ⟨rfl, by
  unfold unOk endOf
  by_cases h1 : (un4 l).2.2 = 0
  ·by_cases h2 : (un4 l).2.1 = [] <;> simp [h1, h2]
  ·simp [h1]⟩
 have hlt : w.heap.size < w2.heap.size := by omega
 rw [hs1, hs2] at CN
 rw [hs2] at hlt
 clear h hw1 hb1 hc1 hw2 hc2 hb2 hw3 hc3 hb3 hen hev hc13 hgg hs1 hs2
 obtain ⟨b, hbb⟩ : ∃ b, b = w.heap.size + 1 := ⟨_, rfl⟩
 obtain ⟨N, hNN⟩ : ∃ N, N = w.heap.size + 1 + 1 := ⟨_, rfl⟩
 rw [<- hNN, <- hbb] at CN
 have HBB := LH hbb
 have HNN := LH hNN
 rw [<- hNN] at hlt
 clear hbb hNN
 go_enter Tryz.func116, Tryz.ntmps116
 go_wp2_with fail
 rw [<- HW1.out, <- HW2.out, <- HW3.out]
 try rw [HS1.out]
 try rw [HS2.out]
 try rw [<- HNN.out]
 try rw [<- HBB.out]
 refine CN.out.mono ?_
 rintro e w4 ⟨rfl, h4⟩
 obtain ⟨⟨m0, m1, m2, m3⟩, f0, f1, f2, f3⟩ := h4.cells
 have h4' := h4.set 0 (.int .i64 (un1 l).1) (y := ⟨(un1 l).1, 0, 0, 0⟩) rfl
 have CN4 := LH (h4'.num 3 (by omega) (by omega) (un2 l) rfl)
 clear h4 h4' CN
 go_wp2_with fail
 refine CN4.out.mono ?_
 rintro e w5 ⟨rfl, h5⟩
 obtain ⟨⟨m0, m1, m2, m3⟩, f0, f1, f2, f3⟩ := h5.cells
 have h5' := h5.set 1 (.int .i64 (un2 l).1) (y := ⟨(un1 l).1, (un2 l).1, 0, 0⟩) rfl
 have CN5 := LH (h5'.num 4 (by omega) (by omega) (un3 l) rfl)
 clear h5 h5' CN4
 go_wp2_with fail
 refine CN5.out.mono ?_
 rintro e w6 ⟨rfl, h6⟩
 obtain ⟨⟨m0, m1, m2, m3⟩, f0, f1, f2, f3⟩ := h6.cells
 have h6' := h6.set 2 (.int .i64 (un3 l).1) (y := ⟨(un1 l).1, (un2 l).1, (un3 l).1, 0⟩) rfl
 have CN6 := LH (h6'.num 1 (by omega) (by omega) (un4 l) rfl)
 clear h6 h6' CN5
 go_wp2_with fail
 refine CN6.out.mono ?_
 rintro e w7 ⟨rfl, h7⟩
 obtain ⟨⟨m0, m1, m2, m3⟩, f0, f1, f2, f3⟩ := h7.cells
 have h7' := h7.set 3 (.int .i64 (un4 l).1) (y := ⟨(un1 l).1, (un2 l).1, (un3 l).1, (un4 l).1⟩) rfl
 rw [<- HU.out.1] at h7'
 have HE := LH h7'
 have HUI := LH HU.out.2
 clear h7 h7' CN6 HU
 generalize un4 l = z4 at *
 obtain ⟨x, hx⟩ : ∃ x, x = unId l := ⟨_, rfl⟩
 obtain ⟨ok, hok⟩ : ∃ ok, ok = unOk l := ⟨_, rfl⟩
 rw [<- hx] at HE HUI
 rw [<- hok] at HUI
 have HX := LH hx
 have HOK := LH hok
 clear hx hok
 go_wp2_with fail
 obtain ⟨xc, xl, xn, xi⟩ := x
 generalize hw8 : w7.setCell _ _ = w8 at *
 have HE8 := LH (show REyeNew w1 w8.drew b g N _ z4 from ⟨HE.out.eye.keep ((Chg.refl [] _).drew) (by simp) (by simp), HE.out.chg.drew, HE.out.own, HE.out.blk, HE.out.own2, HE.out.ne⟩)
 have HR8 := LH (HE8.out.chg.keep HB.out (by simp))
 have CF := LH (rend_any b g _ _ _ HE8.out.eye)
 have mm := id_cells HE8.out.blk
 obtain ⟨r, hr⟩ : ∃ r, r = endOf z4.2.1 z4.2.2 := ⟨_, rfl⟩
 rw [<- hr] at CF HUI
 clear hr HE hw8 m0 m1 m2 m3 f0 f1 f2 f3
 by_cases hr0 : r = 0
 ·subst hr0
  have CM := LH (rmayid_any ⟨xc, xl, xn, xi⟩ w8.drew)
  have hk : ok = mayId ⟨xc, xl, xn, xi⟩ := by simpa using HUI.out
  subst hk
  refine wp_region_L [(8, fun w' => (w'.cell? ⟨N, 0, none⟩ = some (.int .i64 xc) /\ w'.cell? ⟨N, 1, none⟩ = some (.int .i64 xl) /\ w'.cell? ⟨N, 2, none⟩ = some (.int .i64 xn) /\ w'.cell? ⟨N, 3, none⟩ = some (.int .i64 xi))), (6, fun w' => (w'.cell? ⟨N, 0, none⟩ = some (.int .i64 xc) /\ w'.cell? ⟨N, 1, none⟩ = some (.int .i64 xl) /\ w'.cell? ⟨N, 2, none⟩ = some (.int .i64 xn) /\ w'.cell? ⟨N, 3, none⟩ = some (.int .i64 xi)))] (by kernel_rfl) ?_ (fun hHeld => ?_)
  ·exact (HoldC.cons (mm) (HoldC.cons (mm) HoldC.nil))
  refine ld 0 0 ?_ rfl rfl (by kernel_rfl) (fun _ _ _ h => h) (.inl ⟨by rfl, ?_⟩) hHeld ?_; rotate_left; · (intro w hSw; (try dsimp only at hSw); go_simp; try with_reducible rfl)
  clear hHeld; intro hHeld; try simp only [gA,gB,gC,Act.put,gD,gE,gF]
  refine tk 1 ?_ rfl (by kernel_rfl) (fun _ _ _ h => h) (.inl ⟨by rfl, ?_⟩) hHeld ?_; rotate_left; · (intro w _; go_simp; try with_reducible rfl)
  clear hHeld; intro hHeld; try simp only [gA,gB,gC,Act.put,gD,gE,gF]
  refine wpAnyL_ready (rs := [2]) (by kernel_rfl) (by simp) (AllReadyL.cons (o := _) rfl (fun K hK => ?_) AllReadyL.nil)
  try simp only [gA,gB,gC]
  go_simp
  refine (CF.out).mono ?_
  rintro e w9 ⟨rfl, hw9⟩
  subst hw9
  clear hHeld
  refine hK.out _ _ ?_ (fun hHeld => ?_)
  ·exact (HoldC.cons (mm) (HoldC.cons (mm) HoldC.nil))
  clear hK K
  try simp only [gA,gB,gC,Act.put,gD,gE,gF]
  refine tk 3 ?_ rfl (by kernel_rfl) (fun _ _ _ h => h) (.inl ⟨by rfl, ?_⟩) hHeld ?_; rotate_left; · (intro w _; go_simp; try with_reducible rfl)
  clear hHeld; intro hHeld; try simp only [gA,gB,gC,Act.put,gD,gE,gF]
  refine tk 4 ?_ rfl (by kernel_rfl) (fun _ _ _ h => h) (.inl ⟨by rfl, ?_⟩) hHeld ?_; rotate_left; · (intro w _; go_simp; try with_reducible rfl)
  clear hHeld; intro hHeld; try simp only [gA,gB,gC,Act.put,gD,gE,gF]
  refine ld 1 5 ?_ rfl rfl (by kernel_rfl) (fun _ _ _ h => h) (.inl ⟨by rfl, ?_⟩) hHeld ?_; rotate_left; · (intro w hSw; (try dsimp only at hSw); go_simp; try with_reducible rfl)
  clear hHeld; intro hHeld; try simp only [gA,gB,gC,Act.put,gD,gE,gF]
  refine wpAnyL_ready (rs := [6]) (by kernel_rfl) (by simp) (AllReadyL.cons (o := _) rfl (fun K hK => ?_) AllReadyL.nil)
  try simp only [gA,gB,gC]
  go_simp
  refine CM.out.mono ?_
  rintro e w10 ⟨rfl, hc10⟩
  have HC10 := LH hc10
  have mm := id_cells (hc10.keep HE8.out.blk (by simp))
  clear hc10
  clear hHeld
  refine hK.out _ _ ?_ (fun hHeld => ?_)
  ·exact (HoldC.cons (mm) (HoldC.past (by kernel_rfl) HoldC.nil))
  clear hK K
  try simp only [gA,gB,gC,Act.put,gD,gE,gF]
  refine tk 7 ?_ rfl (by kernel_rfl) (fun _ _ _ h => h) (.inl ⟨by rfl, ?_⟩) hHeld ?_; rotate_left; · (intro w _; go_simp; try with_reducible rfl)
  clear hHeld; intro hHeld; try simp only [gA,gB,gC,Act.put,gD,gE,gF]
  obtain ⟨v0, v1, v2, v3⟩ := id_cells (HC10.out.keep HR8.out (by simp))
  have y0 := blk_frozen (HC10.out.keep HR8.out (by simp)) 0
  have y1 := blk_frozen (HC10.out.keep HR8.out (by simp)) 1
  have y2 := blk_frozen (HC10.out.keep HR8.out (by simp)) 2
  have y3 := blk_frozen (HC10.out.keep HR8.out (by simp)) 3
  refine wpAnyL_ready (rs := [8]) (by kernel_rfl) (by simp) (AllReadyL.cons (o := _) rfl (fun K hK => ?_) AllReadyL.nil)
  try simp only [gA,gB,gC]
  go_simp
  clear hHeld
  refine hK.out _ _ ?_ (fun hHeld => ?_)
  ·exact (HoldC.past (by kernel_rfl) (HoldC.past (by kernel_rfl) HoldC.nil))
  clear hK K
  try simp only [gA,gB,gC,Act.put,gD,gE,gF]
  refine tk 9 ?_ rfl (by kernel_rfl) (fun _ _ _ h => h) (.inl ⟨by rfl, ?_⟩) hHeld ?_; rotate_left; · (intro w _; go_simp; try with_reducible rfl)
  clear hHeld; intro hHeld; try simp only [gA,gB,gC,Act.put,gD,gE,gF]
  refine wpAnyL_done (by kernel_rfl) ?_ _
  clear hHeld
  go_wp2_with fail
  have HW := LH (id_written (HC10.out.keep HR8.out (by simp)) ⟨xc, xl, xn, xi⟩)
  refine bodyPost_ret (ret_id rfl _ rfl rfl HW.out) rfl ?_
  refine ⟨by rw [<- HX.out, <- HOK.out]; rfl, ?_⟩
  have hc := (HC1.out.trans (HE8.out.chg.trans HC10.out (by simp)) (by simp))
  exact (((hc.setCell (.inr (Nat.le_refl _)) _).setCell (.inr (Nat.le_refl _)) _).setCell (.inr (Nat.le_refl _)) _).setCell (.inr (Nat.le_refl _)) _
 ·have hk : ok = false := by simpa [hr0] using HUI.out
  subst hk
  have qr : (r == 0) = false := by simpa using hr0
  refine wp_region_L [(8, fun w' => (w'.cell? ⟨N, 0, none⟩ = some (.int .i64 xc) /\ w'.cell? ⟨N, 1, none⟩ = some (.int .i64 xl) /\ w'.cell? ⟨N, 2, none⟩ = some (.int .i64 xn) /\ w'.cell? ⟨N, 3, none⟩ = some (.int .i64 xi)))] (by kernel_rfl) ?_ (fun hHeld => ?_)
  ·exact (HoldC.cons (mm) HoldC.nil)
  refine ld 0 0 ?_ rfl rfl (by kernel_rfl) (fun _ _ _ h => h) (.inl ⟨by rfl, ?_⟩) hHeld ?_; rotate_left; · (intro w hSw; (try dsimp only at hSw); go_simp; try with_reducible rfl)
  clear hHeld; intro hHeld; try simp only [gA,gB,gC,Act.put,gD,gE,gF]
  refine tk 1 ?_ rfl (by kernel_rfl) (fun _ _ _ h => h) (.inl ⟨by rfl, ?_⟩) hHeld ?_; rotate_left; · (intro w _; go_simp; try with_reducible rfl)
  clear hHeld; intro hHeld; try simp only [gA,gB,gC,Act.put,gD,gE,gF]
  refine wpAnyL_ready (rs := [2]) (by kernel_rfl) (by simp) (AllReadyL.cons (o := _) rfl (fun K hK => ?_) AllReadyL.nil)
  try simp only [gA,gB,gC]
  go_simp
  refine (CF.out).mono ?_
  rintro e w9 ⟨rfl, hw9⟩
  subst hw9
  clear hHeld
  refine hK.out _ _ ?_ (fun hHeld => ?_)
  ·exact (HoldC.cons (mm) HoldC.nil)
  clear hK K
  try simp only [gA,gB,gC,Act.put,gD,gE,gF]
  refine tk 3 ?_ rfl (by kernel_rfl) (fun _ _ _ h => h) (.inl ⟨by rfl, ?_⟩) hHeld ?_; rotate_left; · (intro w _; go_simp; try with_reducible rfl)
  clear hHeld; intro hHeld; try simp only [gA,gB,gC,Act.put,gD,gE,gF]
  refine tk 4 ?_ rfl (by kernel_rfl) (fun _ _ _ h => h) (.inl ⟨by rfl, ?_⟩) hHeld ?_; rotate_left; · (intro w _; go_simp; try with_reducible rfl)
  clear hHeld; intro hHeld; try simp only [gA,gB,gC,Act.put,gD,gE,gF]
  refine wpAnyL_take (i := 5) (oi := _) (v := _) rfl (by kernel_rfl) (by kernel_rfl) (by kernel_rfl) (by kernel_rfl) (by kernel_rfl) (fun _ _ _ h => h) (Or.inr ⟨by rfl, rfl⟩) (by assumption) (fun hNew => ?_)
  clear hHeld
  have hHeld := hNew
  clear hNew
  try simp only [gA,gB,gC,Act.put,gD,gE,gF]
  refine wpAnyL_take (i := 6) (oi := _) (v := _) rfl (by kernel_rfl) (by kernel_rfl) (by kernel_rfl) (by kernel_rfl) (by kernel_rfl) (fun _ _ _ h => h) (Or.inr ⟨by rfl, rfl⟩) (by assumption) (fun hNew => ?_)
  clear hHeld
  have hHeld := hNew
  clear hNew
  try simp only [gA,gB,gC,Act.put,gD,gE,gF]
  refine tk 7 ?_ rfl (by kernel_rfl) (fun _ _ _ h => h) (.inl ⟨by rfl, ?_⟩) hHeld ?_; rotate_left; · (intro w _; go_simp; try with_reducible rfl)
  clear hHeld; intro hHeld; try simp only [gA,gB,gC,Act.put,gD,gE,gF]
  have HR9 : w8.heap[w.heap.size]? = some (.cells (idC ⟨0, 0, 0, 0⟩) 38 (0, 0)) := HR8.out
  obtain ⟨v0, v1, v2, v3⟩ := id_cells HR9
  have y0 := blk_frozen HR9 0
  have y1 := blk_frozen HR9 1
  have y2 := blk_frozen HR9 2
  have y3 := blk_frozen HR9 3
  clear HR9
  refine wpAnyL_ready (rs := [8]) (by kernel_rfl) (by simp) (AllReadyL.cons (o := _) rfl (fun K hK => ?_) AllReadyL.nil)
  try simp only [gA,gB,gC]
  go_simp
  clear hHeld
  refine hK.out _ _ ?_ (fun hHeld => ?_)
  ·exact (HoldC.past (by kernel_rfl) HoldC.nil)
  clear hK K
  try simp only [gA,gB,gC,Act.put,gD,gE,gF]
  refine tk 9 ?_ rfl (by kernel_rfl) (fun _ _ _ h => h) (.inl ⟨by rfl, ?_⟩) hHeld ?_; rotate_left; · (intro w _; go_simp; try with_reducible rfl)
  clear hHeld; intro hHeld; try simp only [gA,gB,gC,Act.put,gD,gE,gF]
  refine wpAnyL_done (by kernel_rfl) ?_ _
  clear hHeld
  go_wp2_with fail
  have HW := LH (id_written HR8.out ⟨xc, xl, xn, xi⟩)
  refine bodyPost_ret (ret_id rfl _ rfl rfl HW.out) rfl ?_
  refine ⟨by rw [<- HX.out, <- HOK.out]; rfl, ?_⟩
  have hc := HC1.out.trans HE8.out.chg (by simp)
  exact (((hc.setCell (.inr (Nat.le_refl _)) _).setCell (.inr (Nat.le_refl _)) _).setCell (.inr (Nat.le_refl _)) _).setCell (.inr (Nat.le_refl _)) _
theorem DS.write_dead {d : DS} (h : d.dead = true) (k : Int) (b : List UInt8) : d.write k b = (14, d) := by unfold DS.write; rw [if_pos h]
theorem DS.sync_dead {d : DS} (h : d.dead = true) : d.sync = (14, d) := by unfold DS.sync; rw [if_pos h]
theorem DS.lays_dead {d : DS} (h : d.dead = true) (pos : Nat) (b : List UInt8) : d.lays pos b = (14, d) := by
 unfold DS.lays
 cases nsec b.length with
 | zero => exact DS.sync_dead h
 | succ k =>
  unfold DS.lay
  rw [DS.write_dead h]
  rfl
theorem DS.lays_one {d : DS} (pos : Nat) (b : List UInt8) (h : nsec b.length = 1) : d.lays pos b = if (d.write (pos : Int) (secAt b 0)).1 ≠ 0 then d.write (pos : Int) (secAt b 0) else (d.write (pos : Int) (secAt b 0)).2.sync := by
 unfold DS.lays
 rw [h]
 rfl
theorem secAt_zero : secAt (zeros 64) 0 = zeros 64 := by kernel_rfl
def RSidPost (w : World) (q m : Nat) (W A : List Nat) (r : Int × SS) (e : Ending) (w' : World) : Prop := e = .returned (.int .i64 r.1) /\ RSid w w' q m W A r.2
theorem RSidPost.same {w : World} {q m : Nat} {W A : List Nat} {s : SS} {c : Int} (h : RSlotsAt w q m W A s) : RSidPost w q m W A (c, s) (.returned (.int .i64 c)) w := ⟨rfl, RSid.same h⟩
theorem rclear_any (q m : Nat) (W A : List Nat) (s : SS) (i : Int) (w : World) (h : RSlotsAt w q m W A s) (ho : s.d.ops <= 900000000) (hw : s.d.since.length <= 900000) :
  Calls Tryz.prog 115 #[.pointer (some ⟨q, 0, none⟩), .int .i64 i] w (RSidPost w q m W A (s.clear i)) := by
 have HS := LH h
 obtain ⟨V, F, rv, R, H⟩ := h
 have HH := LH H
 have c0 : w.cell? ⟨q, 0, none⟩ = some (.pointer (some ⟨m, 0, none⟩)) := blk_cell H.obj.head 0 _ rfl
 have c1 : w.cell? ⟨q, 1, none⟩ = some (.int .i64 (s.first : Int)) := blk_cell H.obj.head 1 _ rfl
 have c2 : w.cell? ⟨q, 2, none⟩ = some rv := blk_cell H.obj.head 2 _ rfl
 obtain ⟨a0, cap0, hrv0, hcap0⟩ := H.form
 have hfew := H.few
 by_cases hi : s.has i
 ·have hi' := hi
  obtain ⟨h0, h1⟩ := hi'
  obtain ⟨j, rfl⟩ := Int.eq_ofNat_of_zero_le h0
  have hjl : j < s.rows.length := by omega
  obtain ⟨g, cap, kv, hrv, hcap, hcm, k0, k1, k2, k3, k4⟩ := H.at j hjl
  have hrow : s.row (j : Int) = s.rows.getD j noRow := rfl
  have hroom := H.ok.room
  have q0 : decide ((j : Int) < 0) = false := decide_eq_false (by omega)
  by_cases hu : (s.row (j : Int)).used = false
  ·have hg : s.clear (j : Int) = (6, s) := by unfold SS.clear; rw [if_neg (by simpa using hi), if_pos hu]
   have HP := LH (RSidPost.same (c := 6) HS.out)
   have HG := LH hg
   rw [HG.out]
   rw [hrow] at hu
   rw [hu] at k0
   subst hrv
   generalize s.rows.getD j noRow = r at *
   generalize s.rows.length = n at *
   have hjz : (j : Int) < (n : Int) := by omega
   have hjz1 : (j : Int).toNat = j := by omega
   have hnj : ¬ n <= j := by omega
   clear H HH c0 c1 k1 k2 k3 k4 hu hg hi hrow hroom hrv0
   go_enter Tryz.func115, Tryz.ntmps115
   go_wp2
   go_ret
   exact HP.out
  ·have hu' : (s.rows.getD j noRow).used = true := by rw [<- hrow]; simpa using hu
   rw [hu'] at k0
   have hg : s.clear (j : Int) = if (s.d.lays (s.pos j) (zeros 64)).1 ≠ 0 then ((s.d.lays (s.pos j) (zeros 64)).1, { s with d := (s.d.lays (s.pos j) (zeros 64)).2 }) else
         (0, { s with d := (s.d.lays (s.pos j) (zeros 64)).2, rows := s.rows.set j noRow }) := by
    unfold SS.clear
    rw [if_neg (by simpa using hi), if_neg hu]
    rfl
   have hpos : s.pos (j : Int) = s.first + 8 * j := rfl
   obtain ⟨p6, hnd, -⟩ := H.disk.read
   have hfj : ((s.first : Int) + (j : Int) * 8) = ((s.pos (j : Int) : Nat) : Int) := by rw [hpos]; omega
   have hpl : s.pos (j : Int) + 8 <= s.d.n := by rw [hpos]; omega
   have hff : s.first <= 4160 := by omega
   have hj5 : j <= 1000 := by omega
   have hnj : ¬ s.rows.length <= j := by omega
   have hjz : (j : Int) < (s.rows.length : Int) := by omega
   have hjz1 : (j : Int).toNat = j := by omega
   by_cases hd : s.d.dead = true
   ·have hgg : s.clear (j : Int) = (14, s) := by rw [hg, DS.lays_dead hd, if_pos (by simp)]
    have HP := LH (RSidPost.same (c := 14) HS.out)
    have HG := LH hgg
    rw [HG.out]
    rw [hd] at p6
    subst hrv
    generalize s.rows.length = n at *
    clear H HH c1 k1 k2 k3 k4 hu hg hgg hi hrow hroom hrv0 hpos hfj hpl hd
    go_enter Tryz.func115, Tryz.ntmps115
    go_wp2
    go_ret
    exact HP.out
   ·have hd' : s.d.dead = false := by simpa using hd
    rw [hd'] at p6
    have hwo := DS.write_ok s.d ((s.pos (j : Int) : Nat) : Int) (zeros 64)
    have hso := DS.sync_ok (s.d.write ((s.pos (j : Int) : Nat) : Int) (zeros 64)).2
    rw [DS.lays_one (s.pos j) (zeros 64) rfl, secAt_zero] at hg
    have CW := LH (fun wr v (hc : Chg [] w wr) (hv : BytesAt wr v (zeros 64)) hvo => rwrite_any m V F s.d (s.pos j) v (zeros 64) wr (H.disk.keep hc (by simp)) (by omega) (by omega) (by omega) (by simp [zeros]) hv hvo)
    obtain ⟨pos, hpp⟩ : ∃ pos, pos = s.pos (j : Int) := ⟨_, rfl⟩
    rw [<- hpp] at hg hfj hpl CW hwo hso
    obtain ⟨Z, hZ⟩ : ∃ Z, Z = s.clear (j : Int) := ⟨_, rfl⟩
    rw [<- hZ] at hg ⊢
    obtain ⟨n, hn⟩ : ∃ n, n = s.rows.length := ⟨_, rfl⟩
    rw [<- hn] at hrv hcap hnj hjz hjl
    have HN := LH hn
    subst hrv
    clear H k1 k2 k3 k4 hu hu' hi hrow hroom hrv0 hpos hd hd' hZ hpp hn hfew h1 hcap0
    generalize s.d.write (pos : Int) (zeros 64) = zw at *
    obtain ⟨r1, d1⟩ := zw
    dsimp only at hg CW hwo hso
    generalize hzs : d1.sync = zs at *
    have HZS := LH hzs
    clear hzs
    obtain ⟨r2, d2⟩ := zs
    dsimp only at hg hso
    have HG := LH hg
    clear hg
    have hmk := make_64
    obtain ⟨fst, hfst⟩ : ∃ fst, fst = s.first := ⟨_, rfl⟩
    rw [<- hfst] at c1 hfj hff
    clear hfst
    have hwr : Hid (IntKind.i64.wrap ((fst : Int) + IntKind.i64.wrap ((j : Int) * 8)) = (pos : Int)) := LH (by rw [IntWalk.i64_in ((j : Int) * 8) ⟨by omega, by omega⟩, IntWalk.i64_in _ ⟨by omega, by omega⟩]; exact hfj)
    go_enter Tryz.func115, Tryz.ntmps115
    go_wp2_with fail
    refine wp_region_L [(12, fun w' => w'.cell? ⟨q, 0, none⟩ = some (.pointer (some ⟨m, 0, none⟩))), (12, fun w' => w'.cell? ⟨q, 1, none⟩ = some (.int .i64 (fst : Int)))] (by kernel_rfl) ?_ (fun hHeld => ?_)
    ·exact (HoldC.cons (c0) (HoldC.cons (c1) HoldC.nil))
    refine tk 0 ?_ rfl (by kernel_rfl) (fun _ _ _ h => h) (.inl ⟨by rfl, ?_⟩) hHeld ?_; rotate_left; · (intro w _; go_simp; try with_reducible rfl)
    clear hHeld; intro hHeld; try simp only [gA,gB,gC,Act.put,gD,gE,gF]
    refine tk 1 ?_ rfl (by kernel_rfl) (fun _ _ _ h => h) (.inl ⟨by rfl, ?_⟩) hHeld ?_; rotate_left; · (intro w _; go_simp; try with_reducible rfl)
    clear hHeld; intro hHeld; try simp only [gA,gB,gC,Act.put,gD,gE,gF]
    refine tk 2 ?_ rfl (by kernel_rfl) (fun _ _ _ h => h) (.inl ⟨by rfl, ?_⟩) hHeld ?_; rotate_left; · (intro w _; go_simp; try with_reducible rfl)
    clear hHeld; intro hHeld; try simp only [gA,gB,gC,Act.put,gD,gE,gF]
    refine tk 4 ?_ rfl (by kernel_rfl) (fun _ _ _ h => h) (.inl ⟨by rfl, ?_⟩) hHeld ?_; rotate_left; · (intro w _; go_simp; try with_reducible rfl)
    clear hHeld; intro hHeld; try simp only [gA,gB,gC,Act.put,gD,gE,gF]
    refine tk 5 ?_ rfl (by kernel_rfl) (fun _ _ _ h => h) (.inl ⟨by rfl, ?_⟩) hHeld ?_; rotate_left; · (intro w _; go_simp; try with_reducible rfl)
    clear hHeld; intro hHeld; try simp only [gA,gB,gC,Act.put,gD,gE,gF]
    refine tk 6 ?_ rfl (by kernel_rfl) (fun _ _ _ h => h) (.inl ⟨by rfl, ?_⟩) hHeld ?_; rotate_left; · (intro w _; go_simp; try with_reducible rfl)
    clear hHeld; intro hHeld; try simp only [gA,gB,gC,Act.put,gD,gE,gF]
    refine tk 8 ?_ rfl (by kernel_rfl) (fun _ _ _ h => h) (.inl ⟨by rfl, ?_⟩) hHeld ?_; rotate_left; · (intro w _; go_simp; try with_reducible rfl)
    clear hHeld; intro hHeld; try simp only [gA,gB,gC,Act.put,gD,gE,gF]
    refine tk 9 ?_ rfl (by kernel_rfl) (fun _ _ _ h => h) (.inl ⟨by rfl, ?_⟩) hHeld ?_; rotate_left; · (intro w _; go_simp; try with_reducible rfl)
    clear hHeld; intro hHeld; try simp only [gA,gB,gC,Act.put,gD,gE,gF]
    refine ld 0 3 ?_ rfl rfl (by kernel_rfl) (fun _ _ _ h => h) (.inl ⟨by rfl, ?_⟩) hHeld ?_; rotate_left; · (intro w hSw; (try dsimp only at hSw); go_simp; try with_reducible rfl)
    clear hHeld; intro hHeld; try simp only [gA,gB,gC,Act.put,gD,gE,gF]
    refine ld 1 7 ?_ rfl rfl (by kernel_rfl) (fun _ _ _ h => h) (.inl ⟨by rfl, ?_⟩) hHeld ?_; rotate_left; · (intro w hSw; (try dsimp only at hSw); go_simp; try with_reducible rfl)
    clear hHeld; intro hHeld; try simp only [gA,gB,gC,Act.put,gD,gE,gF]
    refine tk 10 ?_ rfl (by kernel_rfl) (fun _ _ _ h => h) (.inl ⟨by rfl, ?_⟩) hHeld ?_; rotate_left; · (intro w _; go_simp; try with_reducible rfl)
    clear hHeld; intro hHeld; try simp only [gA,gB,gC,Act.put,gD,gE,gF]
    refine wpAnyL_ready (rs := [11]) (by kernel_rfl) (by simp) (AllReadyL.cons (o := _) rfl (fun K hK => ?_) AllReadyL.nil)
    try simp only [gA,gB,gC]
    go_simp
    obtain ⟨z, hz⟩ : ∃ z, z = w.heap.size := ⟨_, rfl⟩
    have HZ := LH hz
    rw [<- hz]
    obtain ⟨w1, hw1⟩ : ∃ w1, w1 = (w.alloc (.cells Z64 5)).drew := ⟨_, rfl⟩
    rw [<- hw1]
    have hc1 : Chg [] w w1 := by rw [hw1]; exact ((Chg.refl [] w).alloc _).drew
    have hB1 : BytesAt w1 (.slice (some ⟨z, 0, none⟩) 64 64) (zeros 64) := (row_of_block (w := w1) (N := z) (l := zeros 64) (by rw [hw1, hz]; exact heap_alloc_new w _) (by simp [zeros, maxLen])).bytes
    have CW1 := LH (CW.out w1 _ hc1 hB1 (fun x hx hm => by
     obtain rfl : z = x := by simpa [Value.ownBlock] using hx
     have h1 := HH.out.lim z (HH.out.aF z (HH.out.sub.2.2.2.2 z hm))
     omega))
    have HC1 := LH hc1
    have e0 := hc1.cell c0 (by simp)
    have e1 := hc1.cell c1 (by simp)
    clear hc1 hB1 hz hw1
    clear hHeld
    refine hK.out _ _ ?_ (fun hHeld => ?_)
    ·exact (HoldC.cons (e0) (HoldC.cons (e1) HoldC.nil))
    clear hK K
    try simp only [gA,gB,gC,Act.put,gD,gE,gF]
    refine wpAnyL_ready (rs := [12]) (by kernel_rfl) (by simp) (AllReadyL.cons (o := _) rfl (fun K hK => ?_) AllReadyL.nil)
    try simp only [gA,gB,gC]
    go_simp
    try rw [hwr.out]
    refine CW1.out.mono ?_
    rintro e w3 ⟨rfl, hd3⟩
    have HS3 := LH (RSid.pre HC1.out ((HH.out.keep HC1.out (by simp)).did hd3 hwo.1))
    clear hd3 CW CW1 e0 e1 HC1
    try go_wp2_with fail
    clear hHeld
    refine hK.out _ _ ?_ (fun hHeld => ?_)
    ·exact (HoldC.past (by kernel_rfl) (HoldC.past (by kernel_rfl) HoldC.nil))
    clear hK K
    try simp only [gA,gB,gC,Act.put,gD,gE,gF]
    refine tk 13 ?_ rfl (by kernel_rfl) (fun _ _ _ h => h) (.inl ⟨by rfl, ?_⟩) hHeld ?_; rotate_left; · (intro w _; go_simp; try with_reducible rfl)
    clear hHeld; intro hHeld; try simp only [gA,gB,gC,Act.put,gD,gE,gF]
    refine wpAnyL_done (by kernel_rfl) ?_ _
    clear hHeld
    clear c0 c1 c2 p6 k0
    by_cases hr1 : r1 = 0
    ·subst hr1
     obtain ⟨W3, A3, ⟨V3, F3, rv3, R3, H3⟩, hW3, hA3, hC3⟩ := HS3.out
     have c03 : w3.cell? ⟨q, 0, none⟩ = some (.pointer (some ⟨m, 0, none⟩)) := blk_cell H3.obj.head 0 _ rfl
     have CS := LH (rsync_any m V3 F3 d1 w3 H3.disk (by omega))
     rw [HZS.out] at CS
     dsimp only at CS
     have H30 := LH H3
     have HG3 := LH (And.intro hW3 (And.intro hA3 hC3))
     clear H3 hW3 hA3 hC3
     go_wp2_with fail
     refine CS.out.mono ?_
     rintro e w4 ⟨rfl, hd4⟩
     have hs4 := H30.out.did hd4 (by show d2.n = d1.n; exact hso.1)
     have HS4 : Hid (RSid w w4 q m W A { s with d := d2 }) := LH (RSid.glue HG3.out.1 HG3.out.2.1 HG3.out.2.2 hs4)
     have HGZ : Hid (Z = if r2 ≠ 0 then (r2, { s with d := d2 }) else (0, { s with d := d2, rows := s.rows.set j noRow })) := LH (by
      have := HG.out
      simpa using this)
     clear hs4 hd4 CS c03 H30 HG3 HS3
     by_cases hr2 : r2 = 0
     ·subst hr2
      obtain ⟨W4, A4, ⟨V4, F4, rv4, R4, H4⟩, hW4, hA4, hC4⟩ := HS4.out
      have c24 : w4.cell? ⟨q, 2, none⟩ = some rv4 := blk_cell H4.obj.head 2 _ rfl
      have hjr : j < ({ s with d := d2 } : SS).rows.length := by show j < s.rows.length; rw [<- HN.out]; exact hjl
      obtain ⟨g4, cap4, kv4, hrv4, hcap4, hcm4, _, _, _, _, _⟩ := H4.at j hjr
      rw [show ({ s with d := d2 } : SS).rows.length = s.rows.length from rfl, <- HN.out] at hrv4 hcap4
      have hrv5 : rv4 = .slice (some ⟨g4, 0, none⟩) ({ s with d := d2 } : SS).rows.length cap4 := by
       rw [hrv4, HN.out]
      obtain ⟨A5, hs5, hA5, hC5⟩ := H4.setRow (N := w4.heap.size) j hjr g4 cap4 hrv5 noRow (.slice none 0 0) (BytesAt.nil _) (by simp [Value.ownBlock]) (by simp [Value.ownBlock]) (Nat.le_refl _) ⟨by decide, by decide⟩
      have HSR : Hid (RSid w (w4.setCells g4 (j * 3) [.bool false, .slice none 0 0, .int .i64 0]) q m W A { s with d := d2, rows := s.rows.set j noRow }) := LH (RSid.glue hW4 hA4 hC4 ⟨W4, A5, hs5, fun x hx => .inl hx, hA5, hC5⟩)
      have TH := LH (H4.there j hjr g4 cap4 hrv5)
      have HGF : Hid (Z = (0, { s with d := d2, rows := s.rows.set j noRow })) := LH (by rw [HGZ.out]; simp)
      subst hrv4
      clear H4 hW4 hA4 hC4 hs5 hA5 hC5 hrv5 HGZ HS4
      go_wp2_with (refine wpList_store_mid (by rfl) 168 (.tmp 64) (.tmp 63) (by rfl) g4 (j * 3) #[.bool false, .slice none 0 0, .int .i64 0] (by rfl) (by rfl) TH.out (by kernel_rfl) (by simp [Value.oneCell']) ?_)
      go_ret
      rw [HGF.out]
      exact ⟨rfl, HSR.out⟩
     ·have q2 : (r2 == 0) = false := by simp [hr2]
      have HGF : Hid (Z = (r2, { s with d := d2 })) := LH (by rw [HGZ.out, if_pos hr2])
      clear HGZ hr2
      go_wp2
      go_ret
      rw [HGF.out]
      exact ⟨rfl, HS4.out⟩
    ·have q2 : (r1 == 0) = false := by simp [hr1]
     have HGF : Hid (Z = (r1, { s with d := d1 })) := LH (by rw [HG.out, if_pos hr1, if_pos hr1])
     clear hr1
     go_wp2
     go_ret
     rw [HGF.out]
     exact ⟨rfl, HS3.out⟩
 ·have hg : s.clear i = (1, s) := by unfold SS.clear; rw [if_pos (by simpa using hi)]
  have HP := LH (RSidPost.same (c := 1) HS.out)
  have HG := LH hg
  rw [HG.out]
  have HI := LH hi
  subst hrv0
  generalize hnn : s.rows.length = n at *
  have HNN := LH hnn
  clear H HH hg hi hfew c0 c1
  by_cases h0 : i < 0
  ·have q0 : decide (i < 0) = true := decide_eq_true h0
   go_enter Tryz.func115, Tryz.ntmps115
   go_wp2
   go_ret
   exact HP.out
  ·have q0 : decide (i < 0) = false := decide_eq_false h0
   have q1 : decide (i ≥ (n : Int)) = true := decide_eq_true (by
    have h9 := HI.out
    unfold SS.has at h9
    have h8 := HNN.out
    omega)
   go_enter Tryz.func115, Tryz.ntmps115
   go_wp2
   go_ret
   exact HP.out
structure PadAt (w0 w : World) (v : Value) (b : List UInt8) (j : Nat) (PV : List Value) : Prop where
 row : w.ownsRow 0 30 1 v j PV
 secs : ∀ k, k < j -> BytesAt w (PV.getD k undef) (secAt b k) /\ ∀ g, (PV.getD k undef).ownBlock = some g -> w0.heap.size <= g /\ v.ownBlock ≠ some g
 new : ∀ g, v.ownBlock = some g -> w0.heap.size <= g
theorem PadAt.keep {w0 w w' : World} {v : Value} {b : List UInt8} {j : Nat} {PV : List Value} (h : PadAt w0 w v b j PV) (hc : Chg [] w w') : PadAt w0 w' v b j PV :=
 ⟨row_keep h.row (fun g hg => hc.block g (World.ownsRow.lt h.row g hg).2 (by simp)), fun k hk => ⟨(h.secs k hk).1.chg hc (by simp), (h.secs k hk).2⟩, h.new⟩
def PadPost (w : World) (b : List UInt8) (e : Ending) (w' : World) : Prop := ∃ v PV, e = .returned v /\ PadAt w w' v b (nsec b.length) PV /\ Chg [] w w'
theorem nsec_lt {j n : Nat} (h : j < nsec n) : j * 64 < n := by unfold nsec at h; omega
theorem nsec_le {j n : Nat} (h : ¬ j < nsec n) : n <= j * 64 := by unfold nsec at h; omega
theorem rpadded_any (bv : Value) (b : List UInt8) (w : World) (hb : BytesAt w bv b) (hl : b.length <= 1000000) :
  Calls Tryz.prog 142 #[bv] w (PadPost w b) := by
 obtain ⟨av, cv, rfl⟩ := hb.slice
 have HB := LH hb
 have hcv : b.length <= cv /\ cv <= 9223372036854775807 := by
  obtain ⟨a', c', he, h1, h2, _⟩ := hb
  have : cv = c' := (Value.slice.inj he).2.2
  unfold maxLen at h2
  omega
 have hmk := make_64
 obtain ⟨m, hm⟩ : ∃ m, m = nsec b.length := ⟨_, rfl⟩
 have HM := LH hm
 have hm4 : m <= 20000 := by rw [hm]; unfold nsec; omega
 obtain ⟨i3, hi3, hz3, hs3, hy3⟩ := info_parts facts_bytes
 have I3 := LH (And.intro hi3 (And.intro hz3 (And.intro hs3 hy3)))
 clear hb hm hi3 hz3 hs3 hy3
 go_enter Tryz.func142, Tryz.ntmps142
 go_wp2
 go_loopg [3, 4] m (fun g' s3 s4 wr => ∃ (j t : Nat) (a3 : Option Addr) (c3 : Nat) (PV : List Value), s3 = .slice a3 j c3 /\ s4 = .int .i64 (t : Int) /\ j <= m /\ m <= j + g' /\ t <= 2000000 /\ Hid (t = j * 64) /\ Hid (PadAt w wr (.slice a3 j c3) b j PV /\ Chg [] w wr))
 case atStart => exact ⟨0, 0, none, 0, [], rfl, rfl, by omega, by omega, by omega, LH rfl, LH ⟨⟨World.ownsRow_nil _ _ _ _, fun k hk => by omega, by simp [Value.ownBlock]⟩, Chg.refl _ _⟩⟩
 case round =>
  obtain ⟨j, t, a3, c3, PV, rfl, rfl, hj, hjg, ht, HTT, HP⟩ := hrel
  by_cases hlt : j < m
  ·have hjb : t < b.length := by have h1 := HTT.out; have h2 := HM.out; rw [h2] at hlt; have := nsec_lt hlt; omega
   have htz : (t : Int) < (b.length : Int) := by omega
   have htz1 : (t : Int).toNat = t := by omega
   have htz0 : (0 : Int) <= (t : Int) := by omega
   have HBr := LH (HB.out.chg HP.out.2 (by simp))
   obtain ⟨g, o, rfl⟩ : ∃ g o, av = some ⟨g, o, none⟩ := by
    obtain ⟨a', c', he, _, _, h3⟩ := HBr.out
    obtain rfl : av = a' := (Value.slice.inj he).1
    rcases h3 with ⟨rfl, _⟩ | ⟨g, o, e, _⟩
    ·simp at hjb
    ·exact ⟨g, o, e⟩
   obtain ⟨w1, hw1⟩ : ∃ w1, w1 = wr.alloc (.cells Z64 5) := ⟨_, rfl⟩
   have hc1 : Chg [] wr w1 := by rw [hw1]; exact (Chg.refl _ _).alloc _
   have hN1 : Hid (w1.heap[wr.heap.size]? = some (.cells Z64 5 (0, 0))) := LH (by rw [hw1]; exact heap_alloc_new wr _)
   have HB1 := LH (bytes_drop (k := t) (HBr.out.chg hc1 (by simp)) (by omega) (o + t) (fun _ => rfl))
   have HC1 := LH hc1
   have HW1 := LH hw1
   have hcj : t < cv := by omega
   have hcj2 : ¬ cv = t := by omega
   clear hc1 hw1
   go_wp2_with (rw [<- HW1.out]; refine wpList_pad (by rfl) (.tmp 13) (.tmp 16) (by rfl) wr.heap.size (by rfl) _ (by rfl) (b.drop t) HB1.out hN1.out ?_; intro w2 np hr2 hb2 hl2; refine stay_of ?_)
   have hc2 := chg_pad HC1.out hb2
   have hcA : Chg [] w2 (w2.alloc (.cells #[.slice (some ⟨wr.heap.size, 0, none⟩) 64 64] 30)) := (Chg.refl _ _).alloc _
   have hP2 := HP.out.1.keep (hc2.trans hcA (by simp))
   have hsz : wr.heap.size < w2.heap.size := hl2
   have HR2 := LH (hr2.bytes.chg hcA (by simp))
   have HCA := LH ((HP.out.2.trans hc2 (by simp)).trans hcA (by simp))
   have HPA := LH hP2
   have HNW := LH (news_one (w := w2) (e := 30) (u := .slice (some ⟨wr.heap.size, 0, none⟩) 64 64) rfl)
   have hwle := HP.out.2.size
   have hwle2 := hc2.size
   have HOB : Hid (∀ g, (Value.slice a3 j c3).ownBlock = some g -> g < wr.heap.size) := LH (fun g hg => (World.ownsRow.lt HP.out.1.row g hg).2)
   unfold Stay
   clear hr2 hb2 hc2 hcA hP2 HP
   go_wp2_with (at_builtin; refine wpList_append_lies _ rfl (.tmp 18) (.tmp 20) 131 rfl 0 30 i3 (.slice none 0 0) 1 24 Tryz.underlying131 I3.out.1 I3.out.2.1 I3.out.2.2.1 I3.out.2.2.2 rfl (by omega) (.slice a3 j c3) j PV rfl HPA.out.row ⟨w2.heap.size, 0, none⟩ 1 1 [.slice (some ⟨wr.heap.size, 0, none⟩) 64 64] rfl rfl HNW.out (fun u hu => by rw [List.mem_singleton.1 hu]; rfl) (by omega) (by unfold maxLen; omega) (by omega) (Nat.zero_le _) _ rfl ?_; intro g5 cap5 w5 hrow hg hat hlt5)
   have HAP := LH (And.intro hrow (And.intro hg (And.intro hat hlt5)))
   clear hrow hg hat hlt5
   go_roundg (gk - 1)
   case measure => omega
   case rel =>
    obtain ⟨hrow, hg, hat, hlt5⟩ := HAP.out
    have hsA : (w2.alloc (.cells #[.slice (some ⟨wr.heap.size, 0, none⟩) 64 64] 30)).heap.size = w2.heap.size + 1 := by simp
    have hPVl : PV.length = j := by have := HPA.out.row.1; omega
    have hkeep : ∀ v l, BytesAt (w2.alloc (.cells #[.slice (some ⟨wr.heap.size, 0, none⟩) 64 64] 30)) v l -> (∀ g, v.ownBlock = some g -> (Value.slice a3 j c3).ownBlock ≠ some g) -> BytesAt w5 v l := fun v l hv hne => hv.chg ((Chg.refl (Value.slice a3 j c3).ownBlock.toList _).grown hg (fun k hk => .inl (by rw [hk]; simp))) (fun g hg2 hm => hne g hg2 (by simpa using hm))
    have hgn : ∀ g, g < w2.heap.size -> (Value.slice a3 j c3).ownBlock ≠ some g -> g ≠ g5 := fun g h1 h2 e => by
     rcases hat with h4 | h4
     ·exact h2 (by rw [e]; exact h4)
     ·rw [hsA] at h4; omega
    refine ⟨j + 1, t + 64, some ⟨g5, 0, none⟩, cap5, PV ++ [.slice (some ⟨wr.heap.size, 0, none⟩) 64 64], rfl, by go_num, by omega, by omega, by omega, LH (by have := HTT.out; omega), LH ⟨⟨hrow, fun k hk => ?_, fun g hg2 => ?_⟩, ?_⟩⟩
    ·by_cases hkj : k < j
     ·have e1 : (PV ++ [Value.slice (some ⟨wr.heap.size, 0, none⟩) 64 64]).getD k undef = PV.getD k undef := by
       rw [List.getD_eq_getElem?_getD, List.getElem?_append_left (by omega), List.getD_eq_getElem?_getD]
      rw [e1]
      obtain ⟨b1, b2⟩ := HPA.out.secs k hkj
      refine ⟨hkeep _ _ b1 (fun g hg2 => (b2 g hg2).2), fun g hg2 => ⟨(b2 g hg2).1, fun he => ?_⟩⟩
      have hgs : g < w2.heap.size ∨ w2.heap.size <= g := by omega
      have hlen : secAt b k ≠ [] := fun e => by have := secAt_len b k; rw [e] at this; simp at this
      have hlt9 := b1.lt hlen g hg2
      have he : g5 = g := by simpa [Value.ownBlock] using he
      rcases hat with h4 | h4
      ·exact (b2 g hg2).2 (by rw [<- he]; exact h4)
      ·omega
     ·obtain rfl : k = j := by omega
      have e1 : (PV ++ [Value.slice (some ⟨wr.heap.size, 0, none⟩) 64 64]).getD k undef = .slice (some ⟨wr.heap.size, 0, none⟩) 64 64 := by
       rw [List.getD_eq_getElem?_getD, List.getElem?_append_right (by omega), hPVl, Nat.sub_self]; rfl
      rw [e1]
      have hsec : secAt b k = pad (b.drop t) := by rw [HTT.out, secAt_pad]
      rw [hsec]
      refine ⟨hkeep _ _ HR2.out (fun g hg2 he => ?_), fun g hg2 => ?_⟩
      ·have h1 := HOB.out g he
       have h2 : wr.heap.size = g := by simpa [Value.ownBlock] using hg2
       omega
      ·have h2 : wr.heap.size = g := by simpa [Value.ownBlock] using hg2
       refine ⟨by omega, fun he => ?_⟩
       have he : g5 = g := by simpa [Value.ownBlock] using he
       rcases hat with h4 | h4
       ·have h1 := HOB.out g5 h4; omega
       ·omega
    ·have he : g5 = g := by simpa [Value.ownBlock] using hg2
     rcases hat with h4 | h4
     ·rw [<- he]; exact HPA.out.new g5 h4
     ·omega
    ·exact HCA.out.grown hg (fun k hk => .inr (HPA.out.new k hk))
  ·have hjm : j = m := by omega
   have htb : ¬ (t : Int) < (b.length : Int) := by
    have h1 := HTT.out
    have h2 := HM.out
    rw [h2] at hlt
    have := nsec_le hlt
    omega
   have HPM : Hid (PadAt w wr (.slice a3 j c3) b (nsec b.length) PV) := LH (by rw [<- HM.out, <- hjm]; exact HP.out.1)
   clear hjm
   go_wp2
   go_ret
   exact ⟨_, PV, rfl, HPM.out, HP.out.2⟩
end Go.Proofs.YtdkhmfcfihbjeaaGreatDoor.W
