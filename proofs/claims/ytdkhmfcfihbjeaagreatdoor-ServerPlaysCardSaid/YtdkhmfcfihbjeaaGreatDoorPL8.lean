/- Texts laid together. -/
import Derived.Test.YtdkhmfcfihbjeaaGreatDoorPL7
import Derived.Deep.DeepCutAuto
import Derived.Deep.CutBlock
import Derived.Test.YtdkhmfcfihbjeaaGreatDoorPL2
import Derived.Test.YtdkhmfcfihbjeaaGreatDoorPL4
import Derived.Test.YtdkhmfcfihbjeaaGreatDoorPL3
import Derived.Laws.BitsLemmas
import Derived.Test.YtdkhmfcfihbjeaaGreatDoorPL5
import Derived.Test.YtdkhmfcfihbjeaaGreatDoorPL6
import Derived.Deep.MidRow
set_option linter.unusedVariables false
set_option linter.unusedSimpArgs false
set_option maxHeartbeats 64000000
set_option maxRecDepth 100000
namespace Go.Proofs.YtdkhmfcfihbjeaaGreatDoor.W
open Go.RowKit
def deedN (k : Int) : Nat := if k = 1 then 82 else if k = 2 then 83 else if k = 3 then 84 else if k = 4 then 85 else if k = 5 then 86 else if k = 6 then 87 else 88
theorem deedof_any (k : Int) (w : World) : Calls Tryz.prog 39 #[.int .i64 k] w fun e w' => e = .returned (.func (.func (deedN k)) #[] #[]) /\ w = w' := by
 unfold deedN
 by_cases h1 : k = 1
 ·subst h1
  go_enter Tryz.func39, Tryz.ntmps39
  go_wp2
  go_ret
  exact ⟨rfl, rfl⟩
 by_cases h2 : k = 2
 ·subst h2
  go_enter Tryz.func39, Tryz.ntmps39
  go_wp2
  go_ret
  exact ⟨rfl, rfl⟩
 by_cases h3 : k = 3
 ·subst h3
  go_enter Tryz.func39, Tryz.ntmps39
  go_wp2
  go_ret
  exact ⟨rfl, rfl⟩
 by_cases h4 : k = 4
 ·subst h4
  go_enter Tryz.func39, Tryz.ntmps39
  go_wp2
  go_ret
  exact ⟨rfl, rfl⟩
 by_cases h5 : k = 5
 ·subst h5
  go_enter Tryz.func39, Tryz.ntmps39
  go_wp2
  go_ret
  exact ⟨rfl, rfl⟩
 by_cases h6 : k = 6
 ·subst h6
  go_enter Tryz.func39, Tryz.ntmps39
  go_wp2
  go_ret
  exact ⟨rfl, rfl⟩
 rw [if_neg h1, if_neg h2, if_neg h3, if_neg h4, if_neg h5, if_neg h6]
 have q1 : (k == 1) = false := by simp [h1]
 have q2 : (k == 2) = false := by simp [h2]
 have q3 : (k == 3) = false := by simp [h3]
 have q4 : (k == 4) = false := by simp [h4]
 have q5 : (k == 5) = false := by simp [h5]
 have q6 : (k == 6) = false := by simp [h6]
 clear h1 h2 h3 h4 h5 h6
 go_enter Tryz.func39, Tryz.ntmps39
 go_wp2
 go_ret
 exact ⟨rfl, rfl⟩
theorem deed_enters (k : Int) : ∀ args w, (callFunc (deedN k) args).run Tryz.prog w = .ok (.enter (deedN k) args) w := by
 unfold deedN
 repeat' split
 ·exact enters_of Tryz.func82 (by kernel_rfl) rfl
 ·exact enters_of Tryz.func83 (by kernel_rfl) rfl
 ·exact enters_of Tryz.func84 (by kernel_rfl) rfl
 ·exact enters_of Tryz.func85 (by kernel_rfl) rfl
 ·exact enters_of Tryz.func86 (by kernel_rfl) rfl
 ·exact enters_of Tryz.func87 (by kernel_rfl) rfl
 ·exact enters_of Tryz.func88 (by kernel_rfl) rfl
section
variable {G U : List Nat} {z q p : Nat} {t : Sto}
theorem sdeed_any (r : Rq) (bv : Value) (w : World) (h : SvAt G w z q p U t) (hx : okD r.x) (hb : BytesAt w bv r.b) (hbU : r.b ≠ [] -> ∀ k, bv.ownBlock = some k -> k ∉ U) (hbl : r.b.length <= 1000000) (hn : 1 <= t.s.d.n) (ho : t.s.d.ops <= 800000000) (hw : t.s.d.since.length <= 800000) :
  Calls Tryz.prog (deedN r.k) #[.pointer (some ⟨z, 0, none⟩), rqV r bv] w (DeedPost G w q p U (t.step r).1 (t.step r).2) := by
 have hbs : ∃ a n c, bv = .slice a n c := by obtain ⟨a, c, e⟩ := hb.slice; exact ⟨a, _, c, e⟩
 by_cases h0 : r.k < 1 ∨ 6 < r.k
 ·rw [step0 t r h0]
  have e : deedN r.k = 88 := by unfold deedN; rw [if_neg (by omega), if_neg (by omega), if_neg (by omega), if_neg (by omega), if_neg (by omega), if_neg (by omega)]
  rw [e]
  exact svno_any r bv w h hbs
 ·obtain ⟨k, x, b⟩ := r
  dsimp only at h0
  obtain rfl | rfl | rfl | rfl | rfl | rfl : k = 1 ∨ k = 2 ∨ k = 3 ∨ k = 4 ∨ k = 5 ∨ k = 6 := by omega
  ·exact svput_any _ bv w h hx hb hbU hbl (by omega) (by omega)
  ·exact svget_any _ bv w h hbs hx
  ·exact svdel_any _ bv w h hbs hx ho hw
  ·exact svlist_any _ bv w h hbs
  ·exact svinfo_any _ bv w h hbs
  ·exact svset_any _ bv w h hbs hn (by omega) (by omega)
theorem stdisk_any (w : World) (h : StAt G w q p U t) : Calls Tryz.prog 17 #[.pointer (some ⟨q, 0, none⟩)] w fun e w' => e = .returned (.pointer (some ⟨p, 0, none⟩)) /\ w = w' := by
 obtain ⟨sp, mb, Us, φ, N, h, rfl⟩ := h
 have c0 := blk_cell h.head 0 _ rfl
 clear h
 go_enter Tryz.func17, Tryz.ntmps17
 go_wp2
 go_ret
 exact ⟨rfl, rfl⟩
theorem ret_rp2 {fn : Func} {p u : Tmp} (h : fn.results = #[.cell p 32, .tmp u]) (tmps : Array Value) {w : World} {b t : Nat} {e room : Int} {bv iv q : Value} {wh : Bool} (hp : tmps.getD p undef = .pointer (some ⟨b, 0, none⟩)) (hu : tmps.getD u undef = q) (hb : w.heap[b]? = some (.cells (rpL e bv iv room wh).toArray t (0, 0))) :
  (results fn tmps).run Tryz.prog w = .ok (.tuple #[rpV e bv iv room wh, q]) w := by
 have hl := run_loadVar_row (P := Tryz.prog) w b t 32 (rpL e bv iv room wh).toArray (0, 0) _ hb Tryz.underlying32 rfl (rp_size _ _ _ _ _)
 rw [results_cell_tmp h, hp, hu]
 simp only [asAddr, Sem.run_pure, Result.andThen_ok, hl]
 rfl
def DoPost (G : List Nat) (w : World) (q p : Nat) (U : List Nat) (r : (Rp × Int) × Sto) (e : Ending) (w' : World) : Prop := ∃ v, e = .returned (.tuple #[v, .int .i64 r.1.2]) /\ RpAt w w' v r.1.1 /\ Std G w w' q p U r.2
def DoMid (G : List Nat) (w w2 : World) (q p : Nat) (U : List Nat) (o : Rp) (t' : Sto) (C : Nat) (wx : World) : Prop :=
 ∃ a n c a' n' c', wx.heap[C]? = some (.cells (rpL o.e (.slice a n c) (.slice a' n' c') o.room o.whole).toArray 32 (0, 0)) /\ BytesAt wx (.slice a n c) o.b /\ wx.ownsRow w.heap.size 38 4 (.slice a' n' c') o.ids.length (o.ids.flatMap idE) /\
  (∀ k, (Value.slice a n c).ownBlock = some k ∨ (Value.slice a' n' c').ownBlock = some k -> w.heap.size <= k /\ k ≠ w.heap.size + 1) /\ Std ([w.heap.size + 1] ++ G) w2 wx q p U t' /\ C ≠ w.heap.size + 1 /\ w.heap.size <= C
theorem SvAt.add {w w2 : World} (h : SvAt G w z q p U t) (hc : Chg [] w w2) (hw : w.heap.size < w2.heap.size) : SvAt ([w.heap.size] ++ G) w2 z q p U t :=
 ⟨hc.keep h.head (by simp), h.st.with h.far hc (fun x hx => by rw [List.mem_singleton.1 hx]; exact ⟨Nat.le_refl _, hw⟩), h.out, fun x hx hm => by
  rcases List.mem_append.1 hm with hm | hm
  ·have := h.st.lim x hx; have := List.mem_singleton.1 hm; omega
  ·exact h.far x hx hm⟩
theorem SvAt.mid {w w2 : World} {r : Rq} {bv : Value} (h : SvAt G w z q p U t) (hE : Begins G w w2 z q p U t r bv) : SvAt ([w.heap.size + 1] ++ G) w2.drew z q p U t :=
 ⟨hE.head, hE.st.keep0 ((Chg.refl [] w2).drew), h.out, fun x hx hm => by
  rcases List.mem_append.1 hm with hm | hm
  ·exact hE.out (by rw [<- List.mem_singleton.1 hm]; exact hx)
  ·exact h.far x hx hm⟩
theorem doMid_late {w w2 w3 : World} {r : Rq} {bv : Value} {o : Rp} {t' : Sto} {a a' : Option Addr} {n n' c c' : Nat} (hE : Begins G w w2 z q p U t r bv) (h : SvAt G w z q p U t) (hb : BytesAt w3 (.slice a n c) o.b)
  (hn : ∀ k, (Value.slice a n c).ownBlock = some k -> w2.drew.heap.size <= k) (ho : w3.ownsRow w2.drew.heap.size 38 4 (.slice a' n' c') o.ids.length (o.ids.flatMap idE)) (hs : Std ([w.heap.size + 1] ++ G) w2.drew w3 q p U t') :
  DoMid G w w2 q p U o t' w3.heap.size ((w3.alloc (.cells #[.int .i64 0, .slice none 0 0, .slice none 0 0, .int .i64 0, .bool false] 32)).setCells w3.heap.size 0 (rpL o.e (.slice a n c) (.slice a' n' c') o.room o.whole)) := by
 have hs23 : w2.heap.size <= w3.heap.size := by obtain ⟨_, _, _, hc⟩ := hs; exact hc.size
 have hA := (hE.new _ (List.mem_cons_self ..))
 have hc1 : Chg [] w3 (w3.alloc (.cells #[.int .i64 0, .slice none 0 0, .slice none 0 0, .int .i64 0, .bool false] 32)) := (Chg.refl [] w3).alloc _
 have hz := heap_alloc_new w3 (.cells #[.int .i64 0, .slice none 0 0, .slice none 0 0, .int .i64 0, .bool false] 32)
 generalize w3.alloc (.cells #[.int .i64 0, .slice none 0 0, .slice none 0 0, .int .i64 0, .bool false] 32) = w4 at *
 have hc2 : Chg [] w3 (w4.setCells w3.heap.size 0 (rpL o.e (.slice a n c) (.slice a' n' c') o.room o.whole)) := hc1.setCells (.inr (Nat.le_refl _)) _
 have hd : w2.drew.heap.size = w2.heap.size := rfl
 refine ⟨a, n, c, a', n', c', five_set hz _ _ _ _ _, hb.chg hc2 (by simp), row_keep (row_base ho w.heap.size (fun g hg => ?_)) (fun g hg => hc2.block g (World.ownsRow.lt ho g hg).2 (by simp)), fun k hk => ?_, (Std.pre ((Chg.refl [] w2).drew) hs).post hc2, by omega, by omega⟩
 ·have := (World.ownsRow.lt ho g hg).1; omega
 ·rcases hk with hk | hk
  ·have := hn k hk; omega
  ·have := (World.ownsRow.lt ho k hk).1; omega
theorem doMid_early {w w2 w3 : World} {r : Rq} {bv : Value} {o : Rp} {t' : Sto} {a a' : Option Addr} {n n' c c' : Nat} (hE : Begins G w w2 z q p U t r bv) (h : SvAt G w z q p U t) (hb : BytesAt w3 (.slice a n c) o.b)
  (hn : ∀ k, (Value.slice a n c).ownBlock = some k -> (w2.alloc (.cells #[.int .i64 0, .slice none 0 0, .slice none 0 0, .int .i64 0, .bool false] 32)).drew.heap.size <= k) (ho : w3.ownsRow (w2.alloc (.cells #[.int .i64 0, .slice none 0 0, .slice none 0 0, .int .i64 0, .bool false] 32)).drew.heap.size 38 4 (.slice a' n' c') o.ids.length (o.ids.flatMap idE))
  (hs : Std ([w2.heap.size] ++ ([w.heap.size + 1] ++ G)) (w2.alloc (.cells #[.int .i64 0, .slice none 0 0, .slice none 0 0, .int .i64 0, .bool false] 32)).drew w3 q p U t') :
  DoMid G w w2 q p U o t' w2.heap.size (w3.setCells w2.heap.size 0 (rpL o.e (.slice a n c) (.slice a' n' c') o.room o.whole)) := by
 have hA := (hE.new _ (List.mem_cons_self ..))
 have hcX : Chg [] w2 (w2.alloc (.cells #[.int .i64 0, .slice none 0 0, .slice none 0 0, .int .i64 0, .bool false] 32)).drew := ((Chg.refl [] w2).alloc _).drew
 have hzX : (w2.alloc (.cells #[.int .i64 0, .slice none 0 0, .slice none 0 0, .int .i64 0, .bool false] 32)).drew.heap[w2.heap.size]? = some (.cells #[.int .i64 0, .slice none 0 0, .slice none 0 0, .int .i64 0, .bool false] 32 (0, 0)) := heap_alloc_new w2 _
 have hsX : (w2.alloc (.cells #[.int .i64 0, .slice none 0 0, .slice none 0 0, .int .i64 0, .bool false] 32)).drew.heap.size = w2.heap.size + 1 := by show (w2.alloc _).heap.size = _; simp
 generalize (w2.alloc (.cells #[.int .i64 0, .slice none 0 0, .slice none 0 0, .int .i64 0, .bool false] 32)).drew = wX at *
 have hl2 : ∀ x ∈ U, x < w2.heap.size := fun x hx => Nat.lt_of_lt_of_le (h.st.lim x hx) hE.chg.size
 have hz3 := hs.blk hzX (fun hm => by have := hl2 _ hm; omega)
 have hc : Chg [w2.heap.size] w3 (w3.setCells w2.heap.size 0 (rpL o.e (.slice a n c) (.slice a' n' c') o.room o.whole)) := (Chg.refl _ w3).setCells (.inl (by simp)) _
 refine ⟨a, n, c, a', n', c', five_set hz3 _ _ _ _ _, hb.chg hc (fun k hk hm => ?_), row_keep (row_base ho w.heap.size (fun g hg => ?_)) (fun g hg => hc.block g (World.ownsRow.lt ho g hg).2 (fun hm => ?_)), fun k hk => ?_, Std.local (T := [w2.heap.size]) (fun x hx => ?_) (fun x hx hm => ?_) hl2 hcX (fun x hx => by rw [List.mem_singleton.1 hx]; omega) hs (fun x hx => by rw [List.mem_singleton.1 hx]; exact zeroRp_no8 hz3) hc, by omega, by omega⟩
 ·have := hn k hk; have := List.mem_singleton.1 hm; omega
 ·have := (World.ownsRow.lt ho g hg).1; omega
 ·have := (World.ownsRow.lt ho g hg).1; have := List.mem_singleton.1 hm; omega
 ·rcases hk with hk | hk
  ·have := hn k hk; omega
  ·have := (World.ownsRow.lt ho k hk).1; omega
 ·rcases List.mem_append.1 hx with hx | hx
  ·rw [List.mem_singleton.1 hx]; exact hA.2
  ·exact Nat.lt_of_lt_of_le (h.st.gl x hx) hE.chg.size
 ·rcases List.mem_append.1 hm with hm | hm
  ·exact hE.out (by rw [<- List.mem_singleton.1 hm]; exact hx)
  ·exact h.far x hx hm
theorem svdo_any (r : Rq) (bv : Value) (w : World) (h : SvAt G w z q p U t) (hx : okD r.x) (hb : BytesAt w bv r.b) (hbU : r.b ≠ [] -> ∀ k, bv.ownBlock = some k -> k ∉ U) (hbl : r.b.length <= 1000000) (hn : 1 <= t.s.d.n) (ho : t.s.d.ops <= 800000000) (hw : t.s.d.since.length <= 800000) :
  Calls Tryz.prog 12 #[.pointer (some ⟨z, 0, none⟩), rqV r bv] w (DoPost G w q p U (t.run r)) := by
 have HE0 := LH (h.begins r bv)
 obtain ⟨w2, hw2⟩ : ∃ w2, w2 = (w.alloc (.cells (rqL r bv).toArray 40)).alloc (.cells zeroRp 32) := ⟨_, rfl⟩
 rw [<- hw2] at HE0
 have hst2 := h.st.keep0 HE0.out.chg
 have CDK := LH (stdisk_any w2 hst2)
 have CDD := LH hst2.dead
 have c0 := blk_cell HE0.out.head 0 _ rfl
 obtain ⟨B, hB⟩ : ∃ B, B = w.heap.size := ⟨_, rfl⟩
 have hrq := HE0.out.rq
 rw [<- hB] at hrq
 have HRP := LH HE0.out.rp
 rw [<- hB] at HRP
 have HH := LH h
 have HBY := LH (hb.chg HE0.out.chg (by simp))
 have HBU := LH hbU
 have HXO := LH hx
 have HW2 := LH hw2
 have HB := LH hB
 have HLIM := LH (And.intro hbl (And.intro hn (And.intro ho hw)))
 have HRUN : Hid (t.run r = if t.s.d.dead then ((noRp, 14), t) else if (t.step r).2.s.d.dead then ((noRp, 14), (t.step r).2) else (((t.step r).1, 0), (t.step r).2)) := LH rfl
 obtain ⟨R, hR⟩ : ∃ R, R = t.run r := ⟨_, rfl⟩
 rw [<- hR] at HRUN
 rw [<- hR]
 obtain ⟨k, ⟨xc, xl, xn, xi⟩, b⟩ := r
 obtain ⟨ba, bc, hbv⟩ := hb.slice
 subst hbv
 obtain ⟨q0, ⟨q1, q2, q3, q4⟩, q5⟩ := rq_cells hrq
 have HRQ := LH hrq
 unfold rqV rqL
 unfold rqL at HW2
 rw [show zeroRp = #[.int .i64 0, .slice none 0 0, .slice none 0 0, .int .i64 0, .bool false] from rfl] at HW2
 have c0L := c0
 rw [HW2.out] at c0L
 clear hw2 hB hrq h hx hb hbU hst2 hR hn ho hw hbl
 go_enter Tryz.func12, Tryz.ntmps12
 go_wp2_with fail
 clear c0L
 rw [<- HB.out, <- HW2.out]
 refine CDK.out.mono ?_
 rintro e w' ⟨rfl, hq⟩
 subst hq
 go_wp2_with fail
 refine CDD.out.mono ?_
 rintro e w' ⟨rfl, hq⟩
 subst hq
 cases hdd : t.s.d.dead
 ·rw [hdd] at HRUN
  rw [if_neg (by simp)] at HRUN
  go_upto_region 3 with (fail)
  go_cut [6] (fun s6 wx => ∃ C, s6 = .pointer (some ⟨C, 0, none⟩) /\ Hid (DoMid G w w2 q p U (t.step ⟨k, ⟨xc, xl, xn, xi⟩, b⟩).1 (t.step ⟨k, ⟨xc, xl, xn, xi⟩, b⟩).2 C wx))
  case first =>
   have hent := deed_enters k
   have hG1 : SvAt ([w.heap.size + 1] ++ G) w2.drew z q p U t := HH.out.mid HE0.out
   have CPY := LH (sdeed_any ⟨k, ⟨xc, xl, xn, xi⟩, b⟩ (.slice ba b.length bc) w2.drew hG1 HXO.out (HBY.out.keep (fun _ _ => rfl)) HBU.out HLIM.out.1 HLIM.out.2.1 HLIM.out.2.2.1 HLIM.out.2.2.2)
   have hcX : Chg [] w2 (w2.alloc (.cells #[.int .i64 0, .slice none 0 0, .slice none 0 0, .int .i64 0, .bool false] 32)).drew := ((Chg.refl [] w2).alloc _).drew
   have hG2 : SvAt ([w2.heap.size] ++ ([w.heap.size + 1] ++ G)) (w2.alloc (.cells #[.int .i64 0, .slice none 0 0, .slice none 0 0, .int .i64 0, .bool false] 32)).drew z q p U t := (hG1.add (w2 := (w2.alloc (.cells #[.int .i64 0, .slice none 0 0, .slice none 0 0, .int .i64 0, .bool false] 32)).drew) ⟨hcX.os, hcX.tape, hcX.output, hcX.size, hcX.block⟩ (by
    rw [show w2.drew.heap.size = w2.heap.size from rfl]
    show w2.heap.size < (w2.alloc _).heap.size
    simp))
   have CPX := LH (sdeed_any ⟨k, ⟨xc, xl, xn, xi⟩, b⟩ (.slice ba b.length bc) _ hG2 HXO.out (HBY.out.chg hcX (by simp)) HBU.out HLIM.out.1 HLIM.out.2.1 HLIM.out.2.2.1 HLIM.out.2.2.2)
   obtain ⟨r0, ⟨r1, r2, r3, r4⟩, r5⟩ := rq_cells (hcX.keep HRQ.out (by simp))
   unfold rqV rqL at CPX CPY
   clear hG1 hG2
   have HCX := LH hcX
   clear hcX
   go_wp2_with fail
   refine wp_region_L [(2, fun w' => w'.cell? ⟨B, 0, none⟩ = some (.int .i64 k)), (5, fun w' => (w'.cell? ⟨B, 0, none⟩ = some (.int .i64 k) /\ w'.cell? ⟨B, 1, none⟩ = some (.int .i64 xc) /\ w'.cell? ⟨B, 2, none⟩ = some (.int .i64 xl) /\ w'.cell? ⟨B, 3, none⟩ = some (.int .i64 xn) /\ w'.cell? ⟨B, 4, none⟩ = some (.int .i64 xi) /\ w'.cell? ⟨B, 5, none⟩ = some (.slice ba b.length bc)))] (by kernel_rfl) ?_ (fun hHeld => ?_)
   ·exact (HoldC.cons (q0) (HoldC.cons (⟨q0, q1, q2, q3, q4, q5⟩) HoldC.nil))
   refine tk 0 ?_ rfl (by kernel_rfl) (fun _ _ _ h => h) (.inl ⟨by rfl, ?_⟩) hHeld ?_; rotate_left; · (intro w _; go_simp; try with_reducible rfl)
   clear hHeld; intro hHeld; try simp only [gA,gB,gC,Act.put,gD,gE,gF]
   refine tk 3 ?_ rfl (by kernel_rfl) (fun _ _ _ h => h) (.inl ⟨by rfl, ?_⟩) hHeld ?_; rotate_left; · (intro w _; go_simp; try with_reducible rfl)
   clear hHeld; intro hHeld; try simp only [gA,gB,gC,Act.put,gD,gE,gF]
   refine ld 0 1 ?_ rfl rfl (by kernel_rfl) (fun _ _ _ h => h) (.inl ⟨by rfl, ?_⟩) hHeld ?_; rotate_left; · (intro w hSw; (try dsimp only at hSw); go_simp; try with_reducible rfl)
   clear hHeld; intro hHeld; try simp only [gA,gB,gC,Act.put,gD,gE,gF]
   refine ld 1 4 ?_ rfl rfl (by kernel_rfl) (fun _ _ _ h => h) (.inl ⟨by rfl, ?_⟩) hHeld ?_; rotate_left; · (intro w hSw; (try dsimp only at hSw); go_simp; try with_reducible rfl)
   clear hHeld; intro hHeld; try simp only [gA,gB,gC,Act.put,gD,gE,gF]
   refine wpAnyL_ready (rs := [2, 6]) (by kernel_rfl) (by simp) ?_
   refine AllReadyL.cons (o := _) rfl (fun K hK => ?_) (AllReadyL.cons (o := _) rfl (fun K hK => ?_) AllReadyL.nil)
   ·try simp only [gA,gB,gC]
    go_simp
    refine (deedof_any k w2.drew).mono ?_
    rintro e w' ⟨rfl, hq⟩
    subst hq
    clear hHeld
    refine hK.out _ _ ?_ (fun hHeld => ?_)
    ·exact (HoldC.past (by kernel_rfl) (HoldC.cons (⟨q0, q1, q2, q3, q4, q5⟩) HoldC.nil))
    clear hK K
    try simp only [gA,gB,gC,Act.put,gD,gE,gF]
    refine wpAnyL_ready (rs := [5, 6]) (by kernel_rfl) (by simp) ?_
    refine AllReadyL.cons (o := _) rfl (fun K hK => ?_) (AllReadyL.cons (o := _) rfl (fun K hK => ?_) AllReadyL.nil)
    ·try simp only [gA,gB,gC]
     go_simp
     refine CPY.out.mono ?_
     rintro e w3 ⟨v3, rfl, hr3, hs3⟩
     obtain ⟨bv3, iv3, rfl, hb3, hn3, ho3⟩ := hr3
     obtain ⟨a3, c3, rfl⟩ := hb3.slice
     obtain ⟨a4, n4, c4, rfl⟩ : ∃ a n c, iv3 = .slice a n c := by
      rcases ho3.2 with ⟨h1, h2⟩ | ⟨g, cap, cur, h1, _⟩
      ·exact ⟨none, 0, 0, h1⟩
      ·exact ⟨_, _, cap, h1⟩
     have HM := LH (doMid_late HE0.out HH.out hb3 hn3 ho3 hs3)
     clear hb3 hn3 ho3 hs3
     clear hHeld
     refine hK.out _ _ ?_ (fun hHeld => ?_)
     ·exact (HoldC.past (by kernel_rfl) (HoldC.past (by kernel_rfl) HoldC.nil))
     clear hK K
     try simp only [gA,gB,gC,Act.put,gD,gE,gF]
     refine wpAnyL_ready (rs := [6]) (by kernel_rfl) (by simp) (AllReadyL.cons (o := _) rfl (fun K hK => ?_) AllReadyL.nil)
     try simp only [gA,gB,gC]
     go_simp
     obtain ⟨w4, hw4⟩ : ∃ w4, w4 = w3.alloc (.cells #[.int .i64 0, .slice none 0 0, .slice none 0 0, .int .i64 0, .bool false] 32) := ⟨_, rfl⟩
     rw [<- hw4]
     have HW4 := LH hw4
     have hz4 : w4.heap[w3.heap.size]? = some (.cells #[.int .i64 0, .slice none 0 0, .slice none 0 0, .int .i64 0, .bool false] 32 (0, 0)) := by rw [hw4]; exact heap_alloc_new w3 _
     have HTH := LH (five_there hz4 _ rfl)
     clear hw4 hz4
     clear hHeld
     refine hK.out _ _ ?_ (fun hHeld => ?_)
     ·exact (HoldC.past (by kernel_rfl) (HoldC.past (by kernel_rfl) HoldC.nil))
     clear hK K
     try simp only [gA,gB,gC,Act.put,gD,gE,gF]
     refine wpAnyL_ready (rs := [7]) (by kernel_rfl) (by simp) (AllReadyL.cons (o := _) rfl (fun K hK => ?_) AllReadyL.nil)
     try simp only [gA,gB,gC]
     rw [if_pos (by rfl)]
     refine wp_store_mid 32 (.tmp 6) (.tmp 30) (by rfl) w3.heap.size 0 (rpL (t.step ⟨k, ⟨xc, xl, xn, xi⟩, b⟩).1.e (.slice a3 (t.step ⟨k, ⟨xc, xl, xn, xi⟩, b⟩).1.b.length c3) (.slice a4 n4 c4) (t.step ⟨k, ⟨xc, xl, xn, xi⟩, b⟩).1.room (t.step ⟨k, ⟨xc, xl, xn, xi⟩, b⟩).1.whole).toArray (by rfl) (by rfl) HTH.out (rp_size _ _ _ _ _) (rp_all _ _ _ _ _ _ _ _ _) ?_
     clear hHeld
     refine hK.out _ _ ?_ (fun hHeld => ?_)
     ·exact (HoldC.past (by kernel_rfl) (HoldC.past (by kernel_rfl) HoldC.nil))
     clear hK K
     try simp only [gA,gB,gC,Act.put,gD,gE,gF]
     refine wpAnyL_done (by kernel_rfl) ?_ _
     clear hHeld
     go_wp2_with fail
     go_meet
     exact ⟨_, rfl, by rw [HW4.out]; exact HM⟩
    ·try simp only [gA,gB,gC]
     go_simp
     clear hHeld
     refine hK.out _ _ ?_ (fun hHeld => ?_)
     ·exact (HoldC.past (by kernel_rfl) (HoldC.cons (⟨r0, r1, r2, r3, r4, r5⟩) HoldC.nil))
     clear hK K
     try simp only [gA,gB,gC,Act.put,gD,gE,gF]
     refine wpAnyL_ready (rs := [5]) (by kernel_rfl) (by simp) (AllReadyL.cons (o := _) rfl (fun K hK => ?_) AllReadyL.nil)
     try simp only [gA,gB,gC]
     go_simp
     refine CPX.out.mono ?_
     rintro e w3 ⟨v3, rfl, hr3, hs3⟩
     obtain ⟨bv3, iv3, rfl, hb3, hn3, ho3⟩ := hr3
     obtain ⟨a3, c3, rfl⟩ := hb3.slice
     obtain ⟨a4, n4, c4, rfl⟩ : ∃ a n c, iv3 = .slice a n c := by
      rcases ho3.2 with ⟨h1, h2⟩ | ⟨g, cap, cur, h1, _⟩
      ·exact ⟨none, 0, 0, h1⟩
      ·exact ⟨_, _, cap, h1⟩
     have HM := LH (doMid_early HE0.out HH.out hb3 hn3 ho3 hs3)
     have hz4 := hs3.blk (show (w2.alloc (.cells #[.int .i64 0, .slice none 0 0, .slice none 0 0, .int .i64 0, .bool false] 32)).drew.heap[w2.heap.size]? = some (.cells #[.int .i64 0, .slice none 0 0, .slice none 0 0, .int .i64 0, .bool false] 32 (0, 0)) from heap_alloc_new w2 _) (fun hm => by have := HH.out.st.lim _ hm; have := HE0.out.chg.size; omega)
     have HTH := LH (five_there hz4 _ rfl)
     clear hb3 hn3 ho3 hs3 hz4
     clear hHeld
     refine hK.out _ _ ?_ (fun hHeld => ?_)
     ·exact (HoldC.past (by kernel_rfl) (HoldC.past (by kernel_rfl) HoldC.nil))
     clear hK K
     try simp only [gA,gB,gC,Act.put,gD,gE,gF]
     refine wpAnyL_ready (rs := [7]) (by kernel_rfl) (by simp) (AllReadyL.cons (o := _) rfl (fun K hK => ?_) AllReadyL.nil)
     try simp only [gA,gB,gC]
     rw [if_pos (by rfl)]
     refine wp_store_mid 32 (.tmp 6) (.tmp 30) (by rfl) w2.heap.size 0 (rpL (t.step ⟨k, ⟨xc, xl, xn, xi⟩, b⟩).1.e (.slice a3 (t.step ⟨k, ⟨xc, xl, xn, xi⟩, b⟩).1.b.length c3) (.slice a4 n4 c4) (t.step ⟨k, ⟨xc, xl, xn, xi⟩, b⟩).1.room (t.step ⟨k, ⟨xc, xl, xn, xi⟩, b⟩).1.whole).toArray (by rfl) (by rfl) HTH.out (rp_size _ _ _ _ _) (rp_all _ _ _ _ _ _ _ _ _) ?_
     clear hHeld
     refine hK.out _ _ ?_ (fun hHeld => ?_)
     ·exact (HoldC.past (by kernel_rfl) (HoldC.past (by kernel_rfl) HoldC.nil))
     clear hK K
     try simp only [gA,gB,gC,Act.put,gD,gE,gF]
     refine wpAnyL_done (by kernel_rfl) ?_ _
     clear hHeld
     go_wp2_with fail
     go_meet
     exact ⟨_, rfl, HM⟩
   ·try simp only [gA,gB,gC]
    go_simp
    clear hHeld
    refine hK.out _ _ ?_ (fun hHeld => ?_)
    ·exact (HoldC.cons (r0) (HoldC.cons (⟨r0, r1, r2, r3, r4, r5⟩) HoldC.nil))
    clear hK K
    try simp only [gA,gB,gC,Act.put,gD,gE,gF]
    refine wpAnyL_ready (rs := [2]) (by kernel_rfl) (by simp) (AllReadyL.cons (o := _) rfl (fun K hK => ?_) AllReadyL.nil)
    try simp only [gA,gB,gC]
    go_simp
    refine (deedof_any k _).mono ?_
    rintro e w' ⟨rfl, hq⟩
    subst hq
    clear hHeld
    refine hK.out _ _ ?_ (fun hHeld => ?_)
    ·exact (HoldC.past (by kernel_rfl) (HoldC.cons (⟨r0, r1, r2, r3, r4, r5⟩) HoldC.nil))
    clear hK K
    try simp only [gA,gB,gC,Act.put,gD,gE,gF]
    refine wpAnyL_ready (rs := [5]) (by kernel_rfl) (by simp) (AllReadyL.cons (o := _) rfl (fun K hK => ?_) AllReadyL.nil)
    try simp only [gA,gB,gC]
    go_simp
    refine CPX.out.mono ?_
    rintro e w3 ⟨v3, rfl, hr3, hs3⟩
    obtain ⟨bv3, iv3, rfl, hb3, hn3, ho3⟩ := hr3
    obtain ⟨a3, c3, rfl⟩ := hb3.slice
    obtain ⟨a4, n4, c4, rfl⟩ : ∃ a n c, iv3 = .slice a n c := by
     rcases ho3.2 with ⟨h1, h2⟩ | ⟨g, cap, cur, h1, _⟩
     ·exact ⟨none, 0, 0, h1⟩
     ·exact ⟨_, _, cap, h1⟩
    have HM := LH (doMid_early HE0.out HH.out hb3 hn3 ho3 hs3)
    have hz4 := hs3.blk (show (w2.alloc (.cells #[.int .i64 0, .slice none 0 0, .slice none 0 0, .int .i64 0, .bool false] 32)).drew.heap[w2.heap.size]? = some (.cells #[.int .i64 0, .slice none 0 0, .slice none 0 0, .int .i64 0, .bool false] 32 (0, 0)) from heap_alloc_new w2 _) (fun hm => by have := HH.out.st.lim _ hm; have := HE0.out.chg.size; omega)
    have HTH := LH (five_there hz4 _ rfl)
    clear hb3 hn3 ho3 hs3 hz4
    clear hHeld
    refine hK.out _ _ ?_ (fun hHeld => ?_)
    ·exact (HoldC.past (by kernel_rfl) (HoldC.past (by kernel_rfl) HoldC.nil))
    clear hK K
    try simp only [gA,gB,gC,Act.put,gD,gE,gF]
    refine wpAnyL_ready (rs := [7]) (by kernel_rfl) (by simp) (AllReadyL.cons (o := _) rfl (fun K hK => ?_) AllReadyL.nil)
    try simp only [gA,gB,gC]
    rw [if_pos (by rfl)]
    refine wp_store_mid 32 (.tmp 6) (.tmp 30) (by rfl) w2.heap.size 0 (rpL (t.step ⟨k, ⟨xc, xl, xn, xi⟩, b⟩).1.e (.slice a3 (t.step ⟨k, ⟨xc, xl, xn, xi⟩, b⟩).1.b.length c3) (.slice a4 n4 c4) (t.step ⟨k, ⟨xc, xl, xn, xi⟩, b⟩).1.room (t.step ⟨k, ⟨xc, xl, xn, xi⟩, b⟩).1.whole).toArray (by rfl) (by rfl) HTH.out (rp_size _ _ _ _ _) (rp_all _ _ _ _ _ _ _ _ _) ?_
    clear hHeld
    refine hK.out _ _ ?_ (fun hHeld => ?_)
    ·exact (HoldC.past (by kernel_rfl) (HoldC.past (by kernel_rfl) HoldC.nil))
    clear hK K
    try simp only [gA,gB,gC,Act.put,gD,gE,gF]
    refine wpAnyL_done (by kernel_rfl) ?_ _
    clear hHeld
    go_wp2_with fail
    go_meet
    exact ⟨_, rfl, HM⟩
  case rest =>
  obtain ⟨C, rfl, HM⟩ := hcut
  obtain ⟨a3, n3, c3, a4, n4, c4, hC, hbC, hoC, hown, hs, hCA, hCw⟩ := HM.out
  have HZA := LH (hs.blk HE0.out.rp HE0.out.out)
  rw [<- HB.out] at HZA
  have HZC := LH hC
  have HBC := LH hbC
  have HOC := LH hoC
  have HOW := LH hown
  have HSS := LH hs
  have hzz := blk_cell (hs.blk HE0.out.head HH.out.out) 0 _ rfl
  obtain ⟨U', a1, a2, a3'⟩ := hs
  have CDK2 := LH (stdisk_any wc a1)
  have CDD2 := LH a1.dead
  have HE1 := HE0
  clear hC hbC hoC hown a1 a2 a3' CDK CDD c0 q0 q1 q2 q3 q4 q5 HM hCA hCw
  obtain ⟨o, ho⟩ : ∃ o, o = t.step ⟨k, ⟨xc, xl, xn, xi⟩, b⟩ := ⟨_, rfl⟩
  rw [<- ho] at HRUN HZC HBC HOC HSS CDD2
  clear ho
  obtain ⟨⟨oe, ob, oi, orm, ow⟩, t'⟩ := o
  dsimp only at HZC HBC HOC HSS CDD2
  go_wp2_with fail
  refine CDK2.out.mono ?_
  rintro e w' ⟨rfl, hq⟩
  subst hq
  go_wp2_with fail
  refine CDD2.out.mono ?_
  rintro e w' ⟨rfl, hq⟩
  subst hq
  clear hzz CDK2 CDD2
  cases hd2 : t'.s.d.dead
  ·rw [if_neg (by rw [hd2]; simp)] at HRUN
   obtain ⟨⟨p0, p1, p2, p3, p4⟩, g0, g1, g2, g3, g4⟩ := five_cells HZC.out
   obtain ⟨⟨m0, m1, m2, m3, m4⟩, f0, f1, f2, f3, f4⟩ := five_cells HZA.out
   have HZ := LH (five_set HZA.out (.int .i64 oe) (.slice a3 n3 c3) (.slice a4 n4 c4) (.int .i64 orm) (.bool ow))
   have HS := LH (HE0.out.ends HH.out HSS.out (rpL oe (.slice a3 n3 c3) (.slice a4 n4 c4) orm ow))
   rw [<- HB.out] at HS
   have HBX : Hid (BytesAt (wc.setCells (B + 1) 0 (rpL oe (.slice a3 n3 c3) (.slice a4 n4 c4) orm ow)) (.slice a3 n3 c3) ob /\ (wc.setCells (B + 1) 0 (rpL oe (.slice a3 n3 c3) (.slice a4 n4 c4) orm ow)).ownsRow w.heap.size 38 4 (.slice a4 n4 c4) oi.length (oi.flatMap idE)) := LH (by
    have hc : Chg [B + 1] wc (wc.setCells (B + 1) 0 (rpL oe (.slice a3 n3 c3) (.slice a4 n4 c4) orm ow)) := (Chg.refl _ wc).setCells (.inl (by simp)) _
    have hB := HB.out
    refine ⟨HBC.out.chg hc (fun k hk hm => ?_), row_keep HOC.out (fun g hg => hc.block g (World.ownsRow.lt HOC.out g hg).2 (fun hm => ?_))⟩
    ·exact (HOW.out k (.inl hk)).2 (by rw [List.mem_singleton.1 hm, hB])
    ·exact (HOW.out g (.inr hg)).2 (by rw [List.mem_singleton.1 hm, hB]))
   go_wp2_with fail
   refine bodyPost_ret (ret_rp2 rfl _ rfl rfl HZ.out) rfl ?_
   rw [HRUN.out]
   exact ⟨_, rfl, ⟨.slice a3 n3 c3, .slice a4 n4 c4, rfl, HBX.out.1, fun k hk => (HOW.out k (.inl hk)).1, HBX.out.2⟩, HS.out⟩
  ·rw [if_pos (by rw [hd2])] at HRUN
   obtain ⟨⟨m0, m1, m2, m3, m4⟩, f0, f1, f2, f3, f4⟩ := five_cells HZA.out
   have HZ := LH (five_set HZA.out (.int .i64 0) (.slice none 0 0) (.slice none 0 0) (.int .i64 0) (.bool false))
   have HS := LH (HE0.out.ends HH.out HSS.out (rpL 0 (.slice none 0 0) (.slice none 0 0) 0 false))
   rw [<- HB.out] at HS
   go_wp2_with fail
   refine bodyPost_ret (ret_rp2 rfl _ rfl rfl HZ.out) rfl ?_
   rw [HRUN.out]
   exact ⟨_, rfl, RpAt.err 0, HS.out⟩
 ·rw [hdd] at HRUN
  rw [if_pos rfl] at HRUN
  have hz := HRP.out
  obtain ⟨⟨m0, m1, m2, m3, m4⟩, f0, f1, f2, f3, f4⟩ := five_cells hz
  have HZ := LH (five_set hz (.int .i64 0) (.slice none 0 0) (.slice none 0 0) (.int .i64 0) (.bool false))
  have HS := LH (HE0.out.calm HH.out (Chg.refl [] w2) (rpL 0 (.slice none 0 0) (.slice none 0 0) 0 false))
  rw [<- HB.out] at HS
  clear hz
  go_wp2_with fail
  refine bodyPost_ret (ret_rp2 rfl _ rfl rfl HZ.out) rfl ?_
  rw [HRUN.out]
  exact ⟨_, rfl, RpAt.err 0, HS.out⟩
end
def Qn (Q : Exit -> Act -> World -> Prop) : Exit -> Act -> World -> Prop
 | .normal, a, w => Q .normal a w
 | _, _, _ => False
theorem Qn_lets {Q : Exit -> Act -> World -> Prop} : ¬ LetsOut (Qn Q) := by
 rintro ⟨_, _, h⟩
 exact h
section
variable {F : Fence} {n : Nat} {P : Program} {ops : Array Oper} {Q : Exit -> Act -> World -> Prop} {a : Act} {w : World}
theorem wpIn_of_opN {o : Oper} {K : Act -> World -> Prop} (hF : Wide F) (hnd : ∀ c, o.op ≠ .defer c) (h : o.wp P a w K (Qn Q)) : o.wpIn F n P a w K Q := by
 unfold Oper.wpIn
 refine ⟨fun f _ => hF.fn f, ?_⟩
 rw [Oper.semAt_eq _ _ _ hnd]
 unfold Oper.wp at h
 revert h
 generalize hr : (execOp a.eval o).run P w = r
 intro h
 cases r with
 | ok x w' =>
  cases x <;> simp only [Oper.upon, Oper.uponIn] at h ⊢
  case value => exact h
  case skip => exact h
  case defer => exact h
  case enter f args =>
   refine ⟨fun hd => (by rw [hF.depth] at hd; cases hd), hF.calls (Calls.mono h (fun e w'' he => ?_))⟩
   cases e with
   | returned v => exact he
   | panicked c => exact he.elim
   | outgrown => exact absurd he Qn_lets
  case row row args => exact ⟨fun hd => (by rw [hF.depth] at hd; cases hd), hF.rows h⟩
 | halt x w' => cases x <;> simp only [Oper.upon, Oper.uponIn] at h ⊢ <;> exact h.elim
theorem wpOpIn_ofN {i : Nat} {K : Act -> World -> Prop} (hF : Wide F) (hnd : ∀ (o : Oper), ops[i]? = some o -> ∀ c, o.op ≠ .defer c) (h : wpOp P ops (Qn Q) i K a w) : wpOpIn F n P ops Q i K a w := by
 unfold wpOp at h
 unfold wpOpIn
 cases ho : ops[i]? with
 | none => rw [ho] at h; exact h
 | some o =>
  simp only [ho] at h ⊢
  by_cases hw : Region.wanted o (yielded ops a.tmps) = true
  ·simp only [hw, if_true] at h ⊢
   rcases h with h | h
   ·exact wpIn_of_opN hF (hnd o ho) h
   ·exact absurd h.2 Qn_lets
  ·simp only [hw] at h ⊢
   exact ⟨fun f _ => hF.fn f, h⟩
theorem wpAnyIn_ofN {md : Region.Mode} (hF : Wide F) (hnd : ∀ (i : Nat) (o : Oper), ops[i]? = some o -> ∀ c, o.op ≠ .defer c) :
  ∀ (k : Nat) (L : Array Bool) (a : Act) (w : World), wpAny P md ops (Qn Q) k L a w -> wpAnyIn F n P md ops Q k L a w
 | 0, _, _, _, h => h
 | k + 1, _, _, _, h => ⟨h.1, fun i hi => wpOpIn_ofN hF (hnd i) (wpOp_mono (fun a' w' h' => wpAnyIn_ofN hF hnd k _ a' w' h') (h.2 i hi))⟩
theorem wpIn_region_LN {id : Nat} (hF : Wide F) (hnd : noDefer ops = true) (cs : List (Nat × (World -> Prop))) (hm : P.follows .mixedOrders = true) (hS : HoldC cs (Array.replicate ops.size false) w.drew)
  (h : HoldC cs (Array.replicate ops.size false) w.drew -> wpAnyL P .any ops (Qn Q) cs ops.size (Array.replicate ops.size false) a w.drew) : (Code.region id ops true).wpIn F n P Q a w :=
 wpIn_region_any hm (wpAnyIn_ofN hF (noDefer_spec hnd) _ _ _ _ (wpAny_of_L _ _ _ _ (h hS)))
end
section
open Go.RowKit Go.Shelf
attribute [local go_sem] Oper.semAt_some
theorem size_sec : (Tryz.prog.info? 103).map (·.size) = some 64 := by kernel_rfl
theorem setRow_size (w : World) (g : Nat) (cs : Array Value) : (w.setRow g cs).heap.size = w.heap.size := by
 unfold World.setRow
 simp
theorem copy_secs {w : World} {gl gs n cl cn : Nat} {f : Nat -> List UInt8} {cur : Array Value} (ty : TypeId) (hs : SecsAt w gs n f) (hg : w.heap[gl]? = some (.cells cur 103 (0, 0))) (hc : cur.size = n * 64) :
  (Builtin.copy_ #[91, 91] ty #[.slice (some ⟨gl, 0, none⟩) n cl, .slice (some ⟨gs, 0, none⟩) n cn]).run Tryz.prog w = .ok (goInt n) (w.setRow gl (bvs (flat n f)).toArray) := by
 obtain ⟨hl, hr⟩ := hs.whole
 have h := run_copy_n (P := Tryz.prog) w 91 91 ty 103 64 gl 0 n cl ⟨gs, 0, none⟩ n cn cur 103 (bvs (flat n f)) n Tryz.underlying91 size_sec hg (by simp) (by rw [bvs_len, hl])
  (fun j v hv => by rw [add_none]; exact hr j v hv) (by rw [bvs_len, hl]; omega) (bvs_one _)
 rw [h]
 congr 2
 rw [List.take_zero, List.nil_append, List.drop_eq_nil_of_le (by rw [bvs_len, hl]; simp; omega), List.append_nil]
theorem wp_copy {P : Program} {o : Oper} {a : Act} {w : World} {K : Act -> World -> Prop} {Q : Exit -> Act -> World -> Prop} (x y : Operand) {t1 t2 : TypeId} (ho : o.op = .call { callee := .builtin .copy, args := #[x, y], argTypes := #[t1, t2] }) {v1 v2 : Value} (hx : a.eval x = v1) (hy : a.eval y = v2)
  {r : Value} {w' : World} (hr : (Builtin.copy_ #[t1, t2] o.type #[v1, v2]).run P w = .ok r w') (h : K (a.put o.dst r) w') : Oper.wp P o a w K Q := by
 unfold Oper.wp execOp
 simp only [ho, resolve, invoke, builtin, Sem.run_bind, Sem.run_pure, Result.andThen_ok, List.map_toArray, List.map_cons, List.map_nil, hx, hy, hr]
 exact h
theorem u8_and_lt (b : UInt8) : b &&& 1 = 0 ∨ b &&& 1 = 1 := by
 have h : (b &&& 1).toNat = b.toNat % 2 := by
  rw [UInt8.toNat_and]
  exact Nat.and_one_is_mod _
 rcases Nat.mod_two_eq_zero_or_one b.toNat with h1 | h1
 ·exact .inl (UInt8.toNat_inj.1 (by rw [h, h1]; rfl))
 ·exact .inr (UInt8.toNat_inj.1 (by rw [h, h1]; rfl))
theorem u8_bit (b : UInt8) : bits .and .u8 (b.toNat : Int) 1 = ((b &&& 1).toNat : Int) := by
 show IntKind.u8.wrap ((BitVec.ofInt 8 (b.toNat : Int) &&& BitVec.ofInt 8 1).toNat : Int) = _
 have h : BitVec.ofInt 8 (b.toNat : Int) = b.toBitVec := by
  rw [BitVec.ofInt_natCast]
  exact BitVec.eq_of_toNat_eq (by simp)
 rw [h]
 have h2 : (b.toBitVec &&& BitVec.ofInt 8 1).toNat = (b &&& 1).toNat := rfl
 rw [h2]
 have h3 := (b &&& 1).toNat_lt
 generalize (b &&& 1).toNat = m at *
 rw [IntKind.wrap_u8]
 omega
structure CrashAt (w W : World) (n Bi Bh pc Bc gl : Nat) (k : Nat) (cv : Value) (f : Nat -> List UInt8) : Prop where
 ci : W.heap[Bi]? = some (.cells #[.int .i64 (k : Int)] 3 (0, 0))
 ch : W.heap[Bh]? = some (.cells #[cv] 30 (0, 0))
 cc : W.heap[Bc]? = some (.cells #[.pointer (some ⟨pc, 0, none⟩)] 44 (0, 0))
 obj : W.heap[pc]? = some (.cells #[.slice none 0 0, .slice (some ⟨gl, 0, none⟩) n n, .slice none 0 0, .int .i64 (-1), .int .i64 0, .bool false] 94 (0, 0))
 secs : SecsAt W gl n f
 chg : Chg [] w W
 lo : w.heap.size <= Bi /\ w.heap.size <= Bh /\ w.heap.size <= Bc /\ w.heap.size <= pc /\ w.heap.size <= gl
 ne : Bi ≠ Bh /\ Bi ≠ Bc /\ Bi ≠ pc /\ Bi ≠ gl /\ Bh ≠ gl /\ Bc ≠ gl /\ pc ≠ gl
theorem CrashAt.keep {w W W' : World} {n Bi Bh pc Bc gl k : Nat} {cv : Value} {f : Nat -> List UInt8} (h : CrashAt w W n Bi Bh pc Bc gl k cv f) (hc : Chg [] W W') : CrashAt w W' n Bi Bh pc Bc gl k cv f :=
 ⟨hc.keep h.ci (by simp), hc.keep h.ch (by simp), hc.keep h.cc (by simp), hc.keep h.obj (by simp), h.secs.keep (hc.block _ h.secs.lt (by simp)), h.chg.trans hc (by simp), h.lo, h.ne⟩
theorem CrashAt.turn {w W W' : World} {row : Option Nat} {n Bi Bh pc Bc gl k : Nat} {cv : Value} {f : Nat -> List UInt8} (h : CrashAt w W n Bi Bh pc Bc gl k cv f) (hg : W.grownBy W' row)
  (hr : ∀ r, row = some r -> w.heap.size <= r /\ ∃ o : Obj, W.heap[r]? = some o /\ o.isCells = false) : CrashAt w W' n Bi Bh pc Bc gl k cv f := by
 have hr2 := fun r e => (hr r e).2
 obtain ⟨cs, h1, h2⟩ := h.secs
 exact ⟨(blk_turn h.ci hg hr2).trans h.ci, (blk_turn h.ch hg hr2).trans h.ch, (blk_turn h.cc hg hr2).trans h.cc, (blk_turn h.obj hg hr2).trans h.obj, h.secs.keep (blk_turn h1 hg hr2), chg_turn h.chg hg (fun r e => (hr r e).1), h.lo, h.ne⟩
theorem dcrash_any (p : Nat) (S : List Nat) (d : DS) (cv : Value) (ch : List UInt8) (w : World) (h : DiskAt w p S d) (hn0 : 0 < d.n) (hw : d.since.length <= 1000000) (hcv : BytesAt w cv ch) (hcl : ch.length <= 1000000) :
  Calls Tryz.prog 20 #[.pointer (some ⟨p, 0, none⟩), cv] w fun e w' => ∃ p' S', e = .returned (.pointer (some ⟨p', 0, none⟩)) /\ Newly w w' p' S' (d.crash ch) := by
 obtain ⟨gn, gl, cn, cl, v, H⟩ := h
 have c0 : w.cell? ⟨p, 0, none⟩ = some (.slice (some ⟨gn, 0, none⟩) d.n cn) := blk_cell H.head 0 _ rfl
 have c1 : w.cell? ⟨p, 1, none⟩ = some (.slice (some ⟨gl, 0, none⟩) d.n cl) := blk_cell H.head 1 _ rfl
 have hpl := blk_lt H.head
 have HCV := LH hcv
 obtain ⟨ca, cc, hcv'⟩ := hcv.slice
 subst hcv'
 have hmk := make_secs d.n (by have := H.few; omega)
 have HH := LH H
 have hfew := H.few
 have hcapn := H.capn
 have hcapl := H.capl
 have hq : ∀ w, (binOp .eql 91 (.slice (some ⟨gn, 0, none⟩) d.n cn) (.slice none 0 0)).run Tryz.prog w = .ok (.bool false) w := fun w => Lib.run_eql_slice_nil w 91 103 (some ⟨gn, 0, none⟩) _ _ 0 0 Tryz.underlying91
 clear H hcv
 obtain ⟨n, hn⟩ : ∃ n, n = d.n := ⟨_, rfl⟩
 rw [<- hn] at c0 c1 hmk hfew hcapn hcapl hq hn0
 have HN := LH hn
 clear hn
 refine (callsIn_wide (n := 5)).1 ?_
 refine callsIn_of_wp_marks Tryz.func20 rfl trivial ?_ rfl
 simp only [Tryz.ntmps20, List.size_toArray, List.length_cons, List.length_nil, Nat.reduceAdd, Nat.reduceSub, Array.replicate_succ, Array.replicate_zero, List.push_toArray, List.append_toArray, List.nil_append, List.cons_append]
 obtain ⟨w3, hw3⟩ : ∃ w3, w3 = (((w.alloc (.cells #[.slice ca ch.length cc] 30)).alloc (.cells (secZ n) 103)).alloc (.cells #[.slice none 0 0, .slice (some ⟨w.heap.size + 1, 0, none⟩) n n, .slice none 0 0, .int .i64 (-1), .int .i64 0, .bool false] 94)).alloc (.cells #[.pointer (some ⟨w.heap.size + 1 + 1, 0, none⟩)] 44) := ⟨_, rfl⟩
 have hc3 : Chg [] w w3 := by rw [hw3]; exact ((((Chg.refl _ _).alloc _).alloc _).alloc _).alloc _
 have hs3 : w3.heap.size = w.heap.size + 4 := by rw [hw3]; simp
 have hbh : w3.heap[w.heap.size]? = some (.cells #[.slice ca ch.length cc] 30 (0, 0)) := by rw [hw3]; exact blk_alloc (blk_alloc (blk_alloc (heap_alloc_new w _)))
 have hgc : w3.heap[w.heap.size + 1]? = some (.cells (secZ n) 103 (0, 0)) := by rw [hw3]; exact blk_alloc (blk_alloc (heap_at (by simp)))
 have hpc : w3.heap[w.heap.size + 2]? = some (.cells #[.slice none 0 0, .slice (some ⟨w.heap.size + 1, 0, none⟩) n n, .slice none 0 0, .int .i64 (-1), .int .i64 0, .bool false] 94 (0, 0)) := by rw [hw3]; exact blk_alloc (heap_at (by simp))
 have hbc : w3.heap[w.heap.size + 3]? = some (.cells #[.pointer (some ⟨w.heap.size + 2, 0, none⟩)] 44 (0, 0)) := by rw [hw3]; exact heap_at (by simp)
 have HW3 := LH hw3
 gi_wp2_with fail
 rw [<- HW3.out]
 have e2 : w.heap.size + 1 + 1 = w.heap.size + 2 := rfl
 have e3 : w.heap.size + 1 + 1 + 1 = w.heap.size + 3 := rfl
 rw [e3, e2]
 clear hw3 e2 e3 HW3
 -- the copy
 have hls : SecsAt w3.drew gl n d.lasts := by rw [HN.out]; exact (HH.out.lasts.keep (hc3.block _ HH.out.lasts.lt (by simp))).keep rfl
 have hrun := fun ty => copy_secs (cl := n) (cn := cl) ty hls (show w3.drew.heap[w.heap.size + 1]? = some (.cells (secZ n) 103 (0, 0)) from hgc) (secZ_size n)
 have hl64 : ∀ k, k < n -> (d.lasts k).length = 64 := fun k hk => hls.len k hk
 obtain ⟨w4, hw4⟩ : ∃ w4, w4 = w3.drew.setRow (w.heap.size + 1) (bvs (flat n d.lasts)).toArray := ⟨_, rfl⟩
 rw [<- hw4] at hrun
 have hs4 : w4.heap.size = w.heap.size + 4 := by rw [hw4, setRow_size]; exact hs3
 have ho4 : ∀ k, k ≠ w.heap.size + 1 -> w4.heap[k]? = w3.heap[k]? := fun k hk => by rw [hw4]; exact setRow_other w3.drew _ k _ hk
 have hc4 : Chg [] w w4 := ⟨by rw [hw4]; exact hc3.os, by rw [hw4]; exact hc3.tape, by rw [hw4]; exact hc3.output, by omega, fun k hk _ => (ho4 k (by omega)).trans (hc3.block k hk (by simp))⟩
 have hsec4 : SecsAt w4 (w.heap.size + 1) n d.lasts := by
  refine secs_of_cells (t := 0) (by rw [hw4]; exact setRow_heap w3.drew _ _ _ _ _ hgc) hl64 ?_
  rw [List.take_of_length_le (by simp [bvs_len]; rw [flat_len n _ hl64]; exact Nat.le_refl _)]
 obtain ⟨w5, hw5⟩ : ∃ w5, w5 = w4.alloc (.cells #[.int .i64 0] 3) := ⟨_, rfl⟩
 have hcr5 : CrashAt w w5 n (w.heap.size + 4) w.heap.size (w.heap.size + 2) (w.heap.size + 3) (w.heap.size + 1) 0 (.slice ca ch.length cc) d.lasts := by
  rw [hw5]
  exact ⟨heap_at (by omega), blk_alloc ((ho4 _ (by omega)).trans hbh), blk_alloc ((ho4 _ (by omega)).trans hbc), blk_alloc ((ho4 _ (by omega)).trans hpc), hsec4.keep (Below.heap_alloc w4 _ _ (by omega)), hc4.alloc _, ⟨by omega, by omega, by omega, by omega, by omega⟩, by omega⟩
 have hs5 : w5.heap.size = w.heap.size + 5 := by rw [hw5]; simp [hs4]
 have HW5 := LH hw5
 have HCR5 := LH hcr5
 have HS4 := LH hs4
 have k1 := blk_cell hbc 0 _ rfl
 have k2 := blk_cell hpc 1 _ rfl
 have k3 := hc3.cell c1 (by simp)
 have HRUN := LH hrun
 have HS3 := LH hs3
 clear hls hrun hw4 ho4 hc4 hsec4 hw5 hcr5 hbh hgc hpc hbc c0 c1 hmk hq hs3 hs4 hs5
 refine wpIn_region_LN (wide_w) (by kernel_rfl) [(8, fun w' => w'.cell? ⟨w.heap.size + 3, 0, none⟩ = some (.pointer (some ⟨w.heap.size + 2, 0, none⟩))), (8, fun w' => w'.cell? ⟨w.heap.size + 2, 1, none⟩ = some (.slice (some ⟨w.heap.size + 1, 0, none⟩) n n)), (8, fun w' => w'.cell? ⟨p, 1, none⟩ = some (.slice (some ⟨gl, 0, none⟩) n cl))] (by kernel_rfl) ?_ (fun hHeld => ?_)
 ·exact (HoldC.cons (k1) (HoldC.cons (k2) (HoldC.cons (k3) HoldC.nil)))
 refine ld 0 0 ?_ rfl rfl (by kernel_rfl) (fun _ _ _ h => h) (.inl ⟨by rfl, ?_⟩) hHeld ?_; rotate_left; · (intro w hSw; (try dsimp only at hSw); go_simp; try with_reducible rfl)
 clear hHeld; intro hHeld; try simp only [gA,gB,gC,Act.put,gD,gE,gF]
 refine tk 1 ?_ rfl (by kernel_rfl) (fun _ _ _ h => h) (.inl ⟨by rfl, ?_⟩) hHeld ?_; rotate_left; · (intro w _; go_simp; try with_reducible rfl)
 clear hHeld; intro hHeld; try simp only [gA,gB,gC,Act.put,gD,gE,gF]
 refine tk 2 ?_ rfl (by kernel_rfl) (fun _ _ _ h => h) (.inl ⟨by rfl, ?_⟩) hHeld ?_; rotate_left; · (intro w _; go_simp; try with_reducible rfl)
 clear hHeld; intro hHeld; try simp only [gA,gB,gC,Act.put,gD,gE,gF]
 refine ld 1 3 ?_ rfl rfl (by kernel_rfl) (fun _ _ _ h => h) (.inl ⟨by rfl, ?_⟩) hHeld ?_; rotate_left; · (intro w hSw; (try dsimp only at hSw); go_simp; try with_reducible rfl)
 clear hHeld; intro hHeld; try simp only [gA,gB,gC,Act.put,gD,gE,gF]
 refine tk 4 ?_ rfl (by kernel_rfl) (fun _ _ _ h => h) (.inl ⟨by rfl, ?_⟩) hHeld ?_; rotate_left; · (intro w _; go_simp; try with_reducible rfl)
 clear hHeld; intro hHeld; try simp only [gA,gB,gC,Act.put,gD,gE,gF]
 refine tk 5 ?_ rfl (by kernel_rfl) (fun _ _ _ h => h) (.inl ⟨by rfl, ?_⟩) hHeld ?_; rotate_left; · (intro w _; go_simp; try with_reducible rfl)
 clear hHeld; intro hHeld; try simp only [gA,gB,gC,Act.put,gD,gE,gF]
 refine tk 6 ?_ rfl (by kernel_rfl) (fun _ _ _ h => h) (.inl ⟨by rfl, ?_⟩) hHeld ?_; rotate_left; · (intro w _; go_simp; try with_reducible rfl)
 clear hHeld; intro hHeld; try simp only [gA,gB,gC,Act.put,gD,gE,gF]
 refine ld 2 7 ?_ rfl rfl (by kernel_rfl) (fun _ _ _ h => h) (.inl ⟨by rfl, ?_⟩) hHeld ?_; rotate_left; · (intro w hSw; (try dsimp only at hSw); go_simp; try with_reducible rfl)
 clear hHeld; intro hHeld; try simp only [gA,gB,gC,Act.put,gD,gE,gF]
 refine wpAnyL_ready (rs := [8]) (by kernel_rfl) (by simp) (AllReadyL.cons (o := _) rfl (fun K hK => ?_) AllReadyL.nil)
 try simp only [gA,gB,gC]
 rw [if_pos (by rfl)]
 refine wp_copy (.tmp 28) (.tmp 32) (by rfl) (by rfl) (by rfl) (HRUN.out _) ?_
 clear hHeld
 refine hK.out _ _ ?_ (fun hHeld => ?_)
 ·exact (HoldC.past (by kernel_rfl) (HoldC.past (by kernel_rfl) (HoldC.past (by kernel_rfl) HoldC.nil)))
 clear hK K
 try simp only [gA,gB,gC,Act.put,gD,gE,gF]
 refine wpAnyL_done (by kernel_rfl) ?_ _
 clear hHeld
 simp only [Qn]
 clear k1 k2 k3 HRUN
 gi_wp2_with fail
 rw [<- HW5.out]
 try rw [HS4.out]
 refine ⟨trivial, (wide_w.calls (dwaits_any p w5)).mono ?_⟩
 rintro e w6 ⟨rfl, hw6⟩
 have hc6 : Chg [] w5 w6 := by rw [hw6]; exact (Chg.refl _ _).alloc _
 have hB1 : w6.cell? ⟨w5.heap.size, 0, none⟩ = some (.pointer (some ⟨p, 0, none⟩)) := by rw [hw6]; exact blk_cell (heap_alloc_new w5 _) 0 _ rfl
 have hcr6 := HCR5.out.keep hc6
 have hcw6 : Chg [] w w6 := hcr6.chg
 have H6 : DiskOk w6 p S d gn gl cn cl v := by
  have H := HH.out
  obtain ⟨m1, m2, m3, m4⟩ := H.mem
  exact ⟨hcw6.keep H.head (by simp), H.now.keep (hcw6.block _ H.now.lt (by simp)), H.lasts.keep (hcw6.block _ H.lasts.lt (by simp)), row_keep H.since (fun g hg => hcw6.block g (World.ownsRow.lt H.since g hg).2 (by simp)),
   H.waits, H.few, H.capn, H.capl, H.fuse, H.ap, H.av, H.mem, fun x hx => Nat.lt_of_lt_of_le (H.lim x hx) hcw6.size⟩
 have h62 : w6.cell? ⟨p, 2, none⟩ = some v := blk_cell H6.head 2 _ rfl
 obtain ⟨xs, hxs⟩ := wcs_of (N := d.n) d.since (fun x hx => H6.waits x hx)
 have hxl : xs.length = d.since.length := by rw [<- hxs, wcs_len]
 have hrow : w6.ownsRow 0 105 65 v xs.length (wsCells (wcs xs)) := by rw [hxs, hxl]; exact H6.since
 have hxn : xs.length <= 1000000 := by rw [hxl]; exact hw
 have hvl : ∀ g, v.ownBlock = some g -> g < w.heap.size := fun g hg => (World.ownsRow.lt HH.out.since g hg).2
 obtain ⟨iw, zw, hiw, hzw1, hzw2, hzw3, hzw4⟩ := info_three facts_wr
 have HIW := LH hiw
 have HZ1 := LH hzw1
 have HZ2 := LH hzw2
 have HZ3 := LH hzw3
 have HXS := LH hxs
 have HXN := LH hxn
 have HROW := LH hrow
 have HVL := LH hvl
 have HCR6 := LH hcr6
 have HCW6 := LH hcw6
 have hs6 : w.heap.size + 6 <= w6.heap.size := by
  have h1 := blk_lt HCR5.out.ci
  have h2 := World.block_lt_of_cell? w6 _ hB1
  simp at h1 h2
  omega
 clear hw6 hc6 hcr6 H6 hxs hxl hrow hxn hvl hiw hzw1 hzw2 hzw3 hzw4 hcw6
 gi_wp2_with fail
 refine wpIn_rangeFunc_ownH rfl (by omega) (gf := 96) (lb := #[.pointer (some ⟨w5.heap.size, 0, none⟩)]) rfl trivial (enters_of Tryz.func96 (by kernel_rfl) rfl)
  (dwaits_stops 4 w5.heap.size p d.n (by omega) v xs HXN.out w6 hB1 h62 HROW.out) (fun h1 h2 g hg => (h2 g hg).trans (h1 g hg))
  (fun W l o o' hl hh _ _ g hg => World.putObj_heap_other (fun e => by have := HVL.out g hg; omega)) (Below.refl _ _) (fun _ => rfl)
  (fun pre W => CrashAt w W n (w.heap.size + 4) w.heap.size (w.heap.size + 2) (w.heap.size + 3) (w.heap.size + 1) pre.length (.slice ca ch.length cc) (applied (chosen ch (wcs pre) 0) d.lasts) /\ w6.heap.size <= W.heap.size) (fun _ _ _ => False)
  (fun s A B row hs hg hr => ⟨hs.1.turn hg (fun r e => ⟨by have := (hr r e).1; omega, (hr r e).2⟩), Nat.le_trans hs.2 hg.size⟩) (fun c s A B row hs _ _ => hs)
  ⟨HCR6.out, Nat.le_refl _⟩
  (fun x a' W => ∃ Bx, w6.heap.size <= Bx /\ W.heap[Bx]? = some (.cells (wcells x.1).toArray 105 (0, 0)) /\ a' = { tmps := #[.pointer (some ⟨p, 0, none⟩), .slice ca ch.length cc, undef, .pointer (some ⟨w.heap.size, 0, none⟩), .pointer none, .pointer (some ⟨w.heap.size + 3, 0, none⟩), .pointer (some ⟨w.heap.size + 4, 0, none⟩), .pointer (some ⟨Bx, 0, none⟩), .pointer (some ⟨p, 0, none⟩), .bool false, .bool false, .pointer (some ⟨p, 0, none⟩), .pointer (some ⟨p, 0, none⟩), .pointer (some ⟨p, 0, none⟩), .slice (some ⟨gn, 0, none⟩) n cn, .bool false, .bool false, .pointer (some ⟨p, 0, none⟩), .pointer (some ⟨p, 0, none⟩), .pointer (some ⟨p, 1, none⟩), .slice (some ⟨gl, 0, none⟩) n cl, .int .i64 n, .slice (some ⟨w.heap.size + 1, 0, none⟩) n n, .agg #[.slice none 0 0, .slice (some ⟨w.heap.size + 1, 0, none⟩) n n, .slice none 0 0, .int .i64 (-1), .int .i64 0, .bool false], .pointer (some ⟨w.heap.size + 2, 0, none⟩), .pointer (some ⟨w.heap.size + 2, 0, none⟩), .pointer (some ⟨w.heap.size + 2, 0, none⟩), .pointer (some ⟨w.heap.size + 2, 1, none⟩), .slice (some ⟨w.heap.size + 1, 0, none⟩) n n, .pointer (some ⟨p, 0, none⟩), .pointer (some ⟨p, 0, none⟩), .pointer (some ⟨p, 1, none⟩), .slice (some ⟨gl, 0, none⟩) n cl, .int .i64 n, .pointer (some ⟨p, 0, none⟩), .func (.func 96) #[] #[.pointer (some ⟨w5.heap.size, 0, none⟩)], .agg (wcells x.1).toArray, undef, undef, undef, undef, undef, undef, undef, undef, undef, undef, undef, undef, undef, undef, undef, undef, undef, undef, undef, undef, undef, undef, undef, undef, undef, undef, undef, undef, undef, undef, undef, undef], defers := [] })
  (fun x a' s A B row ⟨Bx, h1, h2, h3⟩ hg hr => ⟨Bx, h1, (blk_turn h2 hg (fun r e => (hr r e).2)).trans h2, h3⟩) ?assign ?body ?done ?stop
 case stop =>
  rintro D c pre W _ _ h _
  exact h.elim
 case assign =>
  rintro l pre x W K ⟨hI, hsz3⟩ hK
  have HXL := LH (wcells_len x.1 x.2.2)
  have hone := LH (all_oneCell_toArray (wcells_one x.1))
  have HZ2b : Hid (zw.cells.size = (wcells x.1).toArray.size) := LH (by rw [HZ2.out]; simp [HXL.out])
  have HZ3b : Hid (iw.size = (wcells x.1).toArray.size) := LH (by rw [HZ3.out]; simp [HXL.out])
  have HN := LH (hK { tmps := #[.pointer (some ⟨p, 0, none⟩), .slice ca ch.length cc, undef, .pointer (some ⟨w.heap.size, 0, none⟩), .pointer none, .pointer (some ⟨w.heap.size + 3, 0, none⟩), .pointer (some ⟨w.heap.size + 4, 0, none⟩), .pointer (some ⟨W.heap.size, 0, none⟩), .pointer (some ⟨p, 0, none⟩), .bool false, .bool false, .pointer (some ⟨p, 0, none⟩), .pointer (some ⟨p, 0, none⟩), .pointer (some ⟨p, 0, none⟩), .slice (some ⟨gn, 0, none⟩) n cn, .bool false, .bool false, .pointer (some ⟨p, 0, none⟩), .pointer (some ⟨p, 0, none⟩), .pointer (some ⟨p, 1, none⟩), .slice (some ⟨gl, 0, none⟩) n cl, .int .i64 n, .slice (some ⟨w.heap.size + 1, 0, none⟩) n n, .agg #[.slice none 0 0, .slice (some ⟨w.heap.size + 1, 0, none⟩) n n, .slice none 0 0, .int .i64 (-1), .int .i64 0, .bool false], .pointer (some ⟨w.heap.size + 2, 0, none⟩), .pointer (some ⟨w.heap.size + 2, 0, none⟩), .pointer (some ⟨w.heap.size + 2, 0, none⟩), .pointer (some ⟨w.heap.size + 2, 1, none⟩), .slice (some ⟨w.heap.size + 1, 0, none⟩) n n, .pointer (some ⟨p, 0, none⟩), .pointer (some ⟨p, 0, none⟩), .pointer (some ⟨p, 1, none⟩), .slice (some ⟨gl, 0, none⟩) n cl, .int .i64 n, .pointer (some ⟨p, 0, none⟩), .func (.func 96) #[] #[.pointer (some ⟨w5.heap.size, 0, none⟩)], .agg (wcells x.1).toArray, undef, undef, undef, undef, undef, undef, undef, undef, undef, undef, undef, undef, undef, undef, undef, undef, undef, undef, undef, undef, undef, undef, undef, undef, undef, undef, undef, undef, undef, undef, undef, undef], defers := [] } (W.alloc (.cells (wcells x.1).toArray 105)) ((KeepsOthers.alloc _ _).from _)
   (fun g hg => Below.heap_alloc W _ g (Nat.lt_of_lt_of_le (HVL.out g hg) (by omega))) ⟨hI.keep ((Chg.refl _ W).alloc _), by simp; omega⟩ ⟨W.heap.size, hsz3, heap_alloc_new W _, rfl⟩)
  clear hK hI
  refine wpIn_region_lit ?_
  simp [wenc]
  (refine wpListIn_varW (wide_r l) (by rfl) (by rfl) 105 (.tmp 7) (.tmp 36) (by rfl) (by rfl) W.heap.size rfl (wcells x.1).toArray (by rfl) (by rfl) iw zw HIW.out HZ1.out HZ2b.out HZ3b.out hone.out ?_)
  exact HN.out
 case body =>
  rintro l pre x a' W hl ⟨r, hr⟩ ⟨hC, hszW⟩ ⟨Bx, hBx, bX, rfl⟩ hlt
  obtain ⟨k, hk⟩ : ∃ k, k = pre.length := ⟨_, rfl⟩
  have HKL := LH hk
  rw [<- hk] at hC hlt
  have hk9 : k <= 1000000 := by have := HXN.out; omega
  have ci : W.cell? ⟨w.heap.size + 4, 0, none⟩ = some (.int .i64 (k : Int)) := blk_cell hC.ci 0 _ rfl
  have cb : W.cell? ⟨w.heap.size, 0, none⟩ = some (.slice ca ch.length cc) := blk_cell hC.ch 0 _ rfl
  have cp : W.cell? ⟨w.heap.size + 3, 0, none⟩ = some (.pointer (some ⟨w.heap.size + 2, 0, none⟩)) := blk_cell hC.cc 0 _ rfl
  have c1 : W.cell? ⟨w.heap.size + 2, 1, none⟩ = some (.slice (some ⟨w.heap.size + 1, 0, none⟩) n n) := blk_cell hC.obj 1 _ rfl
  have cx : W.cell? ⟨Bx, 0, none⟩ = some (.int .i64 (x.1.1 : Int)) := blk_cell bX 0 _ rfl
  have hxr : W.rangeAt Bx 0 (wcells x.1) := fun j u hu => by rw [Nat.zero_add]; exact blk_cell bX j u (by simpa using hu)
  have HXR := LH (range_tail hxr)
  have hx1 : x.1.1 < n := by rw [HN.out]; exact x.2.1
  have HXS2 := LH x.2.2
  have HCC := LH hC
  have hsnoc : ∀ q : Bool, leftAt ch k = q -> applied (chosen ch (wcs (pre ++ [x])) 0) d.lasts = if q then upd (applied (chosen ch (wcs pre) 0) d.lasts) x.1.1 x.1.2 else applied (chosen ch (wcs pre) 0) d.lasts := fun q hq => by
   rw [show wcs (pre ++ [x]) = wcs pre ++ [x.1] by simp [wcs], chosen_snoc, Nat.zero_add, wcs_len, <- HKL.out, hq]
   cases q
   ·simp
   ·simp [applied_snoc]
  have HSN := LH hsnoc
  -- the round's end
  have hfin : ∀ W2, CrashAt w W2 n (w.heap.size + 4) w.heap.size (w.heap.size + 2) (w.heap.size + 3) (w.heap.size + 1) k (.slice ca ch.length cc) (applied (chosen ch (wcs (pre ++ [x])) 0) d.lasts) -> (∀ j, j < w.heap.size ∨ w6.heap.size <= j -> W2.heap[j]? = W.heap[j]?) -> W.heap.size <= W2.heap.size ->
    ownPostG w6.heap.size (KpRow v) (fun pre W => CrashAt w W n (w.heap.size + 4) w.heap.size (w.heap.size + 2) (w.heap.size + 3) (w.heap.size + 1) pre.length (.slice ca ch.length cc) (applied (chosen ch (wcs pre) 0) d.lasts) /\ w6.heap.size <= W.heap.size) (fun _ _ _ => False) (pre ++ [x]) W Exit.normal { tmps := #[], defers := [] } (W2.setCell ⟨w.heap.size + 4, 0, none⟩ (.int .i64 ((k : Int) + 1))) := fun W2 h2 hj hsz => by
   have hne := h2.ne
   have hlo := h2.lo
   have hset : ∀ j, j ≠ w.heap.size + 4 -> (W2.setCell ⟨w.heap.size + 4, 0, none⟩ (.int .i64 ((k : Int) + 1))).heap[j]? = W2.heap[j]? := fun j hj => Below.heap_setCell W2 ⟨w.heap.size + 4, 0, none⟩ _ j hj
   have hsz2 : (W2.setCell ⟨w.heap.size + 4, 0, none⟩ (.int .i64 ((k : Int) + 1))).heap.size = W2.heap.size := by simp [World.setCell]
   refine ⟨⟨by rw [hsz2]; exact hsz, fun j o h1 h3 _ => ?_⟩, fun g hg => ?_, ⟨?_, ?_, ?_, ?_, ?_, ?_, h2.lo, h2.ne⟩, by rw [hsz2]; omega⟩
   ·rw [hset j (by omega), hj j (.inr h1)]; exact h3
   ·have := HVL.out g hg
    rw [hset g (by omega), hj g (.inl this)]
   ·have := set_blk (j := 0) (u := .int .i64 ((k : Int) + 1)) h2.ci
    rw [this, show (pre ++ [x]).length = k + 1 by simp [HKL.out]]
    rfl
   ·rw [hset _ (by omega)]; exact h2.ch
   ·rw [hset _ (by omega)]; exact h2.cc
   ·rw [hset _ (by omega)]; exact h2.obj
   ·exact h2.secs.keep (hset _ (by omega))
   ·exact h2.chg.setCell (.inr (by show w.heap.size <= w.heap.size + 4; omega)) _
  have HFIN := LH hfin
  have hzs : Hid ((Tryz.prog.info? 103).map (·.size) = some (bvs x.1.2).length) := LH (by rw [bvs_len, HXS2.out]; kernel_rfl)
  have hzt : Hid ((Tryz.prog.info? 103).map (·.size) = some (bvs x.1.2).toArray.size) := LH (by rw [show (bvs x.1.2).toArray.size = (bvs x.1.2).length by simp]; exact hzs.out)
  have th : Hid (W.drew.there (w.heap.size + 1) (x.1.1 * 64) (bvs x.1.2).toArray.size) := LH (by
   have h1 := (hC.secs.keep (w' := W.drew) rfl).there x.1.1 hx1
   have h2 : (bvs x.1.2).toArray.size = 64 := by simp [bvs_len, HXS2.out]
   rw [h2]; exact h1)
  have hone := LH (all_oneCell_toArray (bvs_one x.1.2))
  have hjz : ((x.1.1 : Nat) : Int) < (n : Int) := by omega
  have hjz0 : (0 : Int) <= ((x.1.1 : Nat) : Int) := by omega
  have hjz1 : ((x.1.1 : Nat) : Int).toNat = x.1.1 := by omega
  obtain ⟨W2, hW2⟩ : ∃ W2, W2 = W.drew.setCells (w.heap.size + 1) (x.1.1 * 64) (bvs x.1.2) := ⟨_, rfl⟩
  have hleft : leftAt ch k = true -> CrashAt w W2 n (w.heap.size + 4) w.heap.size (w.heap.size + 2) (w.heap.size + 3) (w.heap.size + 1) k (.slice ca ch.length cc) (applied (chosen ch (wcs (pre ++ [x])) 0) d.lasts) := fun hq => by
   have hfar : ∀ j, j ≠ w.heap.size + 1 -> W2.heap[j]? = W.heap[j]? := fun j hj => by rw [hW2]; exact setCells_far _ _ _ _ hj
   rw [HSN.out true hq, if_pos rfl]
   refine ⟨(hfar _ (by omega)).trans hC.ci, (hfar _ (by omega)).trans hC.ch, (hfar _ (by omega)).trans hC.cc, (hfar _ (by omega)).trans hC.obj, ?_, ?_, hC.lo, hC.ne⟩
   ·rw [hW2]; exact (hC.secs.keep (w' := W.drew) rfl).set x.1.1 x.1.2 hx1 HXS2.out
   ·rw [hW2]; exact hC.chg.drew.setCells (.inr (by omega)) _
  have HLEFT := LH hleft
  have hW2s : W2.heap.size = W.heap.size := by rw [hW2, setCells_size]; rfl
  have hW2j : ∀ j, j < w.heap.size ∨ w6.heap.size <= j -> W2.heap[j]? = W.heap[j]? := fun j hj => by rw [hW2]; exact setCells_far _ _ _ _ (by omega)
  have HW2 := LH hW2
  have HW2S := LH hW2s
  have HW2J := LH hW2j
  have HIW2 := LH (IntWalk.i64_in ((k : Int) + 1) ⟨by omega, by omega⟩)
  clear hk hsnoc hfin hleft hW2 hW2s hW2j bX hxr hr
  by_cases hkl : ch.length <= k
  ·have hz : (ch.length : Int) <= (k : Int) := by omega
   have HL := LH (HLEFT.out (by unfold leftAt; rw [decide_eq_true hkl]; rfl))
   clear hC
   gi_wp2_with fail
   refine wpIn_region_L (wide_r l) (by rintro ⟨_, _, h⟩; exact h) (by kernel_rfl) [(9, fun w' => w'.cell? ⟨w.heap.size + 3, 0, none⟩ = some (.pointer (some ⟨w.heap.size + 2, 0, none⟩))), (9, fun w' => w'.cell? ⟨w.heap.size + 2, 1, none⟩ = some (.slice (some ⟨w.heap.size + 1, 0, none⟩) n n)), (9, fun w' => w'.cell? ⟨Bx, 0, none⟩ = some (.int .i64 (x.1.1 : Int))), (9, fun w' => w'.rangeAt Bx (0 + 1) (bvs x.1.2))] (by kernel_rfl) ?_ (fun hHeld => ?_)
   ·exact (HoldC.cons (cp) (HoldC.cons (c1) (HoldC.cons (cx) (HoldC.cons (HXR.out) HoldC.nil))))
   refine ld 0 0 ?_ rfl rfl (by kernel_rfl) (fun _ _ _ h => h) (.inl ⟨by rfl, ?_⟩) hHeld ?_; rotate_left; · (intro w hSw; (try dsimp only at hSw); go_simp; try with_reducible rfl)
   clear hHeld; intro hHeld; try simp only [gA,gB,gC,Act.put,gD,gE,gF]
   refine tk 1 ?_ rfl (by kernel_rfl) (fun _ _ _ h => h) (.inl ⟨by rfl, ?_⟩) hHeld ?_; rotate_left; · (intro w _; go_simp; try with_reducible rfl)
   clear hHeld; intro hHeld; try simp only [gA,gB,gC,Act.put,gD,gE,gF]
   refine tk 2 ?_ rfl (by kernel_rfl) (fun _ _ _ h => h) (.inl ⟨by rfl, ?_⟩) hHeld ?_; rotate_left; · (intro w _; go_simp; try with_reducible rfl)
   clear hHeld; intro hHeld; try simp only [gA,gB,gC,Act.put,gD,gE,gF]
   refine ld 1 3 ?_ rfl rfl (by kernel_rfl) (fun _ _ _ h => h) (.inl ⟨by rfl, ?_⟩) hHeld ?_; rotate_left; · (intro w hSw; (try dsimp only at hSw); go_simp; try with_reducible rfl)
   clear hHeld; intro hHeld; try simp only [gA,gB,gC,Act.put,gD,gE,gF]
   refine tk 4 ?_ rfl (by kernel_rfl) (fun _ _ _ h => h) (.inl ⟨by rfl, ?_⟩) hHeld ?_; rotate_left; · (intro w _; go_simp; try with_reducible rfl)
   clear hHeld; intro hHeld; try simp only [gA,gB,gC,Act.put,gD,gE,gF]
   refine ld 2 5 ?_ rfl rfl (by kernel_rfl) (fun _ _ _ h => h) (.inl ⟨by rfl, ?_⟩) hHeld ?_; rotate_left; · (intro w hSw; (try dsimp only at hSw); go_simp; try with_reducible rfl)
   clear hHeld; intro hHeld; try simp only [gA,gB,gC,Act.put,gD,gE,gF]
   refine tk 6 ?_ rfl (by kernel_rfl) (fun _ _ _ h => h) (.inl ⟨by rfl, ?_⟩) hHeld ?_; rotate_left; · (intro w _; go_simp; try with_reducible rfl)
   clear hHeld; intro hHeld; try simp only [gA,gB,gC,Act.put,gD,gE,gF]
   refine wpAnyL_load 3 (i := 7) (oi := _) (v := .agg (bvs x.1.2).toArray) rfl rfl (by kernel_rfl) (by kernel_rfl) (by kernel_rfl) (by kernel_rfl) (by kernel_rfl) (by kernel_rfl) (fun _ _ _ h => h) (yieldsIf_load_mid (by rfl) 103 (.tmp 55) (by rfl) (Bx) (0 + 1) (by rfl) (bvs x.1.2) _ (fun w hw => hw) Tryz.underlying103 rfl hzs.out) (by assumption) (fun hNew => ?_)
   clear hHeld
   have hHeld := hNew
   clear hNew
   try simp only [gA,gB,gC,Act.put,gD,gE,gF]
   refine tk 8 ?_ rfl (by kernel_rfl) (fun _ _ _ h => h) (.inl ⟨by rfl, ?_⟩) hHeld ?_; rotate_left; · (intro w _; go_simp; try with_reducible rfl)
   clear hHeld; intro hHeld; try simp only [gA,gB,gC,Act.put,gD,gE,gF]
   refine wpAnyL_ready (rs := [9]) (by kernel_rfl) (by simp) (AllReadyL.cons (o := _) rfl (fun K hK => ?_) AllReadyL.nil)
   try simp only [gA,gB,gC]
   rw [if_pos (by rfl)]
   refine wp_store_mid 103 (.tmp 57) (.tmp 56) (by rfl) (w.heap.size + 1) (x.1.1 * 64) (bvs x.1.2).toArray (by rfl) (by rfl) th.out hzt.out hone.out ?_
   clear hHeld
   refine hK.out _ _ ?_ (fun hHeld => ?_)
   ·exact (HoldC.past (by kernel_rfl) (HoldC.past (by kernel_rfl) (HoldC.past (by kernel_rfl) (HoldC.past (by kernel_rfl) HoldC.nil))))
   clear hK K
   try simp only [gA,gB,gC,Act.put,gD,gE,gF]
   refine wpAnyL_done (by kernel_rfl) ?_ _
   clear hHeld
   rw [<- HW2.out]
   have d1 := blk_cell HL.out.ci 0 _ rfl
   have d2 := blk_frozen HL.out.ci 0
   have d3 := blk_lt HL.out.ci
   gi_wp2
   exact HFIN.out _ HL.out HW2J.out (by rw [HW2S.out]; exact Nat.le_refl _)
  ·have hz : ¬ (ch.length : Int) <= (k : Int) := by omega
   have hz2 : (k : Int) < (ch.length : Int) := by omega
   have hz3 : (k : Int).toNat = k := by omega
   have hz4 : (0 : Int) <= (k : Int) := by omega
   obtain ⟨a', cap', hs', h1', h2', h3'⟩ := HCV.out
   rcases h3' with ⟨rfl, _⟩ | ⟨g, o, rfl, hcell⟩
   ·simp at hkl
   ·obtain ⟨rfl, rfl⟩ : ca = some ⟨g, o, none⟩ /\ cc = cap' := by simpa using hs'
    obtain ⟨b, hb⟩ : ∃ b, b = ch.getD k 0 := ⟨_, rfl⟩
    have cbk : W.cell? ⟨g, o + k, none⟩ = some (.int .u8 (b.toNat : Int)) := by
     have := hC.chg.cell (hcell k (by omega)) (by simp)
     rw [<- hb] at this
     exact this
    have hqb := u8_bit b
    have HB := LH hb
    clear hcell hs' h1' h2' hb
    by_cases hbit : b &&& 1 = 1
    ·rw [hbit] at hqb
     have hqb : bits .and .u8 (b.toNat : Int) 1 = 1 := hqb
     have HL := LH (HLEFT.out (by unfold leftAt; rw [<- HB.out, decide_eq_true hbit, Bool.or_true]))
     clear hC hbit
     gi_wp2_with fail
     refine wpIn_region_L (wide_r l) (by rintro ⟨_, _, h⟩; exact h) (by kernel_rfl) [(9, fun w' => w'.cell? ⟨w.heap.size + 3, 0, none⟩ = some (.pointer (some ⟨w.heap.size + 2, 0, none⟩))), (9, fun w' => w'.cell? ⟨w.heap.size + 2, 1, none⟩ = some (.slice (some ⟨w.heap.size + 1, 0, none⟩) n n)), (9, fun w' => w'.cell? ⟨Bx, 0, none⟩ = some (.int .i64 (x.1.1 : Int))), (9, fun w' => w'.rangeAt Bx (0 + 1) (bvs x.1.2))] (by kernel_rfl) ?_ (fun hHeld => ?_)
     ·exact (HoldC.cons (cp) (HoldC.cons (c1) (HoldC.cons (cx) (HoldC.cons (HXR.out) HoldC.nil))))
     refine ld 0 0 ?_ rfl rfl (by kernel_rfl) (fun _ _ _ h => h) (.inl ⟨by rfl, ?_⟩) hHeld ?_; rotate_left; · (intro w hSw; (try dsimp only at hSw); go_simp; try with_reducible rfl)
     clear hHeld; intro hHeld; try simp only [gA,gB,gC,Act.put,gD,gE,gF]
     refine tk 1 ?_ rfl (by kernel_rfl) (fun _ _ _ h => h) (.inl ⟨by rfl, ?_⟩) hHeld ?_; rotate_left; · (intro w _; go_simp; try with_reducible rfl)
     clear hHeld; intro hHeld; try simp only [gA,gB,gC,Act.put,gD,gE,gF]
     refine tk 2 ?_ rfl (by kernel_rfl) (fun _ _ _ h => h) (.inl ⟨by rfl, ?_⟩) hHeld ?_; rotate_left; · (intro w _; go_simp; try with_reducible rfl)
     clear hHeld; intro hHeld; try simp only [gA,gB,gC,Act.put,gD,gE,gF]
     refine ld 1 3 ?_ rfl rfl (by kernel_rfl) (fun _ _ _ h => h) (.inl ⟨by rfl, ?_⟩) hHeld ?_; rotate_left; · (intro w hSw; (try dsimp only at hSw); go_simp; try with_reducible rfl)
     clear hHeld; intro hHeld; try simp only [gA,gB,gC,Act.put,gD,gE,gF]
     refine tk 4 ?_ rfl (by kernel_rfl) (fun _ _ _ h => h) (.inl ⟨by rfl, ?_⟩) hHeld ?_; rotate_left; · (intro w _; go_simp; try with_reducible rfl)
     clear hHeld; intro hHeld; try simp only [gA,gB,gC,Act.put,gD,gE,gF]
     refine ld 2 5 ?_ rfl rfl (by kernel_rfl) (fun _ _ _ h => h) (.inl ⟨by rfl, ?_⟩) hHeld ?_; rotate_left; · (intro w hSw; (try dsimp only at hSw); go_simp; try with_reducible rfl)
     clear hHeld; intro hHeld; try simp only [gA,gB,gC,Act.put,gD,gE,gF]
     refine tk 6 ?_ rfl (by kernel_rfl) (fun _ _ _ h => h) (.inl ⟨by rfl, ?_⟩) hHeld ?_; rotate_left; · (intro w _; go_simp; try with_reducible rfl)
     clear hHeld; intro hHeld; try simp only [gA,gB,gC,Act.put,gD,gE,gF]
     refine wpAnyL_load 3 (i := 7) (oi := _) (v := .agg (bvs x.1.2).toArray) rfl rfl (by kernel_rfl) (by kernel_rfl) (by kernel_rfl) (by kernel_rfl) (by kernel_rfl) (by kernel_rfl) (fun _ _ _ h => h) (yieldsIf_load_mid (by rfl) 103 (.tmp 55) (by rfl) (Bx) (0 + 1) (by rfl) (bvs x.1.2) _ (fun w hw => hw) Tryz.underlying103 rfl hzs.out) (by assumption) (fun hNew => ?_)
     clear hHeld
     have hHeld := hNew
     clear hNew
     try simp only [gA,gB,gC,Act.put,gD,gE,gF]
     refine tk 8 ?_ rfl (by kernel_rfl) (fun _ _ _ h => h) (.inl ⟨by rfl, ?_⟩) hHeld ?_; rotate_left; · (intro w _; go_simp; try with_reducible rfl)
     clear hHeld; intro hHeld; try simp only [gA,gB,gC,Act.put,gD,gE,gF]
     refine wpAnyL_ready (rs := [9]) (by kernel_rfl) (by simp) (AllReadyL.cons (o := _) rfl (fun K hK => ?_) AllReadyL.nil)
     try simp only [gA,gB,gC]
     rw [if_pos (by rfl)]
     refine wp_store_mid 103 (.tmp 57) (.tmp 56) (by rfl) (w.heap.size + 1) (x.1.1 * 64) (bvs x.1.2).toArray (by rfl) (by rfl) th.out hzt.out hone.out ?_
     clear hHeld
     refine hK.out _ _ ?_ (fun hHeld => ?_)
     ·exact (HoldC.past (by kernel_rfl) (HoldC.past (by kernel_rfl) (HoldC.past (by kernel_rfl) (HoldC.past (by kernel_rfl) HoldC.nil))))
     clear hK K
     try simp only [gA,gB,gC,Act.put,gD,gE,gF]
     refine wpAnyL_done (by kernel_rfl) ?_ _
     clear hHeld
     rw [<- HW2.out]
     have d1 := blk_cell HL.out.ci 0 _ rfl
     have d2 := blk_frozen HL.out.ci 0
     have d3 := blk_lt HL.out.ci
     gi_wp2
     exact HFIN.out _ HL.out HW2J.out (by rw [HW2S.out]; exact Nat.le_refl _)
    ·have hq0 : (b &&& 1).toNat = 0 := by
      have h1 := u8_and_lt b
      rcases h1 with h1 | h1
      ·rw [h1]; rfl
      ·exact absurd h1 hbit
     rw [hq0] at hqb
     have hqb : bits .and .u8 (b.toNat : Int) 1 = 0 := hqb
     have HL : Hid (applied (chosen ch (wcs (pre ++ [x])) 0) d.lasts = applied (chosen ch (wcs pre) 0) d.lasts) := LH (by
      rw [HSN.out false (by unfold leftAt; rw [<- HB.out, decide_eq_false hbit, decide_eq_false (by omega)]; rfl), if_neg (by simp)])
     have d2 := blk_frozen hC.ci 0
     have d3 := blk_lt hC.ci
     clear hC hbit hq0
     gi_wp2
     exact HFIN.out _ (by rw [HL.out]; exact HCC.out) (fun _ _ => rfl) (Nat.le_refl _)
 case done =>
  rintro D ys W hDs rfl ⟨hC, hszW⟩ hK
  rw [HXS.out] at hC
  obtain ⟨f, hf⟩ : ∃ f, f = applied (chosen ch d.since 0) d.lasts := ⟨_, rfl⟩
  rw [<- hf] at hC
  have HFF := LH hf
  have cp : W.cell? ⟨w.heap.size + 3, 0, none⟩ = some (.pointer (some ⟨w.heap.size + 2, 0, none⟩)) := blk_cell hC.cc 0 _ rfl
  have c1 : W.cell? ⟨w.heap.size + 2, 1, none⟩ = some (.slice (some ⟨w.heap.size + 1, 0, none⟩) n n) := blk_cell hC.obj 1 _ rfl
  have HCC := LH hC
  have HKK := LH hK
  obtain ⟨i, z, hi, hz, hz1, hz2, hz3⟩ := info_three facts_sec
  have HI := LH hi
  have HZ := LH hz
  have HZ1 := LH hz1
  have HZ2 := LH hz2
  have HZ3 := LH hz3
  have HHH := HH
  clear hi hz hz1 hz2 hz3 hf hC hK
  gi_wp2_with fail
  refine wpIn_region_LN (wide_w) (by kernel_rfl) [(8, fun w' => w'.cell? ⟨w.heap.size + 3, 0, none⟩ = some (.pointer (some ⟨w.heap.size + 2, 0, none⟩))), (8, fun w' => w'.cell? ⟨w.heap.size + 2, 1, none⟩ = some (.slice (some ⟨w.heap.size + 1, 0, none⟩) n n))] (by kernel_rfl) ?_ (fun hHeld => ?_)
  ·exact (HoldC.cons (cp) (HoldC.cons (c1) HoldC.nil))
  refine ld 0 0 ?_ rfl rfl (by kernel_rfl) (fun _ _ _ h => h) (.inl ⟨by rfl, ?_⟩) hHeld ?_; rotate_left; · (intro w hSw; (try dsimp only at hSw); go_simp; try with_reducible rfl)
  clear hHeld; intro hHeld; try simp only [gA,gB,gC,Act.put,gD,gE,gF]
  refine ld 0 1 ?_ rfl rfl (by kernel_rfl) (fun _ _ _ h => h) (.inl ⟨by rfl, ?_⟩) hHeld ?_; rotate_left; · (intro w hSw; (try dsimp only at hSw); go_simp; try with_reducible rfl)
  clear hHeld; intro hHeld; try simp only [gA,gB,gC,Act.put,gD,gE,gF]
  refine tk 2 ?_ rfl (by kernel_rfl) (fun _ _ _ h => h) (.inl ⟨by rfl, ?_⟩) hHeld ?_; rotate_left; · (intro w _; go_simp; try with_reducible rfl)
  clear hHeld; intro hHeld; try simp only [gA,gB,gC,Act.put,gD,gE,gF]
  refine tk 3 ?_ rfl (by kernel_rfl) (fun _ _ _ h => h) (.inl ⟨by rfl, ?_⟩) hHeld ?_; rotate_left; · (intro w _; go_simp; try with_reducible rfl)
  clear hHeld; intro hHeld; try simp only [gA,gB,gC,Act.put,gD,gE,gF]
  refine ld 1 4 ?_ rfl rfl (by kernel_rfl) (fun _ _ _ h => h) (.inl ⟨by rfl, ?_⟩) hHeld ?_; rotate_left; · (intro w hSw; (try dsimp only at hSw); go_simp; try with_reducible rfl)
  clear hHeld; intro hHeld; try simp only [gA,gB,gC,Act.put,gD,gE,gF]
  refine wpAnyL_ready (rs := [5]) (by kernel_rfl) (by simp) (AllReadyL.cons (o := _) rfl (fun K hK => ?_) AllReadyL.nil)
  try simp only [gA,gB,gC]
  rw [if_pos (by rfl)]
  refine wp_append_lies _ (.const (.slice none 0 0)) (.tmp 64) 91 (by rfl) 0 103 i z 64 64 Tryz.underlying91 HI.out HZ.out HZ2.out HZ3.out HZ1.out (by omega) (.slice none 0 0) 0 [] (by rfl) (World.ownsRow_nil _ _ _ _) ⟨w.heap.size + 1, 0, none⟩ n n (bvs (flat n f)) (by rfl) (by rw [bvs_len, HCC.out.secs.whole.1])
   (fun j u hj => by rw [add_none]; exact HCC.out.secs.whole.2 j u hj) (bvs_one _) (by omega) (by unfold maxLen; omega) (by omega) (Nat.zero_le _) _ rfl ?_
  intro g cap w2 hrow hg hat hlt
  have hgr : Chg [] W.drew w2 := (Chg.refl _ _).grown hg (fun k hk => by simp [Value.ownBlock] at hk)
  have hc2 : Chg [] W w2 := (by exact (Chg.refl [] W).drew : Chg [] W W.drew).trans hgr (by simp)
  have cp2 := hc2.cell cp (by simp)
  have c12 := hc2.cell c1 (by simp)
  have hob := hc2.keep HCC.out.obj (by simp)
  have o0 := blk_cell hob 0 _ rfl
  have o1 := blk_frozen hob 0
  have o2 := blk_lt hob
  have hgW : g = W.heap.size := by
   rcases hat with h | h
   ·simp [Value.ownBlock] at h
   ·exact h
  have hKD : w2.heap[D]? = some (.deferred (some [])) := hc2.keep HKK.out (by simp)
  have hrow' : w2.ownsRow 0 103 64 (.slice (some ⟨g, 0, none⟩) n cap) n (bvs (flat n f)) := by
   have h := hrow
   rw [Nat.zero_add, List.nil_append] at h
   exact h
  obtain ⟨g', cap', he, hcap1, hcap2, hsecs⟩ := secs_of_row hrow' hn0 HCC.out.secs.len
  obtain ⟨rfl, rfl⟩ : g = g' /\ cap = cap' := by simpa using he
  have hDpc : D ≠ w.heap.size + 2 := fun e => by
   rw [e, hob] at hKD; cases hKD
  have hfin : Newly w ((w2.setCell ⟨w.heap.size + 2, 0, none⟩ (.slice (some ⟨g, 0, none⟩) n cap)).putObj D (.deferred none)) (w.heap.size + 2) [w.heap.size + 2, g, w.heap.size + 1] (d.crash ch) := by
   have hne := HCC.out.ne
   have hlo := HCC.out.lo
   have hWs := hszW
   have hgl := HCC.out.secs.lt
   have hf0 : (d.crash ch).now = f := HFF.out.symm
   have hf1 : (d.crash ch).lasts = f := HFF.out.symm
   obtain ⟨w8, hw8⟩ : ∃ w8, w8 = w2.setCell ⟨w.heap.size + 2, 0, none⟩ (.slice (some ⟨g, 0, none⟩) n cap) := ⟨_, rfl⟩
   have h8 : ∀ j, j ≠ w.heap.size + 2 -> w8.heap[j]? = w2.heap[j]? := fun j hj => by rw [hw8]; exact Below.heap_setCell w2 ⟨w.heap.size + 2, 0, none⟩ _ j hj
   have h8p : w8.heap[w.heap.size + 2]? = some (.cells #[.slice (some ⟨g, 0, none⟩) n cap, .slice (some ⟨w.heap.size + 1, 0, none⟩) n n, .slice none 0 0, .int .i64 (-1), .int .i64 0, .bool false] 94 (0, 0)) := by rw [hw8]; exact set_blk hob
   have h8s : w8.heap.size = w2.heap.size := by rw [hw8]; simp [World.setCell]
   have hc8 : Chg [] w w8 := by rw [hw8]; exact (HCC.out.chg.trans hc2 (by simp)).setCell (.inr (by show w.heap.size <= w.heap.size + 2; omega)) _
   rw [<- hw8]
   obtain ⟨w9, hw9⟩ : ∃ w9, w9 = w8.putObj D (.deferred none) := ⟨_, rfl⟩
   have h9 : ∀ j, j ≠ D -> w9.heap[j]? = w8.heap[j]? := fun j hj => by rw [hw9]; exact World.putObj_heap_other hj
   have h9s : w8.heap.size <= w9.heap.size := by rw [hw9]; simp [World.putObj]
   have hDg : D ≠ g := fun e => by
    obtain ⟨cs, h1, _⟩ := hsecs
    rw [e, h1] at hKD; cases hKD
   have hDl : D ≠ w.heap.size + 1 := fun e => by
    obtain ⟨cs, h1, _⟩ := HCC.out.secs
    rw [e, hc2.keep h1 (by simp)] at hKD; cases hKD
   have hgl2 : SecsAt w2 (w.heap.size + 1) n f := HCC.out.secs.keep (hc2.block _ hgl (by simp))
   have hc9 : Chg [] w w9 := by
    rw [hw9]
    exact chg_turn hc8 (grownBy_putObj' _ D (.deferred none)) (fun r e => by cases e; omega)
   have hgp : g ≠ w.heap.size + 2 := by omega
   rw [<- hw9]
   refine ⟨⟨g, w.heap.size + 1, cap, n, .slice none 0 0, ⟨?_, ?_, ?_, World.ownsRow_nil _ _ _ _, by simp [DS.crash], ?_, ?_, ?_, ⟨by simp [DS.crash], by simp [DS.crash]⟩, by omega, by simp [Value.ownBlock], ⟨by simp, by simp, by simp, by simp [Value.ownBlock]⟩, ?_⟩⟩, ?_, hc9⟩
   ·rw [h9 _ (fun e => hDpc e.symm), h8p]
    show _ = some (Obj.cells #[.slice (some ⟨g, 0, none⟩) d.n cap, .slice (some ⟨w.heap.size + 1, 0, none⟩) d.n n, .slice none 0 0, .int .i64 (-1), .int .i64 ((0 : Nat) : Int), .bool false] 94 (0, 0))
    rw [<- HN.out]
    rfl
   ·rw [hf0, show (d.crash ch).n = n from HN.out.symm]
    exact hsecs.keep ((h9 _ (fun e => hDg e.symm)).trans (h8 _ hgp))
   ·rw [hf1, show (d.crash ch).n = n from HN.out.symm]
    exact hgl2.keep ((h9 _ (fun e => hDl e.symm)).trans (h8 _ (by omega)))
   ·show d.n <= 4160
    rw [<- HN.out]; exact hfew
   ·show d.n <= cap /\ cap <= maxLen
    rw [<- HN.out]; exact ⟨hcap1, hcap2⟩
   ·show d.n <= n /\ n <= maxLen
    rw [<- HN.out]; exact ⟨Nat.le_refl _, by omega⟩
   ·intro x hx
    have hg2 := hlt
    have hs2 := hc2.size
    simp at hx
    rcases hx with rfl | rfl | rfl <;> omega
   ·intro x hx
    simp at hx
    rcases hx with rfl | rfl | rfl <;> omega
  have hKD2 : (w2.setCell ⟨w.heap.size + 2, 0, none⟩ (.slice (some ⟨g, 0, none⟩) n cap)).heap[D]? = some (.deferred (some [])) := (Below.heap_setCell w2 ⟨w.heap.size + 2, 0, none⟩ _ D hDpc).trans hKD
  have cp3 : (w2.setCell ⟨w.heap.size + 2, 0, none⟩ (.slice (some ⟨g, 0, none⟩) n cap)).cell? ⟨w.heap.size + 3, 0, none⟩ = some (.pointer (some ⟨w.heap.size + 2, 0, none⟩)) := by
   have h1 := hc2.keep HCC.out.cc (by simp)
   exact blk_cell (blk_sets h1 (by omega)) 0 _ rfl
  have HFIN := LH hfin
  have HKD2 := LH hKD2
  clear hgr hc2 hob hgW hKD hrow' he hsecs hDpc hfin hKD2 hrow hg hat
  clear hHeld
  refine hK.out _ _ ?_ (fun hHeld => ?_)
  ·exact (HoldC.cons (cp2) (HoldC.cons (c12) HoldC.nil))
  clear hK K
  try simp only [gA,gB,gC,Act.put,gD,gE,gF]
  refine tk 6 ?_ rfl (by kernel_rfl) (fun _ _ _ h => h) (.inl ⟨by rfl, ?_⟩) hHeld ?_; rotate_left; · (intro w _; go_simp; try with_reducible rfl)
  clear hHeld; intro hHeld; try simp only [gA,gB,gC,Act.put,gD,gE,gF]
  refine tk 7 ?_ rfl (by kernel_rfl) (fun _ _ _ h => h) (.inl ⟨by rfl, ?_⟩) hHeld ?_; rotate_left; · (intro w _; go_simp; try with_reducible rfl)
  clear hHeld; intro hHeld; try simp only [gA,gB,gC,Act.put,gD,gE,gF]
  refine wpAnyL_ready (rs := [8]) (by kernel_rfl) (by simp) (AllReadyL.cons (o := _) rfl (fun K hK => ?_) AllReadyL.nil)
  try simp only [gA,gB,gC]
  go_simp
  clear hHeld
  refine hK.out _ _ ?_ (fun hHeld => ?_)
  ·exact (HoldC.past (by kernel_rfl) (HoldC.past (by kernel_rfl) HoldC.nil))
  clear hK K
  try simp only [gA,gB,gC,Act.put,gD,gE,gF]
  refine wpAnyL_done (by kernel_rfl) ?_ _
  clear hHeld
  simp only [Qn]
  gi_wp2
  refine ⟨by simp, .inl ⟨_, _, rfl, run_takeDeferred HKD2.out, ?_⟩⟩
  exact ⟨_, results_tmp rfl _ _ _, w.heap.size + 2, _, rfl, HFIN.out⟩
end
structure OwnS (X : List Nat) (w0 w : World) (z q p : Nat) (t : Sto) : Prop where
 sv : ∃ U, SvAt X w z q p U t /\ ∀ x ∈ U, w0.heap.size <= x
 chg : Chg [] w0 w
 newz : w0.heap.size <= z
 outz : z ∉ X
section
variable {X Y : List Nat} {w0 w w' : World} {z q p : Nat} {t t' : Sto}
theorem OwnS.gl (h : OwnS X w0 w z q p t) : ∀ x ∈ X, x < w.heap.size := by obtain ⟨U, h1, _⟩ := h.sv; exact h1.st.gl
theorem OwnS.zl (h : OwnS X w0 w z q p t) : z < w.heap.size := by obtain ⟨U, h1, _⟩ := h.sv; exact blk_lt h1.head
theorem OwnS.keep0 (h : OwnS X w0 w z q p t) (hc : Chg [] w w') : OwnS X w0 w' z q p t := by
 obtain ⟨U, h1, h2⟩ := h.sv
 exact ⟨⟨U, h1.keep0 hc, h2⟩, h.chg.trans hc (by simp), h.newz, h.outz⟩
theorem OwnS.wrote {T : List Nat} (h : OwnS X w0 w z q p t) (hc : Chg T w w') (hT : ∀ x ∈ T, x ∈ X /\ w0.heap.size <= x) (h8 : ∀ x ∈ T, NoU8 w x) (hY : ∀ x ∈ Y, (x ∈ X ∨ w.heap.size <= x) /\ x < w'.heap.size) : OwnS Y w0 w' z q p t := by
 obtain ⟨U, h1, h2⟩ := h.sv
 have hzT : z ∉ T := fun hm => h.outz (hT z hm).1
 have hzl := h.zl
 refine ⟨⟨U, ⟨hc.keep h1.head hzT, h1.st.regroup hc (fun x hx => (hT x hx).1) h8 h1.far hY, h1.out, fun x hx hm => ?_⟩, h2⟩, h.chg.trans hc (fun x hx => .inr (hT x hx).2), h.newz, fun hm => ?_⟩
 ·rcases (hY x hm).1 with h3 | h3
  ·exact h1.far x hx h3
  ·have := h1.st.lim x hx; omega
 ·rcases (hY z hm).1 with h3 | h3
  ·exact h.outz h3
  ·omega
theorem OwnS.add (h : OwnS X w0 w z q p t) (hc : Chg [] w w') (hY : ∀ x ∈ Y, (x ∈ X ∨ w.heap.size <= x) /\ x < w'.heap.size) : OwnS Y w0 w' z q p t := h.wrote hc (by simp) (by simp) hY
theorem OwnS.sub (h : OwnS X w0 w z q p t) (hY : ∀ x ∈ Y, x ∈ X) : OwnS Y w0 w z q p t := h.add (Chg.refl _ _) (fun x hx => ⟨.inl (hY x hx), h.gl x (hY x hx)⟩)
theorem SvAt.did {U : List Nat} (h : SvAt X w z q p U t) (hs : Std X w w' q p U t') : ∃ U', SvAt X w' z q p U' t' /\ (∀ x ∈ U', x ∈ U ∨ w.heap.size <= x) /\ Chg U w w' := by
 obtain ⟨U', a1, a2, a3⟩ := hs
 have hz := blk_lt h.head
 refine ⟨U', ⟨a3.keep h.head h.out, a1, fun hm => ?_, fun x hx hm => ?_⟩, a2, a3⟩
 ·rcases a2 z hm with h3 | h3
  ·exact h.out h3
  ·omega
 ·rcases a2 x hx with h3 | h3
  ·exact h.far x h3 hm
  ·have := h.st.gl x hm; omega
def OwnDo (X : List Nat) (w0 w : World) (z q p : Nat) (r : (Rp × Int) × Sto) (e : Ending) (w' : World) : Prop := ∃ v, e = .returned (.tuple #[v, .int .i64 r.1.2]) /\ RpAt w w' v r.1.1 /\ OwnS X w0 w' z q p r.2 /\ Kp X w w'
theorem own_do (h : OwnS X w0 w z q p t) (r : Rq) (bv : Value) (hx : okD r.x) (hb : BytesAt w bv r.b) (hbX : r.b ≠ [] -> ∀ k, bv.ownBlock = some k -> k < w0.heap.size ∨ k ∈ X) (hbl : r.b.length <= 1000000) (hn : 1 <= t.s.d.n) (ho : t.s.d.ops <= 800000000) (hw : t.s.d.since.length <= 800000) :
  Calls Tryz.prog 12 #[.pointer (some ⟨z, 0, none⟩), rqV r bv] w (OwnDo X w0 w z q p (t.run r)) := by
 obtain ⟨U, h1, h2⟩ := h.sv
 refine (svdo_any r bv w h1 hx hb (fun hne k hk hm => ?_) hbl hn ho hw).mono ?_
 ·rcases hbX hne k hk with h3 | h3
  ·have := h2 k hm; omega
  ·exact h1.far k hm h3
 ·rintro e w' ⟨v, rfl, hr, hs⟩
  obtain ⟨U', b1, b2, b3⟩ := h1.did hs
  have hsz := h.chg.size
  refine ⟨v, rfl, hr, ⟨⟨U', b1, fun x hx => ?_⟩, h.chg.trans b3 (fun x hx => .inr (h2 x hx)), h.newz, h.outz⟩, fun x hx => b3.block x (h1.st.gl x hx) (fun hm => h1.far x hm hx)⟩
  rcases b2 x hx with h3 | h3
  ·exact h2 x h3
  ·omega
def DoIs (X : List Nat) (w0 w : World) (z q p : Nat) (o : Rp) (code : Int) (t' : Sto) (e : Ending) (w' : World) : Prop := ∃ a c a' c', e = .returned (.tuple #[.agg #[.int .i64 o.e, .slice a o.b.length c, .slice a' o.ids.length c', .int .i64 o.room, .bool o.whole], .int .i64 code]) /\
 BytesAt w' (.slice a o.b.length c) o.b /\ (∀ k, (Value.slice a o.b.length c).ownBlock = some k -> w.heap.size <= k) /\ w'.ownsRow w.heap.size 38 4 (.slice a' o.ids.length c') o.ids.length (o.ids.flatMap idE) /\ OwnS X w0 w' z q p t' /\ Kp X w w'
theorem own_doI {o : Rp} {code : Int} (h : OwnS X w0 w z q p t) (r : Rq) (bv : Value) (hrun : t.run r = ((o, code), t')) (hx : okD r.x) (hb : BytesAt w bv r.b) (hbX : r.b ≠ [] -> ∀ k, bv.ownBlock = some k -> k < w0.heap.size ∨ k ∈ X) (hbl : r.b.length <= 1000000) (hn : 1 <= t.s.d.n) (ho : t.s.d.ops <= 800000000) (hw : t.s.d.since.length <= 800000) :
  Calls Tryz.prog 12 #[.pointer (some ⟨z, 0, none⟩), .agg #[.int .i64 r.k, .int .i64 r.x.c, .int .i64 r.x.l, .int .i64 r.x.n, .int .i64 r.x.i, bv]] w (DoIs X w0 w z q p o code t') := by
 refine (own_do h r bv hx hb hbX hbl hn ho hw).mono ?_
 rw [hrun]
 rintro e w' ⟨v, rfl, ⟨bv', iv', rfl, hb', hn', hi'⟩, ho', hk'⟩
 obtain ⟨a, c, rfl⟩ := hb'.slice
 obtain ⟨a', c', rfl⟩ : ∃ a c, iv' = .slice a o.ids.length c := by
  rcases hi'.2 with ⟨h1, h2⟩ | ⟨g, cap, cur, h1, _⟩
  ·exact ⟨none, 0, by rw [h1]; rw [show o.ids.length = 0 from h2]⟩
  ·exact ⟨_, cap, h1⟩
 exact ⟨a, c, a', c', rfl, hb', hn', hi', ho', hk'⟩
theorem own_store (h : OwnS X w0 w z q p t) : Calls Tryz.prog 16 #[.pointer (some ⟨z, 0, none⟩)] w fun e w' => e = .returned (.pointer (some ⟨q, 0, none⟩)) /\ w = w' := by
 obtain ⟨U, h1, h2⟩ := h.sv
 have c0 := blk_cell h1.head 0 _ rfl
 clear h h1 h2
 go_enter Tryz.func16, Tryz.ntmps16
 go_wp2
 go_ret
 exact ⟨rfl, rfl⟩
theorem owns_disk (h : OwnS X w0 w z q p t) : Calls Tryz.prog 17 #[.pointer (some ⟨q, 0, none⟩)] w fun e w' => e = .returned (.pointer (some ⟨p, 0, none⟩)) /\ w = w' := by
 obtain ⟨U, h1, h2⟩ := h.sv
 exact stdisk_any w h1.st
theorem owns_crash (h : OwnS X w0 w z q p t) (cv : Value) (ch : List UInt8) (hn0 : 0 < t.s.d.n) (hw : t.s.d.since.length <= 1000000) (hcv : BytesAt w cv ch) (hcl : ch.length <= 1000000) :
  Calls Tryz.prog 20 #[.pointer (some ⟨p, 0, none⟩), cv] w fun e w' => ∃ p' S', e = .returned (.pointer (some ⟨p', 0, none⟩)) /\ Newly w w' p' S' (t.s.d.crash ch) := by
 obtain ⟨U, h1, h2⟩ := h.sv
 obtain ⟨S, hd⟩ := h1.st.disk
 exact dcrash_any p S t.s.d cv ch w hd hn0 hw hcv hcl
def NewS (w0 : World) (t : Sto) (e : Ending) (w' : World) : Prop := ∃ z q p, e = .returned (.tuple #[.pointer (some ⟨z, 0, none⟩), .int .i64 0]) /\ OwnS [] w0 w' z q p t
theorem ownS_of {w3 : World} (h : Own6 [] w0 w q p t) (hw3 : w3 = w.alloc (.cells #[.pointer (some ⟨q, 0, none⟩)] 87)) : OwnS [] w0 w3 w.heap.size q p t := by
 obtain ⟨U, h1, h2, h3, h4⟩ := h
 subst hw3
 refine ⟨⟨U, ⟨heap_alloc_new w _, h1.keep0 ((Chg.refl [] w).alloc _), fun hm => by have := h1.lim _ hm; omega, by simp⟩, h2⟩, h3.alloc _, h3.size, by simp⟩
theorem own_newS (hc : Chg [] w0 w) (n : Nat) (h9 : 9 <= n) (hm : n <= 4160) {d : DS} (hf : (DS.new n).format = ((0, some t), d)) : Calls Tryz.prog 11 #[.int .i64 (n : Int)] w (NewS w0 t) := by
 have CN := LH (own_disk n w (by omega) hm)
 have HC := LH hc
 have HF := LH hf
 clear hc hf
 go_enter Tryz.func11, Tryz.ntmps11
 go_wp2_with fail
 refine CN.out.mono ?_
 rintro e w1 ⟨p, S, rfl, hd1, hS1, hc1⟩
 have CF := LH (own_format (w0 := w0) hd1 (fun x hx => Nat.le_trans HC.out.size (hS1 x hx)) (HC.out.trans hc1 (by simp)) HF.out)
 clear hd1 hS1 hc1 CN
 go_wp2_with fail
 refine CF.out.mono ?_
 rintro e w2 ⟨q, rfl, ho2⟩
 have HO := LH (ownS_of ho2 rfl)
 clear ho2 CF
 go_wp2
 go_ret2
 exact ⟨_, q, p, rfl, HO.out⟩
end
section
open Go.RowKit Go.ChangeShapes Go.WideShapes
structure RqIn (w : World) (r : Rq) (bv : Value) : Prop where
 came : Came w bv r.b
 long : r.b.length <= maxLen
 wk : okW r.k
 wx : okD r.x
instance : Inhabited (Rq × Value) := ⟨⟨0, ⟨0, 0, 0, 0⟩, []⟩, .slice none 0 0⟩
structure RqAt (w : World) (g p : Nat) (r : Rq × Value) : Prop where
 c0 : w.cell? ⟨g, p, none⟩ = some (.int .i64 r.1.k)
 c1 : w.cell? ⟨g, p + 1, none⟩ = some (.int .i64 r.1.x.c)
 c2 : w.cell? ⟨g, p + 2, none⟩ = some (.int .i64 r.1.x.l)
 c3 : w.cell? ⟨g, p + 3, none⟩ = some (.int .i64 r.1.x.n)
 c4 : w.cell? ⟨g, p + 4, none⟩ = some (.int .i64 r.1.x.i)
 c5 : w.cell? ⟨g, p + 5, none⟩ = some r.2
 inn : RqIn w r.1 r.2
def RqsAt (w : World) (a : Option Addr) (n : Nat) (f : Nat -> Rq × Value) : Prop := n = 0 ∨ ∃ g o, a = some ⟨g, o, none⟩ /\ ∀ i, i < n -> RqAt w g (o + i * 6) (f i)
theorem RqIn.keep {w w' : World} {r : Rq} {bv : Value} (h : RqIn w r bv) (hc : Chg [] w w') : RqIn w' r bv := ⟨h.came.chg hc, h.long, h.wk, h.wx⟩
theorem RqAt.keep {w w' : World} {g p : Nat} {r : Rq × Value} (h : RqAt w g p r) (hc : Chg [] w w') : RqAt w' g p r :=
 ⟨hc.cell h.c0 (by simp), hc.cell h.c1 (by simp), hc.cell h.c2 (by simp), hc.cell h.c3 (by simp), hc.cell h.c4 (by simp), hc.cell h.c5 (by simp), h.inn.keep hc⟩
theorem RqsAt.keep {w w' : World} {a : Option Addr} {n : Nat} {f : Nat -> Rq × Value} (h : RqsAt w a n f) (hc : Chg [] w w') : RqsAt w' a n f := by
 rcases h with h | ⟨g, o, rfl, h⟩
 ·exact .inl h
 ·exact .inr ⟨g, o, rfl, fun i hi => (h i hi).keep hc⟩
section
variable {H : Type} {enc : TypeId × Value -> H} {w : World} {base : Nat} {held : Bool}
theorem fieldsQ : ∃ f0 f1 f2 : Field, Tryz.prog.underlying 42 = some (.struct #[f0, f1, f2]) /\ f0.offset = 0 /\ f1.offset = 1 /\ f2.offset = 5 /\
  Tryz.prog.underlying f0.type = some (.int .i64) /\ f1.type = 38 /\ f2.type = 30 /\ Tryz.prog.cellsOf f0.type = 1 /\ Tryz.prog.cellsOf f2.type = 1 :=
 ⟨_, _, _, Tryz.underlying42, rfl, rfl, rfl, by kernel_rfl, rfl, rfl, by kernel_rfl, by kernel_rfl⟩
theorem cellsQ : Tryz.prog.cellsOf 42 = 6 := by kernel_rfl
theorem open_rqc {fuel : Nat} {v0 v1 v2 v3 v4 v5 : Value} {x : DataW H × List MemPlace} (h : DataW.trod enc Tryz.prog w base (fun _ => true) held fuel 42 [v0, v1, v2, v3, v4, v5] = some x) : ∃ r : Rq, v0 = .int .i64 r.k /\ v1 = .int .i64 r.x.c /\ v2 = .int .i64 r.x.l /\ v3 = .int .i64 r.x.n /\ v4 = .int .i64 r.x.i /\ RqIn w r v5 := by
 obtain ⟨f0, f1, f2, hs, o0, o1, o2, t0, t1, t2, c0, c2⟩ := fieldsQ
 obtain ⟨xs, k, hk, hxy, _, hxl, hf⟩ := DataW.trod_struct hs h
 match xs, hxl with
 | [y0, y1, y2], _ =>
  have g0 := hf 0 f0 rfl
  have g1 := hf 1 f1 rfl
  have g2 := hf 2 f2 rfl
  rw [t1] at g1
  simp [o0, o1, o2, c0, c2, cells_id] at g0 g1 g2
  rw [t2] at g2
  obtain ⟨z0, q0, _, z0w⟩ := DataW.trod_int t0 g0
  obtain ⟨y, hy, rfl, rfl, rfl, rfl⟩ := open_idc g1
  obtain ⟨z3, l3, q3, m3, ml⟩ := open_came g2
  simp at q0 q3
  subst q0; subst q3
  refine ⟨⟨z0, y, l3⟩, rfl, rfl, rfl, rfl, rfl, m3, ml, ?_, hy⟩
  first | exact z0w | exact z0w.1
theorem open_rqs {fuel : Nat} {cs : List Value} {x : DataW H × List MemPlace} (h : DataW.trod enc Tryz.prog w base (fun _ => true) held fuel 22 cs = some x) :
  (cs = [.slice none 0 0]) ∨ ∃ (a : Addr) (len cap : Nat) (f : Nat -> Rq × Value), cs = [.slice (some a) len cap] /\ len <= cap /\ cap <= maxLen /\ RqsAt w (some a) len f := by
 rcases Go.Deep.open_slice Tryz.underlying22 h with ⟨h0, _⟩ | ⟨a, len, cap, m, n, D, Pl, rfl, hb, hl, hm, hmm, hx, hel⟩
 ·exact .inl h0
 ·right
  have hlm : len <= m := by rw [hmm]; split <;> omega
  have each : ∀ i, i < len -> ∃ r : Rq × Value, w.cell? (a.add (i * 6)) = some (.int .i64 r.1.k) /\ w.cell? (a.add (i * 6 + 1)) = some (.int .i64 r.1.x.c) /\ w.cell? (a.add (i * 6 + 2)) = some (.int .i64 r.1.x.l) /\ w.cell? (a.add (i * 6 + 3)) = some (.int .i64 r.1.x.n) /\
    w.cell? (a.add (i * 6 + 4)) = some (.int .i64 r.1.x.i) /\ w.cell? (a.add (i * 6 + 5)) = some r.2 /\ RqIn w r.1 r.2 := by
   intro i hi
   obtain ⟨cs', h1, h2⟩ := hel i (by omega)
   rw [cellsQ] at h1
   obtain ⟨_, hlen, hcell⟩ := World.cells?_some h1
   match cs', hlen with
   | [v0, v1, v2, v3, v4, v5], _ =>
    obtain ⟨y, rfl, rfl, rfl, rfl, rfl, hy⟩ := open_rqc h2
    have e0 := hcell 0 (by omega)
    have e1 := hcell 1 (by omega)
    have e2 := hcell 2 (by omega)
    have e3 := hcell 3 (by omega)
    have e4 := hcell 4 (by omega)
    have e5 := hcell 5 (by omega)
    rw [Go.Deep.add_add] at e0 e1 e2 e3 e4 e5
    exact ⟨(y, v5), by simpa using e0, by simpa using e1, by simpa using e2, by simpa using e3, by simpa using e4, by simpa using e5, hy⟩
  obtain ⟨f, hf⟩ := Go.Deep.choose_lt each
  refine ⟨a, len, cap, f, rfl, hl, hm, ?_⟩
  by_cases h0 : len = 0
  ·exact .inl h0
  ·right
   obtain ⟨g, o, spot⟩ := a
   have hc := (hf 0 (by omega)).1
   have hspot : spot = none := by simpa [Addr.add] using World.cell?_spot hc
   subst hspot
   refine ⟨g, o, rfl, fun i hi => ?_⟩
   obtain ⟨c0, c1, c2, c3, c4, c5, hy⟩ := hf i hi
   rw [add_none] at c0 c1 c2 c3 c4 c5
   exact ⟨c0, by simpa [Nat.add_assoc] using c1, by simpa [Nat.add_assoc] using c2, by simpa [Nat.add_assoc] using c3, by simpa [Nat.add_assoc] using c4, by simpa [Nat.add_assoc] using c5, hy⟩
end
def FewQ (n most : Nat) (f : Nat -> Rq × Value) : Prop := n <= most /\ ∀ i, i < n -> (f i).1.b.length <= 600
theorem small20_any (a : Option Addr) (n cap most : Nat) (f : Nat -> Rq × Value) (w : World) (h : RqsAt w a n f) (hm : most <= 1000) :
  Calls Tryz.prog 10 #[.slice a n cap, .int .i64 (most : Int)] w fun e w' => (e = .returned (.bool true) /\ FewQ n most f ∨ e = .returned (.bool false)) /\ w = w' := by
 by_cases hn : n <= most
 ·have hz : ¬ (most : Int) < (n : Int) := by omega
  have HD := LH h
  clear h
  go_enter Tryz.func10, Tryz.ntmps10
  go_wp2
  go_loopg [5] n (fun g' s5 wr => ∃ k : Nat, s5 = .int .i64 k /\ k <= n /\ n <= k + g' /\ w = wr /\ Hid (∀ i, i < k -> (f i).1.b.length <= 600))
  case atStart => exact ⟨0, rfl, by omega, by omega, rfl, LH (fun i hi => by omega)⟩
  case round =>
   obtain ⟨k, rfl, hk, hkg, rfl, HF⟩ := hrel
   by_cases hlt : k < n
   ·obtain ⟨g, o, rfl, hc⟩ : ∃ g o, a = some ⟨g, o, none⟩ /\ ∀ i, i < n -> RqAt w g (o + i * 6) (f i) := by
     rcases HD.out with h | h
     ·omega
     ·exact h
    have hd := hc k hlt
    have c6 := hd.c5
    obtain ⟨a4, q4, e4⟩ := hd.inn.came.1.slice
    have hll := hd.inn.long
    rw [e4] at c6
    clear hc hd e4
    have hkz : (k : Int) < (n : Int) := by omega
    have hkz1 : (k : Int).toNat = k := by omega
    obtain ⟨l4, h4⟩ : ∃ l4, l4 = (f k).1.b.length := ⟨_, rfl⟩
    rw [<- h4] at c6 hll
    have H4 := LH h4
    have hl5 : l4 <= 9223372036854775807 := by unfold maxLen at hll; omega
    clear h4
    by_cases hsb : l4 <= 600
    ·have hz4 : ¬ (600 : Int) < (l4 : Int) := by omega
     go_wp2
     go_roundg (gk - 1)
     case measure => omega
     case rel => exact ⟨k + 1, by go_num, by omega, by omega, rfl, LH (fun i hi => by
      by_cases hik : i = k
      ·subst hik; rw [<- H4.out]; exact hsb
      ·exact HF.out i (by omega))⟩
    ·have hz4 : (600 : Int) < (l4 : Int) := by omega
     go_wp2
     go_ret
     exact ⟨.inr rfl, rfl⟩
   ·have hkn : k = n := by omega
    go_wp2
    go_ret
    exact ⟨.inl ⟨rfl, hn, fun i hi => HF.out i (by omega)⟩, rfl⟩
 ·have hz : (most : Int) < (n : Int) := by omega
  clear h
  go_enter Tryz.func10, Tryz.ntmps10
  go_wp2
  go_ret
  exact ⟨.inr rfl, rfl⟩
theorem ret_rq1 {fn : Func} {p : Tmp} (h : fn.results = #[.cell p 40]) (tmps : Array Value) {w : World} {b t : Nat} {r : Rq} {bv : Value} (hp : tmps.getD p undef = .pointer (some ⟨b, 0, none⟩)) (hb : w.heap[b]? = some (.cells (rqL r bv).toArray t (0, 0))) :
  (results fn tmps).run Tryz.prog w = .ok (rqV r bv) w := by
 have hl := run_loadVar_row (P := Tryz.prog) w b t 40 (rqL r bv).toArray (0, 0) _ hb Tryz.underlying40 rfl (rq_size _ _)
 have he : (results fn tmps).run Tryz.prog w = ((asAddr (tmps.getD p undef)).run Tryz.prog w).andThen fun a w₁ => (loadVar 40 a).run Tryz.prog w₁ := by
  simp only [results, h]
  simp [Sem.run_bind, Result.andThen]
 rw [he, hp]
 simp only [asAddr, Sem.run_pure, Result.andThen_ok, hl]
 rfl
theorem request20_any (r : Rq) (a : Option Addr) (n c : Nat) (w : World) : Calls Tryz.prog 13 #[.agg #[.int .i64 r.k, .int .i64 r.x.c, .int .i64 r.x.l, .int .i64 r.x.n, .int .i64 r.x.i, .slice a n c]] w fun e w' => e = .returned (.agg #[.int .i64 r.k, .int .i64 r.x.c, .int .i64 r.x.l, .int .i64 r.x.n, .int .i64 r.x.i, .slice a n c]) /\ Chg [] w w' := by
 obtain ⟨k, ⟨xc, xl, xn, xi⟩, b⟩ := r
 dsimp only
 have HC := LH (((Chg.refl [] w).alloc (.cells #[.int .i64 k, .int .i64 xc, .int .i64 xl, .int .i64 xn, .int .i64 xi, .slice a n c] 42)).alloc (.cells #[.int .i64 k, .int .i64 xc, .int .i64 xl, .int .i64 xn, .int .i64 xi, .slice a n c] 40))
 have HX : Hid (((w.alloc (.cells #[.int .i64 k, .int .i64 xc, .int .i64 xl, .int .i64 xn, .int .i64 xi, .slice a n c] 42)).alloc (.cells #[.int .i64 k, .int .i64 xc, .int .i64 xl, .int .i64 xn, .int .i64 xi, .slice a n c] 40)).heap[w.heap.size + 1]? = some (.cells #[.int .i64 k, .int .i64 xc, .int .i64 xl, .int .i64 xn, .int .i64 xi, .slice a n c] 40 (0, 0))) := LH (heap_at (by simp))
 go_enter Tryz.func13, Tryz.ntmps13
 go_wp2_with fail
 refine bodyPost_ret (ret_rq1 (r := ⟨k, ⟨xc, xl, xn, xi⟩, b⟩) (bv := .slice a n c) rfl _ rfl HX.out) rfl ⟨rfl, HC.out⟩
end
section
open Go.RowKit
variable {G : List Nat}
def IdRow (w : World) (v : Value) (l : List Id) : Prop := ∃ a cap, v = .slice a l.length cap /\ ∀ j, j < l.length -> ∃ g x, a = some ⟨g, 0, none⟩ /\ l[j]? = some x /\ w.cell? ⟨g, j * 4, none⟩ = some (.int .i64 x.c) /\ w.cell? ⟨g, j * 4 + 1, none⟩ = some (.int .i64 x.l) /\ w.cell? ⟨g, j * 4 + 2, none⟩ = some (.int .i64 x.n) /\ w.cell? ⟨g, j * 4 + 3, none⟩ = some (.int .i64 x.i)
theorem IdRow.of {w : World} {base : Nat} {v : Value} {l : List Id} (h : w.ownsRow base 38 4 v l.length (l.flatMap idE)) : IdRow w v l := by
 rcases h.2 with ⟨h1, h2⟩ | ⟨g, cap, cur, h1, _⟩
 ·exact ⟨none, 0, by rw [h1, h2], fun j hj => by omega⟩
 ·refine ⟨_, cap, h1, fun j hj => ⟨g, l[j], rfl, List.getElem?_eq_getElem hj, ?_⟩⟩
  rw [h1] at h
  exact id_row h j hj _ (List.getElem?_eq_getElem hj)
theorem IdRow.keep {w w' : World} {v : Value} {l : List Id} (h : IdRow w v l) (hc : Chg [] w w') : IdRow w' v l := by
 obtain ⟨a, cap, h1, h2⟩ := h
 refine ⟨a, cap, h1, fun j hj => ?_⟩
 obtain ⟨g, x, k1, k2, m0, m1, m2, m3⟩ := h2 j hj
 exact ⟨g, x, k1, k2, hc.cell m0 (by simp), hc.cell m1 (by simp), hc.cell m2 (by simp), hc.cell m3 (by simp)⟩
theorem rsameids_any (u v : Value) (l : List Id) (w : World) (hu : IdRow w u l) (hv : IdRow w v l) (hl : l.length <= 1000000) : Calls Tryz.prog 35 #[u, v] w fun e w' => e = .returned (.bool true) /\ Chg [] w w' := by
 obtain ⟨a, ca, rfl, hA⟩ := hu
 obtain ⟨b, cb, rfl, hB⟩ := hv
 have HA := LH hA
 have HB := LH hB
 obtain ⟨n, hn⟩ : ∃ n, n = l.length := ⟨_, rfl⟩
 rw [<- hn] at hl ⊢
 have HN := LH hn
 clear hA hB hn
 go_enter Tryz.func35, Tryz.ntmps35
 go_wp2
 go_loopg [5] n (fun g' s5 wr => ∃ (i : Nat), s5 = .int .i64 (i : Int) /\ i <= n /\ n <= i + g' /\ Hid (Chg [] w wr))
 case atStart => exact ⟨0, rfl, by omega, by omega, LH (Chg.refl _ _)⟩
 case round =>
  obtain ⟨i, rfl, hi, hig, HC⟩ := hrel
  by_cases hlt : i < n
  ·obtain ⟨g, ⟨xc, xl, xn, xi⟩, rfl, k1, m0, m1, m2, m3⟩ := HA.out i (by rw [<- HN.out]; exact hlt)
   obtain ⟨g2, y, rfl, k2, n0, n1, n2, n3⟩ := HB.out i (by rw [<- HN.out]; exact hlt)
   rw [k1] at k2
   obtain rfl := Option.some.inj k2
   have m0 := HC.out.cell m0 (by simp)
   have m1 := HC.out.cell m1 (by simp)
   have m2 := HC.out.cell m2 (by simp)
   have m3 := HC.out.cell m3 (by simp)
   have n0 := HC.out.cell n0 (by simp)
   have n1 := HC.out.cell n1 (by simp)
   have n2 := HC.out.cell n2 (by simp)
   have n3 := HC.out.cell n3 (by simp)
   have hiz : (i : Int) < (n : Int) := by omega
   have hiz1 : (i : Int).toNat = i := by omega
   clear k1 k2
   dsimp only at n0 n1 n2 n3 m0 m1 m2 m3
   go_wp2_with fail
   go_quiet (fail)
   have HCn := LH (HC.out.drewN nq)
   clear m0 m1 m2 m3 n0 n1 n2 n3
   go_wp2_with fail
   go_roundg (gk - 1)
   case measure => omega
   case rel => exact ⟨i + 1, by go_num, by omega, by omega, HCn⟩
  ·have hiz : ¬ (i : Int) < (n : Int) := by omega
   go_wp2
   go_ret
   exact ⟨rfl, HC.out⟩
end
theorem same20_any (o : Rp) (a1 a2 b1 b2 : Option Addr) (c1 c2 d1 d2 : Nat) (w : World) (hb1 : BytesAt w (.slice a1 o.b.length c1) o.b) (hb2 : BytesAt w (.slice b1 o.b.length d1) o.b) (hi1 : IdRow w (.slice a2 o.ids.length c2) o.ids) (hi2 : IdRow w (.slice b2 o.ids.length d2) o.ids)
  (hl : o.b.length <= 1000000) (hl2 : o.ids.length <= 1000000) :
  Calls Tryz.prog 19 #[.agg #[.int .i64 o.e, .slice a1 o.b.length c1, .slice a2 o.ids.length c2, .int .i64 o.room, .bool o.whole], .agg #[.int .i64 o.e, .slice b1 o.b.length d1, .slice b2 o.ids.length d2, .int .i64 o.room, .bool o.whole]] w fun e w' => e = .returned (.bool true) /\ Chg [] w w' := by
 obtain ⟨e0, b, ids, room, wh⟩ := o
 dsimp only at *
 obtain ⟨w2, hw2⟩ : ∃ w2, w2 = (w.alloc (.cells #[.int .i64 e0, .slice a1 b.length c1, .slice a2 ids.length c2, .int .i64 room, .bool wh] 32)).alloc (.cells #[.int .i64 e0, .slice b1 b.length d1, .slice b2 ids.length d2, .int .i64 room, .bool wh] 54) := ⟨_, rfl⟩
 have hc2 : Chg [] w w2 := by rw [hw2]; exact ((Chg.refl _ _).alloc _).alloc _
 have hA : w2.heap[w.heap.size]? = some (.cells #[.int .i64 e0, .slice a1 b.length c1, .slice a2 ids.length c2, .int .i64 room, .bool wh] 32 (0, 0)) := by rw [hw2]; exact blk_alloc (heap_alloc_new w _)
 have hB : w2.heap[w.heap.size + 1]? = some (.cells #[.int .i64 e0, .slice b1 b.length d1, .slice b2 ids.length d2, .int .i64 room, .bool wh] 54 (0, 0)) := by rw [hw2]; exact heap_at (by simp)
 have CS := LH (same_any (.slice a1 b.length c1) (.slice b1 b.length d1) b b w2 (hb1.chg hc2 (by simp)) (hb2.chg hc2 (by simp)) (by omega) (by omega))
 rw [decide_eq_true rfl] at CS
 have CI := LH (fun w' (hc : Chg [] w w') => rsameids_any (.slice a2 ids.length c2) (.slice b2 ids.length d2) ids w' (hi1.keep hc) (hi2.keep hc) hl2)
 have HA := LH hA
 have HB := LH hB
 have HC2 := LH hc2
 have HW2 := LH hw2
 clear hb1 hb2 hi1 hi2 hA hB hc2 hw2
 go_enter Tryz.func19, Tryz.ntmps19
 go_wp2_with fail
 rw [<- HW2.out]
 refine CS.out.mono ?_
 rintro e w3 ⟨rfl, nn, hq⟩
 have HC3 : Hid (Chg [] w2 w3) := LH (by rw [hq]; exact (Chg.refl [] _).drewN nn)
 clear hq CS
 have CI3 := LH (CI.out w3 (HC2.out.trans HC3.out (by simp)))
 have HA3 := LH (HC3.out.keep HA.out (by simp))
 have HB3 := LH (HC3.out.keep HB.out (by simp))
 have p2 := blk_cell HA3.out 2 _ rfl
 have q2 := blk_cell HB3.out 2 _ rfl
 go_wp2_with fail
 refine CI3.out.mono ?_
 rintro e w4 ⟨rfl, hc4⟩
 have HA4 := LH (hc4.keep HA3.out (by simp))
 have HB4 := LH (hc4.keep HB3.out (by simp))
 clear p2 q2
 have p3 := blk_cell HA4.out 3 _ rfl
 have q3 := blk_cell HB4.out 3 _ rfl
 have p4 := blk_cell HA4.out 4 _ rfl
 have q4 := blk_cell HB4.out 4 _ rfl
 have HCF : Hid (Chg [] w w4) := LH ((HC2.out.trans HC3.out (by simp)).trans hc4 (by simp))
 clear hc4 CI3
 go_wp2_with fail
 go_ret
 exact ⟨by simp, HCF.out⟩
structure Wake20 where
 t0 : Sto
 t1 : Sto
 d : DS
 fmt : (DS.new 25).format = ((0, some t0), d)
 lim0 : 1 <= t0.s.d.n /\ t0.s.d.ops <= 25 /\ t0.s.d.since.length = 0
 lim1 : 1 <= t1.s.d.n /\ t1.s.d.ops <= 65 /\ t1.s.d.since.length = 0
 put : t0.run ⟨1, ⟨1, 0, 5, 2⟩, [9]⟩ = ((⟨0, [], [], 0, false⟩, 0), t1)
 get : t1.run ⟨2, ⟨1, 0, 5, 2⟩, []⟩ = ((⟨0, [9], [], 0, false⟩, 0), t1)
theorem wake20_is : Nonempty Wake20 := by
 obtain ⟨t, d, h1, h2, h3, h4, h5, h6⟩ := Keep.new 25 (by omega)
 have hm : mayId ⟨1, 0, 5, 2⟩ = true := by decide
 obtain ⟨F, p1, p2, p3⟩ := h2.put ⟨1, 0, 5, 2⟩ [9]
 have hr : t.s.rows.length <= 20 := by have := h2.kept.full.1; omega
 have hf := step_far t ⟨1, ⟨1, 0, 5, 2⟩, [9]⟩ hr
 have hput : (t.put ⟨1, 0, 5, 2⟩ [9]).1 = 0 /\ F = setF (fun _ => none) ⟨1, 0, 5, 2⟩ (some [9]) := by
  rcases h2.kept.put_may hm rfl (b := [9]) (by simp) (by omega) with ⟨e1, _⟩ | ⟨_, e2, _⟩
  ·rcases p3 with ⟨_, _, e3, _⟩ | ⟨e3, _, _⟩
   ·exact ⟨e1, e3⟩
   ·exact absurd (e3 e1) (by simp)
  ·rw [p1.alive] at e2; cases e2
 have hn' := hf.n
 have ho' := hf.ops
 rw [step1] at hn' ho'
 dsimp only at hn' ho'
 refine ⟨⟨t, (t.put ⟨1, 0, 5, 2⟩ [9]).2, d, h1, ⟨by omega, by omega, by rw [h2.since]; rfl⟩, ⟨by omega, by omega, by rw [p1.since]; rfl⟩, ?_, ?_⟩⟩
 ·rw [h2.run, step1, hput.1]
  rfl
 ·rw [p1.run, p1.gets, hput.2, setF_self, if_neg (by rw [hm]; simp)]
  rfl
theorem awake20_any (w : World) : Calls Tryz.prog 9 #[] w fun e w' => e = .returned (.bool true) /\ Chg [] w w' := by
 obtain ⟨⟨t0, t1, d, hf, hl0, hl1, hp, hg⟩⟩ := wake20_is
 have CN := LH (own_newS (Chg.refl [] w) 25 (by omega) (by omega) hf)
 have HP := LH hp
 have HG := LH hg
 have HL0 := LH hl0
 have HL1 := LH hl1
 clear hf hp hg hl0 hl1
 go_enter Tryz.func9, Tryz.ntmps9
 go_wp2_with fail
 refine CN.out.mono ?_
 rintro e w1 ⟨z, q, p, rfl, ho1⟩
 have CI := LH (lawid_any 1 0 5 2 w1)
 have HO1 := LH ho1
 clear ho1 CN
 go_wp2_with fail
 refine CI.out.mono ?_
 rintro e w2 ⟨rfl, hc2⟩
 have hcA : Chg [] w2 (w2.alloc (.cells #[bv 9] 5)) := (Chg.refl _ _).alloc _
 have HO2 := LH ((HO1.out.keep0 hc2).add (Y := [w2.heap.size]) hcA (fun x hx => by rw [List.mem_singleton.1 hx]; exact ⟨.inr (Nat.le_refl _), by simp⟩))
 have CP := LH (own_doI HO2.out ⟨1, ⟨1, 0, 5, 2⟩, [9]⟩ (.slice (some ⟨w2.heap.size, 0, none⟩) 1 1) HP.out okD_c (one_byte6 w2 9) (fun _ k hk => .inr (by
  obtain rfl : w2.heap.size = k := by simpa [Value.ownBlock] using hk
  simp)) (by simp) HL0.out.1 (by have := HL0.out.2.1; omega) (by have := HL0.out.2.2; omega))
 rw [show bv 9 = .int .u8 9 from rfl] at CP
 dsimp only at CP
 clear hc2 hcA CI HO1
 go_wp2_with fail
 refine CP.out.mono ?_
 rintro e w4 ⟨a4, c4, a5, c5, he, hb4, hn4, hi4, ho4, hk4⟩
 dsimp only at he
 subst he
 have hcB : Chg [] w4 (w4.alloc (.cells #[.int .i64 0, .slice a4 0 c4, .slice a5 0 c5, .int .i64 0, .bool false] 32)) := (Chg.refl _ _).alloc _
 have HO4 := LH (ho4.add (Y := [w4.heap.size]) hcB (fun x hx => by rw [List.mem_singleton.1 hx]; exact ⟨.inr (Nat.le_refl _), by simp⟩))
 have HA4 := LH (heap_alloc_new w4 (.cells #[.int .i64 0, .slice a4 0 c4, .slice a5 0 c5, .int .i64 0, .bool false] 32))
 clear hb4 hn4 hi4 ho4 hk4 hcB CP
 have CI := LH (lawid_any 1 0 5 2 (w4.alloc (.cells #[.int .i64 0, .slice a4 0 c4, .slice a5 0 c5, .int .i64 0, .bool false] 32)))
 go_wp2_with fail
 refine CI.out.mono ?_
 rintro e w5 ⟨rfl, hc5⟩
 have HA5 := LH (hc5.keep HA4.out (by simp))
 have CG := LH (own_doI (HO4.out.keep0 hc5) ⟨2, ⟨1, 0, 5, 2⟩, []⟩ (.slice none 0 0) HG.out okD_c (BytesAt.nil _) (by simp) (by simp) HL1.out.1 (by have := HL1.out.2.1; omega) (by have := HL1.out.2.2; omega))
 dsimp only at CG
 clear hc5 CI
 go_wp2_with fail
 refine CG.out.mono ?_
 rintro e w6 ⟨a6, c6, a7, c7, he, hb6, hn6, hi6, ho6, hk6⟩
 dsimp only at he hb6
 subst he
 have HA6 := LH ((hk6 w4.heap.size (by simp)).trans HA5.out)
 have hcC : Chg [] w6 (w6.alloc (.cells #[.int .i64 0, .slice a6 1 c6, .slice a7 0 c7, .int .i64 0, .bool false] 32)) := (Chg.refl _ _).alloc _
 have HB6 := LH (hb6.chg hcC (by simp))
 have HC6 := LH (ho6.chg.trans hcC (by simp))
 have HA7 := LH (hcC.keep HA6.out (by simp))
 have HN6 := LH (heap_alloc_new w6 (.cells #[.int .i64 0, .slice a6 1 c6, .slice a7 0 c7, .int .i64 0, .bool false] 32))
 clear hb6 hn6 hi6 ho6 hk6 hcC CG
 obtain ⟨w7, hw7⟩ : ∃ w7, w7 = w6.alloc (.cells #[.int .i64 0, .slice a6 1 c6, .slice a7 0 c7, .int .i64 0, .bool false] 32) := ⟨_, rfl⟩
 rw [<- hw7] at HB6 HC6 HA7 HN6
 have p0 := blk_cell HA7.out 0 _ rfl
 have p1 := blk_cell HN6.out 0 _ rfl
 have p2 := blk_cell HN6.out 1 _ rfl
 rw [hw7] at p0 p1 p2
 have HW7 := LH hw7
 have hcD : Chg [] w7 (w7.alloc (.cells #[bv 9] 5)) := (Chg.refl _ _).alloc _
 have CS := LH (same_any (.slice a6 1 c6) (.slice (some ⟨w7.heap.size, 0, none⟩) 1 1) [9] [9] (w7.alloc (.cells #[bv 9] 5)) (HB6.out.chg hcD (by simp)) (one_byte6 w7 9) (by simp) (by simp))
 rw [decide_eq_true rfl, show bv 9 = .int .u8 9 from rfl, show w7.heap.size = w6.heap.size + 1 by rw [hw7]; simp] at CS
 have HCD := LH hcD
 clear hw7 hcD
 go_wp2_with fail
 rw [<- HW7.out]
 refine CS.out.mono ?_
 rintro e w8 ⟨rfl, nn, hq⟩
 have HCF : Hid (Chg [] w w8) := LH (by rw [hq]; exact (HC6.out.trans HCD.out (by simp)).drewN nn)
 clear hq
 go_wp2
 go_ret
 exact ⟨rfl, HCF.out⟩
section
open Go.RowKit Go.ChangeShapes Go.WideShapes
theorem penAdd_len {l : List UInt8} (bad : Int) (m : List UInt8) (h : l.length <= 65536) : (penAdd l bad m).1.length <= 65536 := by
 unfold penAdd
 split
 ·exact h
 ·split
  ·exact h
  ·simp; omega
theorem pnS_len {r : PB} (x : Int) (n : Nat) (h : r.1.length <= 65536) : (pnS r x n).1.length <= 65536 := by
 unfold pnS penNum
 split
 ·exact h
 ·split
  ·exact h
  ·exact penAdd_len _ _ h
theorem prS_len {r : PB} (m : List UInt8) (h : r.1.length <= 65536) : (prS r m).1.length <= 65536 := by
 unfold prS penRaw
 split
 ·exact h
 ·split
  ·exact h
  ·exact penAdd_len _ _ h
theorem pbS_len {r : PB} (q : Bool) (h : r.1.length <= 65536) : (pbS r q).1.length <= 65536 := penAdd_len _ _ h
theorem penId_len {r : PB} (x : Id) (h : r.1.length <= 65536) : (penId r x).1.length <= 65536 := pnS_len _ _ (pnS_len _ _ (pnS_len _ _ (pnS_len _ _ h)))
theorem penIds_len : ∀ (l : List Id) (r : PB), r.1.length <= 65536 -> (l.foldl penId r).1.length <= 65536
 | [], r, h => h
 | x :: l, r, h => penIds_len l _ (penId_len x h)
theorem penOut_len {r : PB} (h : r.1.length <= 65536) : (penOut r).1.length <= 65536 := by
 unfold penOut
 split
 ·simp
 ·exact h
theorem reqEnc_len (r : Rq) : (reqEnc r).1.length <= 65536 := by
 unfold reqEnc
 split
 ·exact penOut_len (prS_len _ (penId_len _ (pnS_len _ _ (by simp))))
 ·simp
theorem repEnc_len (o : Rp) : (penOut (repPen o)).1.length <= 65536 := penOut_len (pbS_len _ (pnS_len _ _ (penIds_len _ _ (pnS_len _ _ (prS_len _ (pnS_len _ _ (by simp)))))))
theorem erV_len (s : PB) : (erV s).length <= 65535 := by
 unfold erV eyeRaw
 split
 ·simp
 ·split
  ·simp
  ·split
   ·simp
   ·split
    ·simp
    ·rw [List.length_take]
     omega
theorem reqDec_len (l : List UInt8) : (reqDec l).1.b.length <= 1000000 := by
 unfold reqDec
 split
 ·simp [noRq]
 ·split
  ·simp [noRq]
  ·exact Nat.le_trans (erV_len _) (by omega)
theorem okW_of {z : Int} (h0 : 0 <= z) (h1 : z < 72057594037927936) : okW z := by
 unfold okW
 simp [Lit.wf, IntKind.min, IntKind.max, IntKind.signed, IntKind.bits]
 omega
theorem enV_ok (s : PB) (n : Nat) (h : n <= 7) : okW (enV s n) := by
 unfold enV eyeNum
 split
 ·exact okW_of (by omega) (by omega)
 ·split
  ·exact okW_of (by omega) (by omega)
  ·have h := beNum_lt (s.1.take n)
   have h2 : 256 ^ (s.1.take n).length <= 256 ^ 7 := Nat.pow_le_pow_right (by omega) (Nat.le_trans (List.length_take_le _ _) (by omega))
   exact okW_of (by omega) (by show ((beNum (s.1.take n) : Nat) : Int) < _; omega)
theorem giV_ok (s : PB) : okD (giV s) := ⟨enV_ok _ _ (by omega), enV_ok _ _ (by omega), enV_ok _ _ (by omega), enV_ok _ _ (by omega)⟩
theorem noRq_ok : okD noRq.x := ⟨okW_of (by decide) (by decide), okW_of (by decide) (by decide), okW_of (by decide) (by decide), okW_of (by decide) (by decide)⟩
theorem reqDec_ok (l : List UInt8) : okD (reqDec l).1.x := by
 unfold reqDec
 split
 ·exact noRq_ok
 ·split
  ·exact noRq_ok
  ·exact giV_ok _
theorem IdsRow.of {w : World} {base : Nat} {a : Option Addr} {n c : Nat} {l : List Id} (h : w.ownsRow base 38 4 (.slice a n c) l.length (l.flatMap idE)) : IdsRow w a c l := by
 have hr := IdRow.of h
 rcases h.2 with ⟨h1, h2⟩ | ⟨g, cap, cur, h1, hb, hg, hn, hc, _⟩
 ·injection h1 with h3 h4 h5
  subst h5
  refine ⟨by omega, by unfold maxLen; omega, fun j x hx => ?_⟩
  have := (List.getElem?_eq_some_iff.1 hx).1
  omega
 ·injection h1 with h3 h4 h5
  subst h5
  refine ⟨hn, hc, fun j x hx => ?_⟩
  have hj := (List.getElem?_eq_some_iff.1 hx).1
  obtain ⟨a', c', e, hcells⟩ := hr
  injection e with e1 e2 e3
  obtain ⟨g', y, ha, hy, c0, c1, c2, c3⟩ := hcells j hj
  rw [hx] at hy
  obtain rfl : x = y := by simpa using hy
  exact ⟨g', 0, by rw [e1, ha], World.block_lt_of_cell? _ _ c0, by simpa using c0, by simpa using c1, by simpa using c2, by simpa using c3⟩
section
variable {H : Type} {enc : TypeId × Value -> H} {w : World} {base : Nat} {held : Bool}
end
end
theorem six_sixX {w : World} {b t : Nat} {k xc xl xn xi : Int} {bv : Value} (h : w.heap[b]? = some (.cells #[.int .i64 k, .int .i64 xc, .int .i64 xl, .int .i64 xn, .int .i64 xi, bv] t (0, 0))) : (w.cell? ⟨b, 0, none⟩ = some (.int .i64 k) /\ w.cell? ⟨b, 1, none⟩ = some (.int .i64 xc) /\ w.cell? ⟨b, 2, none⟩ = some (.int .i64 xl) /\ w.cell? ⟨b, 3, none⟩ = some (.int .i64 xn) /\ w.cell? ⟨b, 4, none⟩ = some (.int .i64 xi) /\ w.cell? ⟨b, 5, none⟩ = some bv) :=
 ⟨blk_cell h 0 _ rfl, blk_cell h 1 _ rfl, blk_cell h 2 _ rfl, blk_cell h 3 _ rfl, blk_cell h 4 _ rfl, blk_cell h 5 _ rfl⟩
theorem row_sliceX {w : World} {base e size : Nat} {iv : Value} {n : Nat} {xs : List Value} (h : w.ownsRow base e size iv n xs) : ∃ a c, iv = .slice a n c := by
 rcases h.2 with ⟨h1, h2⟩ | ⟨g, cap, cur, h1, _⟩
 ·exact ⟨none, 0, by rw [h1, h2]⟩
 ·exact ⟨_, cap, h1⟩
theorem bytes_lt {w : World} {v : Value} {l : List UInt8} (h : BytesAt w v l) (hl : l ≠ []) : ∀ k, v.ownBlock = some k -> k < w.heap.size := by
 obtain ⟨a, cap, rfl, h1, h2, h3⟩ := h
 intro k hk
 rcases h3 with h3 | ⟨g, o, rfl, hc⟩
 ·exact absurd h3.1 hl
 ·obtain rfl : g = k := by simpa [Value.ownBlock] using hk
  exact World.block_lt_of_cell? _ _ (hc 0 (List.length_pos_iff.2 hl))
def KC (X : List Nat) (w w' : World) : Prop := ∃ T, Chg T w w' /\ ∀ x ∈ T, x ∉ X
theorem KC.of {X : List Nat} {w w' : World} (h : Chg [] w w') : KC X w w' := ⟨[], h, by simp⟩
theorem KC.size {X : List Nat} {w w' : World} (h : KC X w w') : w.heap.size <= w'.heap.size := by obtain ⟨T, h1, _⟩ := h; exact h1.size
theorem KC.kp {X : List Nat} {w w' : World} (h : KC X w w') (hX : ∀ x ∈ X, x < w.heap.size) : Kp X w w' := fun x hx => by
 obtain ⟨T, h1, h2⟩ := h
 exact h1.block x (hX x hx) (fun hm => h2 x hm hx)
theorem KC.trans {X : List Nat} {a b c : World} (h : KC X a b) (k : KC X b c) (hX : ∀ x ∈ X, x < a.heap.size) : KC X a c := by
 obtain ⟨T, h1, h2⟩ := h
 obtain ⟨S, k1, k2⟩ := k
 refine ⟨T ++ S, (h1.mono (fun x hx => .inl (List.mem_append_left _ hx))).trans k1 (fun x hx => .inl (List.mem_append_right _ hx)), fun x hx => ?_⟩
 rcases List.mem_append.1 hx with hx | hx
 ·exact h2 x hx
 ·exact k2 x hx
theorem KC.sub {X Y : List Nat} {w w' : World} (h : KC X w w') (hY : ∀ x ∈ Y, x ∈ X) : KC Y w w' := by
 obtain ⟨T, h1, h2⟩ := h
 exact ⟨T, h1, fun x hx hm => h2 x hx (hY x hm)⟩
theorem own_doC {X : List Nat} {w0 w : World} {z q p : Nat} {t : Sto} (h : OwnS X w0 w z q p t) (r : Rq) (bv : Value) (hx : okD r.x) (hb : BytesAt w bv r.b) (hbX : r.b ≠ [] -> ∀ k, bv.ownBlock = some k -> k < w0.heap.size ∨ k ∈ X) (hbl : r.b.length <= 1000000) (hn : 1 <= t.s.d.n) (ho : t.s.d.ops <= 800000000) (hw : t.s.d.since.length <= 800000) :
  Calls Tryz.prog 12 #[.pointer (some ⟨z, 0, none⟩), rqV r bv] w fun e w' => ∃ v, e = .returned (.tuple #[v, .int .i64 (t.run r).1.2]) /\ RpAt w w' v (t.run r).1.1 /\ OwnS X w0 w' z q p (t.run r).2 /\ KC X w w' := by
 obtain ⟨U, h1, h2⟩ := h.sv
 refine (svdo_any r bv w h1 hx hb (fun hne k hk hm => ?_) hbl hn ho hw).mono ?_
 ·rcases hbX hne k hk with h3 | h3
  ·have := h2 k hm; omega
  ·exact h1.far k hm h3
 ·rintro e w' ⟨v, rfl, hr, hs⟩
  obtain ⟨U', b1, b2, b3⟩ := h1.did hs
  have hsz := h.chg.size
  refine ⟨v, rfl, hr, ⟨⟨U', b1, fun x hx => ?_⟩, h.chg.trans b3 (fun x hx => .inr (h2 x hx)), h.newz, h.outz⟩, U, b3, h1.far⟩
  rcases b2 x hx with h3 | h3
  ·exact h2 x h3
  ·omega
def handleR (t : Sto) (l : List UInt8) : (List UInt8 × Int) × Sto :=
 if (reqDec l).2 ≠ 0 then (([], (reqDec l).2), t) else
 if (t.run (reqDec l).1).1.2 ≠ 0 then (([], (t.run (reqDec l).1).1.2), (t.run (reqDec l).1).2) else (penOut (repPen (t.run (reqDec l).1).1.1), (t.run (reqDec l).1).2)
def HandP (X : List Nat) (w0 w : World) (z q p : Nat) (r : (List UInt8 × Int) × Sto) (e : Ending) (w' : World) : Prop :=
 ∃ v, e = .returned (.tuple #[v, .int .i64 r.1.2]) /\ BytesAt w' v r.1.1 /\ (∀ k, v.ownBlock = some k -> w.heap.size <= k) /\ OwnS X w0 w' z q p r.2 /\ KC X w w'
theorem own_handle {X : List Nat} {w0 w : World} {z q p : Nat} {t : Sto} (h : OwnS X w0 w z q p t) (v : Value) (l : List UInt8) (hv : BytesAt w v l) (hl : l.length <= 1000000) (hn : 1 <= t.s.d.n) (ho : t.s.d.ops <= 800000000) (hw : t.s.d.since.length <= 800000)
  (hlim : (t.run (reqDec l).1).1.1.b.length <= 900000 /\ (t.run (reqDec l).1).1.1.ids.length <= 65535) : Calls Tryz.prog 23 #[.pointer (some ⟨z, 0, none⟩), v] w (HandP X w0 w z q p (handleR t l)) := by
 obtain ⟨U, hsv, -⟩ := h.sv
 have c0 := blk_cell hsv.head 0 _ rfl
 have HH := LH h
 have CC := LH (clone_any v l w hv (by omega))
 have HLIM := LH hlim
 obtain ⟨rD, hrD⟩ : ∃ rD, rD = reqDec l := ⟨_, rfl⟩
 have HRD := LH hrD
 have hxo : okD rD.1.x := by rw [hrD]; exact reqDec_ok l
 have hdl : rD.1.b.length <= 1000000 := by rw [hrD]; exact reqDec_len l
 have HR : Hid (handleR t l = if rD.2 ≠ 0 then (([], rD.2), t) else if (t.run rD.1).1.2 ≠ 0 then (([], (t.run rD.1).1.2), (t.run rD.1).2) else (penOut (repPen (t.run rD.1).1.1), (t.run rD.1).2)) := LH (by rw [hrD]; rfl)
 rw [<- hrD] at HLIM
 generalize handleR t l = res at *
 obtain ⟨va, vc, hvv⟩ := hv.slice
 subst hvv
 clear h hv hsv hlim hrD
 go_enter Tryz.func23, Tryz.ntmps23
 go_wp2_with fail
 refine CC.out.mono ?_
 rintro e w1 ⟨v1, rfl, hb1, hn1, hc1⟩
 have CD := LH (svdec_any v1 l w1 hb1.bytes (by omega))
 rw [<- HRD.out] at CD
 have HC1 := LH hc1
 obtain ⟨a1, c1, rfl⟩ := hb1.slice
 clear hb1 hn1 hc1 CC c0
 go_wp2_with fail
 refine CD.out.mono ?_
 obtain ⟨⟨dk, ⟨yc, yl, yn, yi⟩, db⟩, dc⟩ := rD
 rintro e w2 ⟨x2, rfl, hx2, hn2, hc2⟩
 obtain ⟨a2, c2, rfl⟩ := hx2.slice
 unfold rqV rqL
 dsimp only at hx2 hxo hdl HR HLIM ⊢
 obtain ⟨w3, hw3⟩ : ∃ w3, w3 = w2.alloc (.cells #[.int .i64 dk, .int .i64 yc, .int .i64 yl, .int .i64 yn, .int .i64 yi, .slice a2 db.length c2] 40) := ⟨_, rfl⟩
 have hcA : Chg [] w2 w3 := by rw [hw3]; exact (Chg.refl _ _).alloc _
 have hd3 : w3.heap[w2.heap.size]? = some (.cells #[.int .i64 dk, .int .i64 yc, .int .i64 yl, .int .i64 yn, .int .i64 yi, .slice a2 db.length c2] 40 (0, 0)) := by rw [hw3]; exact heap_alloc_new w2 _
 have hc13 := hc2.trans hcA (by simp)
 have HC3 := LH (HC1.out.trans hc13 (by simp))
 have HX3 := LH (hx2.chg hcA (by simp))
 have hY : ∀ x ∈ w2.heap.size :: (kB (.slice a2 db.length c2) db ++ X), (x ∈ X ∨ w.heap.size <= x) /\ x < w3.heap.size := fun x hx => by
  have h3 := HC1.out.size
  have h4 := hcA.size
  have h5 := hc2.size
  have h6 := blk_lt hd3
  rcases List.mem_cons.1 hx with rfl | hx
  ·exact ⟨.inr (by omega), h6⟩
  rcases List.mem_append.1 hx with hx | hx
  ·have hne : db ≠ [] := fun e => by rw [e, kB_nil] at hx; cases hx
   have hk := (mem_kB hne).1 hx
   have h1 := hn2 x hk
   have h2 := bytes_lt hx2 hne x hk
   exact ⟨.inr (by omega), by omega⟩
  ·exact ⟨.inl hx, Nat.lt_of_lt_of_le (HH.out.gl x hx) HC3.out.size⟩
 have HO3 := LH (HH.out.add HC3.out hY)
 have HW3 := LH hw3
 have HD3 := LH hd3
 have hs2 : w.heap.size <= w2.heap.size := Nat.le_trans HC1.out.size hc2.size
 have HS2 := LH hs2
 have HKX : Hid (KC X w w3) := LH (KC.of HC3.out)
 clear hx2 hn2 hc2 hw3 hcA hd3 hc13 hY CD hs2
 by_cases hz : dc = 0
 ·subst hz
  rw [if_neg (by simp)] at HR
  go_upto_region 4 with (fail)
  rw [<- HW3.out]
  obtain ⟨p0, p1, p2, p3, p4, p5⟩ := six_sixX HD3.out
  have CO := LH (own_doC HO3.out ⟨dk, ⟨yc, yl, yn, yi⟩, db⟩ (.slice a2 db.length c2) hxo HX3.out (fun hne k hk => .inr (List.mem_cons_of_mem _ (List.mem_append_left _ ((mem_kB hne).2 hk)))) hdl hn ho hw)
  obtain ⟨ro, hro⟩ : ∃ ro, ro = t.run ⟨dk, ⟨yc, yl, yn, yi⟩, db⟩ := ⟨_, rfl⟩
  rw [<- hro] at CO HR HLIM
  unfold rqV rqL at CO
  dsimp only at CO
  clear hro
  go_wp2_with fail
  refine CO.out.mono ?_
  obtain ⟨⟨⟨fe, fb, fi, fr, fw⟩, fc⟩, t'⟩ := ro
  rintro e w4 ⟨x4, rfl, ⟨bf, jf, rfl, hbf, hnf, hjf⟩, ho4, hk4⟩
  dsimp only at hbf hjf HR HLIM ho4 ⊢
  obtain ⟨a4, c4, rfl⟩ := hbf.slice
  obtain ⟨a5, c5, rfl⟩ := row_sliceX hjf
  unfold rpV rpL
  try dsimp only
  obtain ⟨w5, hw5⟩ : ∃ w5, w5 = w4.alloc (.cells #[.int .i64 fe, .slice a4 fb.length c4, .slice a5 fi.length c5, .int .i64 fr, .bool fw] 32) := ⟨_, rfl⟩
  have hcB : Chg [] w4 w5 := by rw [hw5]; exact (Chg.refl _ _).alloc _
  have hd5 : w5.heap[w4.heap.size]? = some (.cells #[.int .i64 fe, .slice a4 fb.length c4, .slice a5 fi.length c5, .int .i64 fr, .bool fw] 32 (0, 0)) := by rw [hw5]; exact heap_alloc_new w4 _
  have HB5 := LH (hbf.chg hcB (by simp))
  have hi4 := IdsRow.of hjf
  have HI5 := LH (hi4.keep hcB)
  have HW5 := LH hw5
  have HD5 := LH hd5
  have hsub : ∀ x ∈ X, x ∈ w2.heap.size :: (kB (.slice a2 db.length c2) db ++ X) := fun x hx => List.mem_cons_of_mem _ (List.mem_append_right _ hx)
  have HO5 := LH ((ho4.keep0 hcB).sub (Y := X) hsub)
  have HK5 : Hid (KC X w w5) := LH ((HKX.out.trans (hk4.sub hsub) HH.out.gl).trans (KC.of hcB) HH.out.gl)
  have HS5 : Hid (w.heap.size <= w5.heap.size) := LH HK5.out.size
  clear hbf hnf hjf ho4 hk4 CO hw5 hcB hd5 hi4 hsub p0 p1 p2 p3 p4 p5
  by_cases hz2 : fc = 0
  ·subst hz2
   rw [if_neg (by simp)] at HR
   go_upto_region 7 with (fail)
   rw [<- HW5.out]
   obtain ⟨⟨q0, q1, q2, q3, q4⟩, -⟩ := fvf_cells HD5.out
   have CR := LH (svencr_any ⟨fe, fb, fi, fr, fw⟩ (.slice a4 fb.length c4) a5 c5 w5 HB5.out HLIM.out.1 (fun hne => bytes_lt HB5.out hne) HI5.out HLIM.out.2)
   unfold rpV rpL at CR
   dsimp only at CR
   go_wp2_with fail
   refine CR.out.mono ?_
   rintro e w6 ⟨x6, rfl, hx6, hn6, hc6⟩
   have HE : Hid (HandP X w0 w z q p res (.returned (.tuple #[x6, .int .i64 (penOut (repPen ⟨fe, fb, fi, fr, fw⟩)).2])) w6) := LH (by
    rw [HR.out]
    exact ⟨x6, rfl, hx6, fun k hk => Nat.le_trans HS5.out (hn6 k hk), HO5.out.keep0 hc6, HK5.out.trans (KC.of hc6) HH.out.gl⟩)
   clear hx6 hn6 hc6 CR q0 q1 q2 q3 q4
   go_wp2
   go_ret2
   exact HE.out
  ·rw [if_pos hz2] at HR
   have qb : (fc != 0) = true := by simp [hz2]
   have HE : Hid (HandP X w0 w z q p res (.returned (.tuple #[.slice none 0 0, .int .i64 fc])) w5) := LH (by
    rw [HR.out]
    exact ⟨_, rfl, BytesAt.nil _, by simp [Value.ownBlock], HO5.out, HK5.out⟩)
   clear hz2
   go_upto_region 7 with (fail)
   rw [<- HW5.out]
   go_wp2
   go_ret2
   exact HE.out
 ·rw [if_pos hz] at HR
  have qb : (dc != 0) = true := by simp [hz]
  have HE : Hid (HandP X w0 w z q p res (.returned (.tuple #[.slice none 0 0, .int .i64 dc])) w3) := LH (by
   rw [HR.out]
   exact ⟨_, rfl, BytesAt.nil _, by simp [Value.ownBlock], HH.out.keep0 HC3.out, HKX.out⟩)
  clear hz
  go_upto_region 4 with (fail)
  rw [<- HW3.out]
  go_wp2
  go_ret2
  exact HE.out
section
open Go.RowKit
variable {G : List Nat}
end
def ROpenPost (m : Nat) (V F : List Nat) (w : World) (r : Int × Option SS) (e : Ending) (w' : World) : Prop := Chg [] w w' /\ match r with
 | (c, none) => e = .returned (.tuple #[.pointer none, .int .i64 c])
 | (c, some s) => ∃ q W A, e = .returned (.tuple #[.pointer (some ⟨q, 0, none⟩), .int .i64 c]) /\ RSlotsAt w' q m W A s /\ (∀ x ∈ W, x ∈ V ∨ w.heap.size <= x) /\ ∀ x ∈ A, x ∈ F ∨ w.heap.size <= x
structure ROpenAt (w wr : World) (q m : Nat) (first : Nat) (rv : Value) (R : List (SRow × Value)) : Prop where
 chg : Chg [] w wr
 obj : ObjAt wr q 166 #[.pointer (some ⟨m, 0, none⟩), .int .i64 (first : Int), rv] [rowQ rv R]
 new : ∀ x ∈ blks q [rowQ rv R], w.heap.size <= x
 no8 : ∀ x ∈ blks q [rowQ rv R], NoU8 wr x
 keys : ∀ x ∈ R, BytesAt wr x.2 x.1.key /\ ∀ g, x.2.ownBlock = some g -> g < wr.heap.size /\ w.heap.size <= g /\ g ∉ blks q [rowQ rv R]
theorem ROpenAt.keep {w wr w' : World} {q m first : Nat} {rv : Value} {R : List (SRow × Value)} (h : ROpenAt w wr q m first rv R) (hc : Chg [] wr w') : ROpenAt w w' q m first rv R :=
 ⟨h.chg.trans hc (by simp), h.obj.keep hc (by simp), h.new, fun x hx => (h.no8 x hx).keep (hc.block x (h.obj.lim x hx) (by simp)), fun x hx => ⟨(h.keys x hx).1.chg hc (by simp), fun g hg => ⟨Nat.lt_of_lt_of_le ((h.keys x hx).2 g hg).1 hc.size, ((h.keys x hx).2 g hg).2⟩⟩⟩
theorem ROpenAt.row {w wr : World} {q m first : Nat} {rv : Value} {R : List (SRow × Value)} (h : ROpenAt w wr q m first rv R) : wr.ownsRow 0 168 3 rv R.length (qcells R) /\ (∀ c ∈ qcells R, No8 c) /\ ∀ x, rv.ownBlock = some x -> NoU8 wr x :=
 ⟨h.obj.rows _ (List.mem_singleton.2 rfl), qcells_no8 R (fun x hx => (h.keys x hx).1), fun x hx => h.no8 x (blks_row (r := rowQ rv R) (List.mem_singleton.2 rfl) hx)⟩
theorem ROpenAt.more {w wr w2 : World} {q m first : Nat} {rv : Value} {R : List (SRow × Value)} (h : ROpenAt w wr q m first rv R) (x : SRow × Value) (g cap : Nat) (hg : wr.grownBy w2 rv.ownBlock) (hrow : w2.ownsRow 0 168 3 (.slice (some ⟨g, 0, none⟩) (R.length + 1) cap) (R.length + 1) (qcells R ++ qcell x))
  (hat : rv.ownBlock = some g ∨ g = wr.heap.size) (h8 : NoU8 w2 g) (hx : BytesAt wr x.2 x.1.key) (hxU : ∀ g, x.2.ownBlock = some g -> g < wr.heap.size /\ w.heap.size <= g /\ g ∉ blks q [rowQ rv R]) :
  ROpenAt w (w2.setCell ⟨q, 2, none⟩ (.slice (some ⟨g, 0, none⟩) (R.length + 1) cap)) q m first (.slice (some ⟨g, 0, none⟩) (R.length + 1) cap) (R ++ [x]) := by
 have hloc : ∀ k, (Value.slice (some ⟨g, 0, none⟩) (R.length + 1) cap).ownBlock = some k -> rv.ownBlock = some k ∨ wr.heap.size <= k := fun k hk => by
  obtain rfl : g = k := by simpa [Value.ownBlock] using hk
  rcases hat with h4 | h4
  ·exact .inl h4
  ·exact .inr (by omega)
 have hobj : ObjAt wr q 166 #[.pointer (some ⟨m, 0, none⟩), .int .i64 (first : Int), rv] ([] ++ rowQ rv R :: []) := h.obj
 obtain ⟨o1, o2, o3⟩ := hobj.field (r' := rowQ (.slice (some ⟨g, 0, none⟩) (R.length + 1) cap) (R ++ [x])) 2 hg (by
  show w2.ownsRow 0 168 3 (.slice (some ⟨g, 0, none⟩) (R.length + 1) cap) (R ++ [x]).length (qcells (R ++ [x]))
  rw [List.length_append, qcells_app]
  exact hrow) hloc
 have o8 := hobj.field8 h.no8 2 hg (r' := rowQ (.slice (some ⟨g, 0, none⟩) (R.length + 1) cap) (R ++ [x])) hloc (fun y hy => by
  obtain rfl : g = y := by simpa [rowQ, Value.ownBlock] using hy
  exact h8) no8_slice
 refine ⟨h.chg.trans o3 (fun x hx => .inr (h.new x hx)), o1, fun y hy => ?_, o8, fun y hy => ?_⟩
 ·rcases o2 y hy with h1 | h1
  ·exact h.new y h1
  ·exact Nat.le_trans h.chg.size h1
 ·have hout : ∀ k, k < wr.heap.size -> k ∉ blks q [rowQ rv R] -> k ∉ blks q [rowQ (.slice (some ⟨g, 0, none⟩) (R.length + 1) cap) (R ++ [x])] := fun k h1 h2 hm => by
   rcases o2 k hm with h3 | h3
   ·exact h2 h3
   ·omega
  rcases List.mem_append.1 hy with hy | hy
  ·obtain ⟨k1, k2⟩ := h.keys y hy
   exact ⟨k1.chg o3 (fun k hk => (k2 k hk).2.2), fun k hk => ⟨Nat.lt_of_lt_of_le (k2 k hk).1 o3.size, (k2 k hk).2.1, hout k (k2 k hk).1 (k2 k hk).2.2⟩⟩
  ·obtain rfl : y = x := by simpa using hy
   exact ⟨hx.chg o3 (fun k hk => (hxU k hk).2.2), fun k hk => ⟨Nat.lt_of_lt_of_le (hxU k hk).1 o3.size, (hxU k hk).2.1, hout k (hxU k hk).1 (hxU k hk).2.2⟩⟩
theorem ROpenAt.done {w wr : World} {q m first : Nat} {V F : List Nat} {d : DS} {rv : Value} {R : List (SRow × Value)} (h : ROpenAt w wr q m first rv R) (hd : RDiskAt w m V F d) (hok : SS.Ok ⟨d, first, R.map (·.1)⟩) :
  ∃ W A, RSlotsAt wr q m W A ⟨d, first, R.map (·.1)⟩ /\ (∀ x ∈ W, x ∈ V ∨ w.heap.size <= x) /\ ∀ x ∈ A, x ∈ F ∨ w.heap.size <= x := by
 obtain ⟨l1, l2, l3⟩ := hd.lim
 refine ⟨V ++ blks q [rowQ rv R], F ++ blks q [rowQ rv R] ++ R.flatMap (fun x => x.2.ownBlock.toList), ⟨V, F, rv, R, h.obj, hd.keep h.chg (by simp), rfl, fun x hx hm => ?_, fun x hx => ?_, rfl, h.no8, fun x hx => List.mem_append_left _ (List.mem_append_left _ hx), fun x hx => List.mem_append_left _ (List.mem_append_right _ hx), fun x hx => ?_, hok⟩, fun x hx => ?_, fun x hx => ?_⟩
 ·have a1 := h.new x hx
  have a2 := l1 x hm
  omega
 ·obtain ⟨k1, k2⟩ := h.keys x hx
  refine ⟨k1, fun g hg => ⟨List.mem_append_right _ (List.mem_flatMap.2 ⟨x, hx, by rw [hg]; simp⟩), fun hm => ?_⟩⟩
  obtain ⟨b1, b2, b3⟩ := k2 g hg
  rcases List.mem_append.1 hm with hm | hm
  ·have := l1 g (l2 g hm); omega
  ·exact b3 hm
 ·rcases List.mem_append.1 hx with hx | hx
  ·rcases List.mem_append.1 hx with hx | hx
   ·exact Nat.lt_of_lt_of_le (l1 x hx) h.chg.size
   ·exact h.obj.lim x hx
  ·obtain ⟨c, hc, hx⟩ := List.mem_flatMap.1 hx
   exact ((h.keys c hc).2 x (by simpa using hx)).1
 ·rcases List.mem_append.1 hx with hx | hx
  ·exact .inl hx
  ·exact .inr (h.new x hx)
 ·rcases List.mem_append.1 hx with hx | hx
  ·rcases List.mem_append.1 hx with hx | hx
   ·exact .inl hx
   ·exact .inr (h.new x hx)
  ·obtain ⟨c, hc, hx⟩ := List.mem_flatMap.1 hx
   exact .inr ((h.keys c hc).2 x (by simpa using hx)).2.1
theorem ropen_at (m first : Nat) (w : World) : ROpenAt w (w.alloc (.cells #[.pointer (some ⟨m, 0, none⟩), .int .i64 (first : Int), .slice none 0 0] 166)) w.heap.size m first (.slice none 0 0) [] := by
 have hh := heap_alloc_new w (.cells #[.pointer (some ⟨m, 0, none⟩), .int .i64 (first : Int), .slice none 0 0] 166)
 have hb : blks w.heap.size [rowQ (.slice none 0 0) []] = [w.heap.size] := rfl
 refine ⟨(Chg.refl _ _).alloc _, ⟨hh, fun r hr => ?_, by rw [hb]; simp⟩, fun x hx => ?_, fun x hx => ?_, fun x hx => by cases hx⟩
 ·obtain rfl : r = rowQ (.slice none 0 0) [] := by simpa using hr
  exact ⟨rfl, .inl ⟨rfl, rfl⟩⟩
 ·rw [hb] at hx
  rw [List.mem_singleton.1 hx]
  exact Nat.le_refl _
 ·rw [hb] at hx
  rw [List.mem_singleton.1 hx]
  refine NoU8.mk hh (no8_list (l := [_, _, _]) ?_)
  intro c hc
  simp only [List.mem_cons, List.mem_nil_iff, or_false] at hc
  rcases hc with rfl | rfl | rfl <;> (intro z; simp)
theorem facts_held : (Tryz.prog.info? 168).map (fun i => (i.zero, i.size, i.bytes)) = some (some (.agg #[.bool false, .slice none 0 0, .int .i64 0]), 3, 40) := by kernel_rfl
theorem ropen_any (m : Nat) (V F : List Nat) (d : DS) (first : Int) (w : World) (h : RDiskAt w m V F d) (hn0 : d.n ≠ 0) :
  Calls Tryz.prog 71 #[.pointer (some ⟨m, 0, none⟩), .int .i64 first] w (ROpenPost m V F w (d.slots first)) := by
 have HD := LH h
 obtain ⟨p6, hnd, a, cap, p0, -⟩ := h.read
 obtain ⟨n, hn⟩ : ∃ n, n = d.n := ⟨_, rfl⟩
 have HN := LH hn
 rw [<- hn] at p0 hnd hn0
 by_cases hneg : first < 0
 ·have hg : d.slots first = (1, none) := by unfold DS.slots; rw [if_pos (.inl hneg)]
  rw [hg]
  have q0 : decide (first < 0) = true := decide_eq_true hneg
  clear h hg p6
  go_enter Tryz.func71, Tryz.ntmps71
  go_wp2
  go_ret2
  exact ⟨Chg.refl _ _, rfl⟩
 ·obtain ⟨f, rfl⟩ := Int.eq_ofNat_of_zero_le (show 0 <= first by omega)
  have q0 : decide ((f : Int) < 0) = false := decide_eq_false hneg
  by_cases hbig : n < f
  ·have hg : d.slots (f : Int) = (1, none) := by unfold DS.slots; rw [if_pos (.inr (by omega))]
   rw [hg]
   have q1 : decide ((f : Int) > (n : Int)) = true := decide_eq_true (by omega)
   clear h hg p6
   go_enter Tryz.func71, Tryz.ntmps71
   go_wp2
   go_ret2
   exact ⟨Chg.refl _ _, rfl⟩
  ·have q1 : decide ((f : Int) > (n : Int)) = false := decide_eq_false (by omega)
   by_cases hd : d.dead = true
   ·have hg : d.slots (f : Int) = (14, none) := by unfold DS.slots; rw [if_neg (by omega), if_pos (.inl hd)]
    rw [hg]
    rw [hd] at p6
    clear h hg hd
    go_enter Tryz.func71, Tryz.ntmps71
    go_wp2
    go_ret2
    exact ⟨Chg.refl _ _, rfl⟩
   ·have hg : d.slots (f : Int) = match rowsFrom d f ((d.n - f) / 8) 0 with
        | none => (4, none)
        | some rows => (0, some ⟨d, f, rows⟩) := by
     unfold DS.slots
     rw [if_neg (by omega), if_neg (by rw [<- hn]; simp [hd, hn0])]
     rfl
    have hd' : d.dead = false := by simpa using hd
    rw [hd'] at p6
    obtain ⟨Z, hZ⟩ : ∃ Z, Z = d.slots f := ⟨_, rfl⟩
    rw [<- hZ] at hg ⊢
    obtain ⟨M, hM⟩ : ∃ M, M = (d.n - f) / 8 := ⟨_, rfl⟩
    rw [<- hM] at hg
    have HG := LH hg
    have hm8 : f + 8 * M <= n /\ n < f + 8 * M + 8 := by omega
    have HSEC := LH (fun wr (hc : Chg [] w wr) => ((h.keep hc (by simp)).read).2.2)
    obtain ⟨w1, hw1⟩ : ∃ w1, w1 = w.alloc (.cells #[.pointer (some ⟨m, 0, none⟩), .int .i64 (f : Int), .slice none 0 0] 166) := ⟨_, rfl⟩
    have HO1 : Hid (ROpenAt w w1 w.heap.size m f (.slice none 0 0) []) := LH (by rw [hw1]; exact ropen_at m f w)
    obtain ⟨q, hq⟩ : ∃ q, q = w.heap.size := ⟨_, rfl⟩
    rw [<- hq] at HO1
    have HQ := LH hq
    have HW1 := LH hw1
    have HP0 := LH p0
    clear h hg hd hd' hZ hM hw1 hq
    go_enter Tryz.func71, Tryz.ntmps71
    go_wp2_with fail
    rw [<- HW1.out, <- HQ.out]
    go_loopg [7, 8, 9] M (fun g' s7 s8 s9 wr => ∃ (k : Nat) (rv : Value) (R : List (SRow × Value)), s7 = .int .i64 ((f + 8 * k : Nat) : Int) /\ k <= M /\ M <= k + g' /\ Hid (ROpenAt w wr q m f rv R /\ R.length = k /\ rowsFrom d f M 0 = (rowsFrom d f (M - k) k).map (R.map (·.1) ++ ·)))
    case atStart => exact ⟨0, .slice none 0 0, [], by simp, by omega, by omega, LH ⟨HO1.out, rfl, by simp⟩⟩
    case round =>
     obtain ⟨k, rv, R, rfl, hk, hkg, HR⟩ := hrel
     obtain ⟨hO, hRl, hrows⟩ := HR.out
     have HO := LH hO
     have HROWS := LH hrows
     have e0 := hO.chg.cell HP0.out (by simp)
     clear hO hrows p0 p6 HR
     by_cases hlt : k < M
     ·obtain ⟨a', c', e', hsec⟩ := HSEC.out wr HO.out.chg
      obtain ⟨rfl, hce, rfl⟩ : a = a' /\ n = d.n /\ cap = c' := by
       have := e0.symm.trans e'
       simpa using this
      obtain ⟨gn, ax, cx, rfl, e1, b1, l1⟩ := hsec (f + 8 * k) (by rw [<- hce]; omega)
      have CH := LH (rhead_any _ _ wr b1 (by rw [l1]; omega))
      have hle : decide ((f : Int) + 8 * (k : Int) + 8 <= (n : Int)) = true := decide_eq_true (by omega)
      have hfk : ((f : Int) + 8 * (k : Int)).toNat = f + 8 * k := by omega
      have hfk0 : (0 : Int) <= (f : Int) + 8 * (k : Int) := by omega
      have hfk1 : (f : Int) + 8 * (k : Int) < (n : Int) := by omega
      clear e' hsec b1 l1 hce
      go_wp2_with fail
      refine CH.out.mono ?_
      rintro e w4 ⟨hc4, hh⟩
      have HO4 := LH (HO.out.keep hc4)
      cases hhd : headOf (d.now (f + 8 * k)) with
      | none =>
       rw [hhd] at hh
       obtain rfl := hh
       have HZ : Hid (Z = (4, none)) := LH (by
        rw [HG.out, HROWS.out, show M - k = (M - (k + 1)) + 1 by omega]
        unfold rowsFrom
        rw [hhd]
        rfl)
       have HCF := LH HO4.out.chg
       clear hhd hc4 CH
       go_wp2
       go_ret2
       rw [HZ.out]
       exact ⟨HCF.out.alloc _, rfl⟩
      | some r =>
       rw [hhd] at hh
       obtain ⟨kv, rfl, hr5, ho5⟩ := hh
       obtain ⟨ak, ck, hkv⟩ := hr5.bytes.slice
       have hxU : ∀ g, kv.ownBlock = some g -> g < w4.heap.size /\ w.heap.size <= g /\ g ∉ blks q [rowQ rv R] := fun g hg => by
        have e1 := ho5 g hg
        have e4 := HO.out.chg.size
        refine ⟨hr5.lt g hg, by omega, fun hm => ?_⟩
        have := HO.out.obj.lim g hm
        omega
       obtain ⟨hb, hhb⟩ : ∃ hb, hb = w4.heap.size := ⟨_, rfl⟩
       obtain ⟨w5, hw5⟩ : ∃ w5, w5 = w4.alloc (.cells #[.bool r.used, .slice ak r.key.length ck, .int .i64 (r.n : Int)] 168) := ⟨_, rfl⟩
       have hc5 : Chg [] w4 w5 := by rw [hw5]; exact (Chg.refl _ _).alloc _
       have HO5 := LH (HO4.out.keep hc5)
       have hB5 : BytesAt w5 kv r.key := hr5.bytes.chg hc5 (by simp)
       have hR5 : w5.rangeAt hb 0 (qcell (r, kv)) := fun j u hj => by
        rw [hw5, hhb]
        have := blk_cell (heap_alloc_new w4 (.cells #[.bool r.used, .slice ak r.key.length ck, .int .i64 (r.n : Int)] 168)) j u (by rw [<- hkv]; simpa [qcell] using hj)
        rwa [Nat.zero_add]
       have HB := LH hhb
       have HW5 := LH hw5
       have HRC : Hid (rowsFrom d f M 0 = (rowsFrom d f (M - (k + 1)) (k + 1)).map ((R ++ [(r, kv)]).map (·.1) ++ ·)) := LH (by
        rw [HROWS.out, show M - k = (M - (k + 1)) + 1 by omega]
        conv => lhs; unfold rowsFrom
        rw [hhd]
        dsimp only
        rw [Option.map_map]
        congr 1
        funext t
        simp)
       have hA6 : ∀ x : Array Value, Chg [] w5 (w5.drew.alloc (.cells x 168)) := fun x => (by exact (Chg.refl [] w5).drew : Chg [] w5 w5.drew).alloc _
       have HO6 := LH (HO5.out.keep (hA6 (qcell (r, kv)).toArray))
       have HB6 := LH (hB5.chg (hA6 (qcell (r, kv)).toArray) (by simp))
       have HX6 : Hid (∀ g, kv.ownBlock = some g -> g < (w5.drew.alloc (.cells (qcell (r, kv)).toArray 168)).heap.size /\ w.heap.size <= g /\ g ∉ blks q [rowQ rv R]) := LH (fun g hg => ⟨Nat.lt_of_lt_of_le (hxU g hg).1 (Nat.le_trans hc5.size (hA6 _).size), (hxU g hg).2⟩)
       have HN6 : Hid (∀ j u, (qcell (r, kv))[j]? = some u -> (w5.drew.alloc (.cells (qcell (r, kv)).toArray 168)).cell? ((⟨w5.heap.size, 0, none⟩ : Addr).add j) = some u) := LH (fun j u hj => by
        rw [add_none, Nat.zero_add]
        exact blk_cell (heap_alloc_new w5.drew _) j u (by simpa using hj))
       have c2 : w5.cell? ⟨q, 2, none⟩ = some rv := blk_cell HO5.out.obj.head 2 _ rfl
       have c6 : (w5.drew.alloc (.cells (qcell (r, kv)).toArray 168)).cell? ⟨q, 2, none⟩ = some rv := blk_cell HO6.out.obj.head 2 _ rfl
       have hzh : Hid ((Tryz.prog.info? 168).map (·.size) = some (qcell (r, kv)).length) := LH (by show _ = some 3; kernel_rfl)
       obtain ⟨i3, hi3, hz3, hs3, hy3⟩ := info_parts facts_held
       have I3 := LH (And.intro hi3 (And.intro hz3 (And.intro hs3 hy3)))
       have HKV := LH hkv
       have hkq : qcell (r, kv) = [.bool r.used, .slice ak r.key.length ck, .int .i64 (r.n : Int)] := by rw [hkv]; rfl
       have HKQ := LH hkq
       subst hkv
       clear hhd hxU hr5 ho5 hc4 hw5 hc5 hB5 hA6 hi3 hz3 hs3 hy3 CH hhb HO4 hkq
       go_wp2_with fail
       rw [<- HW5.out, <- HB.out]
       refine wp_region_L [(10, fun w' => w'.cell? ⟨q, 2, none⟩ = some rv), (6, fun w' => w'.rangeAt hb 0 (qcell (r, .slice ak r.key.length ck)))] (by kernel_rfl) ?_ (fun hHeld => ?_)
       ·exact (HoldC.cons (c2) (HoldC.cons (hR5) HoldC.nil))
       refine tk 0 ?_ rfl (by kernel_rfl) (fun _ _ _ h => h) (.inl ⟨by rfl, ?_⟩) hHeld ?_; rotate_left; · (intro w _; go_simp; try with_reducible rfl)
       clear hHeld; intro hHeld; try simp only [gA,gB,gC,Act.put,gD,gE,gF]
       refine tk 1 ?_ rfl (by kernel_rfl) (fun _ _ _ h => h) (.inl ⟨by rfl, ?_⟩) hHeld ?_; rotate_left; · (intro w _; go_simp; try with_reducible rfl)
       clear hHeld; intro hHeld; try simp only [gA,gB,gC,Act.put,gD,gE,gF]
       refine tk 2 ?_ rfl (by kernel_rfl) (fun _ _ _ h => h) (.inl ⟨by rfl, ?_⟩) hHeld ?_; rotate_left; · (intro w _; go_simp; try with_reducible rfl)
       clear hHeld; intro hHeld; try simp only [gA,gB,gC,Act.put,gD,gE,gF]
       refine tk 3 ?_ rfl (by kernel_rfl) (fun _ _ _ h => h) (.inl ⟨by rfl, ?_⟩) hHeld ?_; rotate_left; · (intro w _; go_simp; try with_reducible rfl)
       clear hHeld; intro hHeld; try simp only [gA,gB,gC,Act.put,gD,gE,gF]
       refine ld 0 4 ?_ rfl rfl (by kernel_rfl) (fun _ _ _ h => h) (.inl ⟨by rfl, ?_⟩) hHeld ?_; rotate_left; · (intro w hSw; (try dsimp only at hSw); go_simp; try with_reducible rfl)
       clear hHeld; intro hHeld; try simp only [gA,gB,gC,Act.put,gD,gE,gF]
       refine wpAnyL_load 1 (i := 5) (oi := _) (v := .agg (qcell (r, .slice ak r.key.length ck)).toArray) rfl rfl (by kernel_rfl) (by kernel_rfl) (by kernel_rfl) (by kernel_rfl) (by kernel_rfl) (by kernel_rfl) (fun _ _ _ h => h) (yieldsIf_load_mid (by rfl) 168 (.tmp 8) (by rfl) (hb) (0) (by rfl) (qcell (r, .slice ak r.key.length ck)) _ (fun w hw => hw) Tryz.underlying168 rfl hzh.out) (by assumption) (fun hNew => ?_)
       clear hHeld
       have hHeld := hNew
       clear hNew
       try simp only [gA,gB,gC,Act.put,gD,gE,gF]
       refine wpAnyL_ready (rs := [6]) (by kernel_rfl) (by simp) (AllReadyL.cons (o := _) rfl (fun K hK => ?_) AllReadyL.nil)
       try simp only [gA,gB,gC]
       rw [if_pos (by rfl)]
       refine wp_slice1 164 168 (.tmp 62) (by rfl) (qcell (r, .slice ak r.key.length ck)).toArray (by rfl) i3 _ Tryz.underlying164 I3.out.1 I3.out.2.1 (by rw [I3.out.2.2.1]; rfl) (by show 0 < 3; omega) (by show 3 <= 1000; omega) ?_
       clear hHeld
       refine hK.out _ _ ?_ (fun hHeld => ?_)
       ·exact (HoldC.cons (c6) (HoldC.past (by kernel_rfl) HoldC.nil))
       clear hK K
       try simp only [gA,gB,gC,Act.put,gD,gE,gF]
       refine wpAnyL_ready (rs := [7]) (by kernel_rfl) (by simp) (AllReadyL.cons (o := _) rfl (fun K hK => ?_) AllReadyL.nil)
       try simp only [gA,gB,gC]
       rw [if_pos (by rfl)]
       refine wp_append_no8 (.tmp 61) (.tmp 63) 164 (by rfl) 168 i3 _ 3 40 Tryz.underlying164 I3.out.1 I3.out.2.1 I3.out.2.2.1 I3.out.2.2.2 rfl (by omega) (fun j c hj => by
        have hm : c ∈ [Value.bool false, .slice none 0 0, .int .i64 0] := List.mem_of_getElem? (i := j) (by simpa [Value.cells] using hj)
        simp only [List.mem_cons, List.mem_nil_iff, or_false] at hm
        rcases hm with rfl | rfl | rfl <;> (intro z; simp)) rv R.length (qcells R) (by rfl) HO6.out.row.1 HO6.out.row.2.1 HO6.out.row.2.2 ⟨w5.heap.size, 0, none⟩ 1 (by rfl) (qcell (r, .slice ak r.key.length ck)) rfl HN6.out (fun u hu => by
        simp only [qcell, List.mem_cons, List.mem_nil_iff, or_false] at hu
        rcases hu with rfl | rfl | rfl <;> rfl) (fun u hu => by
        simp only [qcell, List.mem_cons, List.mem_nil_iff, or_false] at hu
        rcases hu with rfl | rfl | rfl <;> (intro z; simp)) (by unfold maxLen; omega) (by omega) ?_
       intro g7 cap7 w7 hrow hg hat hlt7 h8
       have hm7 : w7.heap[q]? = _ := (hg.block q (blk_lt HO6.out.obj.head) (fun e => HO6.out.obj.row_ne (r := rowQ rv R) (List.mem_singleton.2 rfl) e.symm rfl)).trans HO6.out.obj.head
       have p6 := blk_cell hm7 2 _ rfl
       have p7 := blk_frozen hm7 2
       have p8 := blk_lt hm7
       have HO7 := LH (HO6.out.more (r, .slice ak r.key.length ck) g7 cap7 hg hrow hat h8 HB6.out HX6.out)
       clear hrow hg hat hlt7 h8 hm7
       clear hHeld
       refine hK.out _ _ ?_ (fun hHeld => ?_)
       ·exact (HoldC.cons (p6) (HoldC.past (by kernel_rfl) HoldC.nil))
       clear hK K
       try simp only [gA,gB,gC,Act.put,gD,gE,gF]
       refine tk 8 ?_ rfl (by kernel_rfl) (fun _ _ _ h => h) (.inl ⟨by rfl, ?_⟩) hHeld ?_; rotate_left; · (intro w _; go_simp; try with_reducible rfl)
       clear hHeld; intro hHeld; try simp only [gA,gB,gC,Act.put,gD,gE,gF]
       refine tk 9 ?_ rfl (by kernel_rfl) (fun _ _ _ h => h) (.inl ⟨by rfl, ?_⟩) hHeld ?_; rotate_left; · (intro w _; go_simp; try with_reducible rfl)
       clear hHeld; intro hHeld; try simp only [gA,gB,gC,Act.put,gD,gE,gF]
       refine wpAnyL_ready (rs := [10]) (by kernel_rfl) (by simp) (AllReadyL.cons (o := _) rfl (fun K hK => ?_) AllReadyL.nil)
       try simp only [gA,gB,gC]
       go_simp
       clear hHeld
       refine hK.out _ _ ?_ (fun hHeld => ?_)
       ·exact (HoldC.past (by kernel_rfl) (HoldC.past (by kernel_rfl) HoldC.nil))
       clear hK K
       try simp only [gA,gB,gC,Act.put,gD,gE,gF]
       refine wpAnyL_done (by kernel_rfl) ?_ _
       clear hHeld
       rw [hRl] at HO7
       generalize w7.setCell ⟨q, 2, none⟩ (.slice (some ⟨g7, 0, none⟩) (k + 1) cap7) = w8 at *
       clear p6 p7 p8 c2 c6
       have hw8 : IntKind.i64.wrap ((f : Int) + 8 * (k : Int) + 8) = ((f + 8 * (k + 1) : Nat) : Int) := by rw [IntWalk.i64_in _ ⟨by omega, by omega⟩]; push_cast; omega
       have HW8 := LH hw8
       clear hw8
       go_wp2
       go_roundg (gk - 1)
       case measure => omega
       case rel => exact ⟨k + 1, _, R ++ [(r, .slice ak r.key.length ck)], by first | rfl | rw [HW8.out] | (push_cast; congr 1; omega), by omega, by omega, LH ⟨HO7.out, by simp [hRl], HRC.out⟩⟩
     ·have hkm : k = M := by omega
      have hle : decide ((f : Int) + 8 * (M : Int) + 8 <= (n : Int)) = false := decide_eq_false (by omega)
      obtain rfl := hkm.symm
      have HZ : Hid (Z = (0, some ⟨d, f, R.map (·.1)⟩)) := LH (by
       rw [HG.out, HROWS.out, Nat.sub_self]
       simp [rowsFrom])
      have HROK : Hid (rowsFrom d f M 0 = some (R.map (·.1))) := LH (by rw [HROWS.out, Nat.sub_self]; simp [rowsFrom])
      have HD1 := LH (HO.out.done HD.out ⟨by show f + 8 * (R.map (·.1)).length <= d.n; rw [List.length_map, hRl, <- HN.out]; omega, (rowsFrom_len _ _ _ HROK.out).2⟩)
      clear hkm hRl
      go_wp2
      go_ret2
      obtain ⟨W, A, h1, h2, h3⟩ := HD1.out
      rw [HZ.out]
      exact ⟨HO.out.chg, q, W, A, rfl, h1, h2, h3⟩
theorem rmark_any (n : UInt8) (w : World) : Calls Tryz.prog 70 #[.int .u8 (n.toNat : Int)] w fun e w' => ∃ N, e = .returned (.slice (some ⟨N, 0, none⟩) 64 64) /\ w.heap.size <= N /\ BytesAt w' (.slice (some ⟨N, 0, none⟩) 64 64) (n :: zeros 63) /\ Chg [] w w' := by
 have hmk := make_64
 obtain ⟨w1, hw1⟩ : ∃ w1, w1 = w.alloc (.cells (Z64.setIfInBounds 0 (bv n)) 5) := ⟨_, rfl⟩
 have hb0 : (w.alloc (.cells Z64 5)).heap[w.heap.size]? = some (.cells Z64 5 (0, 0)) := heap_alloc_new w _
 have c0 : (w.alloc (.cells Z64 5)).cell? ⟨w.heap.size, 0, none⟩ = some (bv 0) := blk_cell hb0 0 _ rfl
 have f0 := blk_frozen hb0 0
 have hb1 : w1.heap[w.heap.size]? = some (.cells (bvs (n :: zeros 63)).toArray 5 (0, 0)) := by
  rw [hw1, <- mark_cells]
  exact heap_alloc_new w _
 have hc1 : Chg [] w w1 := by rw [hw1]; exact (Chg.refl [] w).alloc _
 have hr1 := row_of_block hb1 (by simp [zeros, maxLen])
 have hlen : (n :: zeros 63).length = 64 := by simp [zeros]
 rw [hlen] at hr1
 have HW1 := LH hw1
 have HR1 := LH hr1.bytes
 have HC1 := LH hc1
 have hv : bv n = .int .u8 (n.toNat : Int) := rfl
 have hv0 : bv 0 = .int .u8 0 := rfl
 rw [hv0] at c0
 rw [hv] at HW1
 clear hb0 hb1 hc1 hr1 hw1 hlen hv hv0
 go_enter Tryz.func70, Tryz.ntmps70
 go_wp2
 go_ret
 rw [<- HW1.out]
 exact ⟨_, rfl, Nat.le_refl _, HR1.out, HC1.out⟩
theorem slots_one {d : DS} (h9 : 9 <= d.n) (hd : d.dead = false) : ((d.slots 1) = (4, none)) ∨ ∃ s, d.slots 1 = (0, some s) /\ s.d = d := by
 unfold DS.slots
 rw [if_neg (by omega), if_neg (by rw [hd]; simp; omega)]
 split
 ·exact .inl rfl
 ·exact .inr ⟨_, rfl, rfl⟩
theorem RStOk.setW {w : World} {q sp m : Nat} {W A : List Nat} {t : Sto} (h : RStOk w q sp m W A t) (b : Bool) : RStOk (w.setCell ⟨q, 2, none⟩ (.bool b)) q sp m W A ⟨t.s, b⟩ := by
 have hc : Chg [q] w (w.setCell ⟨q, 2, none⟩ (.bool b)) := (Chg.refl [q] w).setCell (p := ⟨q, 2, none⟩) (.inl (by simp)) _
 refine ⟨?_, h.slots.keep hc (fun x hx hm => h.out (by rw [<- List.mem_singleton.1 hm]; exact hx)), h.out, h.ok⟩
 exact set_blk h.head
theorem RSlotsAt.disk {w : World} {q m : Nat} {W A : List Nat} {s : SS} (h : RSlotsAt w q m W A s) : ∃ V F, RDiskAt w m V F s.d /\ (∀ x ∈ V, x ∈ W) /\ ∀ d w', RDid w w' m V F d -> d.n = s.d.n -> RSid w w' q m W A { s with d := d } := by
 obtain ⟨V, F, rv, R, H⟩ := h
 exact ⟨V, F, H.disk, H.sub.1, fun d w' hd hn => H.did hd hn⟩
theorem rstsetw_any (q m : Nat) (U B : List Nat) (t : Sto) (w : World) (h : RStAt w q m U B t) (hn : 1 <= t.s.d.n) (ho : t.s.d.ops <= 900000000) (hw : t.s.d.since.length <= 900000) :
  Calls Tryz.prog 77 #[.pointer (some ⟨q, 0, none⟩)] w fun e w' => e = .returned (.int .i64 t.setWhole.1) /\ RStd w w' q m U B t.setWhole.2 := by
 obtain ⟨sp, W, A, h, rfl, rfl⟩ := h
 obtain ⟨k0, _, _⟩ := h.cells
 obtain ⟨V, F, hd, hVW, hdid⟩ := h.slots.disk
 obtain ⟨p6, _, -⟩ := hd.read
 have HST : Hid (RStd w w q m (q :: W) (q :: A) t) := LH (RStd.same ⟨sp, W, A, h, rfl, rfl⟩)
 have HG : Hid (t.setWhole = ((t.s.d.sign 2).1, ⟨{ t.s with d := (t.s.d.sign 2).2 }, t.whole || ((t.s.d.sign 2).1 == 0)⟩)) := LH rfl
 by_cases hdd : t.s.d.dead = true
 ·have hsg : t.s.d.sign 2 = (14, t.s.d) := by
   unfold DS.sign
   rw [show t.s.d.write 0 (2 :: zeros 63) = (14, t.s.d) from DS.write_dead hdd 0 _]
   rfl
  have HR : Hid (t.setWhole = (14, t)) := LH (by
   rw [HG.out, hsg]
   obtain ⟨s, wh⟩ := t
   show ((14 : Int), (⟨s, wh || false⟩ : Sto)) = _
   rw [Bool.or_false])
  rw [hdd] at p6
  clear HG h hd hdid hsg hdd
  go_enter Tryz.func77, Tryz.ntmps77
  go_wp2
  go_ret
  rw [HR.out]
  exact ⟨rfl, HST.out⟩
 ·have hdd' : t.s.d.dead = false := by simpa using hdd
  rw [hdd'] at p6
  have CM := LH (rmark_any 2 w.drew)
  have HH := LH (And.intro h (And.intro hd hdid))
  have HVW := LH hVW
  have HS : Hid (t.s.d.sign 2 = if (t.s.d.write 0 (2 :: zeros 63)).1 ≠ 0 then t.s.d.write 0 (2 :: zeros 63) else (t.s.d.write 0 (2 :: zeros 63)).2.sync) := LH rfl
  obtain ⟨wo1, wo2, wo3⟩ := t.s.d.write_ok 0 (2 :: zeros 63)
  rw [show (2 : UInt8).toNat = 2 from rfl] at CM
  generalize t.setWhole = r at *
  clear h hd hdid hdd hVW
  go_enter Tryz.func77, Tryz.ntmps77
  go_wp2_with fail
  refine wp_region_L [(5, fun w' => w'.cell? ⟨q, 0, none⟩ = some (.pointer (some ⟨m, 0, none⟩)))] (by kernel_rfl) ?_ (fun hHeld => ?_)
  ·exact (HoldC.cons (k0) HoldC.nil)
  refine tk 0 ?_ rfl (by kernel_rfl) (fun _ _ _ h => h) (.inl ⟨by rfl, ?_⟩) hHeld ?_; rotate_left; · (intro w _; go_simp; try with_reducible rfl)
  clear hHeld; intro hHeld; try simp only [gA,gB,gC,Act.put,gD,gE,gF]
  refine tk 1 ?_ rfl (by kernel_rfl) (fun _ _ _ h => h) (.inl ⟨by rfl, ?_⟩) hHeld ?_; rotate_left; · (intro w _; go_simp; try with_reducible rfl)
  clear hHeld; intro hHeld; try simp only [gA,gB,gC,Act.put,gD,gE,gF]
  refine tk 2 ?_ rfl (by kernel_rfl) (fun _ _ _ h => h) (.inl ⟨by rfl, ?_⟩) hHeld ?_; rotate_left; · (intro w _; go_simp; try with_reducible rfl)
  clear hHeld; intro hHeld; try simp only [gA,gB,gC,Act.put,gD,gE,gF]
  refine ld 0 3 ?_ rfl rfl (by kernel_rfl) (fun _ _ _ h => h) (.inl ⟨by rfl, ?_⟩) hHeld ?_; rotate_left; · (intro w hSw; (try dsimp only at hSw); go_simp; try with_reducible rfl)
  clear hHeld; intro hHeld; try simp only [gA,gB,gC,Act.put,gD,gE,gF]
  refine wpAnyL_ready (rs := [4]) (by kernel_rfl) (by simp) (AllReadyL.cons (o := _) rfl (fun K hK => ?_) AllReadyL.nil)
  try simp only [gA,gB,gC]
  go_simp
  refine CM.out.mono ?_
  rintro e w1 ⟨M, rfl, hM, hbM, hc1⟩
  have HC1 : Hid (Chg [] w w1) := LH (((Chg.refl [] w).drew).trans hc1 (by simp))
  have CW := LH (rwrite_any m V F t.s.d 0 _ (2 :: zeros 63) w1 (HH.out.2.1.keep HC1.out (by simp)) (by omega) (by omega) (by omega) (by simp [zeros]) hbM (fun x hx hm => by
   obtain rfl : M = x := by simpa [Value.ownBlock] using hx
   have a1 := HH.out.2.1.lim.1 M (HH.out.2.1.lim.2.1 M hm)
   have a2 : w.heap.size <= M := hM
   omega))
  have HDI := LH (fun d w' (hd : RDid w1 w' m V F d) (hdn : d.n = t.s.d.n) => HH.out.2.2 d w' (RDid.pre HC1.out hd) hdn)
  have k0 := HC1.out.cell k0 (by simp)
  clear hM hbM hc1 CM
  generalize t.s.d.write 0 (2 :: zeros 63) = z at *
  obtain ⟨e1, d1⟩ := z
  dsimp only at HS wo1 wo2 wo3
  clear hHeld
  refine hK.out _ _ ?_ (fun hHeld => ?_)
  ·exact (HoldC.cons (k0) HoldC.nil)
  clear hK K
  try simp only [gA,gB,gC,Act.put,gD,gE,gF]
  refine wpAnyL_ready (rs := [5]) (by kernel_rfl) (by simp) (AllReadyL.cons (o := _) rfl (fun K hK => ?_) AllReadyL.nil)
  try simp only [gA,gB,gC]
  go_simp
  refine CW.out.mono ?_
  rintro e w2 ⟨rfl, hd2⟩
  have HRS2 := LH (HDI.out d1 w2 hd2 wo1)
  clear hd2 CW k0
  clear hHeld
  refine hK.out _ _ ?_ (fun hHeld => ?_)
  ·exact (HoldC.past (by kernel_rfl) HoldC.nil)
  clear hK K
  try simp only [gA,gB,gC,Act.put,gD,gE,gF]
  refine tk 6 ?_ rfl (by kernel_rfl) (fun _ _ _ h => h) (.inl ⟨by rfl, ?_⟩) hHeld ?_; rotate_left; · (intro w _; go_simp; try with_reducible rfl)
  clear hHeld; intro hHeld; try simp only [gA,gB,gC,Act.put,gD,gE,gF]
  refine wpAnyL_done (by kernel_rfl) ?_ _
  clear hHeld
  have HO2 := LH (HH.out.1.did HRS2.out HH.out.1.ok)
  clear HRS2 HDI
  by_cases he : e1 = 0
  ·subst he
   have HS2 : Hid (t.s.d.sign 2 = d1.sync) := LH (by rw [HS.out, if_neg (by simp)])
   obtain ⟨U2, B2, ⟨sp2, W2, A2, hok2, rfl, rfl⟩, hU2, hB2, hc2⟩ := HO2.out
   obtain ⟨V2, F2, hd2, _, hdid2⟩ := hok2.slots.disk
   obtain ⟨k0, _, _⟩ := hok2.cells
   have CY := LH (rsync_any m V2 F2 d1 w2 hd2 (by omega))
   have HOK2 := LH (And.intro hok2 hdid2)
   have HU2 := LH (And.intro hU2 (And.intro hB2 hc2))
   obtain ⟨y1, y2, y3⟩ := d1.sync_ok
   rw [HS2.out] at HG
   generalize d1.sync = z at *
   obtain ⟨e2, d2⟩ := z
   dsimp only at HG CY y1 y2 y3
   clear hok2 hd2 hdid2 hU2 hB2 hc2 HS HS2
   go_wp2_with fail
   refine CY.out.mono ?_
   rintro e w3 ⟨rfl, hd3⟩
   have HO3 := LH (RStd.glue HU2.out.1 HU2.out.2.1 HU2.out.2.2 (HOK2.out.1.did (HOK2.out.2 d2 w3 hd3 y1) HOK2.out.1.ok))
   clear hd3 CY k0
   by_cases he2 : e2 = 0
   ·subst he2
    obtain ⟨U3, B3, ⟨sp3, W3, A3, hok3, rfl, rfl⟩, hU3, hB3, hc3⟩ := HO3.out
    have k2 := hok3.cells.2.2
    have f2 := blk_frozen hok3.head 2
    have HF : Hid (RStd w (w3.setCell ⟨q, 2, none⟩ (.bool true)) q m (q :: W) (q :: A) ⟨{ t.s with d := d2 }, true⟩) := LH ⟨_, _, ⟨sp3, W3, A3, hok3.setW true, rfl, rfl⟩, hU3, hB3, hc3.setCell (p := ⟨q, 2, none⟩) (.inl (by simp)) _⟩
    have HR : Hid (r = (0, ⟨{ t.s with d := d2 }, true⟩)) := LH (by rw [HG.out, show ((0 : Int) == 0) = true from rfl, Bool.or_true])
    clear hok3 hU3 hB3 hc3 HG
    go_wp2
    go_ret
    rw [HR.out]
    exact ⟨rfl, HF.out⟩
   ·have q0 : (e2 == 0) = false := by simp [he2]
    have HR : Hid (r = (e2, ⟨{ t.s with d := d2 }, t.whole⟩)) := LH (by rw [HG.out, q0, Bool.or_false])
    clear HG
    go_wp2
    go_ret
    rw [HR.out]
    exact ⟨rfl, HO3.out⟩
  ·have q0 : (e1 == 0) = false := by simp [he]
   have HR : Hid (r = (e1, ⟨{ t.s with d := d1 }, t.whole⟩)) := LH (by rw [HG.out, HS.out, if_pos he]; dsimp only; rw [q0, Bool.or_false])
   clear HG HS
   go_wp2
   go_ret
   rw [HR.out]
   exact ⟨rfl, HO2.out⟩
theorem rfmt_plain (n : Nat) (h9 : 9 <= n) : ∃ d1 d, (DS.new n).format = ((0, some ⟨⟨d, 1, List.replicate ((n - 1) / 8) noRow⟩, false⟩), d) /\ (DS.new n).wipe ((n - 1) / 8) 1 = (0, d1) /\ d1.Live /\ d1.n = n /\ d1.ops <= n /\ d1.since.length <= n /\ d1.sign 1 = (0, d) /\ d.slots 1 = (0, some ⟨d, 1, List.replicate ((n - 1) / 8) noRow⟩) /\ d.n = n := by
 obtain ⟨d, h1, h2, h3, h4, h5, h6, h7⟩ := format_new n h9
 have hl : (DS.new n).Live := ⟨rfl, by show (-1 : Int) < 0; omega⟩
 obtain ⟨a1, a2, a3, a4, a5⟩ := DS.wipe_live ((n - 1) / 8) 1 (DS.new n) hl (by show _ <= n + 7; omega) (fun i => rfl)
 have a3' : ((DS.new n).wipe ((n - 1) / 8) 1).2.n = n := a3
 obtain ⟨w1, w2, w3⟩ := DS.wipe_ok ((n - 1) / 8) 1 (DS.new n)
 have hw0 : (DS.new n).ops = 0 := rfl
 have hs0 : (DS.new n).since.length = 0 := rfl
 obtain ⟨b1, b2, b3, b4, b5⟩ := DS.sign_live a2 1 (by rw [a3']; omega)
 have hfm : (DS.new n).format = ((((DS.new n).wipe ((n - 1) / 8) 1).2.sign 1).2.stOpen, (((DS.new n).wipe ((n - 1) / 8) 1).2.sign 1).2) := by
  unfold DS.format DS.fmt2 DS.fmt1
  rw [if_neg (by show ¬ n < 9; omega)]
  rw [show (DS.new n).n = n from rfl, if_neg (by rw [a1]; simp), if_neg (by rw [b1]; simp)]
 have e := h1
 rw [hfm] at e
 have ed : (((DS.new n).wipe ((n - 1) / 8) 1).2.sign 1).2 = d := (Prod.mk.inj e).2
 have eo := (Prod.mk.inj e).1
 rw [ed] at eo
 refine ⟨((DS.new n).wipe ((n - 1) / 8) 1).2, d, h1, Prod.ext a1 rfl, a2, a3', by omega, by omega, Prod.ext b1 ed, ?_, h3⟩
 rcases slots_one (by omega) h2.1 with hs | ⟨s, hs, _⟩
 ·unfold DS.stOpen at eo
  rw [if_neg (by omega), if_neg (by rw [h2.1]; simp), hs] at eo
  split at eo <;> simp at eo
 ·unfold DS.stOpen at eo
  rw [if_neg (by omega), if_neg (by rw [h2.1]; simp), hs] at eo
  split at eo
  ·simp at eo
  ·dsimp only at eo
   split at eo
   ·have := (Prod.mk.inj eo).2
    have := Option.some.inj this
    have hs2 : s = ⟨d, 1, List.replicate ((n - 1) / 8) noRow⟩ := (Sto.mk.inj this).1
    rw [hs, hs2]
   ·simp at eo
theorem rstformat_new (m : Nat) (V F : List Nat) (n : Nat) (d1 d : DS) (w : World) (h : RDiskAt w m V F (DS.new n)) (h9 : 9 <= n) (hfew : n <= 4160) (hwipe : (DS.new n).wipe ((n - 1) / 8) 1 = (0, d1)) (hl1 : d1.Live) (hn1 : d1.n = n) (ho1 : d1.ops <= n) (hs1 : d1.since.length <= n)
  (hsign : d1.sign 1 = (0, d)) (hslots : d.slots 1 = (0, some ⟨d, 1, List.replicate ((n - 1) / 8) noRow⟩)) (hdn : d.n = n) :
  Calls Tryz.prog 33 #[.pointer (some ⟨m, 0, none⟩)] w fun e w' => ∃ q U B, e = .returned (.tuple #[.pointer (some ⟨q, 0, none⟩), .int .i64 0]) /\ RStAt w' q m U B ⟨⟨d, 1, List.replicate ((n - 1) / 8) noRow⟩, false⟩ /\ (∀ x ∈ U, x ∈ V ∨ w.heap.size <= x) /\ (∀ x ∈ B, x ∈ F ∨ w.heap.size <= x) /\ Chg V w w' := by
 obtain ⟨M, hM⟩ : ∃ M, M = (n - 1) / 8 := ⟨_, rfl⟩
 rw [<- hM] at hwipe hslots ⊢
 have hm1 : 8 * M + 1 <= n /\ n < 8 * (M + 1) + 1 /\ M <= 520 := by omega
 obtain ⟨p6, _, a, cap, p0, -⟩ := h.read
 have p6 : w.cell? ⟨m, 6, none⟩ = some (.bool false) := p6
 have p0 : w.cell? ⟨m, 0, none⟩ = some (.slice a n cap) := p0
 have hz : ¬ (n : Int) < 9 := by omega
 have hmk := make_64
 have HSG := LH (And.intro hsign hslots)
 have HWP := LH hwipe
 have HL1 := LH (And.intro hl1 (And.intro hn1 (And.intro ho1 hs1)))
 have HH := LH h
 have HDN := LH hdn
 have hlv : Hid ((DS.new n).Live) := LH ⟨rfl, by show (-1 : Int) < 0; omega⟩
 clear hsign hslots hwipe hl1 hn1 ho1 hs1 h hdn hM
 go_enter Tryz.func33, Tryz.ntmps33
 go_wp2
 go_loopg [4] M (fun g' s4 wr => ∃ (i : Nat) (di : DS), s4 = .int .i64 ((1 + 8 * i : Nat) : Int) /\ i <= M /\ M <= i + g' /\ Hid (RDid w wr m V F di /\ di.n = n /\ di.Live /\ di.ops <= i /\ di.since.length <= i /\ (DS.new n).wipe M 1 = di.wipe (M - i) (1 + 8 * i)))
 case atStart => exact ⟨0, DS.new n, rfl, by omega, by omega, LH ⟨RDid.same HH.out, rfl, hlv.out, Nat.le_refl _, Nat.le_refl _, rfl⟩⟩
 case round =>
  obtain ⟨i, di, rfl, hi, hig, HI⟩ := hrel
  obtain ⟨⟨Vi, Fi, hd1, hd2, hd3, hd4⟩, hin, hil, hio, his, hiw⟩ := HI.out
  obtain ⟨_, _, ai, capi, q0, -⟩ := hd1.read
  rw [hin] at q0
  have HD1 := LH hd1
  have HD2 := LH (And.intro hd2 (And.intro hd3 hd4))
  have HIW := LH hiw
  have HIL := LH hil
  clear HI hd1 hd2 hd3 hd4 hiw p0 p6
  by_cases hlt : i < M
  ·have hle : ((1 + 8 * i : Nat) : Int) + 8 <= (n : Int) := by omega
   have HC := LH ((Chg.refl [] wr).alloc (.cells Z64 5))
   have CW := LH (rwrite_any m Vi Fi di (1 + 8 * i) _ (zeros 64) (wr.alloc (.cells Z64 5)) (HD1.out.keep HC.out (by simp)) (by omega) (by omega) (by omega) (by simp [zeros]) (zero_row wr).bytes (fun x hx hm => by
    obtain rfl : wr.heap.size = x := by simpa [Value.ownBlock] using hx
    have := HD1.out.lim.1 _ (HD1.out.lim.2.1 _ hm)
    omega))
   obtain ⟨v1, v2, v3, v4⟩ := DS.write_live hil (1 + 8 * i) (zeros 64) (by omega) (by simp [zeros])
   have hwok := di.write_ok ((1 + 8 * i : Nat) : Int) (zeros 64)
   have hmi : M - i = (M - (i + 1)) + 1 := by omega
   have HW2 : Hid ((DS.new n).wipe M 1 = if (di.write ((1 + 8 * i : Nat) : Int) (zeros 64)).1 ≠ 0 then di.write ((1 + 8 * i : Nat) : Int) (zeros 64) else (di.write ((1 + 8 * i : Nat) : Int) (zeros 64)).2.wipe (M - (i + 1)) (1 + 8 * i + 8)) := LH (by
    rw [HIW.out, hmi]; rfl)
   generalize di.write ((1 + 8 * i : Nat) : Int) (zeros 64) = z at *
   obtain ⟨e1, dd⟩ := z
   dsimp only at CW hwok HW2 v1 v2 v3
   subst v1
   have HV2 := LH v2
   clear HIW hmi v4 v2 v3 hil
   go_wp2_with fail
   refine CW.out.mono ?_
   rintro e w2 ⟨rfl, hd2⟩
   have HD3 := LH (RDid.glue HD2.out.1 HD2.out.2.1 HD2.out.2.2 (RDid.pre HC.out hd2))
   clear hd2 CW
   have HW3 : Hid ((DS.new n).wipe M 1 = dd.wipe (M - (i + 1)) (1 + 8 * (i + 1))) := LH (by
    rw [HW2.out, if_neg (by simp), show 1 + 8 * i + 8 = 1 + 8 * (i + 1) by omega])
   clear HW2
   go_wp2
   go_roundg (gk - 1)
   case measure => omega
   case rel => exact ⟨i + 1, dd, by go_num, by omega, by omega, LH ⟨HD3.out, by rw [hwok.1, hin], HV2.out, by omega, by omega, HW3.out⟩⟩
  ·have him : i = M := by omega
   have hle : ¬ ((1 + 8 * i : Nat) : Int) + 8 <= (n : Int) := by omega
   have CY := LH (rsync_any m Vi Fi di wr HD1.out (by omega))
   have hw2 : di.sync = (0, d1) := by
    have := HIW.out
    rw [HWP.out, him, Nat.sub_self] at this
    exact this.symm
   rw [hw2] at CY
   have CM := LH (fun w2 => rmark_any 1 w2)
   rw [show (1 : UInt8).toNat = 1 from rfl] at CM
   clear HIW hw2 him
   go_wp2_with fail
   refine CY.out.mono ?_
   rintro e w2 ⟨rfl, hd2⟩
   have HD3 := LH (RDid.glue HD2.out.1 HD2.out.2.1 HD2.out.2.2 hd2)
   clear hd2 CY HD2 HD1 q0
   have CM1 := LH (CM.out w2)
   go_wp2_with fail
   refine CM1.out.mono ?_
   rintro e w3 ⟨Nb, rfl, hNb, hbN, hc3⟩
   obtain ⟨V3, F3, g1, g2, g3, g4⟩ := HD3.out
   obtain ⟨l1, l2, l3, l4⟩ := HL1.out
   have CW := LH (rwrite_any m V3 F3 d1 0 _ (1 :: zeros 63) w3 (g1.keep hc3 (by simp)) (by omega) (by omega) (by omega) (by simp [zeros]) hbN (fun x hx hm => by
    obtain rfl : Nb = x := by simpa [Value.ownBlock] using hx
    have := g1.lim.1 _ (g1.lim.2.1 _ hm)
    omega))
   have HG3 := LH (And.intro g2 (And.intro g3 g4))
   have HC3 := LH hc3
   obtain ⟨v1, v2, v3, v4⟩ := DS.write_live l1 0 (1 :: zeros 63) (by omega) (by simp [zeros])
   have hwok := d1.write_ok 0 (1 :: zeros 63)
   have HSY : Hid ((d1.write 0 (1 :: zeros 63)).2.sync = (0, d)) := LH (by
    have := HSG.out.1
    unfold DS.sign at this
    rw [if_neg (by rw [show (d1.write 0 (1 :: zeros 63)).1 = 0 from v1]; simp)] at this
    exact this)
   rw [show ((0 : Nat) : Int) = 0 from rfl] at CW v1 v2 v3 v4
   generalize d1.write 0 (1 :: zeros 63) = z at *
   obtain ⟨e1, dd⟩ := z
   dsimp only at CW hwok HSY v1 v2 v3
   subst v1
   clear CM CM1 hNb hbN hc3 g1 g2 g3 g4 l1 v2 v3 v4
   go_wp2_with fail
   refine CW.out.mono ?_
   rintro e w4 ⟨rfl, hd4⟩
   have HD4 := LH (RDid.glue HG3.out.1 HG3.out.2.1 HG3.out.2.2 (RDid.pre HC3.out hd4))
   clear hd4 CW HG3 HD3 HC3
   obtain ⟨V4, F4, g1, g2, g3, g4⟩ := HD4.out
   have CY := LH (rsync_any m V4 F4 dd w4 g1 (by omega))
   rw [HSY.out] at CY
   dsimp only at CY
   have HG4 := LH (And.intro g2 (And.intro g3 g4))
   clear g1 g2 g3 g4
   go_wp2_with fail
   refine CY.out.mono ?_
   rintro e w5 ⟨rfl, hd5⟩
   have HD5 := LH (RDid.glue HG4.out.1 HG4.out.2.1 HG4.out.2.2 hd5)
   clear hd5 CY HG4 HD4
   obtain ⟨V5, F5, g1, g2, g3, g4⟩ := HD5.out
   have CO := LH (ropen_any m V5 F5 d 1 w5 g1 (by rw [HDN.out]; omega))
   rw [HSG.out.2] at CO
   unfold ROpenPost at CO
   dsimp only at CO
   have HG5 := LH (And.intro g2 (And.intro g3 g4))
   clear g1 g2 g3 g4
   go_wp2_with fail
   refine CO.out.mono ?_
   rintro e w6 ⟨hc6, sp, W, A, rfl, hsl, hW, hA⟩
   have HNEW : Hid (RStAt (w6.alloc (.cells #[.pointer (some ⟨m, 0, none⟩), .pointer (some ⟨sp, 0, none⟩), .bool false] 141)) w6.heap.size m (w6.heap.size :: W) (w6.heap.size :: A) ⟨⟨d, 1, List.replicate M noRow⟩, false⟩) := LH
    ⟨sp, W, A, ⟨heap_alloc_new w6 _, hsl.keep ((Chg.refl [] w6).alloc _) (by simp), fun hm => by have := hsl.lim.1 _ hm; omega, fun rr hrr hu => by
     obtain rfl := List.eq_of_mem_replicate hrr
     cases hu⟩, rfl, rfl⟩
   have HS6 : Hid (w.heap.size <= w6.heap.size /\ (∀ x ∈ W, x ∈ V ∨ w.heap.size <= x) /\ (∀ x ∈ A, x ∈ F ∨ w.heap.size <= x) /\ Chg V w w6) := LH (by
    have a1 := HG5.out.2.2.size
    refine ⟨Nat.le_trans a1 hc6.size, fun x hx => ?_, fun x hx => ?_, HG5.out.2.2.trans hc6 (by simp)⟩
    ·rcases hW x hx with h4 | h4
     ·exact HG5.out.1 x h4
     ·exact .inr (Nat.le_trans a1 h4)
    ·rcases hA x hx with h4 | h4
     ·exact HG5.out.2.1 x h4
     ·exact .inr (Nat.le_trans a1 h4))
   clear hc6 hsl hW hA CO
   go_wp2
   go_ret2
   refine ⟨_, _, _, rfl, HNEW.out, fun y hy => ?_, fun y hy => ?_, HS6.out.2.2.2.alloc _⟩
   ·rcases List.mem_cons.1 hy with rfl | hy
    ·exact .inr HS6.out.1
    ·exact HS6.out.2.1 y hy
   ·rcases List.mem_cons.1 hy with rfl | hy
    ·exact .inr HS6.out.1
    ·exact HS6.out.2.2.1 y hy
section
open Go.RowKit
variable {w wr w' : World} {q p q2 m : Nat} {U U2 B2 : List Nat} {t r t' r' : Sto}
end
end Go.Proofs.YtdkhmfcfihbjeaaGreatDoor.W
