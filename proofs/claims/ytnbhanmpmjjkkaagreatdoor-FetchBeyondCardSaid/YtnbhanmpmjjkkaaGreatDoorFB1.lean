/- Texts laid together. -/
import Derived.Test.YtnbhanmpmjjkkaaGreatDoorBP9
import Derived.Below
import Derived.Test.YtnbhanmpmjjkkaaGreatDoorBP5
import Derived.Deep.Slices
import Derived.ChangeSlices
set_option linter.unusedVariables false
set_option linter.unusedSimpArgs false
set_option maxHeartbeats 64000000
set_option maxRecDepth 100000
namespace Go.Proofs.YtnbhanmpmjjkkaaGreatDoor
open Go.RowKit
/-- A slice of integers that came in: nil, or a row of 'cap' cells, the numbers 'zs' (the first 'len' are its elements). -/
def IsRow (k : IntKind) (w : World) (a : Option Addr) (len cap : Nat) (zs : List Int) : Prop :=
  (a = none ∧ len = 0 ∧ cap = 0 ∧ zs = []) ∨
  ∃ x, a = some x ∧ len ≤ cap ∧ cap ≤ maxLen ∧ zs.length = cap ∧ (∀ i, i < zs.length → w.cell? (x.add i) = some (.int k (zs.getD i 0))) ∧ ∀ n ∈ zs, (Lit.int k n).wf = true
end Go.Proofs.YtnbhanmpmjjkkaaGreatDoor
namespace Go.Proofs.YtnbhanmpmjjkkaaGreatDoor.W
open Go.RowKit
theorem beyond21_any (m more : Int) (data : List UInt8) (va : Option Addr) (vc : Nat) (w : World) (hm : 0 <= more /\ more <= 255) (h : BytesAt w (.slice va data.length vc) data) : Calls Tryz.prog 3 #[.int .i64 m, .slice va data.length vc, .int .u8 more] w fun e w' => e = .returned (.bool true) /\ Chg [] w w' := by
 have CA := LH (awake21_any w)
 have HD := LH h
 go_enter Tryz.func3, Tryz.ntmps3
 go_wp2_with fail
 refine CA.out.mono ?_
 rintro e w1 ⟨rfl, hc1⟩
 have HC1 := LH hc1
 have CV := LH (servers13_ok m w1)
 clear hc1 CA h
 go_wp2_with fail
 refine CV.out.mono ?_
 rintro e w2 ⟨n, h3, h16, rfl, hw2⟩
 subst hw2
 have CS := LH (stripe_ok m w1)
 clear CV
 go_wp2_with fail
 refine CS.out.mono ?_
 rintro e w2 ⟨s, hs, rfl, hc2⟩
 obtain ⟨w3, hw3⟩ : ∃ w3, w3 = w2.alloc (.cells (spC s) 26) := ⟨_, rfl⟩
 have HW3 := LH hw3
 have HS := LH hs
 have HB3 := LH (show w3.heap[w2.heap.size]? = some (.cells (spC s) 26 (0, 0)) by rw [hw3]; exact heap_alloc_new w2 _)
 have HC3 := LH (show Chg [] w w3 by rw [hw3]; exact ((HC1.out.trans hc2 (by simp)).alloc _))
 clear hs hc2 hw3 CS HC1
 by_cases hL0 : data.length = 0
 ·have b1 : ((data.length : Int) == 0) = true := by rw [hL0]; rfl
  go_wp2
  all_goals
   go_ret
   rw [<- HW3.out]
   exact ⟨rfl, HC3.out⟩
 have b1 : ((data.length : Int) == 0) = false := beq_eq_false_iff_ne.2 (by omega)
 by_cases hL1 : 300 < data.length
 ·have b2 : decide ((300 : Int) < (data.length : Int)) = true := decide_eq_true (by omega)
  go_wp2
  all_goals
   go_ret
   rw [<- HW3.out]
   exact ⟨rfl, HC3.out⟩
 have b2 : decide ((300 : Int) < (data.length : Int)) = false := decide_eq_false (by omega)
 have CN := LH (nodes_ok s data (.slice va data.length vc) n w3 HS.out (HD.out.chg HC3.out (by simp)) h3 h16 (by omega) (by omega))
 go_wp2_with fail
 rw [<- HW3.out]
 refine CN.out.mono ?_
 rintro e w4 ⟨go, co, L, rfl, hn, hgo⟩
 have hc4 : Chg [] w3 w4 := hn.many.chg
 have hb4 := hc4.keep HB3.out (by simp)
 have p0 := blk_cell hb4 0 _ rfl
 have p1 := blk_cell hb4 1 _ rfl
 have p2 := blk_cell hb4 2 _ rfl
 have HN := LH hn
 have HC4 := LH (HC3.out.trans hc4 (by simp))
 clear hn hgo hc4 hb4 CN b1 b2
 obtain ⟨r, hr, hr2⟩ : ∃ r : Nat, more.tmod 20 = (r : Int) /\ r < 20 := ⟨(more.tmod 20).toNat, by rw [Int.tmod_eq_emod_of_nonneg hm.1]; omega, by rw [Int.tmod_eq_emod_of_nonneg hm.1]; omega⟩
 obtain ⟨q, hq, hq2⟩ : ∃ q : Nat, more.tmod 64 = (q : Int) /\ q < 64 := ⟨(more.tmod 64).toNat, by rw [Int.tmod_eq_emod_of_nonneg hm.1]; omega, by rw [Int.tmod_eq_emod_of_nonneg hm.1]; omega⟩
 obtain ⟨a, ha⟩ : ∃ a, a = data.length - r := ⟨_, rfl⟩
 obtain ⟨l, hl⟩ : ∃ l, l = q + 1 := ⟨_, rfl⟩
 have m1 : IntKind.i64.wrap ((data.length : Int) - (r : Int)) = (data.length : Int) - (r : Int) := IntWalk.i64_in _ ⟨by omega, by omega⟩
 have m2 : max ((data.length : Int) - (r : Int)) 0 = (a : Int) := by omega
 have m3 : IntKind.i64.wrap (1 + (q : Int)) = (l : Int) := by rw [IntWalk.i64_in _ ⟨by omega, by omega⟩]; omega
 have HA := LH (And.intro ha hl)
 have hal : 1 <= l /\ l <= 64 /\ a <= data.length /\ data.length <= 300 /\ 1 <= data.length := by omega
 have CF := LH (fnew_ok s data n a l w4 HS.out h3 h16 (by omega) (by omega) (by omega))
 clear ha hl
 go_wp2_with fail
 refine CF.out.mono ?_
 rintro e w5 ⟨fb, kb, gb, rb, rfl, hf, hnd, hnw, hc5⟩
 have HE := LH (newEnv_ok (data := data) HS.out h3 h16 (by omega) (by omega) hnd)
 have HR := LH (run_start HN.out hf hnw hc5 HN.out.many.chg.size (BytesAt.nil _) (fun hne => absurd rfl hne))
 have CR := LH (run_any (co := co) (K := []) none 0 _ _ HE.out HR.out (Going.fresh HE.out a l false (.inl (by omega))) (fresh_zero n a l false) ⟨by show a <= 100000; omega, by show l <= 100000; omega⟩ (Nat.le_trans HN.out.many.chg.size hc5.size))
 have HC5 := LH (HC4.out.trans hc5 (by simp))
 have HT : Hid (∀ x ∈ (newEnv s data n fb kb gb rb).T, w.heap.size <= x) := LH (fun x hx => Nat.le_trans HC4.out.size (hnw x hx))
 have q1 : ((n : Int) != (n : Int)) = false := by simp
 clear hf hnd hnw hc5 CF p0 p1 p2 m1 m2 m3 hr hq hL0 hL1 hm
 go_wp2_with fail
 refine CR.out.mono ?_
 rintro e w6 ⟨f, v, k, rfl, hv, hvn, hend, hsame, hk1, hkn, hc6⟩
 obtain ⟨ua, uc, hve⟩ := hv.slice
 subst hve
 have HC6 := LH (HC5.out.trans hc6 (fun x hx => .inr (HT.out x hx)))
 have hwell := hend.well kindAt_nil
 rw [hsame.1, hsame.2.1, hsame.2.2] at hwell
 have haim : f.aim data = (data.drop a).take l := by
  unfold FS.aim
  rw [hsame.1, hsame.2.1, hsame.2.2]
  rfl
 have hk1z : (1 : Int) <= (k : Int) := by omega
 have hknz : (k : Int) <= (n : Int) := by have : k <= n := hkn; omega
 have HV := LH hv
 have m4 : IntKind.i64.wrap ((data.length : Int) - (a : Int)) = (data.length : Int) - (a : Int) := IntWalk.i64_in _ ⟨by omega, by omega⟩
 clear hv hvn hend hsame hk1 hkn hc6 CR q1
 rcases hwell with ⟨he, ho, hfit⟩ | ⟨he, ho, _, hfit⟩
 ·have hfit' : a + l <= data.length := by
   rcases hfit with hx | hx
   ·cases hx
   ·exact hx
  obtain ⟨g, o, hva, hpc⟩ := HD.out.piece a l hfit' (by omega)
  have hl2 : ((data.drop a).take l).length <= 1000000000 := by rw [List.length_take]; omega
  rw [ho] at HV
  rw [ho, he]
  rw [haim] at HV ⊢
  generalize (data.drop a).take l = out at *
  subst hva
  have hcap := HD.out.cap.1
  have hcz : 0 <= (a : Int) + (l : Int) /\ (a : Int) + (l : Int) <= (vc : Int) := by omega
  have CSm := LH (same_any _ _ _ _ w6 HV.out.bytes (hpc.chg HC6.out (by simp)) hl2 hl2)
  have hle : (l : Int) <= (data.length : Int) - (a : Int) := by omega
  have m5 : IntKind.i64.wrap ((a : Int) + (l : Int)) = ((a + l : Nat) : Int) := by rw [IntWalk.i64_in _ ⟨by omega, by omega⟩]; omega
  clear hpc haim ho he hfit hl2 HV
  go_wp2_with fail
  refine CSm.out.mono ?_
  rintro e w7 ⟨rfl, nq, rfl⟩
  clear CSm
  go_wp2
  go_ret
  exact ⟨by simp, HC6.out.drewN nq⟩
 ·have hfit' : data.length < a + l := hfit
  rw [ho, he]
  have hle : ¬ (l : Int) <= (data.length : Int) - (a : Int) := by omega
  clear haim ho he hfit HV
  go_wp2
  go_ret
  exact ⟨rfl, HC6.out⟩
section
open Go.RowKit Go.ChangeShapes Go.WideShapes
def Came (w : World) (v : Value) (l : List UInt8) : Prop := BytesAt w v l /\ (l ≠ [] -> ∀ k, v.ownBlock = some k -> k < w.heap.size)
theorem Came.chg {w w' : World} {v : Value} {l : List UInt8} (h : Came w v l) (hc : Chg [] w w') : Came w' v l := ⟨h.1.chg hc (by simp), fun hl k hk => Nat.lt_of_lt_of_le (h.2 hl k hk) hc.size⟩
theorem toU8 (z : Int) (h : (Lit.int .u8 z).wf = true) : .int .u8 z = bv (UInt8.ofNat z.toNat) := by
 simp [Lit.wf, IntKind.min, IntKind.max, IntKind.signed, IntKind.bits] at h
 unfold bv
 rw [UInt8.toNat_ofNat']
 congr 1
 omega
section
variable {H : Type} {enc : TypeId × Value -> H} {w : World} {base : Nat} {held : Bool}
end
theorem IsRow.came {w : World} {a : Option Addr} {len cap : Nat} {zs : List Int} (h : IsRow .u8 w a len cap zs) : ∃ l, l.length = len /\ len <= maxLen /\ Came w (.slice a len cap) l := by
 rcases h with ⟨rfl, rfl, rfl, rfl⟩ | ⟨x, rfl, h1, h2, h3, h4, h5⟩
 ·exact ⟨[], rfl, by unfold maxLen; omega, BytesAt.nil w, by simp⟩
 ·have hlen : ((zs.take len).map (fun z => UInt8.ofNat z.toNat)).length = len := by rw [List.length_map, List.length_take]; omega
  have hg : ∀ i, i < len -> ((zs.take len).map (fun z => UInt8.ofNat z.toNat)).getD i 0 = UInt8.ofNat (zs.getD i 0).toNat := by
   intro i hi
   rw [List.getD_eq_getElem?_getD, List.getElem?_map, List.getElem?_take, if_pos hi, List.getD_eq_getElem?_getD, List.getElem?_eq_getElem (by omega)]
   rfl
  have hw : ∀ i, i < zs.length -> (Lit.int .u8 (zs.getD i 0)).wf = true := fun i hi => h5 _ (by
   rw [List.getD_eq_getElem?_getD, List.getElem?_eq_getElem hi]
   exact List.getElem_mem hi)
  refine ⟨_, hlen, by omega, ?_⟩
  by_cases hl0 : len = 0
  ·subst hl0
   have hnil : (zs.take 0).map (fun z => UInt8.ofNat z.toNat) = [] := by simp
   rw [hnil]
   by_cases hc0 : cap = 0
   ·subst hc0
    exact ⟨⟨some x, 0, rfl, Nat.le_refl _, by unfold maxLen; omega, .inl ⟨rfl, rfl⟩⟩, by simp⟩
   ·obtain ⟨g, o, spot⟩ := x
    have hc := h4 0 (by omega)
    have hspot : spot = none := by simpa [Addr.add] using World.cell?_spot hc
    subst hspot
    exact ⟨⟨some ⟨g, o, none⟩, cap, rfl, by simp, h2, .inr ⟨g, o, rfl, by simp⟩⟩, by simp⟩
  ·obtain ⟨g, o, spot⟩ := x
   have hc := h4 0 (by omega)
   have hspot : spot = none := by simpa [Addr.add] using World.cell?_spot hc
   subst hspot
   have hlt : g < w.heap.size := by
    have := World.block_lt_of_cell? w _ hc
    simpa [Addr.add] using this
   refine ⟨⟨some ⟨g, o, none⟩, cap, by rw [hlen], by omega, h2, .inr ⟨g, o, rfl, fun i hi => ?_⟩⟩, fun _ k hk => ?_⟩
   ·rw [hlen] at hi
    have := h4 i (by omega)
    rw [add_none] at this
    rw [this, hg i hi, <- toU8 _ (hw i (by omega))]
   ·obtain rfl : g = k := by simpa [Value.ownBlock] using hk
    exact hlt
end
end Go.Proofs.YtnbhanmpmjjkkaaGreatDoor.W
namespace Go.Proofs.YtnbhanmpmjjkkaaGreatDoor.fetchBeyond
open Go.RowKit
section
open Go.RowKit Go.ChangeShapes Go.WideShapes
theorem walk (m : Int) (va : Option Addr) (vl vc : Nat) (zs : List Int) (more : Int) (X : World) (wm : (Lit.int .i64 m).wf = true) (hz : IsRow .u8 X va vl vc zs) (wr : (Lit.int .u8 more).wf = true) : Calls Tryz.prog 3 #[.int .i64 m, .slice va vl vc, .int .u8 more] X fun e w' => e = .returned (.bool true) /\ Below X.heap.size X w' := by
 obtain ⟨l, rfl, _, hv⟩ := Go.Proofs.YtnbhanmpmjjkkaaGreatDoor.W.IsRow.came hz
 have hm : 0 <= more /\ more <= 255 := by
  have := wr
  simp [Lit.wf, IntKind.min, IntKind.max, IntKind.signed, IntKind.bits] at this
  omega
 exact (Go.Proofs.YtnbhanmpmjjkkaaGreatDoor.W.beyond21_any m more l va vc X hm hv.1).mono fun e w' ⟨h1, h2⟩ => ⟨h1, h2.below (by simp)⟩
end
end Go.Proofs.YtnbhanmpmjjkkaaGreatDoor.fetchBeyond
