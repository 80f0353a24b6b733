/- Texts laid together. -/
import Derived.Test.YtnbhanmpmjjkkaaGreatDoorBP9
import Derived.Below
import Derived.Test.YtnbhanmpmjjkkaaGreatDoorBP5
import Derived.Deep.Slices
import Derived.ChangeSlices
set_option linter.unusedVariables false
set_option linter.unusedSimpArgs false
set_option maxHeartbeats 64000000
set_option maxRecDepth 100000
namespace Go.Proofs.YtnbhanmpmjjkkaaGreatDoor
open Go.RowKit
/-- A slice of integers that came in: nil, or a row of 'cap' cells, the numbers 'zs' (the first 'len' are its elements). -/
def IsRow (k : IntKind) (w : World) (a : Option Addr) (len cap : Nat) (zs : List Int) : Prop :=
  (a = none ∧ len = 0 ∧ cap = 0 ∧ zs = []) ∨
  ∃ x, a = some x ∧ len ≤ cap ∧ cap ≤ maxLen ∧ zs.length = cap ∧ (∀ i, i < zs.length → w.cell? (x.add i) = some (.int k (zs.getD i 0))) ∧ ∀ n ∈ zs, (Lit.int k n).wf = true
end Go.Proofs.YtnbhanmpmjjkkaaGreatDoor
namespace Go.Proofs.YtnbhanmpmjjkkaaGreatDoor.W
open Go.RowKit
def FlSt (E1 E2 : Env) (X : List Nat) (wb w : World) (go : Nat) (L : List Sr) (hv : Value) (K : List UInt8) (f1 f2 : FS) (k : Nat) (wr : World) : Prop :=
 Chg [] w wr /\ (k = 0 -> RunAt E1 X wb wr go L hv K f1) /\ (k <= 1 -> RunAt E2 X wb wr go L hv K f2)
def FlGo (E1 E2 : Env) (X : List Nat) (wb w : World) (go : Nat) (L : List Sr) (hv : Value) (K : List UInt8) (f1 f2 : FS) (k : Nat) (wr : World) (s : Sp) (data : List UInt8) (n fb kb gb rb lw : Nat) (o : Bool) (tv : Value) (want : List UInt8) : Prop :=
 RunAt (newEnv s data n fb kb gb rb) X wb wr go L hv K (FS.fresh n 0 lw o) /\ (newEnv s data n fb kb gb rb).Ok /\ (∀ w', Chg [] w w' -> BytesAt w' tv want) /\ want = (FS.fresh n 0 lw o).aim data /\ (o = true ∨ 0 + lw <= data.length) /\ (1 <= lw ∨ o = true) /\
  (∀ w', Chg (newEnv s data n fb kb gb rb).T wr w' -> FlSt E1 E2 X wb w go L hv K f1 f2 (k + 1) w') /\ (k = 0 -> fb = E1.fb)
theorem fails21_any (m : Int) (data l : List UInt8) (va : Option Addr) (vc : Nat) (la : Option Addr) (lc : Nat) (w : World) (h : BytesAt w (.slice va data.length vc) data) (hl : BytesAt w (.slice la l.length lc) l) : Calls Tryz.prog 7 #[.int .i64 m, .slice va data.length vc, .slice la l.length lc] w fun e w' => e = .returned (.bool true) /\ Chg [] w w' := by
 have CA := LH (awake21_any w)
 have HD := LH h
 have HLB := LH hl
 go_enter Tryz.func7, Tryz.ntmps7
 go_wp2_with fail
 refine CA.out.mono ?_
 rintro e w1 ⟨rfl, hc1⟩
 have HC1 := LH hc1
 have CV := LH (servers13_ok m w1)
 clear hc1 CA h hl
 go_wp2_with fail
 refine CV.out.mono ?_
 rintro e w2 ⟨n, h3, h16, rfl, hw2⟩
 subst hw2
 have CS := LH (stripe_ok m w1)
 clear CV
 go_wp2_with fail
 refine CS.out.mono ?_
 rintro e w2 ⟨s, hs, rfl, hc2⟩
 obtain ⟨w3, hw3⟩ : ∃ w3, w3 = w2.alloc (.cells (spC s) 26) := ⟨_, rfl⟩
 have HW3 := LH hw3
 have HS := LH hs
 have HB3 := LH (show w3.heap[w2.heap.size]? = some (.cells (spC s) 26 (0, 0)) by rw [hw3]; exact heap_alloc_new w2 _)
 have HC3 := LH (show Chg [] w w3 by rw [hw3]; exact ((HC1.out.trans hc2 (by simp)).alloc _))
 clear hs hc2 hw3 CS HC1
 by_cases hL0 : data.length = 0
 ·have b1 : ((data.length : Int) == 0) = true := by rw [hL0]; rfl
  go_wp2
  all_goals
   go_ret
   rw [<- HW3.out]
   exact ⟨rfl, HC3.out⟩
 have b1 : ((data.length : Int) == 0) = false := beq_eq_false_iff_ne.2 (by omega)
 by_cases hL1 : 400 < data.length
 ·have b2 : decide ((400 : Int) < (data.length : Int)) = true := decide_eq_true (by omega)
  go_wp2
  all_goals
   go_ret
   rw [<- HW3.out]
   exact ⟨rfl, HC3.out⟩
 have b2 : decide ((400 : Int) < (data.length : Int)) = false := decide_eq_false (by omega)
 have CN := LH (nodes_ok s data (.slice va data.length vc) n w3 HS.out (HD.out.chg HC3.out (by simp)) h3 h16 (by omega) (by omega))
 go_wp2_with fail
 rw [<- HW3.out]
 refine CN.out.mono ?_
 rintro e w4 ⟨go, co, L, rfl, hn, hgo⟩
 have hc4 : Chg [] w3 w4 := hn.many.chg
 have HB4 := LH (hc4.keep HB3.out (by simp))
 have HN := LH hn
 have HC4 := LH (HC3.out.trans hc4 (by simp))
 have CH := LH (hows_ok l (.slice la l.length lc) n w4 (HLB.out.chg HC4.out (by simp)) h16)
 clear hn hgo hc4 CN b1 b2
 go_wp2_with fail
 refine CH.out.mono ?_
 rintro e w5 ⟨u, rfl, hu, hun, hc5⟩
 obtain ⟨ua, uc, hue⟩ := hu.slice
 subst hue
 have HU := LH (And.intro hu hun)
 have HN5 := LH (HN.out.with' (T := []) hc5 (by simp))
 have hb5 := hc5.keep HB4.out (by simp)
 have HC5 := LH (HC4.out.trans hc5 (by simp))
 have HU5 := LH hu.lt
 have CW := LH (fwhole_ok s data n w5 HS.out h3 h16)
 have p0 := blk_cell hb5 0 _ rfl
 have p1 := blk_cell hb5 1 _ rfl
 have p2 := blk_cell hb5 2 _ rfl
 have HB5 := LH hb5
 obtain ⟨K, hK⟩ : ∃ K, K = howsN l n := ⟨_, rfl⟩
 have HKL : Hid (K.length = n) := LH (by rw [hK, howsN_len])
 rw [<- hK] at HU HU5 ⊢
 clear hc5 hu hun CH HB4 hb5 hK
 go_wp2_with fail
 refine CW.out.mono ?_
 rintro e w6 ⟨fb1, kb1, gb1, rb1, rfl, hf1, hnd1, hnw1, hc6⟩
 have hb6 := hc6.keep HB5.out (by simp)
 obtain ⟨g, hg⟩ : ∃ g, g = min data.length 64 := ⟨_, rfl⟩
 have hgz : min (data.length : Int) 64 = (g : Int) := by omega
 have HG := LH hg
 have hgb : 1 <= g /\ g <= 64 /\ g <= data.length /\ data.length <= 400 /\ 1 <= data.length := by omega
 have CF := LH (fnew_ok s data n 0 g w6 HS.out h3 h16 (by omega) (by omega) (by omega))
 have HE1 := LH (newEnv_ok (data := data) HS.out h3 h16 (by omega) (by omega) hnd1)
 have HF1 := LH (And.intro hf1 (And.intro hnw1 hc6))
 have HC6 := LH (HC5.out.trans hc6 (by simp))
 clear p0 p1 p2 hf1 hnd1 hnw1 hc6 CW hg
 have p0 := blk_cell hb6 0 _ rfl
 have p1 := blk_cell hb6 1 _ rfl
 have p2 := blk_cell hb6 2 _ rfl
 clear hb6 HB5 hL0 hL1
 go_wp2_with fail
 refine CF.out.mono ?_
 rintro e w7 ⟨fb2, kb2, gb2, rb2, rfl, hf2, hnd2, hnw2, hc7⟩
 have HE2 := LH (newEnv_ok (data := data) HS.out h3 h16 (by omega) (by omega) hnd2)
 have hdis : ∀ x ∈ (newEnv s data n fb1 kb1 gb1 rb1).T, x ∉ (newEnv s data n fb2 kb2 gb2 rb2).T := fun x hx hx2 => by
  have h1 := HF1.out.1.lim x hx
  have h2 := hnw2 x hx2
  omega
 obtain ⟨X, hr1, hr2⟩ := run_two (wb := w3) (hv := .slice ua K.length uc) (K := K) (by simpa using HN5.out) HF1.out.1 HF1.out.2.1 HF1.out.2.2 hf2 hnw2 hc7 (HU.out.1.bytes.chg (HF1.out.2.2.trans hc7 (by simp)) (by simp)) (fun _ q hq => by
  have h1 := HU5.out q hq
  exact ⟨fun hm => by have := HF1.out.2.1 q hm; omega, fun hm => by have := hnw2 q hm; have := HF1.out.2.2.size; omega⟩)
 have HST : Hid (FlSt (newEnv s data n fb1 kb1 gb1 rb1) (newEnv s data n fb2 kb2 gb2 rb2) X w3 w go L (.slice ua K.length uc) K (FS.fresh n 0 0 true) (FS.fresh n 0 g false) 0 w7) := LH ⟨HC6.out.trans hc7 (by simp), fun _ => hr1, fun _ => hr2⟩
 have HTT : Hid (∀ x, x ∈ (newEnv s data n fb1 kb1 gb1 rb1).T ∨ x ∈ (newEnv s data n fb2 kb2 gb2 rb2).T -> w.heap.size <= x) := LH (fun x hx => by
  rcases hx with hx | hx
  ·exact Nat.le_trans HC5.out.size (HF1.out.2.1 x hx)
  ·exact Nat.le_trans HC6.out.size (hnw2 x hx))
 have HDIS := LH hdis
 clear HF1 hf2 hnd2 hnw2 hc7 CF p0 p1 p2 hr1 hr2 HN5 HU5 hdis
 have q1 : ((n : Int) != (n : Int)) = false := by simp
 have hbn : badN K <= K.length /\ noneN K <= K.length := ⟨List.countP_le_length, List.countP_le_length⟩
 go_wp2_with fail
 go_loopg [13, 18] 3 (fun g' s13 s18 wr => ∃ (k : Nat) (p : Option Addr), s13 = .pointer p /\ s18 = .int .i64 (k : Int) /\ k <= 2 /\ 3 <= k + g' /\ (k <= 1 -> p = some ⟨fb1, 0, none⟩) /\ Hid (FlSt (newEnv s data n fb1 kb1 gb1 rb1) (newEnv s data n fb2 kb2 gb2 rb2) X w3 w go L (.slice ua K.length uc) K (FS.fresh n 0 0 true) (FS.fresh n 0 g false) k wr))
 case atStart => exact ⟨0, _, rfl, rfl, by omega, by omega, fun _ => rfl, HST⟩
 case round =>
  obtain ⟨k, p, rfl, rfl, hk, hkg, hp, HX⟩ := hrel
  by_cases hk2 : k < 2
  ·have hkz : (k : Int) < 2 := by omega
   obtain rfl := hp (by omega)
   go_upto_if 83 with (fail)
   go_cut [13, 19] (fun s13 s19 wx => ∃ (fb kb gb rb lw : Nat) (o : Bool) (ta : Option Addr) (tc : Nat) (want : List UInt8), s13 = .pointer (some ⟨fb, 0, none⟩) /\ s19 = .slice ta want.length tc /\ wx = wr /\ lw <= 64 /\ want.length <= 400 /\
    Hid (FlGo (newEnv s data n fb1 kb1 gb1 rb1) (newEnv s data n fb2 kb2 gb2 rb2) X w3 w go L (.slice ua K.length uc) K (FS.fresh n 0 0 true) (FS.fresh n 0 g false) k wr s data n fb kb gb rb lw o (.slice ta want.length tc) want))
   case first =>
    by_cases hk0 : k = 0
    ·have hk0z : ((k : Int) == 1) = false := beq_eq_false_iff_ne.2 (by omega)
     have HK0 := LH hk0
     have HZ := LH (show FlGo (newEnv s data n fb1 kb1 gb1 rb1) (newEnv s data n fb2 kb2 gb2 rb2) X w3 w go L (.slice ua K.length uc) K (FS.fresh n 0 0 true) (FS.fresh n 0 g false) k wr s data n fb1 kb1 gb1 rb1 0 true (.slice va data.length vc) data from
      ⟨HX.out.2.1 hk0, HE1.out, fun w' hc => HD.out.chg hc (by simp), rfl, .inl rfl, .inr rfl, fun w' hc => ⟨HX.out.1.trans hc (fun x hx => .inr (HTT.out x (.inl hx))), fun e => absurd e (by omega), fun _ => (HX.out.2.2 (by omega)).aside (HX.out.2.1 hk0) hc HDIS.out⟩, fun _ => rfl⟩)
     clear hk0
     go_wp2_with fail
     go_meet
     exact ⟨_, kb1, gb1, rb1, 0, true, _, _, _, rfl, rfl, rfl, by omega, by omega, HZ⟩
    ·have hk1 : k = 1 := by omega
     have hk0z : ((k : Int) == 1) = true := by rw [hk1]; rfl
     have HPC := LH (HD.out.piece 0 g (by omega) (by omega))
     obtain ⟨pg, po, hva, hpc⟩ := HPC.out
     have hwl : ((data.drop 0).take g).length = g := by rw [List.length_take, List.length_drop]; omega
     have HZ := LH (show FlGo (newEnv s data n fb1 kb1 gb1 rb1) (newEnv s data n fb2 kb2 gb2 rb2) X w3 w go L (.slice ua K.length uc) K (FS.fresh n 0 0 true) (FS.fresh n 0 g false) k wr s data n fb2 kb2 gb2 rb2 g false (.slice (some ⟨pg, po, none⟩) ((data.drop 0).take g).length vc) ((data.drop 0).take g) from
      ⟨HX.out.2.2 (by omega), HE2.out, fun w' hc => by rw [hwl]; exact hpc.chg hc (by simp), rfl, .inr (by omega), .inl (by omega), fun w' hc => ⟨HX.out.1.trans hc (fun x hx => .inr (HTT.out x (.inr hx))), fun e => absurd e (by omega), fun e => absurd e (by omega)⟩, fun e => absurd e (by omega)⟩)
     subst hva
     have hcap := HD.out.cap.1
     have hcz : (g : Int) <= (vc : Int) := by omega
     have hcz2 : 0 <= (g : Int) /\ (g : Int) <= (vc : Int) := by omega
     clear hpc hk1 hk0
     go_wp2_with fail
     go_meet
     exact ⟨_, kb2, gb2, rb2, g, false, _, _, _, rfl, by rw [hwl], rfl, by omega, by rw [hwl]; omega, HZ⟩
   case rest =>
   obtain ⟨fb, kb, gb, rb, lw, o, ta, tc, want, rfl, rfl, hwx, hlw, hwl, HZ⟩ := hcut
   rw [hwx]
   clear hwx
   have CR := LH (run_any (co := co) (K := K) ua uc _ _ HZ.out.2.1 HZ.out.1 (Going.fresh HZ.out.2.1 0 lw o HZ.out.2.2.2.2.2.1) (fresh_zero n 0 lw o) ⟨by show 0 <= 100000; omega, by show lw <= 100000; omega⟩ HZ.out.1.nodes.many.chg.size)
   go_wp2_with fail
   refine CR.out.mono ?_
   rintro e w8 ⟨f, v, j, rfl, hv, hvn, hend, hsame, hj1, hjn, hc8⟩
   obtain ⟨ra, rc, hve⟩ := hv.slice
   subst hve
   have HV := LH hv
   have ht := hend.told HZ.out.2.1 HKL.out (by rw [hsame.1, hsame.2.1, hsame.2.2]; exact HZ.out.2.2.2.2.1)
   have HAIM : Hid (f.aim data = want) := LH (by
    rw [HZ.out.2.2.2.1]
    unfold FS.aim
    rw [hsame.1, hsame.2.1, hsame.2.2])
   have HST8 := LH (HZ.out.2.2.2.2.2.2.1 w8 hc8)
   have HW8 : Hid (BytesAt w8 (.slice ta want.length tc) want) := LH (HZ.out.2.2.1 w8 HST8.out.1)
   have hjz : ¬ (j : Int) < 0 := by omega
   have hjz2 : ¬ (n : Int) < (j : Int) := by have : j <= n := hjn; omega
   clear hv hvn hend hsame hj1 hjn hc8 CR
   go_upto_block 2 with (fail)
   have HT := LH ht
   clear ht
   go_cut [] (fun wx => Chg [] w8 wx)
   case first =>
    rcases HT.out with ⟨he, ho⟩ | ⟨he, ho, hb2⟩ | ⟨he, ho, hn1⟩
    ·have hwl2 : want.length <= 1000000000 := by omega
     have hdec : f.out = want := by rw [ho]; exact HAIM.out
     have CSm : Hid (Calls Tryz.prog 14 #[.slice ra f.out.length rc, .slice ta want.length tc] w8 fun e w' => e = .returned (.bool true) /\ ∃ n, w' = w8.drewN n) := LH ((same_any _ _ f.out want w8 HV.out.bytes HW8.out (by rw [hdec]; exact hwl2) hwl2).mono fun e w' ⟨h1, h2⟩ => ⟨by rw [h1, hdec]; simp, h2⟩)
     have hz0 : (f.e == 0) = true := by rw [he]; rfl
     clear he ho hdec
     go_wp2_with fail
     refine CSm.out.mono ?_
     rintro e w9 ⟨rfl, nq, rfl⟩
     clear CSm
     go_wp2_with fail
     go_meet
     exact (Chg.refl [] w8).drewN nq
    ·have hbz : ¬ (badN K : Int) < 2 := by omega
     have hz0 : (f.e == 0) = false := by rw [he]; rfl
     have hz1 : (f.e == 15) = true := by rw [he]; rfl
     have hol : ¬ 0 < (f.out.length : Int) := by rw [ho]; simp
     clear he ho hb2
     go_wp2_with fail
     go_meet
     exact Chg.refl [] w8
    ·have hnz : ((noneN K : Int) == 0) = false := beq_eq_false_iff_ne.2 (by omega)
     have hz0 : (f.e == 0) = false := by rw [he]; rfl
     have hz1 : (f.e == 15) = false := by rw [he]; rfl
     have hz2 : (f.e == 6) = true := by rw [he]; rfl
     have hol : ¬ 0 < (f.out.length : Int) := by rw [ho]; simp
     clear he ho hn1
     go_wp2_with fail
     go_meet
     exact Chg.refl [] w8
   case rest =>
   have hc9 := hcut
   have hout : f.e = 0 ∨ 2 <= badN K ∨ 1 <= noneN K := by
    rcases HT.out with h | h | h
    ·exact .inl h.1
    ·exact .inr (.inl h.2.2)
    ·exact .inr (.inr h.2.2)
   have HFB := LH HZ.out.2.2.2.2.2.2.2
   clear hcut HT
   have HST9 : Hid (FlSt (newEnv s data n fb1 kb1 gb1 rb1) (newEnv s data n fb2 kb2 gb2 rb2) X w3 w go L (.slice ua K.length uc) K (FS.fresh n 0 0 true) (FS.fresh n 0 g false) (k + 1) wc) := LH ⟨HST8.out.1.trans hc9 (by simp), fun e => absurd e (by omega), fun e => (HST8.out.2.2 e).keep0 hc9⟩
   clear hc9
   have hk3 : (k : Int) + 1 <= 2 := by omega
   by_cases hb2 : badN K <= 1
   ·have hbz : (badN K : Int) <= 1 := by omega
    by_cases hn0 : noneN K = 0
    ·have hnz : ((noneN K : Int) == 0) = true := by rw [hn0]; rfl
     have hez : (f.e != 0) = false := by
      have : f.e = 0 := by omega
      rw [this]; rfl
     clear hout hn0 hb2
     go_wp2
     go_roundg (gk - 1)
     case measure => omega
     case rel => exact ⟨k + 1, _, rfl, by go_num, by omega, by omega, fun e => by rw [HFB.out (by omega)], HST9⟩
    ·have hnz : ((noneN K : Int) == 0) = false := beq_eq_false_iff_ne.2 (by omega)
     clear hout hn0 hb2
     go_wp2
     go_roundg (gk - 1)
     case measure => omega
     case rel => exact ⟨k + 1, _, rfl, by go_num, by omega, by omega, fun e => by rw [HFB.out (by omega)], HST9⟩
   ·have hbz : ¬ (badN K : Int) <= 1 := by omega
    clear hout hb2
    go_wp2
    go_roundg (gk - 1)
    case measure => omega
    case rel => exact ⟨k + 1, _, rfl, by go_num, by omega, by omega, fun e => by rw [HFB.out (by omega)], HST9⟩
  ·have hkz : ¬ (k : Int) < 2 := by omega
   have HEND := LH HX.out.1
   clear HX
   go_wp2
   go_ret
   exact ⟨rfl, HEND.out⟩
section
open Go.RowKit Go.ChangeShapes Go.WideShapes
def Came (w : World) (v : Value) (l : List UInt8) : Prop := BytesAt w v l /\ (l ≠ [] -> ∀ k, v.ownBlock = some k -> k < w.heap.size)
theorem Came.chg {w w' : World} {v : Value} {l : List UInt8} (h : Came w v l) (hc : Chg [] w w') : Came w' v l := ⟨h.1.chg hc (by simp), fun hl k hk => Nat.lt_of_lt_of_le (h.2 hl k hk) hc.size⟩
theorem toU8 (z : Int) (h : (Lit.int .u8 z).wf = true) : .int .u8 z = bv (UInt8.ofNat z.toNat) := by
 simp [Lit.wf, IntKind.min, IntKind.max, IntKind.signed, IntKind.bits] at h
 unfold bv
 rw [UInt8.toNat_ofNat']
 congr 1
 omega
section
variable {H : Type} {enc : TypeId × Value -> H} {w : World} {base : Nat} {held : Bool}
end
theorem IsRow.came {w : World} {a : Option Addr} {len cap : Nat} {zs : List Int} (h : IsRow .u8 w a len cap zs) : ∃ l, l.length = len /\ len <= maxLen /\ Came w (.slice a len cap) l := by
 rcases h with ⟨rfl, rfl, rfl, rfl⟩ | ⟨x, rfl, h1, h2, h3, h4, h5⟩
 ·exact ⟨[], rfl, by unfold maxLen; omega, BytesAt.nil w, by simp⟩
 ·have hlen : ((zs.take len).map (fun z => UInt8.ofNat z.toNat)).length = len := by rw [List.length_map, List.length_take]; omega
  have hg : ∀ i, i < len -> ((zs.take len).map (fun z => UInt8.ofNat z.toNat)).getD i 0 = UInt8.ofNat (zs.getD i 0).toNat := by
   intro i hi
   rw [List.getD_eq_getElem?_getD, List.getElem?_map, List.getElem?_take, if_pos hi, List.getD_eq_getElem?_getD, List.getElem?_eq_getElem (by omega)]
   rfl
  have hw : ∀ i, i < zs.length -> (Lit.int .u8 (zs.getD i 0)).wf = true := fun i hi => h5 _ (by
   rw [List.getD_eq_getElem?_getD, List.getElem?_eq_getElem hi]
   exact List.getElem_mem hi)
  refine ⟨_, hlen, by omega, ?_⟩
  by_cases hl0 : len = 0
  ·subst hl0
   have hnil : (zs.take 0).map (fun z => UInt8.ofNat z.toNat) = [] := by simp
   rw [hnil]
   by_cases hc0 : cap = 0
   ·subst hc0
    exact ⟨⟨some x, 0, rfl, Nat.le_refl _, by unfold maxLen; omega, .inl ⟨rfl, rfl⟩⟩, by simp⟩
   ·obtain ⟨g, o, spot⟩ := x
    have hc := h4 0 (by omega)
    have hspot : spot = none := by simpa [Addr.add] using World.cell?_spot hc
    subst hspot
    exact ⟨⟨some ⟨g, o, none⟩, cap, rfl, by simp, h2, .inr ⟨g, o, rfl, by simp⟩⟩, by simp⟩
  ·obtain ⟨g, o, spot⟩ := x
   have hc := h4 0 (by omega)
   have hspot : spot = none := by simpa [Addr.add] using World.cell?_spot hc
   subst hspot
   have hlt : g < w.heap.size := by
    have := World.block_lt_of_cell? w _ hc
    simpa [Addr.add] using this
   refine ⟨⟨some ⟨g, o, none⟩, cap, by rw [hlen], by omega, h2, .inr ⟨g, o, rfl, fun i hi => ?_⟩⟩, fun _ k hk => ?_⟩
   ·rw [hlen] at hi
    have := h4 i (by omega)
    rw [add_none] at this
    rw [this, hg i hi, <- toU8 _ (hw i (by omega))]
   ·obtain rfl : g = k := by simpa [Value.ownBlock] using hk
    exact hlt
end
end Go.Proofs.YtnbhanmpmjjkkaaGreatDoor.W
namespace Go.Proofs.YtnbhanmpmjjkkaaGreatDoor.fetchFails
open Go.RowKit
section
open Go.RowKit Go.ChangeShapes Go.WideShapes
theorem walk (m : Int) (va : Option Addr) (vl vc : Nat) (zs : List Int) (la : Option Addr) (ll lc : Nat) (ys : List Int) (X : World) (wm : (Lit.int .i64 m).wf = true) (hz : IsRow .u8 X va vl vc zs) (hy : IsRow .u8 X la ll lc ys) : Calls Tryz.prog 7 #[.int .i64 m, .slice va vl vc, .slice la ll lc] X fun e w' => e = .returned (.bool true) /\ Below X.heap.size X w' := by
 obtain ⟨l, rfl, _, hv⟩ := Go.Proofs.YtnbhanmpmjjkkaaGreatDoor.W.IsRow.came hz
 obtain ⟨y, rfl, _, hv2⟩ := Go.Proofs.YtnbhanmpmjjkkaaGreatDoor.W.IsRow.came hy
 exact (Go.Proofs.YtnbhanmpmjjkkaaGreatDoor.W.fails21_any m l y va vc la lc X hv.1 hv2.1).mono fun e w' ⟨h1, h2⟩ => ⟨h1, h2.below (by simp)⟩
end
end Go.Proofs.YtnbhanmpmjjkkaaGreatDoor.fetchFails
