/- Texts laid together. -/
import Derived.Test.YtnbhanmpmjjkkaaGreatDoorBP9
import Derived.Below
import Derived.Test.YtnbhanmpmjjkkaaGreatDoorBP5
import Derived.Deep.Slices
import Derived.ChangeSlices
set_option linter.unusedVariables false
set_option linter.unusedSimpArgs false
set_option maxHeartbeats 64000000
set_option maxRecDepth 100000
namespace Go.Proofs.YtnbhanmpmjjkkaaGreatDoor
open Go.RowKit
/-- A slice of integers that came in: nil, or a row of 'cap' cells, the numbers 'zs' (the first 'len' are its elements). -/
def IsRow (k : IntKind) (w : World) (a : Option Addr) (len cap : Nat) (zs : List Int) : Prop :=
  (a = none ∧ len = 0 ∧ cap = 0 ∧ zs = []) ∨
  ∃ x, a = some x ∧ len ≤ cap ∧ cap ≤ maxLen ∧ zs.length = cap ∧ (∀ i, i < zs.length → w.cell? (x.add i) = some (.int k (zs.getD i 0))) ∧ ∀ n ∈ zs, (Lit.int k n).wf = true
end Go.Proofs.YtnbhanmpmjjkkaaGreatDoor
namespace Go.Proofs.YtnbhanmpmjjkkaaGreatDoor.W
open Go.RowKit
def howL (n i : Nat) : List UInt8 := List.replicate i 1 ++ List.replicate (n - i) 0
theorem howL_len {n i : Nat} (h : i <= n) : (howL n i).length = n := by unfold howL; rw [List.length_append, List.length_replicate, List.length_replicate]; omega
theorem howL_zero (n : Nat) : howL n 0 = List.replicate n 0 := by unfold howL; simp
theorem howL_all (n : Nat) : howL n n = List.replicate n 1 := by unfold howL; simp
theorem howL_set {n i : Nat} (h : i < n) : (howL n i).set i 1 = howL n (i + 1) := by
 unfold howL
 rw [List.set_append_right _ _ (by simp), List.length_replicate, Nat.sub_self, show n - i = (n - (i + 1)) + 1 by omega, List.replicate_succ, List.set_cons_zero, List.replicate_succ' (n := i), List.append_assoc]
 rfl
theorem and16 (x : Int) : ∃ j : Nat, j <= 7 /\ bits .and .u16 x 7 = (j : Int) := by
 have e : bits .and .u16 x 7 = IntKind.u16.wrap ((BitVec.ofInt 16 x &&& BitVec.ofInt 16 7).toNat : Int) := rfl
 have h1 : (BitVec.ofInt 16 x &&& BitVec.ofInt 16 7).toNat <= 7 := by
  rw [BitVec.toNat_and]
  refine Nat.le_trans Nat.and_le_right ?_
  decide
 exact ⟨_, h1, by rw [e, IntWalk.u16_in _ ⟨by omega, by omega⟩]⟩
def OneBad (n : Nat) (K : List UInt8) : Prop := K.length = n /\ (∀ a b, a < n -> b < n -> badK (kindAt K a) -> badK (kindAt K b) -> a = b) /\ ∀ a, a < n -> kindAt K a ≠ 3
theorem one_bad (n k : Nat) (c : UInt8) (hc : c = 0 ∨ c = 2 ∨ c = 4) : OneBad n ((List.replicate n 1).set k c) := by
 have hl : ((List.replicate n (1 : UInt8)).set k c).length = n := by simp
 have hg : ∀ a, a < n -> kindAt ((List.replicate n 1).set k c) a = if a = k then c else 1 := fun a ha => by
  rw [kindAt_in (by rw [hl]; exact ha), List.getD_eq_getElem?_getD, List.getElem?_set]
  by_cases h : k = a
  ·subst h; simp [ha]
  ·rw [if_neg h, if_neg (fun e => h e.symm)]; simp [List.getElem?_replicate, ha]
 have hb : ∀ a, a < n -> badK (kindAt ((List.replicate n 1).set k c) a) -> a = k := fun a ha h => by
  rw [hg a ha] at h
  by_cases e : a = k
  ·exact e
  ·rw [if_neg e] at h; exact absurd h bad_one
 refine ⟨hl, fun a b ha hb' h1 h2 => by rw [hb a ha h1, hb b hb' h2], fun a ha h => ?_⟩
 rw [hg a ha] at h
 split at h
 ·rcases hc with hc | hc | hc <;> rw [hc] at h <;> cases h
 ·cases h
theorem none_bad (n : Nat) : OneBad n (List.replicate n 1) := by
 have := one_bad n n 0 (.inl rfl)
 rwa [List.set_eq_of_length_le (by simp)] at this
theorem table8 (w : World) (j : Nat) (hj : j <= 7) : ∃ c : UInt8, (c = 0 ∨ c = 2 ∨ c = 4) /\ (w.alloc (.cells #[.int .u8 0, .int .u8 2, .int .u8 4, .int .u8 0, .int .u8 2, .int .u8 4, .int .u8 0, .int .u8 2] 5)).cell? ⟨w.heap.size, j, none⟩ = some (.int .u8 (c.toNat : Int)) := by
 have hb := heap_alloc_new w (.cells #[.int .u8 0, .int .u8 2, .int .u8 4, .int .u8 0, .int .u8 2, .int .u8 4, .int .u8 0, .int .u8 2] 5)
 match j, hj with
 | 0, _ => exact ⟨0, .inl rfl, blk_cell hb 0 _ rfl⟩
 | 1, _ => exact ⟨2, .inr (.inl rfl), blk_cell hb 1 _ rfl⟩
 | 2, _ => exact ⟨4, .inr (.inr rfl), blk_cell hb 2 _ rfl⟩
 | 3, _ => exact ⟨0, .inl rfl, blk_cell hb 3 _ rfl⟩
 | 4, _ => exact ⟨2, .inr (.inl rfl), blk_cell hb 4 _ rfl⟩
 | 5, _ => exact ⟨4, .inr (.inr rfl), blk_cell hb 5 _ rfl⟩
 | 6, _ => exact ⟨0, .inl rfl, blk_cell hb 6 _ rfl⟩
 | 7, _ => exact ⟨2, .inr (.inl rfl), blk_cell hb 7 _ rfl⟩
theorem reads21_any (m z0 z1 z2 : Int) (data : List UInt8) (va : Option Addr) (vc : Nat) (w : World) (h0 : 0 <= z0 /\ z0 <= 65535) (h1 : 0 <= z1 /\ z1 <= 65535) (h2 : 0 <= z2 /\ z2 <= 65535) (h : BytesAt w (.slice va data.length vc) data) : Calls Tryz.prog 6 #[.int .i64 m, .slice va data.length vc, .agg #[.int .u16 z0, .int .u16 z1, .int .u16 z2]] w fun e w' => e = .returned (.bool true) /\ Chg [] w w' := by
 obtain ⟨w0, hw0⟩ : ∃ w0, w0 = w.alloc (.cells #[.int .u16 z0, .int .u16 z1, .int .u16 z2] 61) := ⟨_, rfl⟩
 have HC0 := LH (show Chg [] w w0 by rw [hw0]; exact (Chg.refl _ _).alloc _)
 have HB0 := LH (show w0.heap[w.heap.size]? = some (.cells #[.int .u16 z0, .int .u16 z1, .int .u16 z2] 61 (0, 0)) by rw [hw0]; exact heap_alloc_new w _)
 have HW0 := LH hw0
 have CA := LH (awake21_any w0)
 have HD := LH h
 clear h hw0
 go_enter Tryz.func6, Tryz.ntmps6
 go_wp2_with fail
 rw [<- HW0.out]
 refine CA.out.mono ?_
 rintro e w1 ⟨rfl, hc1⟩
 have HC1 := LH (HC0.out.trans hc1 (by simp))
 have HB1 := LH (hc1.keep HB0.out (by simp))
 have CV := LH (servers13_ok m w1)
 clear hc1 CA HB0 HC0
 go_wp2_with fail
 refine CV.out.mono ?_
 rintro e w2 ⟨n, h3, h16, rfl, hw2⟩
 subst hw2
 have CS := LH (stripe_ok m w1)
 clear CV
 go_wp2_with fail
 refine CS.out.mono ?_
 rintro e w2 ⟨s, hs, rfl, hc2⟩
 obtain ⟨w3, hw3⟩ : ∃ w3, w3 = w2.alloc (.cells (spC s) 26) := ⟨_, rfl⟩
 have HW3 := LH hw3
 have HS := LH hs
 have HB3 := LH (show w3.heap[w2.heap.size]? = some (.cells (spC s) 26 (0, 0)) by rw [hw3]; exact heap_alloc_new w2 _)
 have hc13 : Chg [] w1 w3 := by rw [hw3]; exact hc2.alloc _
 have HC3 := LH (HC1.out.trans hc13 (by simp))
 have HA3 := LH (hc13.keep HB1.out (by simp))
 clear hs hc2 hw3 CS HC1 hc13 HB1
 by_cases hL0 : data.length = 0
 ·have b1 : ((data.length : Int) == 0) = true := by rw [hL0]; rfl
  go_wp2
  all_goals
   go_ret
   rw [<- HW3.out]
   exact ⟨rfl, HC3.out⟩
 have b1 : ((data.length : Int) == 0) = false := beq_eq_false_iff_ne.2 (by omega)
 by_cases hL1 : 800 < data.length
 ·have b2 : decide ((800 : Int) < (data.length : Int)) = true := decide_eq_true (by omega)
  go_wp2
  all_goals
   go_ret
   rw [<- HW3.out]
   exact ⟨rfl, HC3.out⟩
 have b2 : decide ((800 : Int) < (data.length : Int)) = false := decide_eq_false (by omega)
 have u1 : IntKind.i64.wrap ((n : Int) - 1) = (n : Int) - 1 := IntWalk.i64_in _ ⟨by omega, by omega⟩
 have u2 : IntKind.i64.wrap (400 * ((n : Int) - 1)) = 400 * ((n : Int) - 1) := IntWalk.i64_in _ ⟨by omega, by omega⟩
 by_cases hL2 : 400 * (n - 1) < data.length
 ·go_wp2
  all_goals first
   | (exfalso; omega)
   | (go_ret; rw [<- HW3.out]; exact ⟨rfl, HC3.out⟩)
 have CN := LH (nodes_ok s data (.slice va data.length vc) n w3 HS.out (HD.out.chg HC3.out (by simp)) h3 h16 (by omega) (by omega))
 go_wp2_with fail
 rw [<- HW3.out]
 refine CN.out.mono ?_
 rintro e w4 ⟨go, co, L, rfl, hn, hgo⟩
 have hc4 : Chg [] w3 w4 := hn.many.chg
 have HB4 := LH (hc4.keep HB3.out (by simp))
 have ha4 := hc4.keep HA3.out (by simp)
 have x0 := blk_cell ha4 0 _ rfl
 have x1 := blk_cell ha4 1 _ rfl
 have HA4 := LH ha4
 have HN := LH hn
 have HC4 := LH (HC3.out.trans hc4 (by simp))
 clear hn hgo hc4 CN b1 b2 u1 u2 ha4
 have hLL : 1 <= data.length /\ data.length <= 800 /\ data.length <= 400 * (n - 1) := by omega
 clear hL0 hL1 hL2
 have hLz : ¬ (data.length : Int) = 0 := by omega
 obtain ⟨a, ha, ha2⟩ : ∃ a : Nat, z0.tmod (data.length : Int) = (a : Int) /\ a < data.length := ⟨(z0 % (data.length : Int)).toNat, by rw [Int.tmod_eq_emod_of_nonneg h0.1, Int.toNat_of_nonneg (Int.emod_nonneg _ hLz)], by have h5 := Int.emod_nonneg z0 hLz; have h6 := Int.emod_lt_of_pos z0 (show 0 < (data.length : Int) by omega); omega⟩
 have m1 : IntKind.i64.wrap ((data.length : Int) - (a : Int)) = (data.length : Int) - (a : Int) := IntWalk.i64_in _ ⟨by omega, by omega⟩
 obtain ⟨q, hq, hq2⟩ : ∃ q : Nat, min (64 : Int) ((data.length : Int) - (a : Int)) = (q : Int) /\ 1 <= q /\ q <= 64 /\ a + q <= data.length := ⟨min 64 (data.length - a), by omega, by omega, by omega, by omega⟩
 have hqz : ¬ (q : Int) = 0 := by omega
 obtain ⟨r, hr, hr2⟩ : ∃ r : Nat, z1.tmod (q : Int) = (r : Int) /\ r < q := ⟨(z1 % (q : Int)).toNat, by rw [Int.tmod_eq_emod_of_nonneg h1.1, Int.toNat_of_nonneg (Int.emod_nonneg _ hqz)], by have h5 := Int.emod_nonneg z1 hqz; have h6 := Int.emod_lt_of_pos z1 (show 0 < (q : Int) by omega); omega⟩
 obtain ⟨l, hl⟩ : ∃ l, l = r + 1 := ⟨_, rfl⟩
 have m3 : IntKind.i64.wrap (1 + (r : Int)) = (l : Int) := by rw [IntWalk.i64_in _ ⟨by omega, by omega⟩]; omega
 have hal : 1 <= l /\ l <= 64 /\ a + l <= data.length := by omega
 have hmk := makeF_bytes n (by omega) w4
 clear hl
 have H0 : Hid (BlkB (w4.alloc (.cells (bvs (List.replicate n 0)).toArray 5)) w4.heap.size (howL n 0) /\ Chg [] w4 (w4.alloc (.cells (bvs (List.replicate n 0)).toArray 5))) := LH ⟨by rw [howL_zero]; exact heap_alloc_new w4 _, (Chg.refl [] w4).alloc _⟩
 go_wp2_with fail
 go_loopg [13] n (fun g' s13 wr => ∃ i : Nat, s13 = .int .i64 (i : Int) /\ i <= n /\ n <= i + g' /\ Hid (BlkB wr w4.heap.size (howL n i) /\ Chg [] w4 wr))
 case atStart => exact ⟨0, rfl, by omega, by omega, H0⟩
 case round =>
  obtain ⟨i, rfl, hi, hig, HX⟩ := hrel
  clear H0
  by_cases hlt : i < n
  ·have hiz : (i : Int) < (n : Int) := by omega
   have hiz1 : (i : Int).toNat = i := by omega
   have hco := HX.out.1.cell i (by rw [howL_len hi]; exact hlt)
   have hfo : wr.frozen? ⟨w4.heap.size, i, none⟩ = false := blk_frozen HX.out.1 i
   have hlo := blk_lt HX.out.1
   have HN : Hid (BlkB (wr.setCell ⟨w4.heap.size, i, none⟩ (.int .u8 1)) w4.heap.size (howL n (i + 1)) /\ Chg [] w4 (wr.setCell ⟨w4.heap.size, i, none⟩ (.int .u8 1))) := LH ⟨by rw [<- howL_set hlt]; exact HX.out.1.set i (by rw [howL_len hi]; exact hlt) 1, HX.out.2.setCell (.inr (Nat.le_refl _)) _⟩
   go_wp2
   go_roundg (gk - 1)
   case measure => omega
   case rel => exact ⟨i + 1, by go_num, by omega, by omega, HN⟩
  ·have hin : i = n := by omega
   have hiz : ¬ (i : Int) < (n : Int) := by omega
   have hk0 : BlkB wr w4.heap.size (List.replicate n 1) := by
    have := HX.out.1
    rw [hin, howL_all] at this
    exact this
   have HK0 := LH hk0
   have hcw : Chg [] w4 wr := HX.out.2
   have ha5 := hcw.keep HA4.out (by simp)
   have x2 := blk_cell ha5 2 _ rfl
   have x0 := blk_cell ha5 0 _ rfl
   have HCW := LH hcw
   clear hin hk0 hcw ha5 HX x1
   go_upto_if 86 with (fail)
   obtain ⟨kk, hkk, hkk2⟩ : ∃ kk : Nat, z2 / 8 % ((n : Int) + 1) = (kk : Int) /\ kk <= n := ⟨(z2 / 8 % ((n : Int) + 1)).toNat, by rw [Int.toNat_of_nonneg (Int.emod_nonneg _ (by omega))], by have h5 := Int.emod_nonneg (z2 / 8) (show (n : Int) + 1 ≠ 0 by omega); have h6 := Int.emod_lt_of_pos (z2 / 8) (show 0 < (n : Int) + 1 by omega); omega⟩
   rw [hkk]
   go_cut [] (fun wx => ∃ K : List UInt8, Hid (BlkB wx w4.heap.size K /\ Chg [] w4 wx /\ OneBad n K))
   case first =>
    by_cases hkn : kk < n
    ·have hkz : (kk : Int) < (n : Int) := by omega
     have hkz1 : (kk : Int).toNat = kk := by omega
     obtain ⟨j, hj, hjz⟩ := and16 z2
     obtain ⟨c, hc, hct⟩ := table8 wr j hj
     have hca : Chg [] wr (wr.alloc (.cells #[.int .u8 0, .int .u8 2, .int .u8 4, .int .u8 0, .int .u8 2, .int .u8 4, .int .u8 0, .int .u8 2] 5)) := (Chg.refl [] wr).alloc _
     have hba : BlkB (wr.alloc (.cells #[.int .u8 0, .int .u8 2, .int .u8 4, .int .u8 0, .int .u8 2, .int .u8 4, .int .u8 0, .int .u8 2] 5)) w4.heap.size (List.replicate n 1) := hca.keep HK0.out (by simp)
     have x2a := hca.cell x2 (by simp)
     have hj8 : (j : Int) < 8 := by omega
     have hj81 : (j : Int).toNat = j := by omega
     have hco := hba.cell kk (by simpa using hkn)
     have hfo : (wr.alloc (.cells #[.int .u8 0, .int .u8 2, .int .u8 4, .int .u8 0, .int .u8 2, .int .u8 4, .int .u8 0, .int .u8 2] 5)).frozen? ⟨w4.heap.size, kk, none⟩ = false := blk_frozen hba kk
     have hlo := blk_lt hba
     have HN := LH (And.intro (hba.set kk (by simpa using hkn) c) (And.intro ((HCW.out.trans hca (by simp)).setCell (p := ⟨w4.heap.size, kk, none⟩) (.inr (Nat.le_refl _)) (.int .u8 (c.toNat : Int))) (one_bad n kk c hc)))
     clear hba hca hc
     go_wp2_with fail
     go_meet
     exact ⟨_, HN⟩
    ·have hkz : ¬ (kk : Int) < (n : Int) := by omega
     have HN := LH (And.intro HK0.out (And.intro HCW.out (none_bad n)))
     go_wp2_with fail
     go_meet
     exact ⟨_, HN⟩
   case rest =>
   obtain ⟨K, HK⟩ := hcut
   obtain ⟨w5, hw5⟩ : ∃ w5 : World, w5 = wc := ⟨_, rfl⟩
   rw [<- hw5] at HK ⊢
   clear hw5
   have HB5 := LH (HK.out.2.1.keep HB4.out (by simp))
   have HC5 := LH (HC4.out.trans HK.out.2.1 (by simp))
   have HN5 := LH (HN.out.with' (T := []) HK.out.2.1 (by simp))
   have p0 := blk_cell HB5.out 0 _ rfl
   have p1 := blk_cell HB5.out 1 _ rfl
   have p2 := blk_cell HB5.out 2 _ rfl
   have CF := LH (fnew_ok s data n a l w5 HS.out h3 h16 (by omega) (by omega) (by omega))
   clear HK0 HCW x0 x2 hkk hkk2 hiz hig hi hlt hmk ha hq hr m1 m3 hqz hLz
   go_wp2_with fail
   refine CF.out.mono ?_
   rintro e w6 ⟨fb1, kb1, gb1, rb1, rfl, hf1, hnd1, hnw1, hc6⟩
   have hb6 := hc6.keep HB5.out (by simp)
   have HE1 := LH (newEnv_ok (data := data) HS.out h3 h16 (by omega) (by omega) hnd1)
   have HF1 := LH (And.intro hf1 (And.intro hnw1 hc6))
   have HC6 := LH (HC5.out.trans hc6 (by simp))
   have CW := LH (fwhole_ok s data n w6 HS.out h3 h16)
   clear p0 p1 p2 hf1 hnd1 hnw1 hc6 CF
   have p0 := blk_cell hb6 0 _ rfl
   have p1 := blk_cell hb6 1 _ rfl
   have p2 := blk_cell hb6 2 _ rfl
   clear hb6
   go_wp2_with fail
   refine CW.out.mono ?_
   rintro e w7 ⟨fb2, kb2, gb2, rb2, rfl, hf2, hnd2, hnw2, hc7⟩
   have HE2 := LH (newEnv_ok (data := data) HS.out h3 h16 (by omega) (by omega) hnd2)
   have hKn : K.length = n := HK.out.2.2.1
   have hk5 : w4.heap.size < w5.heap.size := blk_lt HK.out.1
   have hbk : BytesAt w7 (.slice (some ⟨w4.heap.size, 0, none⟩) K.length K.length) K := (HK.out.1.bytes (by omega)).chg (HF1.out.2.2.trans hc7 (by simp)) (by simp)
   obtain ⟨X, hr1, hr2⟩ := run_two (wb := w3) (by simpa using HN5.out) HF1.out.1 HF1.out.2.1 HF1.out.2.2 hf2 hnw2 hc7 hbk (fun _ q hq => by
    have h1 : w4.heap.size = q := by simpa [Value.ownBlock] using hq
    exact ⟨fun hm => by have := HF1.out.2.1 q hm; omega, fun hm => by have := hnw2 q hm; have := HF1.out.2.2.size; omega⟩)
   have HR1 := LH hr1
   have HR2 := LH hr2
   have HDIS : Hid (∀ x ∈ (newEnv s data n fb1 kb1 gb1 rb1).T, x ∉ (newEnv s data n fb2 kb2 gb2 rb2).T) := LH (fun x hx hx2 => by
    have h1 := HF1.out.1.lim x hx
    have h2 := hnw2 x hx2
    omega)
   have HTT : Hid (∀ x, x ∈ (newEnv s data n fb1 kb1 gb1 rb1).T ∨ x ∈ (newEnv s data n fb2 kb2 gb2 rb2).T -> w.heap.size <= x) := LH (fun x hx => by
    rcases hx with hx | hx
    ·exact Nat.le_trans HC5.out.size (HF1.out.2.1 x hx)
    ·exact Nat.le_trans HC6.out.size (hnw2 x hx))
   have HL2 := LH hf2.lim
   have HC7 := LH (HC6.out.trans hc7 (by simp))
   have CR := LH (run_any (co := co) (K := K) (some ⟨w4.heap.size, 0, none⟩) K.length _ _ HE1.out HR1.out (Going.fresh HE1.out a l false (.inl (by omega))) (fresh_zero n a l false) ⟨by show a <= 100000; omega, by show l <= 100000; omega⟩ HR1.out.nodes.many.chg.size)
   rw [hKn] at CR
   have q1 : ((n : Int) != (n : Int)) = false := by simp
   clear hf2 hnd2 hnw2 hc7 hbk hr1 hr2 p0 p1 p2 CW hk5
   go_wp2_with fail
   refine CR.out.mono ?_
   rintro e w8 ⟨f, v, i1, rfl, hv, hvn, hend, hsame, hi1, hin1, hc8⟩
   obtain ⟨ua, uc, hve⟩ := hv.slice
   subst hve
   have hfin := hend.fine HE1.out HK.out.2.2.2.1 HK.out.2.2.2.2 (.inr (by rw [hsame.1, hsame.2.1]; show a + l <= data.length; omega))
   have hout : f.out = (data.drop a).take l := by
    rw [hfin.2]
    unfold FS.aim
    rw [hsame.1, hsame.2.1, hsame.2.2]
    rfl
   have hfe := hfin.1
   have HR28 := LH (HR2.out.aside HR1.out hc8 HDIS.out)
   have HC8 := LH (HC7.out.trans hc8 (fun x hx => .inr (HTT.out x (.inl hx))))
   have HV := LH (And.intro hv hvn)
   have i1z : (1 : Int) <= (i1 : Int) := by omega
   have i1n : (i1 : Int) <= (n : Int) := by have : i1 <= n := hin1; omega
   have CR2 := LH (run_any (co := co) (K := K) (some ⟨w4.heap.size, 0, none⟩) K.length _ _ HE2.out HR28.out (Going.fresh HE2.out 0 0 true (.inr rfl)) (fresh_zero n 0 0 true) ⟨by show 0 <= 100000; omega, by show 0 <= 100000; omega⟩ HR28.out.nodes.many.chg.size)
   rw [hKn] at CR2
   have HOUT := LH hout
   rw [hfe]
   clear hv hvn hend hsame hi1 hin1 hc8 hfin hfe hout CR
   go_wp2_with fail
   refine CR2.out.mono ?_
   rintro e w9 ⟨f', v', i2, rfl, hv', hvn', hend', hsame', hi2, hin2, hc9⟩
   obtain ⟨ub, ud, hve⟩ := hv'.slice
   subst hve
   have hfin := hend'.fine HE2.out HK.out.2.2.2.1 HK.out.2.2.2.2 (.inl hsame'.2.2)
   have hout' : f'.out = data := by
    rw [hfin.2]
    unfold FS.aim
    rw [hsame'.2.2]
    rfl
   have hfe := hfin.1
   have i2z : (1 : Int) <= (i2 : Int) := by omega
   have i2n : (i2 : Int) <= (n : Int) := by have : i2 <= n := hin2; omega
   have HC9 := LH (HC8.out.trans hc9 (fun x hx => .inr (HTT.out x (.inr hx))))
   have hb9 : BytesAt w9 (.slice ua f.out.length uc) f.out := HV.out.1.bytes.chgW hc9 (fun _ q hq hm => by
    have h1 := HV.out.2 q hq
    have h2 := HL2.out q hm
    omega)
   obtain ⟨g, o, hva, hpc⟩ := HD.out.piece a l (by omega) (by omega)
   have hdl : ((data.drop a).take l).length <= 1000000000 := by rw [List.length_take]; omega
   have CS1 : Hid (Calls Tryz.prog 14 #[.slice ua f.out.length uc, .slice (some ⟨g, o + a, none⟩) l (vc - a)] w9 fun e w' => e = .returned (.bool true) /\ ∃ n, w' = w9.drewN n) := LH ((same_any _ _ f.out _ w9 hb9 (hpc.chg HC9.out (by simp)) (by rw [HOUT.out]; exact hdl) hdl).mono fun e w' ⟨h1, h2⟩ => ⟨by rw [h1, HOUT.out]; simp, h2⟩)
   have CS2 : Hid (∀ nq, Calls Tryz.prog 14 #[.slice ub f'.out.length ud, .slice va data.length vc] (w9.drewN nq) fun e w' => e = .returned (.bool true) /\ ∃ n, w' = (w9.drewN nq).drewN n) := LH (fun nq => (same_any _ _ f'.out data (w9.drewN nq) (hv'.bytes.chg ((Chg.refl [] w9).drewN nq) (by simp)) (HD.out.chg (HC9.out.drewN nq) (by simp)) (by rw [hout']; omega) (by omega)).mono fun e w' ⟨h1, h2⟩ => ⟨by rw [h1, hout']; simp, h2⟩)
   subst hva
   have hcap := HD.out.cap.1
   have m5 : IntKind.i64.wrap ((a : Int) + (l : Int)) = ((a + l : Nat) : Int) := by rw [IntWalk.i64_in _ ⟨by omega, by omega⟩]; omega
   have hcz : 0 <= (a : Int) + (l : Int) /\ (a : Int) + (l : Int) <= (vc : Int) := by omega
   rw [hfe]
   clear hv' hvn' hend' hsame' hi2 hin2 hc9 hfin hfe hout' hb9 hpc hdl CR2 q1
   go_wp2_with fail
   refine CS1.out.mono ?_
   rintro e w10 ⟨rfl, nq, rfl⟩
   have CS3 := LH (CS2.out nq)
   clear CS1 CS2
   go_wp2_with fail
   refine CS3.out.mono ?_
   rintro e w11 ⟨rfl, nr, rfl⟩
   clear CS3
   go_wp2
   go_ret
   exact ⟨rfl, HC9.out.drewN (nq + nr)⟩
section
open Go.RowKit Go.ChangeShapes Go.WideShapes
def Came (w : World) (v : Value) (l : List UInt8) : Prop := BytesAt w v l /\ (l ≠ [] -> ∀ k, v.ownBlock = some k -> k < w.heap.size)
theorem Came.chg {w w' : World} {v : Value} {l : List UInt8} (h : Came w v l) (hc : Chg [] w w') : Came w' v l := ⟨h.1.chg hc (by simp), fun hl k hk => Nat.lt_of_lt_of_le (h.2 hl k hk) hc.size⟩
theorem toU8 (z : Int) (h : (Lit.int .u8 z).wf = true) : .int .u8 z = bv (UInt8.ofNat z.toNat) := by
 simp [Lit.wf, IntKind.min, IntKind.max, IntKind.signed, IntKind.bits] at h
 unfold bv
 rw [UInt8.toNat_ofNat']
 congr 1
 omega
section
variable {H : Type} {enc : TypeId × Value -> H} {w : World} {base : Nat} {held : Bool}
end
theorem IsRow.came {w : World} {a : Option Addr} {len cap : Nat} {zs : List Int} (h : IsRow .u8 w a len cap zs) : ∃ l, l.length = len /\ len <= maxLen /\ Came w (.slice a len cap) l := by
 rcases h with ⟨rfl, rfl, rfl, rfl⟩ | ⟨x, rfl, h1, h2, h3, h4, h5⟩
 ·exact ⟨[], rfl, by unfold maxLen; omega, BytesAt.nil w, by simp⟩
 ·have hlen : ((zs.take len).map (fun z => UInt8.ofNat z.toNat)).length = len := by rw [List.length_map, List.length_take]; omega
  have hg : ∀ i, i < len -> ((zs.take len).map (fun z => UInt8.ofNat z.toNat)).getD i 0 = UInt8.ofNat (zs.getD i 0).toNat := by
   intro i hi
   rw [List.getD_eq_getElem?_getD, List.getElem?_map, List.getElem?_take, if_pos hi, List.getD_eq_getElem?_getD, List.getElem?_eq_getElem (by omega)]
   rfl
  have hw : ∀ i, i < zs.length -> (Lit.int .u8 (zs.getD i 0)).wf = true := fun i hi => h5 _ (by
   rw [List.getD_eq_getElem?_getD, List.getElem?_eq_getElem hi]
   exact List.getElem_mem hi)
  refine ⟨_, hlen, by omega, ?_⟩
  by_cases hl0 : len = 0
  ·subst hl0
   have hnil : (zs.take 0).map (fun z => UInt8.ofNat z.toNat) = [] := by simp
   rw [hnil]
   by_cases hc0 : cap = 0
   ·subst hc0
    exact ⟨⟨some x, 0, rfl, Nat.le_refl _, by unfold maxLen; omega, .inl ⟨rfl, rfl⟩⟩, by simp⟩
   ·obtain ⟨g, o, spot⟩ := x
    have hc := h4 0 (by omega)
    have hspot : spot = none := by simpa [Addr.add] using World.cell?_spot hc
    subst hspot
    exact ⟨⟨some ⟨g, o, none⟩, cap, rfl, by simp, h2, .inr ⟨g, o, rfl, by simp⟩⟩, by simp⟩
  ·obtain ⟨g, o, spot⟩ := x
   have hc := h4 0 (by omega)
   have hspot : spot = none := by simpa [Addr.add] using World.cell?_spot hc
   subst hspot
   have hlt : g < w.heap.size := by
    have := World.block_lt_of_cell? w _ hc
    simpa [Addr.add] using this
   refine ⟨⟨some ⟨g, o, none⟩, cap, by rw [hlen], by omega, h2, .inr ⟨g, o, rfl, fun i hi => ?_⟩⟩, fun _ k hk => ?_⟩
   ·rw [hlen] at hi
    have := h4 i (by omega)
    rw [add_none] at this
    rw [this, hg i hi, <- toU8 _ (hw i (by omega))]
   ·obtain rfl : g = k := by simpa [Value.ownBlock] using hk
    exact hlt
end
end Go.Proofs.YtnbhanmpmjjkkaaGreatDoor.W
namespace Go.Proofs.YtnbhanmpmjjkkaaGreatDoor.fetchReads
open Go.RowKit
section
open Go.RowKit Go.ChangeShapes Go.WideShapes
theorem cellsOf_three : Tryz.prog.cellsOf 61 = 3 := by kernel_rfl
theorem cellsOf_u16 : Tryz.prog.cellsOf 40 = 1 := by kernel_rfl
theorem open_three {H : Type} {enc : TypeId × Value -> H} {w : World} {base base' : Nat} {held : Bool} {fuel : Nat} {v : Value} {x : DataW H × List MemPlace} (hv : Value.okWide Tryz.prog w .any base' 61 v)
  (h : DataW.trod enc Tryz.prog w base (fun _ => true) held fuel 61 v.cells.toList = some x) : ∃ z0 z1 z2 : Int, v = .agg #[.int .u16 z0, .int .u16 z1, .int .u16 z2] /\ (Lit.int .u16 z0).wf = true /\ (Lit.int .u16 z1).wf = true /\ (Lit.int .u16 z2).wf = true := by
 have hu := Tryz.underlying61
 unfold Value.okWide at hv
 simp only [hu] at hv
 obtain ⟨cs, rfl, hsz, _⟩ := hv
 rw [cellsOf_three] at hsz
 obtain ⟨a, b, c, rfl⟩ : ∃ a b c, cs = #[a, b, c] := by
  obtain ⟨l⟩ := cs
  match l, hsz with
  | [a, b, c], _ => exact ⟨a, b, c, rfl⟩
 cases fuel with
 | zero => simp [DataW.trod] at h
 | succ n =>
  unfold DataW.trod at h
  simp only [hu, Value.cells, cellsOf_three, cellsOf_u16] at h
  rw [if_pos (by simp)] at h
  obtain ⟨xs, hxs, _⟩ := Option.map_eq_some_iff.1 h
  rw [show List.range 3 = [0, 1, 2] from rfl, List.mapM_cons] at hxs
  obtain ⟨y0, h0, hxs⟩ := Option.bind_eq_some_iff.1 hxs
  rw [List.mapM_cons] at hxs
  obtain ⟨ys, hys, _⟩ := Option.bind_eq_some_iff.1 hxs
  obtain ⟨y1, h1, hys⟩ := Option.bind_eq_some_iff.1 hys
  rw [List.mapM_cons] at hys
  obtain ⟨yt, hyt, _⟩ := Option.bind_eq_some_iff.1 hys
  obtain ⟨y2, h2, _⟩ := Option.bind_eq_some_iff.1 hyt
  simp at h0 h1 h2
  obtain ⟨z0, e0, _, w0⟩ := DataW.trod_int Tryz.underlying40 h0
  obtain ⟨z1, e1, _, w1⟩ := DataW.trod_int Tryz.underlying40 h1
  obtain ⟨z2, e2, _, w2⟩ := DataW.trod_int Tryz.underlying40 h2
  simp at e0 e1 e2
  subst e0; subst e1; subst e2
  exact ⟨z0, z1, z2, rfl, w0, w1, w2⟩
theorem wf16 {z : Int} (h : (Lit.int .u16 z).wf = true) : 0 <= z /\ z <= 65535 := by
 simp [Lit.wf, IntKind.min, IntKind.max, IntKind.signed, IntKind.bits] at h
 omega
theorem walk {H : Type} {enc : TypeId × Value -> H} {held : Bool} {base b2 : Nat} (m : Int) (va : Option Addr) (vl vc : Nat) (zs : List Int) (v2 : Value) (d2 : DataW H) (p2 : List MemPlace) (X : World) (wm : (Lit.int .i64 m).wf = true) (hz : IsRow .u8 X va vl vc zs) (hv2 : Value.okWide Tryz.prog X .any b2 61 v2) (k2 : DataW.Trod enc Tryz.prog X base (fun _ => true) held 61 v2 d2 p2) :
  Calls Tryz.prog 6 #[.int .i64 m, .slice va vl vc, v2] X fun e w' => e = .returned (.bool true) /\ Below X.heap.size X w' := by
 obtain ⟨l, rfl, _, hv⟩ := Go.Proofs.YtnbhanmpmjjkkaaGreatDoor.W.IsRow.came hz
 obtain ⟨fuel, hf⟩ := k2
 obtain ⟨z0, z1, z2, rfl, w0, w1, w2⟩ := open_three hv2 hf
 exact (Go.Proofs.YtnbhanmpmjjkkaaGreatDoor.W.reads21_any m z0 z1 z2 l va vc X (wf16 w0) (wf16 w1) (wf16 w2) hv.1).mono fun e w' ⟨h1, h2⟩ => ⟨h1, h2.below (by simp)⟩
end
end Go.Proofs.YtnbhanmpmjjkkaaGreatDoor.fetchReads
