/- Texts laid together. -/
import Derived.Test.YtbkajnjboipbhaaGreatDoorNP1
import Derived.LoopTactic
import Derived.Test.YtbkajnjboipbhaaGreatDoorNP2
import Derived.Test.YtbkajnjboipbhaaGreatDoorNP6
import Derived.Test.YtbkajnjboipbhaaGreatDoorNP3
import Derived.Test.YtbkajnjboipbhaaGreatDoorNP4
import Derived.Test.YtbkajnjboipbhaaGreatDoorNP5
import Derived.Deep.MidRow
/- The reference's noughts. -/
namespace Go.Proofs.YtbkajnjboipbhaaGreatDoor.W
open Go.RowKit
set_option linter.unusedVariables false
set_option linter.unusedSimpArgs false

theorem allZ_true (l : List UInt8) (h : ∀ q, q < l.length → l.getD q 0 = 0) : allZ l = true := by
  rw [← ltrim_nil, ltrim_at l l.length (Nat.le_refl _) h (fun h => absurd h (by omega))]
  simp
theorem allZ_false (l : List UInt8) (k : Nat) (hk : k < l.length) (h : l.getD k 0 ≠ 0) : allZ l = false := by
  unfold allZ
  rw [List.all_eq_false]
  refine ⟨l[k], List.getElem_mem hk, ?_⟩
  rw [List.getD_eq_getElem?_getD, List.getElem?_eq_getElem hk] at h
  simpa using h

set_option maxHeartbeats 4000000 in
set_option maxRecDepth 100000 in
theorem rnought_any (v : Value) (l : List UInt8) (w : World) (h : BytesAt w v l) (hl : l.length ≤ 1000000000) :
    Calls Tryz.prog 73 #[v] w fun e w' => e = .returned (.bool (allZ l)) ∧ w = w' := by
  obtain ⟨a, cap, rfl, h1, h2, h3⟩ := h
  have H3 := Lib.hid h3
  clear h3
  go_enter Tryz.func73, Tryz.ntmps73
  go_wp2
  go_loop [3] (fun i => ∃ k : Nat, k ≤ l.length ∧ i = .int .i64 k ∧ Hid (∀ q, q < k → l.getD q 0 = 0)) (fun i => l.length - (intOf i).toNat)
  case atStart => exact ⟨0, Nat.zero_le _, rfl, Lib.hid (fun q hq => absurd hq (by omega))⟩
  case round =>
    obtain ⟨k, hk, rfl, HZ⟩ := hrel
    by_cases hlt : k < l.length
    · rcases H3.out with ⟨h0, _⟩ | ⟨g, o, rfl, hcell⟩
      · rw [h0] at hlt; simp at hlt
      have hcl : w.cell? ⟨g, o + k, none⟩ = some (.int .u8 ((l.getD k 0).toNat : Int)) := hcell k hlt
      obtain ⟨c, hc⟩ : ∃ c, c = l.getD k 0 := ⟨_, rfl⟩
      rw [← hc] at hcl
      have HC := Lib.hid hc
      have hkz : (k : Int) < (l.length : Int) := by omega
      have hkz1 : (k : Int).toNat = k := by omega
      clear hc hcell
      by_cases hc0 : c = 0
      · have hq : (((c.toNat : Int)) != 0) = false := by rw [hc0]; rfl
        have HZ1 : Hid (∀ q, q < k + 1 → l.getD q 0 = 0) := Lib.hid (fun q hq => by
          rcases Nat.lt_or_ge q k with h | h
          · exact HZ.out q h
          · obtain rfl : q = k := by omega
            rw [← HC.out, hc0])
        clear hc0
        go_wp2
        go_round
        case rel => exact ⟨k + 1, by omega, by go_num, HZ1⟩
        case measure => simp [intOf]; omega
      · have hq : (((c.toNat : Int)) != 0) = true := by
          rw [bne_iff_ne]
          intro h
          exact hc0 (UInt8.toNat_inj.1 (by simpa using h))
        have HF : Hid (allZ l = false) := Lib.hid (allZ_false l k hlt (by rw [← HC.out]; exact hc0))
        clear hc0
        go_wp2
        go_ret
        exact ⟨by rw [HF.out]; rfl, rfl⟩
    · have hkn : k = l.length := by omega
      have HF : Hid (allZ l = true) := Lib.hid (allZ_true l (by rw [← hkn]; exact HZ.out))
      clear hkn
      go_wp2
      go_ret
      exact ⟨by rw [HF.out]; rfl, rfl⟩
end Go.Proofs.YtbkajnjboipbhaaGreatDoor.W

/- The reference's readHead. -/
namespace Go.Proofs.YtbkajnjboipbhaaGreatDoor.W
open Go.RowKit
set_option linter.unusedVariables false
set_option linter.unusedSimpArgs false

set_option maxHeartbeats 2000000 in
set_option maxRecDepth 100000 in
theorem rnought_nil (a : Option Addr) (cap : Nat) (w : World) : Calls Tryz.prog 73 #[.slice a 0 cap] w fun e w' => e = .returned (.bool true) ∧ w = w' := by
  go_enter Tryz.func73, Tryz.ntmps73
  go_wp2
  go_loop [3] (fun i => i = .int .i64 0) (fun i => 0)
  case atStart => rfl
  case round =>
    subst hrel
    go_wp2
    go_ret
    exact ⟨rfl, rfl⟩
theorem rnought_eye (v : Value) (g : Nat) (l : List UInt8) (w : World) (h : REyeV w v g l) (hl : l.length ≤ 1000000) :
    Calls Tryz.prog 73 #[v] w fun e w' => e = .returned (.bool (allZ l)) ∧ w = w' := by
  rcases h with ⟨rfl, a, cap, rfl⟩ | ⟨o, cap, rfl, h1, h2, h3, hc⟩
  · exact rnought_nil a cap w
  · exact rnought_any _ l w ⟨_, cap, rfl, h1, h2, .inr ⟨g, o, rfl, hc⟩⟩ (by omega)
/-- What readHead answers. -/
def RHeadPost (b : List UInt8) (w : World) (e : Ending) (w' : World) : Prop :=
  Chg [] w w' ∧ match headOf b with
  | some r => ∃ kv, e = .returned (.tuple #[.agg #[.bool r.used, kv, .int .i64 (r.n : Int)], .bool true]) ∧ BRow w' kv r.key ∧ ∀ k, kv.ownBlock = some k → w.heap.size ≤ k
  | none => e = .returned (.tuple #[.agg #[.bool false, .slice none 0 0, .int .i64 0], .bool false])

set_option maxHeartbeats 8000000 in
set_option maxRecDepth 100000 in
theorem rhead_any (v : Value) (b : List UInt8) (w : World) (h : BytesAt w v b) (hl : b.length ≤ 1000000) :
    Calls Tryz.prog 118 #[v] w (RHeadPost b w) := by
  obtain ⟨a, cap, rfl⟩ := h.slice
  obtain ⟨w0, hw0⟩ : ∃ w0, w0 = w.alloc (.cells #[.bool false, .slice none 0 0, .int .i64 0] 125) := ⟨_, rfl⟩
  have hc0 : Chg [] w w0 := by rw [hw0]; exact (Chg.refl _ _).alloc _
  have hr0 : w0.heap[w.heap.size]? = some (.cells #[.bool false, .slice none 0 0, .int .i64 0] 125 (0, 0)) := by rw [hw0]; exact heap_alloc_new w _
  have h0 : BytesAt w0 (.slice a b.length cap) b := h.chg hc0 (by simp)
  have CZ := Lib.hid (rnought_any _ b w0 h0 (by omega))
  have HW0 := Lib.hid hw0
  have hfin : ∀ (w5 : World) (u0 u1 u2 : Value), Chg [] w w5 → Chg [] w (((w5.setCell ⟨w.heap.size, 0, none⟩ u0).setCell ⟨w.heap.size, 1, none⟩ u1).setCell ⟨w.heap.size, 2, none⟩ u2) := fun w5 u0 u1 u2 hc =>
    Chg.mono (S := [w.heap.size]) ((((hc.mono (by simp)).setCell (.inl (by simp)) _).setCell (.inl (by simp)) _).setCell (.inl (by simp)) _) (fun x hx => .inr (by simp at hx; omega))
  have HFIN := Lib.hid hfin
  clear hfin
  obtain ⟨rb, hrb⟩ : ∃ rb, rb = w.heap.size := ⟨_, rfl⟩
  have HRB := Lib.hid hrb
  by_cases hz : allZ b = true
  · have hh : headOf b = some noRow := by unfold headOf; rw [if_pos hz]
    have hP : ∀ w', Chg [] w w' → RHeadPost b w (.returned (.tuple #[.agg #[.bool false, .slice none 0 0, .int .i64 0], .bool true])) w' := fun w' hc => by
      refine ⟨hc, ?_⟩
      rw [hh]
      exact ⟨.slice none 0 0, rfl, BRow.nil _, by simp [Value.ownBlock]⟩
    have HP := Lib.hid hP
    have HC0 := Lib.hid hc0
    have HR0 := Lib.hid hr0
    rw [← hrb] at HR0 HFIN
    rw [hz] at CZ
    clear h h0 hz hh hP hc0 hr0 hw0 hrb
    go_enter Tryz.func118, Tryz.ntmps118
    go_wp2_with fail
    rw [← HW0.out, ← HRB.out]
    refine CZ.out.mono ?_
    rintro e w1 ⟨rfl, rfl⟩
    have c0 := blk_cell HR0.out 0 _ rfl
    have f0 := blk_frozen HR0.out 0
    have c1 := blk_cell HR0.out 1 _ rfl
    have f1 := blk_frozen HR0.out 1
    have c2 := blk_cell HR0.out 2 _ rfl
    have f2 := blk_frozen HR0.out 2
    have hl6 := blk_lt HR0.out
    go_wp2
    have hb3 := set3 (u0 := .bool false) (u1 := .slice none 0 0) (u2 := .int .i64 0) HR0.out
    refine bodyPost_ret (v := .tuple #[.agg #[.bool false, .slice none 0 0, .int .i64 0], .bool true]) (by simp [results, Tryz.results118, go_sem, blk_cell hb3 0 _ rfl, blk_cell hb3 1 _ rfl, blk_cell hb3 2 _ rfl]) rfl (HP.out _ (HFIN.out _ _ _ _ HC0.out))
  · have hzf : allZ b = false := by simpa using hz
    have hhd : headOf b = if (eyeRaw (eyeNum (eyeNum b 0 1).2.1 (eyeNum b 0 1).2.2 2).2.1 (eyeNum (eyeNum b 0 1).2.1 (eyeNum b 0 1).2.2 2).2.2 40).2.2 ≠ 0 ∨ (eyeNum b 0 1).1 ≠ 1 ∨ 448 < (eyeNum (eyeNum b 0 1).2.1 (eyeNum b 0 1).2.2 2).1 ∨
      allZ (eyeRaw (eyeNum (eyeNum b 0 1).2.1 (eyeNum b 0 1).2.2 2).2.1 (eyeNum (eyeNum b 0 1).2.1 (eyeNum b 0 1).2.2 2).2.2 40).2.1 = false then none
    else some ⟨true, (eyeNum (eyeNum b 0 1).2.1 (eyeNum b 0 1).2.2 2).1.toNat, (eyeRaw (eyeNum (eyeNum b 0 1).2.1 (eyeNum b 0 1).2.2 2).2.1 (eyeNum (eyeNum b 0 1).2.1 (eyeNum b 0 1).2.2 2).2.2 40).1⟩ := by
      unfold headOf; rw [if_neg hz]
    rw [hzf] at CZ
    have hn2 := eyeNum_nonneg (eyeNum b 0 1).2.1 (eyeNum b 0 1).2.2 2
    have CN1 := fun (b' g : Nat) (w' : World) (h : REyeAt w' b' g b 0) => rnum_any b' g b 0 1 w' h (by omega) (by omega)
    rw [show (1 : Int).toNat = 1 from rfl] at CN1
    generalize hr1 : eyeNum b 0 1 = r1 at *
    have CN2 := fun (b' g : Nat) (w' : World) (h : REyeAt w' b' g r1.2.1 r1.2.2) => rnum_any b' g r1.2.1 r1.2.2 2 w' h (by omega) (by omega)
    rw [show (2 : Int).toNat = 2 from rfl] at CN2
    generalize hr2 : eyeNum r1.2.1 r1.2.2 2 = r2 at *
    have CR3 := fun (b' g : Nat) (w' : World) (h : REyeAt w' b' g r2.2.1 r2.2.2) => rraw_any b' g r2.2.1 r2.2.2 40 w' h (by omega)
    generalize hr3 : eyeRaw r2.2.1 r2.2.2 40 = r3 at *
    obtain ⟨k1, l1, e1⟩ := r1
    obtain ⟨k2, l2, e2⟩ := r2
    obtain ⟨key, l3, e3⟩ := r3
    dsimp only at hhd hn2 CN1 CN2 CR3
    clear hr1 hr2 hr3
    have HHD := Lib.hid hhd
    have HN1 := Lib.hid CN1
    have HN2 := Lib.hid CN2
    have HR3 := Lib.hid CR3
    have HC0 := Lib.hid hc0
    have HR0 := Lib.hid hr0
    rw [← hrb] at HR0 HFIN
    have hbn : b ≠ [] := fun e => hz (by rw [e]; rfl)
    have hE0 : ∃ g, g < w0.heap.size ∧ REyeV w0 (.slice a b.length cap) g b := by
      obtain ⟨a', c', he, h1, h2, h3⟩ := h0
      obtain ⟨rfl, rfl⟩ : a = a' ∧ cap = c' := by simpa using he
      rcases h3 with ⟨h3, _⟩ | ⟨g, o, rfl, hcell⟩
      · exact absurd h3 hbn
      · have hg := World.block_lt_of_cell? w0 _ (hcell 0 (List.length_pos_iff.2 hbn))
        exact ⟨g, hg, .inr ⟨o, cap, rfl, h1, h2, hg, hcell⟩⟩
    obtain ⟨eg, heg, hEV⟩ := hE0
    obtain ⟨w1, hw1⟩ : ∃ w1, w1 = w0.alloc (.cells #[.slice a b.length cap, .int .i64 0] 166) := ⟨_, rfl⟩
    have hc1 : Chg [] w0 w1 := by rw [hw1]; exact (Chg.refl _ _).alloc _
    obtain ⟨eb, heb⟩ : ∃ eb, eb = w0.heap.size := ⟨_, rfl⟩
    have HEB := Lib.hid heb
    have HE1 : Hid (REyeAt w1 eb eg b 0) := Lib.hid ⟨_, by rw [hw1, heb]; exact heap_alloc_new w0 _, hEV.keepC hc1 (by simp), by omega, hl⟩
    have hrlt := blk_lt hr0
    rw [← hrb] at hrlt
    have hreb : rb < eb := by omega
    have hweb : w.heap.size ≤ eb := by omega
    have HRW1 : Hid (w1.heap[rb]? = some (.cells #[.bool false, .slice none 0 0, .int .i64 0] 125 (0, 0))) := Lib.hid (hc1.keep HR0.out (by simp))
    have HC1 : Hid (Chg [] w w1) := Lib.hid (hc0.trans hc1 (by simp))
    have HW1 := Lib.hid hw1
    have HWE := Lib.hid hweb
    have hne : rb ∉ [eb] := by simp; omega
    have HNE := Lib.hid hne
    have HNW : Hid (∀ x, x ∈ [eb] → x ∈ ([] : List Nat) ∨ w.heap.size ≤ x) := Lib.hid (fun x hx => .inr (by simp at hx; omega))
    clear h h0 hz hzf hhd CN1 CN2 CR3 hc0 hr0 hw0 hbn heg hEV hw1 hc1 heb hrlt hreb hweb hne hrb
    go_enter Tryz.func118, Tryz.ntmps118
    go_wp2_with fail
    rw [← HW0.out, ← HRB.out]
    refine CZ.out.mono ?_
    rintro e w' ⟨rfl, rfl⟩
    go_wp2_with fail
    rw [← HW1.out, ← HEB.out]
    refine (HN1.out eb eg w1 HE1.out).mono ?_
    rintro e w3 ⟨rfl, hE3, hc3⟩
    have HC3 := Lib.hid (HC1.out.trans hc3 HNW.out)
    have HRW3 := Lib.hid (hc3.keep HRW1.out HNE.out)
    have HE3 := Lib.hid hE3
    clear hE3 hc3 HE1 HC1 HRW1
    go_wp2_with fail
    refine (HN2.out eb eg w3 HE3.out).mono ?_
    rintro e w4 ⟨rfl, hE4, hc4⟩
    have HC4 := Lib.hid (HC3.out.trans hc4 HNW.out)
    have HRW4 := Lib.hid (hc4.keep HRW3.out HNE.out)
    have HE4 := Lib.hid hE4
    clear hE4 hc4 HE3 HC3 HRW3
    go_wp2_with fail
    refine (HR3.out eb eg w4 HE4.out).mono ?_
    rintro e w5 ⟨kv, rfl, hkr, hkn, hE5, hc5⟩
    have HC5 := Lib.hid (HC4.out.trans hc5 HNW.out)
    have HRW5 := Lib.hid (hc5.keep HRW4.out HNE.out)
    have HKN : Hid (∀ k, kv.ownBlock = some k → w.heap.size < k) := Lib.hid (fun k hk => by
      have h1 := hkn k hk
      have h2 := blk_lt HRW4.out
      rw [HRB.out] at h2
      omega)
    have hkform : ∃ a5 c5, kv = .slice a5 key.length c5 := by
      obtain ⟨a5, c5, h5, _⟩ := hkr.bytes
      exact ⟨a5, c5, h5⟩
    obtain ⟨a5, c5, hkv⟩ := hkform
    have HKV := Lib.hid hkv
    have HK5 := Lib.hid hkr
    obtain ⟨ev, heh, hev, _, hl3⟩ := hE5
    have d0 := blk_cell heh 0 _ rfl
    have d1 := blk_cell heh 1 _ rfl
    have CZ3 := Lib.hid (rnought_eye ev eg l3 w5 hev hl3)
    obtain ⟨av, lv, cv, hevv⟩ : ∃ a L cap, ev = .slice a L cap := by obtain ⟨a, c, h⟩ := hev.slice; exact ⟨a, _, c, h⟩
    subst hevv
    clear hc5 HC4 HRW4 HE4 hkr hkn hkv heh hev hl3
    have hPn : ∀ (w' : World), (e3 ≠ 0 ∨ k1 ≠ 1 ∨ 448 < k2 ∨ allZ l3 = false) → Chg [] w w' → RHeadPost b w (.returned (.tuple #[.agg #[.bool false, .slice none 0 0, .int .i64 0], .bool false])) w' := fun w' h1 h3 => by
      refine ⟨h3, ?_⟩
      rw [HHD.out, if_pos h1]
    have hPs : ∀ (kv : Value) (w' : World), ¬ (e3 ≠ 0 ∨ k1 ≠ 1 ∨ 448 < k2 ∨ allZ l3 = false) → Chg [] w w' → BRow w' kv key → (∀ k, kv.ownBlock = some k → w.heap.size ≤ k) → RHeadPost b w (.returned (.tuple #[.agg #[.bool true, kv, .int .i64 k2], .bool true])) w' := fun kv w' h1 h2 h3 h4 => by
      refine ⟨h2, ?_⟩
      rw [HHD.out, if_neg h1]
      exact ⟨kv, by rw [show ((k2.toNat : Nat) : Int) = k2 by omega], h3, h4⟩
    have HPN := Lib.hid hPn
    have HPS := Lib.hid hPs
    clear hPn hPs
    have c0 := blk_cell HRW5.out 0 _ rfl
    have f0 := blk_frozen HRW5.out 0
    have c1 := blk_cell HRW5.out 1 _ rfl
    have f1 := blk_frozen HRW5.out 1
    have c2 := blk_cell HRW5.out 2 _ rfl
    have f2 := blk_frozen HRW5.out 2
    have hl6 := blk_lt HRW5.out
    by_cases he3 : e3 = 0
    · have q1 : (e3 != 0) = false := by simp [he3]
      by_cases hk1 : k1 = 1
      · have q2 : (k1 != 1) = false := by simp [hk1]
        by_cases hk2 : 448 < k2
        · have q3 : decide (k2 > 448) = true := decide_eq_true hk2
          have HPX := Lib.hid (HPN.out · (.inr (.inr (.inl hk2))))
          clear he3 hk1 hk2
          go_wp2
          have hb3 := set3 (u0 := .bool false) (u1 := .slice none 0 0) (u2 := .int .i64 0) HRW5.out
          exact bodyPost_ret (v := .tuple #[.agg #[.bool false, .slice none 0 0, .int .i64 0], .bool false]) (by simp [results, Tryz.results118, go_sem, blk_cell hb3 0 _ rfl, blk_cell hb3 1 _ rfl, blk_cell hb3 2 _ rfl]) rfl (HPX.out _ (HFIN.out _ _ _ _ HC5.out))
        · have q3 : decide (k2 > 448) = false := decide_eq_false hk2
          have HK := Lib.hid (And.intro he3 (And.intro hk1 hk2))
          clear he3 hk1 hk2
          go_wp2_with fail
          refine CZ3.out.mono ?_
          rintro e w' ⟨rfl, rfl⟩
          by_cases hz3 : allZ l3 = true
          · have hno : ¬ (e3 ≠ 0 ∨ k1 ≠ 1 ∨ 448 < k2 ∨ allZ l3 = false) := by
              obtain ⟨h1, h2, h3⟩ := HK.out
              rw [hz3]; simp [h1, h2]; omega
            have HPX := Lib.hid (HPS.out · · hno)
            rw [hz3]
            clear hz3 hno
            obtain rfl := HKV.out
            go_wp2
            have hb3 := set3 (u0 := .bool true) (u1 := .slice a5 key.length c5) (u2 := .int .i64 k2) HRW5.out
            refine bodyPost_ret (v := .tuple #[.agg #[.bool true, .slice a5 key.length c5, .int .i64 k2], .bool true]) (by simp [results, Tryz.results118, go_sem, blk_cell hb3 0 _ rfl, blk_cell hb3 1 _ rfl, blk_cell hb3 2 _ rfl]) rfl (HPX.out _ _ (HFIN.out _ _ _ _ HC5.out) ?_ (fun k hk => Nat.le_of_lt (HKN.out k hk)))
            exact HK5.out.keep (fun k hk => by
              have hne := HKN.out k hk
              have hrb := HRB.out
              exact ((Below.heap_setCell _ ⟨rb, 2, none⟩ _ k (by show k ≠ rb; omega)).trans (Below.heap_setCell _ ⟨rb, 1, none⟩ _ k (by show k ≠ rb; omega))).trans (Below.heap_setCell _ ⟨rb, 0, none⟩ _ k (by show k ≠ rb; omega)))
          · have hzf : allZ l3 = false := by simpa using hz3
            have HPX := Lib.hid (HPN.out · (.inr (.inr (.inr hzf))))
            rw [hzf]
            clear hz3 hzf
            go_wp2
            have hb3 := set3 (u0 := .bool false) (u1 := .slice none 0 0) (u2 := .int .i64 0) HRW5.out
            exact bodyPost_ret (v := .tuple #[.agg #[.bool false, .slice none 0 0, .int .i64 0], .bool false]) (by simp [results, Tryz.results118, go_sem, blk_cell hb3 0 _ rfl, blk_cell hb3 1 _ rfl, blk_cell hb3 2 _ rfl]) rfl (HPX.out _ (HFIN.out _ _ _ _ HC5.out))
      · have q2 : (k1 != 1) = true := by simp [hk1]
        have HPX := Lib.hid (HPN.out · (.inr (.inl hk1)))
        clear he3 hk1
        go_wp2
        have hb3 := set3 (u0 := .bool false) (u1 := .slice none 0 0) (u2 := .int .i64 0) HRW5.out
        exact bodyPost_ret (v := .tuple #[.agg #[.bool false, .slice none 0 0, .int .i64 0], .bool false]) (by simp [results, Tryz.results118, go_sem, blk_cell hb3 0 _ rfl, blk_cell hb3 1 _ rfl, blk_cell hb3 2 _ rfl]) rfl (HPX.out _ (HFIN.out _ _ _ _ HC5.out))
    · have q1 : (e3 != 0) = true := by simp [he3]
      have HPX := Lib.hid (HPN.out · (.inl he3))
      clear he3
      go_wp2
      have hb3 := set3 (u0 := .bool false) (u1 := .slice none 0 0) (u2 := .int .i64 0) HRW5.out
      exact bodyPost_ret (v := .tuple #[.agg #[.bool false, .slice none 0 0, .int .i64 0], .bool false]) (by simp [results, Tryz.results118, go_sem, blk_cell hb3 0 _ rfl, blk_cell hb3 1 _ rfl, blk_cell hb3 2 _ rfl]) rfl (HPX.out _ (HFIN.out _ _ _ _ HC5.out))
end Go.Proofs.YtbkajnjboipbhaaGreatDoor.W

/- The reference's slots: Get. -/
namespace Go.Proofs.YtbkajnjboipbhaaGreatDoor.W
open Go.RowKit
set_option linter.unusedVariables false
set_option linter.unusedSimpArgs false

/-- What is read of the disk. -/
theorem RDiskAt.read {w : World} {m : Nat} {V F : List Nat} {d : DS} (h : RDiskAt w m V F d) :
    w.cell? ⟨m, 6, none⟩ = some (.bool d.dead) ∧ d.n ≤ 4160 ∧ ∃ a cap, w.cell? ⟨m, 0, none⟩ = some (.slice a d.n cap) ∧ ∀ k, k < d.n → ∃ g ax cx, a = some ⟨g, 0, none⟩ ∧ w.cell? ⟨g, k, none⟩ = some (.slice ax 64 cx) ∧ BytesAt w (.slice ax 64 cx) (d.now k) ∧ (d.now k).length = 64 := by
  obtain ⟨nv, lv, av, wv, NV, LV, AV, WV, H⟩ := h
  have hrow := H.row.1
  have c0 : w.cell? ⟨m, 0, none⟩ = some nv := blk_cell H.head 0 _ rfl
  refine ⟨blk_cell H.head 6 _ rfl, H.few, ?_⟩
  by_cases hn : 0 < d.n
  · obtain ⟨⟨gn, cn, hnv⟩, _⟩ := H.form hn
    refine ⟨_, cn, by rw [c0, hnv], fun k hk => ?_⟩
    rw [hnv] at hrow
    obtain ⟨hNl, k0, _, _⟩ := own_cell hrow k hk
    obtain ⟨b1, b2, b3⟩ := H.now k hk
    obtain ⟨ax, cx, hx⟩ := b2.slice
    rw [b1] at hx
    rw [hx] at k0 b2
    exact ⟨gn, ax, cx, rfl, k0, b2, b1⟩
  · rcases hrow.2 with ⟨h1, h2⟩ | ⟨g, cap, cur, h1, _⟩
    · exact ⟨none, 0, by rw [c0, h1]; simp; omega, fun k hk => by omega⟩
    · exact ⟨_, cap, by rw [c0, h1], fun k hk => by omega⟩

set_option maxHeartbeats 8000000 in
set_option maxRecDepth 100000 in
theorem rget_any (q m : Nat) (W A : List Nat) (s : SS) (i : Int) (w : World) (h : RSlotsAt w q m W A s) : Calls Tryz.prog 86 #[.pointer (some ⟨q, 0, none⟩), .int .i64 i] w (GetPost (s.get i) w) := by
  obtain ⟨V, F, rv, R, H⟩ := h
  have HH := Lib.hid H
  have c0 : w.cell? ⟨q, 0, none⟩ = some (.pointer (some ⟨m, 0, none⟩)) := blk_cell H.obj.head 0 _ rfl
  have c1 : w.cell? ⟨q, 1, none⟩ = some (.int .i64 (s.first : Int)) := blk_cell H.obj.head 1 _ rfl
  have c2 : w.cell? ⟨q, 2, none⟩ = some rv := blk_cell H.obj.head 2 _ rfl
  obtain ⟨a0, cap0, hrv0, hcap0⟩ := H.form
  have hfew := H.few
  by_cases hi : s.has i
  · have hi' := hi
    obtain ⟨h0, h1⟩ := hi'
    obtain ⟨j, rfl⟩ := Int.eq_ofNat_of_zero_le h0
    have hjl : j < s.rows.length := by omega
    obtain ⟨g, cap, kv, hrv, hcap, hcm, k0, k1, k2, k3, k4⟩ := H.at j hjl
    have hrow : s.row (j : Int) = s.rows.getD j noRow := rfl
    have hn448 : (s.rows.getD j noRow).n ≤ 448 := by
      rw [List.getD_eq_getElem?_getD, List.getElem?_eq_getElem hjl]
      exact (H.ok.rows _ (List.getElem_mem _)).1
    have hroom := H.ok.room
    have q0 : decide ((j : Int) < 0) = false := decide_eq_false (by omega)
    have q1 : decide ((j : Int) ≥ (s.rows.length : Int)) = false := decide_eq_false (by omega)
    by_cases hu : (s.row (j : Int)).used = false
    · have hg : s.get (j : Int) = ([], 6) := by unfold SS.get; rw [if_neg (by simpa using hi), if_pos hu]
      have HP := Lib.hid (fun (w' : World) (hc : Chg [] w w') => GetPost.nil (c := 6) hc)
      have HG := Lib.hid hg
      rw [HG.out]
      rw [hrow] at hu
      rw [hu] at k0
      subst hrv
      generalize s.rows.getD j noRow = r at *
      generalize s.rows.length = n at *
      have hjz : (j : Int) < (n : Int) := by omega
      have hjz1 : (j : Int).toNat = j := by omega
      clear H HH c0 c1 k1 k2 k3 k4 hu hg hi hrow hroom hrv0
      go_enter Tryz.func86, Tryz.ntmps86
      go_wp2
      go_ret2
      exact HP.out _ (Chg.refl _ _)
    · have hu' : (s.rows.getD j noRow).used = true := by rw [← hrow]; simpa using hu
      have hg : s.get (j : Int) = if s.d.dead then ([], 14) else (s.data (j : Int), 0) := by
        unfold SS.get; rw [if_neg (by simpa using hi), if_neg hu]
      have hdat : s.data (j : Int) = (flat (nsec (s.rows.getD j noRow).n) (fun k => s.d.now (s.pos j + 1 + k))).take (s.rows.getD j noRow).n := rfl
      have hpos : s.pos (j : Int) = s.first + 8 * j := rfl
      rw [hu'] at k0
      obtain ⟨p6, hnd, an, cn, p0, hsec⟩ := H.disk.read
      subst hrv
      have HG := Lib.hid hg
      have HDAT := Lib.hid hdat
      have HSEC := Lib.hid (fun wr (hc : Chg [] w wr) => ((H.keep hc (by simp)).disk.read).2.2)
      have hfj : ((s.first : Int) + (j : Int) * 8) = ((s.pos (j : Int) : Nat) : Int) := by rw [hpos]; omega
      have hpl : s.pos (j : Int) + 8 ≤ s.d.n := by rw [hpos]; omega
      have hff : s.first ≤ 4160 := by omega
      generalize hrr : s.rows.getD j noRow = r at *
      generalize s.pos (j : Int) = pos at *
      generalize hrl : s.rows.length = n at *
      generalize s.first = fst at *
      have hjz : (j : Int) < (n : Int) := by omega
      have hjz1 : (j : Int).toNat = j := by omega
      have hj5 : j ≤ 1000 := by omega
      have hnj : ¬ n ≤ j := by omega
      have hm7 : nsec r.n ≤ 7 := by unfold nsec; omega
      have hmn : r.n ≤ nsec r.n * 64 := by unfold nsec; omega
      have hmm : ∀ k, k < nsec r.n ↔ k * 64 < r.n := fun k => by unfold nsec; omega
      obtain ⟨M, hM⟩ : ∃ M, M = nsec r.n := ⟨_, rfl⟩
      rw [← hM] at hm7 hmn hmm
      have HM := Lib.hid hM
      obtain ⟨rn, hrn⟩ : ∃ rn, rn = r.n := ⟨_, rfl⟩
      rw [← hrn] at hmn k2 hn448 hmm
      have HRN := Lib.hid hrn
      have HMM := Lib.hid hmm
      clear H k1 k3 k4 hu' hg hi hrow hdat hroom hM hrn hrr hrl hu hfew hpos hmm hsec hrv0
      by_cases hd : s.d.dead = true
      · have HP := Lib.hid (fun (w' : World) (hc : Chg [] w w') => GetPost.nil (c := 14) hc)
        have HGG : Hid (s.get (j : Int) = ([], 14)) := Lib.hid (by rw [HG.out, if_pos hd])
        rw [HGG.out]
        rw [hd] at p6
        clear hd
        go_enter Tryz.func86, Tryz.ntmps86
        go_wp2
        go_ret2
        exact HP.out _ (Chg.refl _ _)
      · have hd' : s.d.dead = false := by simpa using hd
        have HGG : Hid (s.get (j : Int) = (s.data (j : Int), 0)) := Lib.hid (by rw [HG.out, if_neg hd])
        rw [HGG.out]
        rw [hd'] at p6
        have HC := Lib.hid (And.intro c0 (And.intro c2 (And.intro k0 k2)))
        have HP0 := Lib.hid p0
        clear hd hd'
        go_enter Tryz.func86, Tryz.ntmps86
        go_wp2_with fail
        go_loopg [6, 8] M (fun g' s6 s8 wr => ∃ (k : Nat) (a6 : Option Addr) (c6 : Nat), s6 = .slice a6 (k * 64) c6 ∧ s8 = .int .i64 (k : Int) ∧ k ≤ M ∧ M ≤ k + g' ∧ Hid (BRow wr s6 (flat k (fun k => s.d.now (pos + 1 + k))) ∧ (∀ g, s6.ownBlock = some g → w.heap.size ≤ g) ∧ Chg [] w wr))
        case atStart => exact ⟨0, none, 0, rfl, rfl, by omega, by omega, Lib.hid ⟨BRow.nil _, by simp [Value.ownBlock], Chg.refl _ _⟩⟩
        case round =>
          obtain ⟨k, a6, c6, rfl, rfl, hk, hkg, HR⟩ := hrel
          obtain ⟨s6, hs6⟩ : ∃ s6, s6 = Value.slice a6 (k * 64) c6 := ⟨_, rfl⟩
          have HS6 := Lib.hid hs6
          rw [← hs6] at HR
          clear hs6 c0 c2 k0 k2 p0 p6 c1
          have c0 := HR.out.2.2.cell HC.out.1 (by simp)
          have c2 := HR.out.2.2.cell HC.out.2.1 (by simp)
          have k2 := HR.out.2.2.cell HC.out.2.2.2 (by simp)
          have p0 := HR.out.2.2.cell HP0.out (by simp)
          have hmk := HMM.out k
          by_cases hlt : k < M
          · have hk64 : decide ((k : Int) * 64 < (rn : Int)) = true := decide_eq_true (by have := hmk.1 hlt; omega)
            obtain ⟨a', c', e', hsec⟩ := HSEC.out wr HR.out.2.2
            obtain ⟨rfl, rfl⟩ : an = a' ∧ cn = c' := by
              have := p0.symm.trans e'
              simpa using this
            obtain ⟨gn, ax, cx, rfl, e1, b1, l1⟩ := hsec (pos + 1 + k) (by omega)
            have HB3 := Lib.hid b1
            have HL1 := Lib.hid l1
            have hpk : ((pos : Int) + 1 + (k : Int)).toNat = pos + 1 + k := by omega
            have hpz : (0 : Int) ≤ (pos : Int) + 1 + (k : Int) := by omega
            have hpn : (pos : Int) + 1 + (k : Int) < (s.d.n : Int) := by omega
            have hlen64 : Hid (∀ x, x < s.d.n → (s.d.now x).length = 64) := Lib.hid (fun x hx => by
              obtain ⟨_, _, _, _, _, _, h9⟩ := hsec x hx
              exact h9)
            have hsz : Hid ((flat k (fun k => s.d.now (pos + 1 + k))).length + (s.d.now (pos + 1 + k)).length ≤ 140737488355328) := Lib.hid (by
              rw [flat_len k _ (fun i hi => hlen64.out _ (by omega)), HL1.out]; omega)
            clear e' hsec b1 l1
            go_wp2_with (at_builtin; refine wpList_appB rfl (.tmp 57) (.tmp 69) rfl s6 (flat k (fun k => s.d.now (pos + 1 + k))) HS6.out.symm HR.out.1 _ (s.d.now (pos + 1 + k)) (by rfl) HB3.out hsz.out ?_; intro v4 w4 ho4 hg4 hat4)
            have HO4 := Lib.hid ho4
            have HG4 := Lib.hid hg4
            have HA4 := Lib.hid hat4
            clear ho4 hg4 hat4
            go_roundg (gk - 1)
            case measure => omega
            case rel =>
              have hr : BRow w4 v4 (flat (k + 1) (fun k => s.d.now (pos + 1 + k))) := by rw [flat_succ]; exact HO4.out
              obtain ⟨a, c4, he, _⟩ := hr.bytes
              rw [flat_len (k + 1) _ (fun i hi => hlen64.out _ (by omega))] at he
              refine ⟨k + 1, a, c4, he, by go_num, by omega, by omega, Lib.hid ⟨hr, fun g hg => ?_, HR.out.2.2.grown HG4.out (fun g hg => .inr (HR.out.2.1 g hg))⟩⟩
              rcases HA4.out with h | h
              · exact HR.out.2.1 g (by rw [← h]; exact hg)
              · rw [h] at hg
                have h1 := HR.out.2.2.size
                have h2 : wr.heap.size = g := by simpa using hg
                omega
          · have hkm : k = M := by omega
            have hk64 : decide ((k : Int) * 64 < (rn : Int)) = false := decide_eq_false (by
              have := fun h => hlt (hmk.2 h)
              omega)
            obtain rfl := hkm.symm
            obtain ⟨a', c', e', hsec⟩ := HSEC.out wr HR.out.2.2
            have hlen64 : Hid (∀ x, x < s.d.n → (s.d.now x).length = 64) := Lib.hid (fun x hx => by
              obtain ⟨_, _, _, _, _, _, h9⟩ := hsec x hx
              exact h9)
            have hfl := flat_len M (fun k => s.d.now (pos + 1 + k)) (fun i hi => hlen64.out _ (by omega))
            have hlt2 : ((flat M (fun k => s.d.now (pos + 1 + k))).take rn).length = rn := by rw [List.length_take]; omega
            have hcb : M * 64 ≤ c6 := by
              obtain ⟨_, c, he, h1, _⟩ := HR.out.1.bytes
              rw [HS6.out] at he
              have e1 := (Value.slice.inj he).2.1
              have e2 := (Value.slice.inj he).2.2
              omega
            have hcm6 : c6 ≤ maxLen := by
              obtain ⟨_, c, he, h1, h2, _⟩ := HR.out.1.bytes
              rw [HS6.out] at he
              have e2 := (Value.slice.inj he).2.2
              omega
            have hb : BytesAt wr (.slice a6 rn c6) (s.data (j : Int)) := by
              obtain ⟨a, c, he, h1, h2, h3⟩ := HR.out.1.bytes
              rw [HS6.out] at he
              obtain rfl := (Value.slice.inj he).1
              obtain rfl := (Value.slice.inj he).2.2
              rw [HDAT.out, ← HM.out, ← HRN.out]
              refine ⟨a6, c6, by rw [hlt2], by rw [hlt2]; omega, h2, ?_⟩
              rcases h3 with ⟨h3, h4⟩ | ⟨g, o, e, hcell⟩
              · left
                exact ⟨by rw [h3]; simp, h4⟩
              · right
                refine ⟨g, o, e, fun x hx => ?_⟩
                rw [hlt2] at hx
                rw [getD_take _ _ _ hx]
                exact hcell x (by omega)
            have hdl : (s.data (j : Int)).length ≤ 1000000000 := by rw [HDAT.out, ← HM.out, ← HRN.out, hlt2]; omega
            have CC := Lib.hid (rcopy_any (.slice a6 rn c6) (s.data (j : Int)) wr hb hdl)
            unfold maxLen at hcm6
            have hrz : (rn : Int) ≤ (c6 : Int) := by omega
            have hrz1 : (rn : Int).toNat = rn := by omega
            obtain rfl := HS6.out
            clear e' hsec hfl hlt2 hb hdl
            go_wp2_with fail
            refine CC.out.mono ?_
            rintro e w5 ⟨v5, rfl, hb5, ho5, hc5⟩
            have HFIN : Hid (GetPost (s.data (j : Int), 0) w (.returned (.tuple #[v5, .int .i64 0])) w5) := Lib.hid ⟨⟨_, rfl, hb5.bytes, fun g hg => Nat.le_trans HR.out.2.2.size (ho5 g hg)⟩, HR.out.2.2.trans hc5 (by simp)⟩
            clear hb5 ho5 hc5
            go_wp2
            go_ret2
            exact HFIN.out
  · have hg : s.get i = ([], 1) := by unfold SS.get; rw [if_pos (by simpa using hi)]
    have HP := Lib.hid (fun (w' : World) (hc : Chg [] w w') => GetPost.nil (c := 1) hc)
    have HG := Lib.hid hg
    rw [HG.out]
    have HI := Lib.hid hi
    subst hrv0
    generalize hnn : s.rows.length = n at *
    have HNN := Lib.hid hnn
    clear H HH hg hi hfew c0 c1
    by_cases h0 : i < 0
    · have q0 : decide (i < 0) = true := decide_eq_true h0
      go_enter Tryz.func86, Tryz.ntmps86
      go_wp2
      go_ret2
      exact HP.out _ (Chg.refl _ _)
    · have q0 : decide (i < 0) = false := decide_eq_false h0
      have q1 : decide (i ≥ (n : Int)) = true := decide_eq_true (by
        have h9 := HI.out
        unfold SS.has at h9
        have h8 := HNN.out
        omega)
      go_enter Tryz.func86, Tryz.ntmps86
      go_wp2
      go_ret2
      exact HP.out _ (Chg.refl _ _)
end Go.Proofs.YtbkajnjboipbhaaGreatDoor.W

/- The reference's store: plainly; in memory; unkey. -/
namespace Go.Proofs.YtbkajnjboipbhaaGreatDoor.W
open Go.RowKit
set_option linter.unusedVariables false
set_option linter.unusedSimpArgs false

/-! ### Plainly -/
theorem upto_none {rows : List SRow} {k : List UInt8} : ∀ n : Nat, (∀ j, j < n → rowIs rows k j = false) → upto rows n k = [] := fun n h => by
  unfold upto
  rw [List.filter_eq_nil_iff]
  intro j hj
  rw [h j (List.mem_range.1 hj)]
  simp
theorem upto_first {rows : List SRow} {k : List UInt8} {i : Nat} (hi : rowIs rows k i = true) (h0 : ∀ j, j < i → rowIs rows k j = false) : ∀ n : Nat, i < n → ∃ r, upto rows n k = i :: r
  | 0, h => by omega
  | n + 1, h => by
    rw [upto_succ]
    by_cases hin : i < n
    · obtain ⟨r, hr⟩ := upto_first hi h0 n hin
      exact ⟨_, by rw [hr, List.cons_append]⟩
    · obtain rfl : i = n := by omega
      rw [upto_none i h0, hi]
      exact ⟨[], rfl⟩
theorem rowFind_spec (key : List UInt8) : ∀ (l : List SRow) (k : Nat), (rowFind key l k = -1 ∧ ∀ j, j < l.length → rowIs l key j = false) ∨ ∃ n, n < l.length ∧ rowFind key l k = ((k + n : Nat) : Int) ∧ rowIs l key n = true ∧ ∀ j, j < n → rowIs l key j = false
  | [], k => .inl ⟨rfl, fun j hj => by simp at hj⟩
  | r :: rs, k => by
    unfold rowFind
    by_cases h : (r.used && decide (r.key = key)) = true
    · rw [if_pos h]
      exact .inr ⟨0, by simp, by simp, h, fun j hj => by omega⟩
    · rw [if_neg h]
      have h' : (r.used && decide (r.key = key)) = false := by simpa using h
      rcases rowFind_spec key rs (k + 1) with ⟨h1, h2⟩ | ⟨n, h1, h2, h3, h4⟩
      · refine .inl ⟨h1, fun j hj => ?_⟩
        cases j with
        | zero => exact h'
        | succ j => exact h2 j (by simpa using hj)
      · refine .inr ⟨n + 1, by simpa using h1, by rw [h2]; congr 1; omega, h3, fun j hj => ?_⟩
        cases j with
        | zero => exact h'
        | succ j => exact h4 j (by omega)
def headI (l : List Nat) : Int := match l with | [] => -1 | i :: _ => (i : Int)
theorem find_upto (s : SS) (key : List UInt8) : s.find key = headI (upto s.rows s.rows.length key) := by
  unfold SS.find
  rcases rowFind_spec key s.rows 0 with ⟨h1, h2⟩ | ⟨n, h1, h2, h3, h4⟩
  · rw [h1, upto_none _ h2]; rfl
  · obtain ⟨r, hr⟩ := upto_first h3 h4 _ h1
    rw [h2, hr, Nat.zero_add]; rfl
theorem Sto.find {t : Sto} {x : Id} (h : mayId x = true) : t.s.find (idKey x) = headI (t.at x) := by rw [find_upto, Sto.at_may h]

/-! ### In memory -/
structure RStOk (w : World) (q sp m : Nat) (W A : List Nat) (t : Sto) : Prop where
  head : w.heap[q]? = some (.cells #[.pointer (some ⟨m, 0, none⟩), .pointer (some ⟨sp, 0, none⟩), .bool t.whole] 127 (0, 0))
  slots : RSlotsAt w sp m W A t.s
  out : q ∉ A
  ok : keysOk t.s.rows
/-- The reference's store in block q, its disk in block m; U: what may be written; B: all its blocks. -/
def RStAt (w : World) (q m : Nat) (U B : List Nat) (t : Sto) : Prop := ∃ sp W A, RStOk w q sp m W A t ∧ U = q :: W ∧ B = q :: A
theorem RStOk.lt {w : World} {q sp m : Nat} {W A : List Nat} {t : Sto} (h : RStOk w q sp m W A t) : (∀ x ∈ q :: A, x < w.heap.size) ∧ (∀ x ∈ q :: W, x ∈ q :: A) ∧ ∀ x ∈ q :: W, NoU8 w x := by
  obtain ⟨h1, h2, h3⟩ := h.slots.lim
  refine ⟨fun x hx => ?_, fun x hx => ?_, fun x hx => ?_⟩
  · rcases List.mem_cons.1 hx with rfl | hx
    · exact blk_lt h.head
    · exact h1 x hx
  · rcases List.mem_cons.1 hx with rfl | hx
    · simp
    · exact List.mem_cons_of_mem _ (h2 x hx)
  · rcases List.mem_cons.1 hx with rfl | hx
    · exact NoU8.mk h.head (no8_list (by simp [no8_ptr, no8_bool]))
    · exact h3 x hx
theorem RStAt.lim {w : World} {q m : Nat} {U B : List Nat} {t : Sto} (h : RStAt w q m U B t) : (∀ x ∈ B, x < w.heap.size) ∧ (∀ x ∈ U, x ∈ B) ∧ ∀ x ∈ U, NoU8 w x := by
  obtain ⟨sp, W, A, h, rfl, rfl⟩ := h
  exact h.lt
theorem RStAt.outside {w : World} {q m : Nat} {U B : List Nat} {t : Sto} (h : RStAt w q m U B t) {v : Value} {l : List UInt8} (hv : BytesAt w v l) (hl : l ≠ []) : ∀ k, v.ownBlock = some k → k ∉ U := fun k hk hm => (h.lim.2.2 k hm).not_bytes v l hv hl hk
theorem RStOk.keep {w w' : World} {q sp m : Nat} {W A T : List Nat} {t : Sto} (h : RStOk w q sp m W A t) (hc : Chg T w w') (ha : ∀ x ∈ q :: A, x ∉ T) : RStOk w' q sp m W A t :=
  ⟨hc.keep h.head (ha q (by simp)), h.slots.keep hc (fun x hx => ha x (List.mem_cons_of_mem _ hx)), h.out, h.ok⟩
theorem RStAt.keep {w w' : World} {q m : Nat} {U B T : List Nat} {t : Sto} (h : RStAt w q m U B t) (hc : Chg T w w') (ha : ∀ x ∈ B, x ∉ T) : RStAt w' q m U B t := by
  obtain ⟨sp, W, A, h, rfl, rfl⟩ := h
  exact ⟨sp, W, A, h.keep hc ha, rfl, rfl⟩
/-- What doing with it leaves. -/
def RStd (w w' : World) (q m : Nat) (U B : List Nat) (t : Sto) : Prop := ∃ U' B', RStAt w' q m U' B' t ∧ (∀ x ∈ U', x ∈ U ∨ w.heap.size ≤ x) ∧ (∀ x ∈ B', x ∈ B ∨ w.heap.size ≤ x) ∧ Chg U w w'
theorem RStd.same {w : World} {q m : Nat} {U B : List Nat} {t : Sto} (h : RStAt w q m U B t) : RStd w w q m U B t := ⟨U, B, h, fun x hx => .inl hx, fun x hx => .inl hx, Chg.refl _ _⟩
theorem RStd.glue {w w1 w2 : World} {q m : Nat} {U B U1 B1 : List Nat} {t : Sto} (hv : ∀ x ∈ U1, x ∈ U ∨ w.heap.size ≤ x) (hf : ∀ x ∈ B1, x ∈ B ∨ w.heap.size ≤ x) (hc : Chg U w w1) (h : RStd w1 w2 q m U1 B1 t) : RStd w w2 q m U B t := by
  obtain ⟨V2, F2, b1, b2, b3, b4⟩ := h
  refine ⟨V2, F2, b1, fun x hx => ?_, fun x hx => ?_, hc.trans b4 hv⟩
  · rcases b2 x hx with h | h
    · exact hv x h
    · exact .inr (Nat.le_trans hc.size h)
  · rcases b3 x hx with h | h
    · exact hf x h
    · exact .inr (Nat.le_trans hc.size h)
theorem RStd.pre {w0 w w' : World} {q m : Nat} {U B : List Nat} {t : Sto} (hc : Chg [] w0 w) (h : RStd w w' q m U B t) : RStd w0 w' q m U B t := RStd.glue (fun x hx => .inl hx) (fun x hx => .inl hx) (hc.mono (by simp)) h
theorem RStd.post {w w1 w' : World} {q m : Nat} {U B : List Nat} {t : Sto} (h : RStd w w1 q m U B t) (hc : Chg [] w1 w') : RStd w w' q m U B t := by
  obtain ⟨W1, A1, a1, a2, a3, a4⟩ := h
  exact ⟨W1, A1, a1.keep hc (by simp), a2, a3, a4.trans hc (by simp)⟩
/-- The slots have been worked on. -/
theorem RStOk.did {w w' : World} {q sp m : Nat} {W A : List Nat} {t : Sto} {s : SS} (h : RStOk w q sp m W A t) (hd : RSid w w' sp m W A s) (hk : keysOk s.rows) : RStd w w' q m (q :: W) (q :: A) { t with s := s } := by
  obtain ⟨W', A', a1, a2, a3, a4⟩ := hd
  have hl := h.lt
  have hq : q < w.heap.size := hl.1 q (by simp)
  have hW : q ∉ W := fun hm => h.out (h.slots.lim.2.1 q hm)
  refine ⟨q :: W', q :: A', ⟨sp, W', A', ⟨a4.keep h.head hW, a1, fun hm => ?_, hk⟩, rfl, rfl⟩, fun x hx => ?_, fun x hx => ?_, a4.mono (fun x hx => .inl (List.mem_cons_of_mem _ hx))⟩
  · rcases a3 q hm with h4 | h4
    · exact h.out h4
    · omega
  · rcases List.mem_cons.1 hx with rfl | hx
    · exact .inl (by simp)
    · rcases a2 x hx with h4 | h4
      · exact .inl (List.mem_cons_of_mem _ h4)
      · exact .inr h4
  · rcases List.mem_cons.1 hx with rfl | hx
    · exact .inl (by simp)
    · rcases a3 x hx with h4 | h4
      · exact .inl (List.mem_cons_of_mem _ h4)
      · exact .inr h4
theorem RStOk.cells {w : World} {q sp m : Nat} {W A : List Nat} {t : Sto} (h : RStOk w q sp m W A t) : w.cell? ⟨q, 0, none⟩ = some (.pointer (some ⟨m, 0, none⟩)) ∧ w.cell? ⟨q, 1, none⟩ = some (.pointer (some ⟨sp, 0, none⟩)) ∧ w.cell? ⟨q, 2, none⟩ = some (.bool t.whole) :=
  ⟨blk_cell h.head 0 _ rfl, blk_cell h.head 1 _ rfl, blk_cell h.head 2 _ rfl⟩
theorem RSlotsAt.okk {w : World} {q m : Nat} {W A : List Nat} {s : SS} (h : RSlotsAt w q m W A s) : s.Ok := by
  obtain ⟨V, F, rv, R, H⟩ := h
  exact H.ok
theorem RSlotsAt.fewR {w : World} {q m : Nat} {W A : List Nat} {s : SS} (h : RSlotsAt w q m W A s) : s.first + 8 * s.rows.length ≤ s.d.n ∧ s.d.n ≤ 4160 := by
  obtain ⟨V, F, rv, R, H⟩ := h
  exact H.few

/-! ### unkey -/
set_option maxHeartbeats 2000000 in
theorem rend_any (b g : Nat) (l : List UInt8) (bad : Int) (w : World) (h : REyeAt w b g l bad) :
    Calls Tryz.prog 120 #[.pointer (some ⟨b, 0, none⟩)] w fun e w' => e = .returned (.int .i64 (endOf l bad)) ∧ w = w' := by
  obtain ⟨v, hb, hv, _, _⟩ := h
  obtain ⟨a, cap, rfl⟩ := hv.slice
  have h0 := blk_cell hb 0 _ rfl
  have h1 := blk_cell hb 1 _ rfl
  unfold endOf
  clear hb hv
  by_cases hbad : bad = 0
  · subst hbad
    rw [if_neg (by simp)]
    by_cases hl : l = []
    · subst hl
      rw [if_pos rfl]
      go_enter Tryz.func120, Tryz.ntmps120
      go_wp2
      go_ret
      exact ⟨rfl, rfl⟩
    · rw [if_neg hl]
      have hp : 0 < l.length := List.length_pos_iff.2 hl
      clear hl
      go_enter Tryz.func120, Tryz.ntmps120
      go_wp2
      go_ret
      exact ⟨rfl, rfl⟩
  · rw [if_pos hbad]
    have q : (bad != 0) = true := by simp [hbad]
    clear hbad
    go_enter Tryz.func120, Tryz.ntmps120
    go_wp2
    go_ret
    exact ⟨rfl, rfl⟩
/-- An eye of the reference that is read while an id is filled in block N. -/
structure REyeNew (w0 w : World) (b g N : Nat) (x : Id) (r : Int × List UInt8 × Int) : Prop where
  eye : REyeAt w b g r.2.1 r.2.2
  chg : Chg [] w0 w
  own : w0.heap.size ≤ b
  blk : w.heap[N]? = some (.cells (idC x) 25 (0, 0))
  own2 : w0.heap.size ≤ N
  ne : N ≠ b ∧ N ≠ g
theorem REyeNew.num {w0 w : World} {b g N : Nat} {x : Id} {r : Int × List UInt8 × Int} (h : REyeNew w0 w b g N x r) (n : Nat) (h1 : 1 ≤ n) (h7 : n ≤ 7) (r' : Int × List UInt8 × Int) (hr : r' = eyeNum r.2.1 r.2.2 n) :
    Calls Tryz.prog 119 #[.pointer (some ⟨b, 0, none⟩), .int .i64 n] w fun e w' => e = .returned (.int .i64 r'.1) ∧ REyeNew w0 w' b g N x r' := by
  subst hr
  refine (rnum_any b g r.2.1 r.2.2 n w h.eye (by omega) (by omega)).mono ?_
  rintro e w' ⟨rfl, h2, h3⟩
  refine ⟨rfl, h2, h.chg.trans h3 (fun x hx => .inr ?_), h.own, h3.keep h.blk (by simpa using h.ne.1), h.own2, h.ne⟩
  rw [List.mem_singleton.1 hx]; exact h.own
theorem REyeNew.set {w0 w : World} {b g N : Nat} {x y : Id} {r : Int × List UInt8 × Int} (h : REyeNew w0 w b g N x r) (j : Nat) (u : Value) (hy : (idC x).setIfInBounds j u = idC y) : REyeNew w0 (w.setCell ⟨N, j, none⟩ u) b g N y r := by
  have hc : Chg [N] w (w.setCell ⟨N, j, none⟩ u) := (Chg.refl [N] w).setCell (p := ⟨N, j, none⟩) (.inl (by simp)) u
  refine ⟨h.eye.keep hc (by simpa using Ne.symm h.ne.1) (by simpa using Ne.symm h.ne.2), h.chg.setCell (p := ⟨N, j, none⟩) (.inr h.own2) u, h.own, ?_, h.own2, h.ne⟩
  rw [← hy]; exact set_blk h.blk
theorem REyeNew.cells {w0 w : World} {b g N : Nat} {a c d e : Int} {r : Int × List UInt8 × Int} (h : REyeNew w0 w b g N ⟨a, c, d, e⟩ r) : (w.cell? ⟨N, 0, none⟩ = some (.int .i64 a) ∧ w.cell? ⟨N, 1, none⟩ = some (.int .i64 c) ∧ w.cell? ⟨N, 2, none⟩ = some (.int .i64 d) ∧ w.cell? ⟨N, 3, none⟩ = some (.int .i64 e)) ∧
    w.frozen? ⟨N, 0, none⟩ = false ∧ w.frozen? ⟨N, 1, none⟩ = false ∧ w.frozen? ⟨N, 2, none⟩ = false ∧ w.frozen? ⟨N, 3, none⟩ = false :=
  ⟨id_cells h.blk, blk_frozen h.blk 0, blk_frozen h.blk 1, blk_frozen h.blk 2, blk_frozen h.blk 3⟩
theorem BytesAt.reye {w : World} {v : Value} {l : List UInt8} (h : BytesAt w v l) (M : Nat) : ∃ g, REyeV w v g l ∧ (g < w.heap.size ∨ g = M) := by
  obtain ⟨a, cap, rfl, h1, h2, h3⟩ := h
  by_cases hl : l = []
  · subst hl
    exact ⟨M, .inl ⟨rfl, a, cap, rfl⟩, .inr rfl⟩
  · rcases h3 with ⟨h3, _⟩ | ⟨g, o, rfl, hc⟩
    · exact absurd h3 hl
    · have hp : 0 < l.length := List.length_pos_iff.2 hl
      have hg := World.block_lt_of_cell? w _ (hc 0 hp)
      exact ⟨g, .inr ⟨o, cap, rfl, h1, h2, hg, hc⟩, .inl hg⟩

set_option maxHeartbeats 4000000 in
set_option maxRecDepth 100000 in
theorem runkey_any (v : Value) (l : List UInt8) (w : World) (h : BytesAt w v l) (hl : l.length ≤ 100000) :
    Calls Tryz.prog 75 #[v] w fun e w' => e = .returned (.tuple #[idV (unId l), .bool (unOk l)]) ∧ Chg [] w w' := by
  obtain ⟨w1, hw1⟩ : ∃ w1, w1 = w.alloc (.cells (idC ⟨0, 0, 0, 0⟩) 25) := ⟨_, rfl⟩
  have hc1 : Chg [] w w1 := by rw [hw1]; exact (Chg.refl [] w).alloc _
  have hb1 : w1.heap[w.heap.size]? = some (.cells (idC ⟨0, 0, 0, 0⟩) 25 (0, 0)) := by rw [hw1]; exact heap_alloc_new w _
  have hs1 : w1.heap.size = w.heap.size + 1 := by rw [hw1]; simp
  obtain ⟨w2, hw2⟩ : ∃ w2, w2 = w1.alloc (.cells #[v, .int .i64 0] 166) := ⟨_, rfl⟩
  have hc2 : Chg [] w1 w2 := by rw [hw2]; exact (Chg.refl [] w1).alloc _
  have hb2 : w2.heap[w1.heap.size]? = some (.cells #[v, .int .i64 0] 166 (0, 0)) := by rw [hw2]; exact heap_alloc_new w1 _
  have hs2 : w2.heap.size = w.heap.size + 1 + 1 := by rw [hw2]; simp [hs1]
  obtain ⟨w3, hw3⟩ : ∃ w3, w3 = w2.alloc (.cells (idC ⟨0, 0, 0, 0⟩) 25) := ⟨_, rfl⟩
  have hc3 : Chg [] w2 w3 := by rw [hw3]; exact (Chg.refl [] w2).alloc _
  have hb3 : w3.heap[w2.heap.size]? = some (.cells (idC ⟨0, 0, 0, 0⟩) 25 (0, 0)) := by rw [hw3]; exact heap_alloc_new w2 _
  obtain ⟨g, hev, hgg⟩ := h.reye w.heap.size
  have hc13 : Chg [] w1 w3 := hc2.trans hc3 (by simp)
  have hen : REyeNew w1 w3 w1.heap.size g w2.heap.size ⟨0, 0, 0, 0⟩ (0, l, 0) := ⟨⟨v, hc3.keep hb2 (by simp), hev.keepC (hc1.trans hc13 (by simp)) (by simp), by omega, by dsimp only; omega⟩, hc13, Nat.le_refl _, hb3, hc2.size, by omega, by omega⟩
  have CN := Lib.hid (hen.num 1 (by omega) (by omega) (un1 l) rfl)
  have HB := Lib.hid hb1
  have HB2 := Lib.hid (hc13.keep hb1 (by simp))
  have HC1 := Lib.hid hc1
  have HW1 := Lib.hid hw1
  have HW2 := Lib.hid hw2
  have HW3 := Lib.hid hw3
  have HS1 := Lib.hid hs1
  have HS2 := Lib.hid hs2
  obtain ⟨a, cap, hv⟩ := h.slice
  subst hv
  have HU : Hid (unId l = ⟨(un1 l).1, (un2 l).1, (un3 l).1, (un4 l).1⟩ ∧ unOk l = (decide (endOf (un4 l).2.1 (un4 l).2.2 = 0) && mayId (unId l))) := Lib.hid ⟨rfl, by
    unfold unOk endOf
    by_cases h1 : (un4 l).2.2 = 0
    · by_cases h2 : (un4 l).2.1 = [] <;> simp [h1, h2]
    · simp [h1]⟩
  have hlt : w.heap.size < w2.heap.size := by omega
  rw [hs1, hs2] at CN
  rw [hs2] at hlt
  clear h hw1 hb1 hc1 hw2 hc2 hb2 hw3 hc3 hb3 hen hev hc13 hgg hs1 hs2
  obtain ⟨b, hbb⟩ : ∃ b, b = w.heap.size + 1 := ⟨_, rfl⟩
  obtain ⟨N, hNN⟩ : ∃ N, N = w.heap.size + 1 + 1 := ⟨_, rfl⟩
  rw [← hNN, ← hbb] at CN
  have HBB := Lib.hid hbb
  have HNN := Lib.hid hNN
  rw [← hNN] at hlt
  clear hbb hNN
  go_enter Tryz.func75, Tryz.ntmps75
  go_wp2_with fail
  rw [← HW1.out, ← HW2.out, ← HW3.out]
  try rw [HS1.out]
  try rw [HS2.out]
  try rw [← HNN.out]
  try rw [← HBB.out]
  refine CN.out.mono ?_
  rintro e w4 ⟨rfl, h4⟩
  obtain ⟨⟨m0, m1, m2, m3⟩, f0, f1, f2, f3⟩ := h4.cells
  have h4' := h4.set 0 (.int .i64 (un1 l).1) (y := ⟨(un1 l).1, 0, 0, 0⟩) rfl
  have CN4 := Lib.hid (h4'.num 3 (by omega) (by omega) (un2 l) rfl)
  clear h4 h4' CN
  go_wp2_with fail
  refine CN4.out.mono ?_
  rintro e w5 ⟨rfl, h5⟩
  obtain ⟨⟨m0, m1, m2, m3⟩, f0, f1, f2, f3⟩ := h5.cells
  have h5' := h5.set 1 (.int .i64 (un2 l).1) (y := ⟨(un1 l).1, (un2 l).1, 0, 0⟩) rfl
  have CN5 := Lib.hid (h5'.num 4 (by omega) (by omega) (un3 l) rfl)
  clear h5 h5' CN4
  go_wp2_with fail
  refine CN5.out.mono ?_
  rintro e w6 ⟨rfl, h6⟩
  obtain ⟨⟨m0, m1, m2, m3⟩, f0, f1, f2, f3⟩ := h6.cells
  have h6' := h6.set 2 (.int .i64 (un3 l).1) (y := ⟨(un1 l).1, (un2 l).1, (un3 l).1, 0⟩) rfl
  have CN6 := Lib.hid (h6'.num 1 (by omega) (by omega) (un4 l) rfl)
  clear h6 h6' CN5
  go_wp2_with fail
  refine CN6.out.mono ?_
  rintro e w7 ⟨rfl, h7⟩
  obtain ⟨⟨m0, m1, m2, m3⟩, f0, f1, f2, f3⟩ := h7.cells
  have h7' := h7.set 3 (.int .i64 (un4 l).1) (y := ⟨(un1 l).1, (un2 l).1, (un3 l).1, (un4 l).1⟩) rfl
  rw [← HU.out.1] at h7'
  have HE := Lib.hid h7'
  have HUI := Lib.hid HU.out.2
  clear h7 h7' CN6 HU
  generalize un4 l = z4 at *
  obtain ⟨x, hx⟩ : ∃ x, x = unId l := ⟨_, rfl⟩
  obtain ⟨ok, hok⟩ : ∃ ok, ok = unOk l := ⟨_, rfl⟩
  rw [← hx] at HE HUI
  rw [← hok] at HUI
  have HX := Lib.hid hx
  have HOK := Lib.hid hok
  clear hx hok
  go_wp2_with fail
  obtain ⟨xc, xl, xn, xi⟩ := x
  generalize hw8 : w7.setCell _ _ = w8 at *
  have HE8 := Lib.hid (show REyeNew w1 w8.drew b g N _ z4 from ⟨HE.out.eye.keep ((Chg.refl [] _).drew) (by simp) (by simp), HE.out.chg.drew, HE.out.own, HE.out.blk, HE.out.own2, HE.out.ne⟩)
  have HR8 := Lib.hid (HE8.out.chg.keep HB.out (by simp))
  have CF := Lib.hid (rend_any b g _ _ _ HE8.out.eye)
  have mm := id_cells HE8.out.blk
  obtain ⟨r, hr⟩ : ∃ r, r = endOf z4.2.1 z4.2.2 := ⟨_, rfl⟩
  rw [← hr] at CF HUI
  clear hr HE hw8 m0 m1 m2 m3 f0 f1 f2 f3
  by_cases hr0 : r = 0
  · subst hr0
    have CM := Lib.hid (rmayid_any ⟨xc, xl, xn, xi⟩ w8.drew)
    have hk : ok = mayId ⟨xc, xl, xn, xi⟩ := by simpa using HUI.out
    subst hk
    refine wp_region_L [(8, fun w' => (w'.cell? ⟨N, 0, none⟩ = some (.int .i64 xc) ∧ w'.cell? ⟨N, 1, none⟩ = some (.int .i64 xl) ∧ w'.cell? ⟨N, 2, none⟩ = some (.int .i64 xn) ∧ w'.cell? ⟨N, 3, none⟩ = some (.int .i64 xi))), (6, fun w' => (w'.cell? ⟨N, 0, none⟩ = some (.int .i64 xc) ∧ w'.cell? ⟨N, 1, none⟩ = some (.int .i64 xl) ∧ w'.cell? ⟨N, 2, none⟩ = some (.int .i64 xn) ∧ w'.cell? ⟨N, 3, none⟩ = some (.int .i64 xi)))] (by kernel_rfl) ?_ (fun hHeld => ?_)
    · exact (HoldC.cons (mm) (HoldC.cons (mm) HoldC.nil))
    refine wpAnyL_load 0 (i := 0) (oi := _) (v := ?_) rfl rfl (by kernel_rfl) (by kernel_rfl) (by kernel_rfl) (by kernel_rfl) (by kernel_rfl) (by kernel_rfl) (fun _ _ _ h => h) (Or.inl ⟨by rfl, ?_⟩) (by assumption) (fun hNew => ?_)
    rotate_left
    · intro w hSw
      (try dsimp only at hSw)
      go_simp
      try with_reducible rfl
    clear hHeld
    have hHeld := hNew
    clear hNew
    try simp only [List.getElem_toArray, List.getElem_cons_succ, List.getElem_cons_zero, Act.put, List.setIfInBounds_toArray, List.set_cons_zero, List.set_cons_succ]
    refine wpAnyL_take (i := 1) (oi := _) (v := ?_) rfl (by kernel_rfl) (by kernel_rfl) (by kernel_rfl) (by kernel_rfl) (by kernel_rfl) (fun _ _ _ h => h) (Or.inl ⟨by rfl, ?_⟩) (by assumption) (fun hNew => ?_)
    rotate_left
    · intro w _
      go_simp
      try with_reducible rfl
    clear hHeld
    have hHeld := hNew
    clear hNew
    try simp only [List.getElem_toArray, List.getElem_cons_succ, List.getElem_cons_zero, Act.put, List.setIfInBounds_toArray, List.set_cons_zero, List.set_cons_succ]
    refine wpAnyL_ready (rs := [2]) (by kernel_rfl) (by simp) ?_
    refine AllReadyL.cons (o := _) rfl (fun K hK => ?_) AllReadyL.nil
    try simp only [List.getElem_toArray, List.getElem_cons_succ, List.getElem_cons_zero]
    go_simp
    refine (CF.out).mono ?_
    rintro e w9 ⟨rfl, hw9⟩
    subst hw9
    clear hHeld
    refine hK.out _ _ ?_ (fun hHeld => ?_)
    · exact (HoldC.cons (mm) (HoldC.cons (mm) HoldC.nil))
    clear hK K
    try simp only [List.getElem_toArray, List.getElem_cons_succ, List.getElem_cons_zero, Act.put, List.setIfInBounds_toArray, List.set_cons_zero, List.set_cons_succ]
    refine wpAnyL_take (i := 3) (oi := _) (v := ?_) rfl (by kernel_rfl) (by kernel_rfl) (by kernel_rfl) (by kernel_rfl) (by kernel_rfl) (fun _ _ _ h => h) (Or.inl ⟨by rfl, ?_⟩) (by assumption) (fun hNew => ?_)
    rotate_left
    · intro w _
      go_simp
      try with_reducible rfl
    clear hHeld
    have hHeld := hNew
    clear hNew
    try simp only [List.getElem_toArray, List.getElem_cons_succ, List.getElem_cons_zero, Act.put, List.setIfInBounds_toArray, List.set_cons_zero, List.set_cons_succ]
    refine wpAnyL_take (i := 4) (oi := _) (v := ?_) rfl (by kernel_rfl) (by kernel_rfl) (by kernel_rfl) (by kernel_rfl) (by kernel_rfl) (fun _ _ _ h => h) (Or.inl ⟨by rfl, ?_⟩) (by assumption) (fun hNew => ?_)
    rotate_left
    · intro w _
      go_simp
      try with_reducible rfl
    clear hHeld
    have hHeld := hNew
    clear hNew
    try simp only [List.getElem_toArray, List.getElem_cons_succ, List.getElem_cons_zero, Act.put, List.setIfInBounds_toArray, List.set_cons_zero, List.set_cons_succ]
    refine wpAnyL_load 1 (i := 5) (oi := _) (v := ?_) rfl rfl (by kernel_rfl) (by kernel_rfl) (by kernel_rfl) (by kernel_rfl) (by kernel_rfl) (by kernel_rfl) (fun _ _ _ h => h) (Or.inl ⟨by rfl, ?_⟩) (by assumption) (fun hNew => ?_)
    rotate_left
    · intro w hSw
      (try dsimp only at hSw)
      go_simp
      try with_reducible rfl
    clear hHeld
    have hHeld := hNew
    clear hNew
    try simp only [List.getElem_toArray, List.getElem_cons_succ, List.getElem_cons_zero, Act.put, List.setIfInBounds_toArray, List.set_cons_zero, List.set_cons_succ]
    refine wpAnyL_ready (rs := [6]) (by kernel_rfl) (by simp) ?_
    refine AllReadyL.cons (o := _) rfl (fun K hK => ?_) AllReadyL.nil
    try simp only [List.getElem_toArray, List.getElem_cons_succ, List.getElem_cons_zero]
    go_simp
    refine CM.out.mono ?_
    rintro e w10 ⟨rfl, hc10⟩
    have HC10 := Lib.hid hc10
    have mm := id_cells (hc10.keep HE8.out.blk (by simp))
    clear hc10
    clear hHeld
    refine hK.out _ _ ?_ (fun hHeld => ?_)
    · exact (HoldC.cons (mm) (HoldC.past (by kernel_rfl) HoldC.nil))
    clear hK K
    try simp only [List.getElem_toArray, List.getElem_cons_succ, List.getElem_cons_zero, Act.put, List.setIfInBounds_toArray, List.set_cons_zero, List.set_cons_succ]
    refine wpAnyL_take (i := 7) (oi := _) (v := ?_) rfl (by kernel_rfl) (by kernel_rfl) (by kernel_rfl) (by kernel_rfl) (by kernel_rfl) (fun _ _ _ h => h) (Or.inl ⟨by rfl, ?_⟩) (by assumption) (fun hNew => ?_)
    rotate_left
    · intro w _
      go_simp
      try with_reducible rfl
    clear hHeld
    have hHeld := hNew
    clear hNew
    try simp only [List.getElem_toArray, List.getElem_cons_succ, List.getElem_cons_zero, Act.put, List.setIfInBounds_toArray, List.set_cons_zero, List.set_cons_succ]
    obtain ⟨v0, v1, v2, v3⟩ := id_cells (HC10.out.keep HR8.out (by simp))
    have y0 := blk_frozen (HC10.out.keep HR8.out (by simp)) 0
    have y1 := blk_frozen (HC10.out.keep HR8.out (by simp)) 1
    have y2 := blk_frozen (HC10.out.keep HR8.out (by simp)) 2
    have y3 := blk_frozen (HC10.out.keep HR8.out (by simp)) 3
    refine wpAnyL_ready (rs := [8]) (by kernel_rfl) (by simp) ?_
    refine AllReadyL.cons (o := _) rfl (fun K hK => ?_) AllReadyL.nil
    try simp only [List.getElem_toArray, List.getElem_cons_succ, List.getElem_cons_zero]
    go_simp
    clear hHeld
    refine hK.out _ _ ?_ (fun hHeld => ?_)
    · exact (HoldC.past (by kernel_rfl) (HoldC.past (by kernel_rfl) HoldC.nil))
    clear hK K
    try simp only [List.getElem_toArray, List.getElem_cons_succ, List.getElem_cons_zero, Act.put, List.setIfInBounds_toArray, List.set_cons_zero, List.set_cons_succ]
    refine wpAnyL_take (i := 9) (oi := _) (v := ?_) rfl (by kernel_rfl) (by kernel_rfl) (by kernel_rfl) (by kernel_rfl) (by kernel_rfl) (fun _ _ _ h => h) (Or.inl ⟨by rfl, ?_⟩) (by assumption) (fun hNew => ?_)
    rotate_left
    · intro w _
      go_simp
      try with_reducible rfl
    clear hHeld
    have hHeld := hNew
    clear hNew
    try simp only [List.getElem_toArray, List.getElem_cons_succ, List.getElem_cons_zero, Act.put, List.setIfInBounds_toArray, List.set_cons_zero, List.set_cons_succ]
    refine wpAnyL_done (by kernel_rfl) ?_ _
    clear hHeld
    go_wp2_with fail
    have HW := Lib.hid (id_written (HC10.out.keep HR8.out (by simp)) ⟨xc, xl, xn, xi⟩)
    refine bodyPost_ret (ret_id rfl _ rfl rfl HW.out) rfl ?_
    refine ⟨by rw [← HX.out, ← HOK.out]; rfl, ?_⟩
    have hc := (HC1.out.trans (HE8.out.chg.trans HC10.out (by simp)) (by simp))
    exact (((hc.setCell (.inr (Nat.le_refl _)) _).setCell (.inr (Nat.le_refl _)) _).setCell (.inr (Nat.le_refl _)) _).setCell (.inr (Nat.le_refl _)) _
  · have hk : ok = false := by simpa [hr0] using HUI.out
    subst hk
    have qr : (r == 0) = false := by simpa using hr0
    refine wp_region_L [(8, fun w' => (w'.cell? ⟨N, 0, none⟩ = some (.int .i64 xc) ∧ w'.cell? ⟨N, 1, none⟩ = some (.int .i64 xl) ∧ w'.cell? ⟨N, 2, none⟩ = some (.int .i64 xn) ∧ w'.cell? ⟨N, 3, none⟩ = some (.int .i64 xi)))] (by kernel_rfl) ?_ (fun hHeld => ?_)
    · exact (HoldC.cons (mm) HoldC.nil)
    refine wpAnyL_load 0 (i := 0) (oi := _) (v := ?_) rfl rfl (by kernel_rfl) (by kernel_rfl) (by kernel_rfl) (by kernel_rfl) (by kernel_rfl) (by kernel_rfl) (fun _ _ _ h => h) (Or.inl ⟨by rfl, ?_⟩) (by assumption) (fun hNew => ?_)
    rotate_left
    · intro w hSw
      (try dsimp only at hSw)
      go_simp
      try with_reducible rfl
    clear hHeld
    have hHeld := hNew
    clear hNew
    try simp only [List.getElem_toArray, List.getElem_cons_succ, List.getElem_cons_zero, Act.put, List.setIfInBounds_toArray, List.set_cons_zero, List.set_cons_succ]
    refine wpAnyL_take (i := 1) (oi := _) (v := ?_) rfl (by kernel_rfl) (by kernel_rfl) (by kernel_rfl) (by kernel_rfl) (by kernel_rfl) (fun _ _ _ h => h) (Or.inl ⟨by rfl, ?_⟩) (by assumption) (fun hNew => ?_)
    rotate_left
    · intro w _
      go_simp
      try with_reducible rfl
    clear hHeld
    have hHeld := hNew
    clear hNew
    try simp only [List.getElem_toArray, List.getElem_cons_succ, List.getElem_cons_zero, Act.put, List.setIfInBounds_toArray, List.set_cons_zero, List.set_cons_succ]
    refine wpAnyL_ready (rs := [2]) (by kernel_rfl) (by simp) ?_
    refine AllReadyL.cons (o := _) rfl (fun K hK => ?_) AllReadyL.nil
    try simp only [List.getElem_toArray, List.getElem_cons_succ, List.getElem_cons_zero]
    go_simp
    refine (CF.out).mono ?_
    rintro e w9 ⟨rfl, hw9⟩
    subst hw9
    clear hHeld
    refine hK.out _ _ ?_ (fun hHeld => ?_)
    · exact (HoldC.cons (mm) HoldC.nil)
    clear hK K
    try simp only [List.getElem_toArray, List.getElem_cons_succ, List.getElem_cons_zero, Act.put, List.setIfInBounds_toArray, List.set_cons_zero, List.set_cons_succ]
    refine wpAnyL_take (i := 3) (oi := _) (v := ?_) rfl (by kernel_rfl) (by kernel_rfl) (by kernel_rfl) (by kernel_rfl) (by kernel_rfl) (fun _ _ _ h => h) (Or.inl ⟨by rfl, ?_⟩) (by assumption) (fun hNew => ?_)
    rotate_left
    · intro w _
      go_simp
      try with_reducible rfl
    clear hHeld
    have hHeld := hNew
    clear hNew
    try simp only [List.getElem_toArray, List.getElem_cons_succ, List.getElem_cons_zero, Act.put, List.setIfInBounds_toArray, List.set_cons_zero, List.set_cons_succ]
    refine wpAnyL_take (i := 4) (oi := _) (v := ?_) rfl (by kernel_rfl) (by kernel_rfl) (by kernel_rfl) (by kernel_rfl) (by kernel_rfl) (fun _ _ _ h => h) (Or.inl ⟨by rfl, ?_⟩) (by assumption) (fun hNew => ?_)
    rotate_left
    · intro w _
      go_simp
      try with_reducible rfl
    clear hHeld
    have hHeld := hNew
    clear hNew
    try simp only [List.getElem_toArray, List.getElem_cons_succ, List.getElem_cons_zero, Act.put, List.setIfInBounds_toArray, List.set_cons_zero, List.set_cons_succ]
    refine wpAnyL_take (i := 5) (oi := _) (v := _) rfl (by kernel_rfl) (by kernel_rfl) (by kernel_rfl) (by kernel_rfl) (by kernel_rfl) (fun _ _ _ h => h) (Or.inr ⟨by rfl, rfl⟩) (by assumption) (fun hNew => ?_)
    clear hHeld
    have hHeld := hNew
    clear hNew
    try simp only [List.getElem_toArray, List.getElem_cons_succ, List.getElem_cons_zero, Act.put, List.setIfInBounds_toArray, List.set_cons_zero, List.set_cons_succ]
    refine wpAnyL_take (i := 6) (oi := _) (v := _) rfl (by kernel_rfl) (by kernel_rfl) (by kernel_rfl) (by kernel_rfl) (by kernel_rfl) (fun _ _ _ h => h) (Or.inr ⟨by rfl, rfl⟩) (by assumption) (fun hNew => ?_)
    clear hHeld
    have hHeld := hNew
    clear hNew
    try simp only [List.getElem_toArray, List.getElem_cons_succ, List.getElem_cons_zero, Act.put, List.setIfInBounds_toArray, List.set_cons_zero, List.set_cons_succ]
    refine wpAnyL_take (i := 7) (oi := _) (v := ?_) rfl (by kernel_rfl) (by kernel_rfl) (by kernel_rfl) (by kernel_rfl) (by kernel_rfl) (fun _ _ _ h => h) (Or.inl ⟨by rfl, ?_⟩) (by assumption) (fun hNew => ?_)
    rotate_left
    · intro w _
      go_simp
      try with_reducible rfl
    clear hHeld
    have hHeld := hNew
    clear hNew
    try simp only [List.getElem_toArray, List.getElem_cons_succ, List.getElem_cons_zero, Act.put, List.setIfInBounds_toArray, List.set_cons_zero, List.set_cons_succ]
    have HR9 : w8.heap[w.heap.size]? = some (.cells (idC ⟨0, 0, 0, 0⟩) 25 (0, 0)) := HR8.out
    obtain ⟨v0, v1, v2, v3⟩ := id_cells HR9
    have y0 := blk_frozen HR9 0
    have y1 := blk_frozen HR9 1
    have y2 := blk_frozen HR9 2
    have y3 := blk_frozen HR9 3
    clear HR9
    refine wpAnyL_ready (rs := [8]) (by kernel_rfl) (by simp) ?_
    refine AllReadyL.cons (o := _) rfl (fun K hK => ?_) AllReadyL.nil
    try simp only [List.getElem_toArray, List.getElem_cons_succ, List.getElem_cons_zero]
    go_simp
    clear hHeld
    refine hK.out _ _ ?_ (fun hHeld => ?_)
    · exact (HoldC.past (by kernel_rfl) HoldC.nil)
    clear hK K
    try simp only [List.getElem_toArray, List.getElem_cons_succ, List.getElem_cons_zero, Act.put, List.setIfInBounds_toArray, List.set_cons_zero, List.set_cons_succ]
    refine wpAnyL_take (i := 9) (oi := _) (v := ?_) rfl (by kernel_rfl) (by kernel_rfl) (by kernel_rfl) (by kernel_rfl) (by kernel_rfl) (fun _ _ _ h => h) (Or.inl ⟨by rfl, ?_⟩) (by assumption) (fun hNew => ?_)
    rotate_left
    · intro w _
      go_simp
      try with_reducible rfl
    clear hHeld
    have hHeld := hNew
    clear hNew
    try simp only [List.getElem_toArray, List.getElem_cons_succ, List.getElem_cons_zero, Act.put, List.setIfInBounds_toArray, List.set_cons_zero, List.set_cons_succ]
    refine wpAnyL_done (by kernel_rfl) ?_ _
    clear hHeld
    go_wp2_with fail
    have HW := Lib.hid (id_written HR8.out ⟨xc, xl, xn, xi⟩)
    refine bodyPost_ret (ret_id rfl _ rfl rfl HW.out) rfl ?_
    refine ⟨by rw [← HX.out, ← HOK.out]; rfl, ?_⟩
    have hc := HC1.out.trans HE8.out.chg (by simp)
    exact (((hc.setCell (.inr (Nat.le_refl _)) _).setCell (.inr (Nat.le_refl _)) _).setCell (.inr (Nat.le_refl _)) _).setCell (.inr (Nat.le_refl _)) _
end Go.Proofs.YtbkajnjboipbhaaGreatDoor.W

/- The reference's slots: Clear. -/
namespace Go.Proofs.YtbkajnjboipbhaaGreatDoor.W
open Go.RowKit
set_option linter.unusedVariables false
set_option linter.unusedSimpArgs false

theorem DS.write_dead {d : DS} (h : d.dead = true) (k : Int) (b : List UInt8) : d.write k b = (14, d) := by unfold DS.write; rw [if_pos h]
theorem DS.sync_dead {d : DS} (h : d.dead = true) : d.sync = (14, d) := by unfold DS.sync; rw [if_pos h]
theorem DS.lays_dead {d : DS} (h : d.dead = true) (pos : Nat) (b : List UInt8) : d.lays pos b = (14, d) := by
  unfold DS.lays
  cases nsec b.length with
  | zero => exact DS.sync_dead h
  | succ k =>
    unfold DS.lay
    rw [DS.write_dead h]
    rfl
theorem DS.lays_one {d : DS} (pos : Nat) (b : List UInt8) (h : nsec b.length = 1) : d.lays pos b = if (d.write (pos : Int) (secAt b 0)).1 ≠ 0 then d.write (pos : Int) (secAt b 0) else (d.write (pos : Int) (secAt b 0)).2.sync := by
  unfold DS.lays
  rw [h]
  rfl
theorem secAt_zero : secAt (zeros 64) 0 = zeros 64 := by kernel_rfl
/-- What a change of the slots answers. -/
def RSidPost (w : World) (q m : Nat) (W A : List Nat) (r : Int × SS) (e : Ending) (w' : World) : Prop := e = .returned (.int .i64 r.1) ∧ RSid w w' q m W A r.2
theorem RSidPost.same {w : World} {q m : Nat} {W A : List Nat} {s : SS} {c : Int} (h : RSlotsAt w q m W A s) : RSidPost w q m W A (c, s) (.returned (.int .i64 c)) w := ⟨rfl, RSid.same h⟩
set_option maxHeartbeats 8000000 in
set_option maxRecDepth 100000 in
theorem rclear_any (q m : Nat) (W A : List Nat) (s : SS) (i : Int) (w : World) (h : RSlotsAt w q m W A s) (ho : s.d.ops ≤ 900000000) (hw : s.d.since.length ≤ 900000) :
    Calls Tryz.prog 89 #[.pointer (some ⟨q, 0, none⟩), .int .i64 i] w (RSidPost w q m W A (s.clear i)) := by
  have HS := Lib.hid h
  obtain ⟨V, F, rv, R, H⟩ := h
  have HH := Lib.hid H
  have c0 : w.cell? ⟨q, 0, none⟩ = some (.pointer (some ⟨m, 0, none⟩)) := blk_cell H.obj.head 0 _ rfl
  have c1 : w.cell? ⟨q, 1, none⟩ = some (.int .i64 (s.first : Int)) := blk_cell H.obj.head 1 _ rfl
  have c2 : w.cell? ⟨q, 2, none⟩ = some rv := blk_cell H.obj.head 2 _ rfl
  obtain ⟨a0, cap0, hrv0, hcap0⟩ := H.form
  have hfew := H.few
  by_cases hi : s.has i
  · have hi' := hi
    obtain ⟨h0, h1⟩ := hi'
    obtain ⟨j, rfl⟩ := Int.eq_ofNat_of_zero_le h0
    have hjl : j < s.rows.length := by omega
    obtain ⟨g, cap, kv, hrv, hcap, hcm, k0, k1, k2, k3, k4⟩ := H.at j hjl
    have hrow : s.row (j : Int) = s.rows.getD j noRow := rfl
    have hroom := H.ok.room
    have q0 : decide ((j : Int) < 0) = false := decide_eq_false (by omega)
    by_cases hu : (s.row (j : Int)).used = false
    · have hg : s.clear (j : Int) = (6, s) := by unfold SS.clear; rw [if_neg (by simpa using hi), if_pos hu]
      have HP := Lib.hid (RSidPost.same (c := 6) HS.out)
      have HG := Lib.hid hg
      rw [HG.out]
      rw [hrow] at hu
      rw [hu] at k0
      subst hrv
      generalize s.rows.getD j noRow = r at *
      generalize s.rows.length = n at *
      have hjz : (j : Int) < (n : Int) := by omega
      have hjz1 : (j : Int).toNat = j := by omega
      have hnj : ¬ n ≤ j := by omega
      clear H HH c0 c1 k1 k2 k3 k4 hu hg hi hrow hroom hrv0
      go_enter Tryz.func89, Tryz.ntmps89
      go_wp2
      go_ret
      exact HP.out
    · have hu' : (s.rows.getD j noRow).used = true := by rw [← hrow]; simpa using hu
      rw [hu'] at k0
      have hg : s.clear (j : Int) = if (s.d.lays (s.pos j) (zeros 64)).1 ≠ 0 then ((s.d.lays (s.pos j) (zeros 64)).1, { s with d := (s.d.lays (s.pos j) (zeros 64)).2 }) else
            (0, { s with d := (s.d.lays (s.pos j) (zeros 64)).2, rows := s.rows.set j noRow }) := by
        unfold SS.clear
        rw [if_neg (by simpa using hi), if_neg hu]
        rfl
      have hpos : s.pos (j : Int) = s.first + 8 * j := rfl
      obtain ⟨p6, hnd, -⟩ := H.disk.read
      have hfj : ((s.first : Int) + (j : Int) * 8) = ((s.pos (j : Int) : Nat) : Int) := by rw [hpos]; omega
      have hpl : s.pos (j : Int) + 8 ≤ s.d.n := by rw [hpos]; omega
      have hff : s.first ≤ 4160 := by omega
      have hj5 : j ≤ 1000 := by omega
      have hnj : ¬ s.rows.length ≤ j := by omega
      have hjz : (j : Int) < (s.rows.length : Int) := by omega
      have hjz1 : (j : Int).toNat = j := by omega
      by_cases hd : s.d.dead = true
      · have hgg : s.clear (j : Int) = (14, s) := by rw [hg, DS.lays_dead hd, if_pos (by simp)]
        have HP := Lib.hid (RSidPost.same (c := 14) HS.out)
        have HG := Lib.hid hgg
        rw [HG.out]
        rw [hd] at p6
        subst hrv
        generalize s.rows.length = n at *
        clear H HH c1 k1 k2 k3 k4 hu hg hgg hi hrow hroom hrv0 hpos hfj hpl hd
        go_enter Tryz.func89, Tryz.ntmps89
        go_wp2
        go_ret
        exact HP.out
      · have hd' : s.d.dead = false := by simpa using hd
        rw [hd'] at p6
        have hwo := DS.write_ok s.d ((s.pos (j : Int) : Nat) : Int) (zeros 64)
        have hso := DS.sync_ok (s.d.write ((s.pos (j : Int) : Nat) : Int) (zeros 64)).2
        rw [DS.lays_one (s.pos j) (zeros 64) rfl, secAt_zero] at hg
        have CW := Lib.hid (fun wr v (hc : Chg [] w wr) (hv : BytesAt wr v (zeros 64)) hvo => rwrite_any m V F s.d (s.pos j) v (zeros 64) wr (H.disk.keep hc (by simp)) (by omega) (by omega) (by omega) (by simp [zeros]) hv hvo)
        obtain ⟨pos, hpp⟩ : ∃ pos, pos = s.pos (j : Int) := ⟨_, rfl⟩
        rw [← hpp] at hg hfj hpl CW hwo hso
        obtain ⟨Z, hZ⟩ : ∃ Z, Z = s.clear (j : Int) := ⟨_, rfl⟩
        rw [← hZ] at hg ⊢
        obtain ⟨n, hn⟩ : ∃ n, n = s.rows.length := ⟨_, rfl⟩
        rw [← hn] at hrv hcap hnj hjz hjl
        have HN := Lib.hid hn
        subst hrv
        clear H k1 k2 k3 k4 hu hu' hi hrow hroom hrv0 hpos hd hd' hZ hpp hn hfew h1 hcap0
        generalize s.d.write (pos : Int) (zeros 64) = zw at *
        obtain ⟨r1, d1⟩ := zw
        dsimp only at hg CW hwo hso
        generalize hzs : d1.sync = zs at *
        have HZS := Lib.hid hzs
        clear hzs
        obtain ⟨r2, d2⟩ := zs
        dsimp only at hg hso
        have HG := Lib.hid hg
        clear hg
        have hmk := make_64
        obtain ⟨fst, hfst⟩ : ∃ fst, fst = s.first := ⟨_, rfl⟩
        rw [← hfst] at c1 hfj hff
        clear hfst
        have hwr : Hid (IntKind.i64.wrap ((fst : Int) + IntKind.i64.wrap ((j : Int) * 8)) = (pos : Int)) := Lib.hid (by rw [IntWalk.i64_in ((j : Int) * 8) ⟨by omega, by omega⟩, IntWalk.i64_in _ ⟨by omega, by omega⟩]; exact hfj)
        go_enter Tryz.func89, Tryz.ntmps89
        go_wp2_with fail
        refine wp_region_L [(12, fun w' => w'.cell? ⟨q, 0, none⟩ = some (.pointer (some ⟨m, 0, none⟩))), (12, fun w' => w'.cell? ⟨q, 1, none⟩ = some (.int .i64 (fst : Int)))] (by kernel_rfl) ?_ (fun hHeld => ?_)
        · exact (HoldC.cons (c0) (HoldC.cons (c1) HoldC.nil))
        refine wpAnyL_take (i := 0) (oi := _) (v := ?_) rfl (by kernel_rfl) (by kernel_rfl) (by kernel_rfl) (by kernel_rfl) (by kernel_rfl) (fun _ _ _ h => h) (Or.inl ⟨by rfl, ?_⟩) (by assumption) (fun hNew => ?_)
        rotate_left
        · intro w _
          go_simp
          try with_reducible rfl
        clear hHeld
        have hHeld := hNew
        clear hNew
        try simp only [List.getElem_toArray, List.getElem_cons_succ, List.getElem_cons_zero, Act.put, List.setIfInBounds_toArray, List.set_cons_zero, List.set_cons_succ]
        refine wpAnyL_take (i := 1) (oi := _) (v := ?_) rfl (by kernel_rfl) (by kernel_rfl) (by kernel_rfl) (by kernel_rfl) (by kernel_rfl) (fun _ _ _ h => h) (Or.inl ⟨by rfl, ?_⟩) (by assumption) (fun hNew => ?_)
        rotate_left
        · intro w _
          go_simp
          try with_reducible rfl
        clear hHeld
        have hHeld := hNew
        clear hNew
        try simp only [List.getElem_toArray, List.getElem_cons_succ, List.getElem_cons_zero, Act.put, List.setIfInBounds_toArray, List.set_cons_zero, List.set_cons_succ]
        refine wpAnyL_take (i := 2) (oi := _) (v := ?_) rfl (by kernel_rfl) (by kernel_rfl) (by kernel_rfl) (by kernel_rfl) (by kernel_rfl) (fun _ _ _ h => h) (Or.inl ⟨by rfl, ?_⟩) (by assumption) (fun hNew => ?_)
        rotate_left
        · intro w _
          go_simp
          try with_reducible rfl
        clear hHeld
        have hHeld := hNew
        clear hNew
        try simp only [List.getElem_toArray, List.getElem_cons_succ, List.getElem_cons_zero, Act.put, List.setIfInBounds_toArray, List.set_cons_zero, List.set_cons_succ]
        refine wpAnyL_take (i := 4) (oi := _) (v := ?_) rfl (by kernel_rfl) (by kernel_rfl) (by kernel_rfl) (by kernel_rfl) (by kernel_rfl) (fun _ _ _ h => h) (Or.inl ⟨by rfl, ?_⟩) (by assumption) (fun hNew => ?_)
        rotate_left
        · intro w _
          go_simp
          try with_reducible rfl
        clear hHeld
        have hHeld := hNew
        clear hNew
        try simp only [List.getElem_toArray, List.getElem_cons_succ, List.getElem_cons_zero, Act.put, List.setIfInBounds_toArray, List.set_cons_zero, List.set_cons_succ]
        refine wpAnyL_take (i := 5) (oi := _) (v := ?_) rfl (by kernel_rfl) (by kernel_rfl) (by kernel_rfl) (by kernel_rfl) (by kernel_rfl) (fun _ _ _ h => h) (Or.inl ⟨by rfl, ?_⟩) (by assumption) (fun hNew => ?_)
        rotate_left
        · intro w _
          go_simp
          try with_reducible rfl
        clear hHeld
        have hHeld := hNew
        clear hNew
        try simp only [List.getElem_toArray, List.getElem_cons_succ, List.getElem_cons_zero, Act.put, List.setIfInBounds_toArray, List.set_cons_zero, List.set_cons_succ]
        refine wpAnyL_take (i := 6) (oi := _) (v := ?_) rfl (by kernel_rfl) (by kernel_rfl) (by kernel_rfl) (by kernel_rfl) (by kernel_rfl) (fun _ _ _ h => h) (Or.inl ⟨by rfl, ?_⟩) (by assumption) (fun hNew => ?_)
        rotate_left
        · intro w _
          go_simp
          try with_reducible rfl
        clear hHeld
        have hHeld := hNew
        clear hNew
        try simp only [List.getElem_toArray, List.getElem_cons_succ, List.getElem_cons_zero, Act.put, List.setIfInBounds_toArray, List.set_cons_zero, List.set_cons_succ]
        refine wpAnyL_take (i := 8) (oi := _) (v := ?_) rfl (by kernel_rfl) (by kernel_rfl) (by kernel_rfl) (by kernel_rfl) (by kernel_rfl) (fun _ _ _ h => h) (Or.inl ⟨by rfl, ?_⟩) (by assumption) (fun hNew => ?_)
        rotate_left
        · intro w _
          go_simp
          try with_reducible rfl
        clear hHeld
        have hHeld := hNew
        clear hNew
        try simp only [List.getElem_toArray, List.getElem_cons_succ, List.getElem_cons_zero, Act.put, List.setIfInBounds_toArray, List.set_cons_zero, List.set_cons_succ]
        refine wpAnyL_take (i := 9) (oi := _) (v := ?_) rfl (by kernel_rfl) (by kernel_rfl) (by kernel_rfl) (by kernel_rfl) (by kernel_rfl) (fun _ _ _ h => h) (Or.inl ⟨by rfl, ?_⟩) (by assumption) (fun hNew => ?_)
        rotate_left
        · intro w _
          go_simp
          try with_reducible rfl
        clear hHeld
        have hHeld := hNew
        clear hNew
        try simp only [List.getElem_toArray, List.getElem_cons_succ, List.getElem_cons_zero, Act.put, List.setIfInBounds_toArray, List.set_cons_zero, List.set_cons_succ]
        refine wpAnyL_load 0 (i := 3) (oi := _) (v := ?_) rfl rfl (by kernel_rfl) (by kernel_rfl) (by kernel_rfl) (by kernel_rfl) (by kernel_rfl) (by kernel_rfl) (fun _ _ _ h => h) (Or.inl ⟨by rfl, ?_⟩) (by assumption) (fun hNew => ?_)
        rotate_left
        · intro w hSw
          (try dsimp only at hSw)
          go_simp
          try with_reducible rfl
        clear hHeld
        have hHeld := hNew
        clear hNew
        try simp only [List.getElem_toArray, List.getElem_cons_succ, List.getElem_cons_zero, Act.put, List.setIfInBounds_toArray, List.set_cons_zero, List.set_cons_succ]
        refine wpAnyL_load 1 (i := 7) (oi := _) (v := ?_) rfl rfl (by kernel_rfl) (by kernel_rfl) (by kernel_rfl) (by kernel_rfl) (by kernel_rfl) (by kernel_rfl) (fun _ _ _ h => h) (Or.inl ⟨by rfl, ?_⟩) (by assumption) (fun hNew => ?_)
        rotate_left
        · intro w hSw
          (try dsimp only at hSw)
          go_simp
          try with_reducible rfl
        clear hHeld
        have hHeld := hNew
        clear hNew
        try simp only [List.getElem_toArray, List.getElem_cons_succ, List.getElem_cons_zero, Act.put, List.setIfInBounds_toArray, List.set_cons_zero, List.set_cons_succ]
        refine wpAnyL_take (i := 10) (oi := _) (v := ?_) rfl (by kernel_rfl) (by kernel_rfl) (by kernel_rfl) (by kernel_rfl) (by kernel_rfl) (fun _ _ _ h => h) (Or.inl ⟨by rfl, ?_⟩) (by assumption) (fun hNew => ?_)
        rotate_left
        · intro w _
          go_simp
          try with_reducible rfl
        clear hHeld
        have hHeld := hNew
        clear hNew
        try simp only [List.getElem_toArray, List.getElem_cons_succ, List.getElem_cons_zero, Act.put, List.setIfInBounds_toArray, List.set_cons_zero, List.set_cons_succ]
        refine wpAnyL_ready (rs := [11]) (by kernel_rfl) (by simp) ?_
        refine AllReadyL.cons (o := _) rfl (fun K hK => ?_) AllReadyL.nil
        try simp only [List.getElem_toArray, List.getElem_cons_succ, List.getElem_cons_zero]
        go_simp
        obtain ⟨z, hz⟩ : ∃ z, z = w.heap.size := ⟨_, rfl⟩
        have HZ := Lib.hid hz
        rw [← hz]
        obtain ⟨w1, hw1⟩ : ∃ w1, w1 = (w.alloc (.cells Z64 5)).drew := ⟨_, rfl⟩
        rw [← hw1]
        have hc1 : Chg [] w w1 := by rw [hw1]; exact ((Chg.refl [] w).alloc _).drew
        have hB1 : BytesAt w1 (.slice (some ⟨z, 0, none⟩) 64 64) (zeros 64) := (row_of_block (w := w1) (N := z) (l := zeros 64) (by rw [hw1, hz]; exact heap_alloc_new w _) (by simp [zeros, maxLen])).bytes
        have CW1 := Lib.hid (CW.out w1 _ hc1 hB1 (fun x hx hm => by
          obtain rfl : z = x := by simpa [Value.ownBlock] using hx
          have h1 := HH.out.lim z (HH.out.aF z (HH.out.sub.2.2.2.2 z hm))
          omega))
        have HC1 := Lib.hid hc1
        have e0 := hc1.cell c0 (by simp)
        have e1 := hc1.cell c1 (by simp)
        clear hc1 hB1 hz hw1
        clear hHeld
        refine hK.out _ _ ?_ (fun hHeld => ?_)
        · exact (HoldC.cons (e0) (HoldC.cons (e1) HoldC.nil))
        clear hK K
        try simp only [List.getElem_toArray, List.getElem_cons_succ, List.getElem_cons_zero, Act.put, List.setIfInBounds_toArray, List.set_cons_zero, List.set_cons_succ]
        refine wpAnyL_ready (rs := [12]) (by kernel_rfl) (by simp) ?_
        refine AllReadyL.cons (o := _) rfl (fun K hK => ?_) AllReadyL.nil
        try simp only [List.getElem_toArray, List.getElem_cons_succ, List.getElem_cons_zero]
        go_simp
        try rw [hwr.out]
        refine CW1.out.mono ?_
        rintro e w3 ⟨rfl, hd3⟩
        have HS3 := Lib.hid (RSid.pre HC1.out ((HH.out.keep HC1.out (by simp)).did hd3 hwo.1))
        clear hd3 CW CW1 e0 e1 HC1
        try go_wp2_with fail
        clear hHeld
        refine hK.out _ _ ?_ (fun hHeld => ?_)
        · exact (HoldC.past (by kernel_rfl) (HoldC.past (by kernel_rfl) HoldC.nil))
        clear hK K
        try simp only [List.getElem_toArray, List.getElem_cons_succ, List.getElem_cons_zero, Act.put, List.setIfInBounds_toArray, List.set_cons_zero, List.set_cons_succ]
        refine wpAnyL_take (i := 13) (oi := _) (v := ?_) rfl (by kernel_rfl) (by kernel_rfl) (by kernel_rfl) (by kernel_rfl) (by kernel_rfl) (fun _ _ _ h => h) (Or.inl ⟨by rfl, ?_⟩) (by assumption) (fun hNew => ?_)
        rotate_left
        · intro w _
          go_simp
          try with_reducible rfl
        clear hHeld
        have hHeld := hNew
        clear hNew
        try simp only [List.getElem_toArray, List.getElem_cons_succ, List.getElem_cons_zero, Act.put, List.setIfInBounds_toArray, List.set_cons_zero, List.set_cons_succ]
        refine wpAnyL_done (by kernel_rfl) ?_ _
        clear hHeld
        clear c0 c1 c2 p6 k0
        by_cases hr1 : r1 = 0
        · subst hr1
          obtain ⟨W3, A3, ⟨V3, F3, rv3, R3, H3⟩, hW3, hA3, hC3⟩ := HS3.out
          have c03 : w3.cell? ⟨q, 0, none⟩ = some (.pointer (some ⟨m, 0, none⟩)) := blk_cell H3.obj.head 0 _ rfl
          have CS := Lib.hid (rsync_any m V3 F3 d1 w3 H3.disk (by omega))
          rw [HZS.out] at CS
          dsimp only at CS
          have H30 := Lib.hid H3
          have HG3 := Lib.hid (And.intro hW3 (And.intro hA3 hC3))
          clear H3 hW3 hA3 hC3
          go_wp2_with fail
          refine CS.out.mono ?_
          rintro e w4 ⟨rfl, hd4⟩
          have hs4 := H30.out.did hd4 (by show d2.n = d1.n; exact hso.1)
          have HS4 : Hid (RSid w w4 q m W A { s with d := d2 }) := Lib.hid (RSid.glue HG3.out.1 HG3.out.2.1 HG3.out.2.2 hs4)
          have HGZ : Hid (Z = if r2 ≠ 0 then (r2, { s with d := d2 }) else (0, { s with d := d2, rows := s.rows.set j noRow })) := Lib.hid (by
            have := HG.out
            simpa using this)
          clear hs4 hd4 CS c03 H30 HG3 HS3
          by_cases hr2 : r2 = 0
          · subst hr2
            obtain ⟨W4, A4, ⟨V4, F4, rv4, R4, H4⟩, hW4, hA4, hC4⟩ := HS4.out
            have c24 : w4.cell? ⟨q, 2, none⟩ = some rv4 := blk_cell H4.obj.head 2 _ rfl
            have hjr : j < ({ s with d := d2 } : SS).rows.length := by show j < s.rows.length; rw [← HN.out]; exact hjl
            obtain ⟨g4, cap4, kv4, hrv4, hcap4, hcm4, _, _, _, _, _⟩ := H4.at j hjr
            rw [show ({ s with d := d2 } : SS).rows.length = s.rows.length from rfl, ← HN.out] at hrv4 hcap4
            have hrv5 : rv4 = .slice (some ⟨g4, 0, none⟩) ({ s with d := d2 } : SS).rows.length cap4 := by
              rw [hrv4, HN.out]
            obtain ⟨A5, hs5, hA5, hC5⟩ := H4.setRow (N := w4.heap.size) j hjr g4 cap4 hrv5 noRow (.slice none 0 0) (BytesAt.nil _) (by simp [Value.ownBlock]) (by simp [Value.ownBlock]) (Nat.le_refl _) ⟨by decide, by decide⟩
            have HSR : Hid (RSid w (w4.setCells g4 (j * 3) [.bool false, .slice none 0 0, .int .i64 0]) q m W A { s with d := d2, rows := s.rows.set j noRow }) := Lib.hid (RSid.glue hW4 hA4 hC4 ⟨W4, A5, hs5, fun x hx => .inl hx, hA5, hC5⟩)
            have TH := Lib.hid (H4.there j hjr g4 cap4 hrv5)
            have HGF : Hid (Z = (0, { s with d := d2, rows := s.rows.set j noRow })) := Lib.hid (by rw [HGZ.out]; simp)
            subst hrv4
            clear H4 hW4 hA4 hC4 hs5 hA5 hC5 hrv5 HGZ HS4
            go_wp2_with (refine wpList_store_mid (by rfl) 125 (.tmp 64) (.tmp 63) (by rfl) g4 (j * 3) #[.bool false, .slice none 0 0, .int .i64 0] (by rfl) (by rfl) TH.out (by kernel_rfl) (by simp [Value.oneCell']) ?_)
            go_ret
            rw [HGF.out]
            exact ⟨rfl, HSR.out⟩
          · have q2 : (r2 == 0) = false := by simp [hr2]
            have HGF : Hid (Z = (r2, { s with d := d2 })) := Lib.hid (by rw [HGZ.out, if_pos hr2])
            clear HGZ hr2
            go_wp2
            go_ret
            rw [HGF.out]
            exact ⟨rfl, HS4.out⟩
        · have q2 : (r1 == 0) = false := by simp [hr1]
          have HGF : Hid (Z = (r1, { s with d := d1 })) := Lib.hid (by rw [HG.out, if_pos hr1, if_pos hr1])
          clear hr1
          go_wp2
          go_ret
          rw [HGF.out]
          exact ⟨rfl, HS3.out⟩
  · have hg : s.clear i = (1, s) := by unfold SS.clear; rw [if_pos (by simpa using hi)]
    have HP := Lib.hid (RSidPost.same (c := 1) HS.out)
    have HG := Lib.hid hg
    rw [HG.out]
    have HI := Lib.hid hi
    subst hrv0
    generalize hnn : s.rows.length = n at *
    have HNN := Lib.hid hnn
    clear H HH hg hi hfew c0 c1
    by_cases h0 : i < 0
    · have q0 : decide (i < 0) = true := decide_eq_true h0
      go_enter Tryz.func89, Tryz.ntmps89
      go_wp2
      go_ret
      exact HP.out
    · have q0 : decide (i < 0) = false := decide_eq_false h0
      have q1 : decide (i ≥ (n : Int)) = true := decide_eq_true (by
        have h9 := HI.out
        unfold SS.has at h9
        have h8 := HNN.out
        omega)
      go_enter Tryz.func89, Tryz.ntmps89
      go_wp2
      go_ret
      exact HP.out
end Go.Proofs.YtbkajnjboipbhaaGreatDoor.W

/- The reference's padded. -/
namespace Go.Proofs.YtbkajnjboipbhaaGreatDoor.W
open Go.RowKit
set_option linter.unusedVariables false
set_option linter.unusedSimpArgs false

/-- Sectors in a row of rows. -/
structure PadAt (w0 w : World) (v : Value) (b : List UInt8) (j : Nat) (PV : List Value) : Prop where
  row : w.ownsRow 0 27 1 v j PV
  secs : ∀ k, k < j → BytesAt w (PV.getD k undef) (secAt b k) ∧ ∀ g, (PV.getD k undef).ownBlock = some g → w0.heap.size ≤ g ∧ v.ownBlock ≠ some g
  new : ∀ g, v.ownBlock = some g → w0.heap.size ≤ g
theorem PadAt.keep {w0 w w' : World} {v : Value} {b : List UInt8} {j : Nat} {PV : List Value} (h : PadAt w0 w v b j PV) (hc : Chg [] w w') : PadAt w0 w' v b j PV :=
  ⟨row_keep h.row (fun g hg => hc.block g (World.ownsRow.lt h.row g hg).2 (by simp)), fun k hk => ⟨(h.secs k hk).1.chg hc (by simp), (h.secs k hk).2⟩, h.new⟩
/-- What padded answers. -/
def PadPost (w : World) (b : List UInt8) (e : Ending) (w' : World) : Prop := ∃ v PV, e = .returned v ∧ PadAt w w' v b (nsec b.length) PV ∧ Chg [] w w'
theorem nsec_lt {j n : Nat} (h : j < nsec n) : j * 64 < n := by unfold nsec at h; omega
theorem nsec_le {j n : Nat} (h : ¬ j < nsec n) : n ≤ j * 64 := by unfold nsec at h; omega

set_option maxHeartbeats 8000000 in
set_option maxRecDepth 100000 in
theorem rpadded_any (bv : Value) (b : List UInt8) (w : World) (hb : BytesAt w bv b) (hl : b.length ≤ 1000000) :
    Calls Tryz.prog 123 #[bv] w (PadPost w b) := by
  obtain ⟨av, cv, rfl⟩ := hb.slice
  have HB := Lib.hid hb
  have hcv : b.length ≤ cv ∧ cv ≤ 9223372036854775807 := by
    obtain ⟨a', c', he, h1, h2, _⟩ := hb
    have : cv = c' := (Value.slice.inj he).2.2
    unfold maxLen at h2
    omega
  have hmk := make_64
  obtain ⟨m, hm⟩ : ∃ m, m = nsec b.length := ⟨_, rfl⟩
  have HM := Lib.hid hm
  have hm4 : m ≤ 20000 := by rw [hm]; unfold nsec; omega
  obtain ⟨i3, hi3, hz3, hs3, hy3⟩ := info_parts facts_bytes
  have I3 := Lib.hid (And.intro hi3 (And.intro hz3 (And.intro hs3 hy3)))
  clear hb hm hi3 hz3 hs3 hy3
  go_enter Tryz.func123, Tryz.ntmps123
  go_wp2
  go_loopg [3, 4] m (fun g' s3 s4 wr => ∃ (j t : Nat) (a3 : Option Addr) (c3 : Nat) (PV : List Value), s3 = .slice a3 j c3 ∧ s4 = .int .i64 (t : Int) ∧ j ≤ m ∧ m ≤ j + g' ∧ t ≤ 2000000 ∧ Hid (t = j * 64) ∧ Hid (PadAt w wr (.slice a3 j c3) b j PV ∧ Chg [] w wr))
  case atStart => exact ⟨0, 0, none, 0, [], rfl, rfl, by omega, by omega, by omega, Lib.hid rfl, Lib.hid ⟨⟨World.ownsRow_nil _ _ _ _, fun k hk => by omega, by simp [Value.ownBlock]⟩, Chg.refl _ _⟩⟩
  case round =>
    obtain ⟨j, t, a3, c3, PV, rfl, rfl, hj, hjg, ht, HTT, HP⟩ := hrel
    by_cases hlt : j < m
    · have hjb : t < b.length := by have h1 := HTT.out; have h2 := HM.out; rw [h2] at hlt; have := nsec_lt hlt; omega
      have htz : (t : Int) < (b.length : Int) := by omega
      have htz1 : (t : Int).toNat = t := by omega
      have htz0 : (0 : Int) ≤ (t : Int) := by omega
      have HBr := Lib.hid (HB.out.chg HP.out.2 (by simp))
      obtain ⟨g, o, rfl⟩ : ∃ g o, av = some ⟨g, o, none⟩ := by
        obtain ⟨a', c', he, _, _, h3⟩ := HBr.out
        obtain rfl : av = a' := (Value.slice.inj he).1
        rcases h3 with ⟨rfl, _⟩ | ⟨g, o, e, _⟩
        · simp at hjb
        · exact ⟨g, o, e⟩
      obtain ⟨w1, hw1⟩ : ∃ w1, w1 = wr.alloc (.cells Z64 5) := ⟨_, rfl⟩
      have hc1 : Chg [] wr w1 := by rw [hw1]; exact (Chg.refl _ _).alloc _
      have hN1 : Hid (w1.heap[wr.heap.size]? = some (.cells Z64 5 (0, 0))) := Lib.hid (by rw [hw1]; exact heap_alloc_new wr _)
      have HB1 := Lib.hid (bytes_drop (k := t) (HBr.out.chg hc1 (by simp)) (by omega) (o + t) (fun _ => rfl))
      have HC1 := Lib.hid hc1
      have HW1 := Lib.hid hw1
      have hcj : t < cv := by omega
      have hcj2 : ¬ cv = t := by omega
      clear hc1 hw1
      go_wp2_with (rw [← HW1.out]; refine wpList_pad (by rfl) (.tmp 13) (.tmp 16) (by rfl) wr.heap.size (by rfl) _ (by rfl) (b.drop t) HB1.out hN1.out ?_; intro w2 np hr2 hb2 hl2; refine stay_of ?_)
      have hc2 := chg_pad HC1.out hb2
      have hcA : Chg [] w2 (w2.alloc (.cells #[.slice (some ⟨wr.heap.size, 0, none⟩) 64 64] 27)) := (Chg.refl _ _).alloc _
      have hP2 := HP.out.1.keep (hc2.trans hcA (by simp))
      have hsz : wr.heap.size < w2.heap.size := hl2
      have HR2 := Lib.hid (hr2.bytes.chg hcA (by simp))
      have HCA := Lib.hid ((HP.out.2.trans hc2 (by simp)).trans hcA (by simp))
      have HPA := Lib.hid hP2
      have HNW := Lib.hid (news_one (w := w2) (e := 27) (u := .slice (some ⟨wr.heap.size, 0, none⟩) 64 64) rfl)
      have hwle := HP.out.2.size
      have hwle2 := hc2.size
      have HOB : Hid (∀ g, (Value.slice a3 j c3).ownBlock = some g → g < wr.heap.size) := Lib.hid (fun g hg => (World.ownsRow.lt HP.out.1.row g hg).2)
      unfold Stay
      clear hr2 hb2 hc2 hcA hP2 HP
      go_wp2_with (at_builtin; refine wpList_append_lies _ rfl (.tmp 18) (.tmp 20) 76 rfl 0 27 i3 (.slice none 0 0) 1 24 Tryz.underlying76 I3.out.1 I3.out.2.1 I3.out.2.2.1 I3.out.2.2.2 rfl (by omega) (.slice a3 j c3) j PV rfl HPA.out.row ⟨w2.heap.size, 0, none⟩ 1 1 [.slice (some ⟨wr.heap.size, 0, none⟩) 64 64] rfl rfl HNW.out (fun u hu => by rw [List.mem_singleton.1 hu]; rfl) (by omega) (by unfold maxLen; omega) (by omega) (Nat.zero_le _) _ rfl ?_; intro g5 cap5 w5 hrow hg hat hlt5)
      have HAP := Lib.hid (And.intro hrow (And.intro hg (And.intro hat hlt5)))
      clear hrow hg hat hlt5
      go_roundg (gk - 1)
      case measure => omega
      case rel =>
        obtain ⟨hrow, hg, hat, hlt5⟩ := HAP.out
        have hsA : (w2.alloc (.cells #[.slice (some ⟨wr.heap.size, 0, none⟩) 64 64] 27)).heap.size = w2.heap.size + 1 := by simp
        have hPVl : PV.length = j := by have := HPA.out.row.1; omega
        have hkeep : ∀ v l, BytesAt (w2.alloc (.cells #[.slice (some ⟨wr.heap.size, 0, none⟩) 64 64] 27)) v l → (∀ g, v.ownBlock = some g → (Value.slice a3 j c3).ownBlock ≠ some g) → BytesAt w5 v l := fun v l hv hne => hv.chg ((Chg.refl (Value.slice a3 j c3).ownBlock.toList _).grown hg (fun k hk => .inl (by rw [hk]; simp))) (fun g hg2 hm => hne g hg2 (by simpa using hm))
        have hgn : ∀ g, g < w2.heap.size → (Value.slice a3 j c3).ownBlock ≠ some g → g ≠ g5 := fun g h1 h2 e => by
          rcases hat with h4 | h4
          · exact h2 (by rw [e]; exact h4)
          · rw [hsA] at h4; omega
        refine ⟨j + 1, t + 64, some ⟨g5, 0, none⟩, cap5, PV ++ [.slice (some ⟨wr.heap.size, 0, none⟩) 64 64], rfl, by go_num, by omega, by omega, by omega, Lib.hid (by have := HTT.out; omega), Lib.hid ⟨⟨hrow, fun k hk => ?_, fun g hg2 => ?_⟩, ?_⟩⟩
        · by_cases hkj : k < j
          · have e1 : (PV ++ [Value.slice (some ⟨wr.heap.size, 0, none⟩) 64 64]).getD k undef = PV.getD k undef := by
              rw [List.getD_eq_getElem?_getD, List.getElem?_append_left (by omega), List.getD_eq_getElem?_getD]
            rw [e1]
            obtain ⟨b1, b2⟩ := HPA.out.secs k hkj
            refine ⟨hkeep _ _ b1 (fun g hg2 => (b2 g hg2).2), fun g hg2 => ⟨(b2 g hg2).1, fun he => ?_⟩⟩
            have hgs : g < w2.heap.size ∨ w2.heap.size ≤ g := by omega
            have hlen : secAt b k ≠ [] := fun e => by have := secAt_len b k; rw [e] at this; simp at this
            have hlt9 := b1.lt hlen g hg2
            have he : g5 = g := by simpa [Value.ownBlock] using he
            rcases hat with h4 | h4
            · exact (b2 g hg2).2 (by rw [← he]; exact h4)
            · omega
          · obtain rfl : k = j := by omega
            have e1 : (PV ++ [Value.slice (some ⟨wr.heap.size, 0, none⟩) 64 64]).getD k undef = .slice (some ⟨wr.heap.size, 0, none⟩) 64 64 := by
              rw [List.getD_eq_getElem?_getD, List.getElem?_append_right (by omega), hPVl, Nat.sub_self]; rfl
            rw [e1]
            have hsec : secAt b k = pad (b.drop t) := by rw [HTT.out, secAt_pad]
            rw [hsec]
            refine ⟨hkeep _ _ HR2.out (fun g hg2 he => ?_), fun g hg2 => ?_⟩
            · have h1 := HOB.out g he
              have h2 : wr.heap.size = g := by simpa [Value.ownBlock] using hg2
              omega
            · have h2 : wr.heap.size = g := by simpa [Value.ownBlock] using hg2
              refine ⟨by omega, fun he => ?_⟩
              have he : g5 = g := by simpa [Value.ownBlock] using he
              rcases hat with h4 | h4
              · have h1 := HOB.out g5 h4; omega
              · omega
        · have he : g5 = g := by simpa [Value.ownBlock] using hg2
          rcases hat with h4 | h4
          · rw [← he]; exact HPA.out.new g5 h4
          · omega
        · exact HCA.out.grown hg (fun k hk => .inr (HPA.out.new k hk))
    · have hjm : j = m := by omega
      have htb : ¬ (t : Int) < (b.length : Int) := by
        have h1 := HTT.out
        have h2 := HM.out
        rw [h2] at hlt
        have := nsec_le hlt
        omega
      have HPM : Hid (PadAt w wr (.slice a3 j c3) b (nsec b.length) PV) := Lib.hid (by rw [← HM.out, ← hjm]; exact HP.out.1)
      clear hjm
      go_wp2
      go_ret
      exact ⟨_, PV, rfl, HPM.out, HP.out.2⟩
end Go.Proofs.YtbkajnjboipbhaaGreatDoor.W

/- The reference's slots: Put. -/
namespace Go.Proofs.YtbkajnjboipbhaaGreatDoor.W
open Go.RowKit
set_option linter.unusedVariables false
set_option linter.unusedSimpArgs false

theorem PadAt.keepW {w0 w w' : World} {v : Value} {b : List UInt8} {j : Nat} {PV : List Value} {W : List Nat} (h : PadAt w0 w v b j PV) (hc : Chg W w w') (hW : ∀ x ∈ W, x < w0.heap.size) : PadAt w0 w' v b j PV := by
  have hn : ∀ g, w0.heap.size ≤ g → g ∉ W := fun g hg hm => by have := hW g hm; omega
  exact ⟨row_keep h.row (fun g hg => hc.block g (World.ownsRow.lt h.row g hg).2 (hn g (h.new g hg))), fun k hk => ⟨(h.secs k hk).1.chg hc (fun g hg => hn g ((h.secs k hk).2 g hg).1), (h.secs k hk).2⟩, h.new⟩
theorem PadAt.form {w0 w : World} {v : Value} {b : List UInt8} {j : Nat} {PV : List Value} (h : PadAt w0 w v b j PV) : ∃ a cap, v = .slice a j cap := by
  rcases h.row.2 with ⟨h1, h2⟩ | ⟨g, cap, cur, h1, _⟩
  · exact ⟨none, 0, by rw [h1, h2]⟩
  · exact ⟨_, cap, h1⟩
theorem PadAt.at {w0 w : World} {v : Value} {b : List UInt8} {j : Nat} {PV : List Value} (h : PadAt w0 w v b j PV) (k : Nat) (hk : k < j) : ∃ g cap ax cx, v = .slice (some ⟨g, 0, none⟩) j cap ∧ w.cell? ⟨g, k, none⟩ = some (.slice ax 64 cx) ∧ BytesAt w (.slice ax 64 cx) (secAt b k) ∧ ∀ x, (Value.slice ax 64 cx).ownBlock = some x → w0.heap.size ≤ x := by
  rcases h.row.2 with ⟨h1, h2⟩ | ⟨g, cap, cur, h1, _⟩
  · omega
  · have hr := h.row
    rw [h1] at hr
    obtain ⟨_, k0, _⟩ := own_cell hr k hk
    obtain ⟨b1, b2⟩ := h.secs k hk
    obtain ⟨ax, cx, hx⟩ := b1.slice
    rw [secAt_len] at hx
    rw [hx] at k0 b1 b2
    exact ⟨g, cap, ax, cx, h1, k0, b1, fun x hx => (b2 x hx).1⟩
theorem RSlotsAt.outside {w : World} {q m : Nat} {W A : List Nat} {s : SS} (h : RSlotsAt w q m W A s) {v : Value} {l : List UInt8} (hv : BytesAt w v l) (hl : l ≠ []) : ∀ k, v.ownBlock = some k → k ∉ W := fun k hk hm => (h.lim.2.2 k hm).not_bytes v l hv hl hk
theorem DS.lay_succ (d : DS) (pos : Nat) (b : List UInt8) (n j : Nat) : d.lay pos b (n + 1) j = if (d.write ((pos + j : Nat) : Int) (secAt b j)).1 ≠ 0 then d.write ((pos + j : Nat) : Int) (secAt b j) else (d.write ((pos + j : Nat) : Int) (secAt b j)).2.lay pos b n (j + 1) := rfl

set_option maxHeartbeats 16000000 in
set_option maxRecDepth 100000 in
theorem rput_any (q m : Nat) (W A : List Nat) (s : SS) (i : Int) (kv bv : Value) (key b : List UInt8) (w : World) (h : RSlotsAt w q m W A s) (hk : BytesAt w kv key) (hb : BytesAt w bv b)
    (hkl : key.length ≤ 1000000) (hbl : b.length ≤ 1000000) (ho : s.d.ops ≤ 900000000) (hw : s.d.since.length ≤ 900000) :
    Calls Tryz.prog 88 #[.pointer (some ⟨q, 0, none⟩), .int .i64 i, kv, bv] w (RSidPost w q m W A (s.put i key b)) := by
  have HS := Lib.hid h
  have HK := Lib.hid hk
  have HB := Lib.hid hb
  obtain ⟨V, F, rv, R, H⟩ := h
  have HH := Lib.hid H
  have c0 : w.cell? ⟨q, 0, none⟩ = some (.pointer (some ⟨m, 0, none⟩)) := blk_cell H.obj.head 0 _ rfl
  have c1 : w.cell? ⟨q, 1, none⟩ = some (.int .i64 (s.first : Int)) := blk_cell H.obj.head 1 _ rfl
  have c2 : w.cell? ⟨q, 2, none⟩ = some rv := blk_cell H.obj.head 2 _ rfl
  obtain ⟨a0, cap0, hrv0, hcap0⟩ := H.form
  have hfew := H.few
  obtain ⟨ka, kc, rfl⟩ := hk.slice
  obtain ⟨ba, bc, rfl⟩ := hb.slice
  by_cases hi : s.has i
  · have hi' := hi
    obtain ⟨h0, h1⟩ := hi'
    obtain ⟨j, rfl⟩ := Int.eq_ofNat_of_zero_le h0
    have hjl : j < s.rows.length := by omega
    have q0 : decide ((j : Int) < 0) = false := decide_eq_false (by omega)
    by_cases hlong : 40 < key.length ∨ 448 < b.length
    · have hg : s.put (j : Int) key b = (3, s) := by unfold SS.put; rw [if_neg (by simpa using hi), if_pos hlong]
      have HP := Lib.hid (RSidPost.same (c := 3) HS.out)
      have HG := Lib.hid hg
      rw [HG.out]
      subst hrv0
      generalize s.rows.length = n at *
      have hnj : ¬ n ≤ j := by omega
      clear H HH hi hg hk hb c0 c1 hfew
      by_cases hk40 : 40 < key.length
      · clear hlong
        go_enter Tryz.func88, Tryz.ntmps88
        go_wp2
        go_ret
        exact HP.out
      · have hz2 : 448 < b.length := by omega
        clear hlong
        go_enter Tryz.func88, Tryz.ntmps88
        go_wp2
        go_ret
        exact HP.out
    · obtain ⟨hk40, hb448⟩ : key.length ≤ 40 ∧ b.length ≤ 448 := by omega
      obtain ⟨g, cap, kv0, hrv, hcap, hcm, k0, k1, k2, k3, k4⟩ := H.at j hjl
      have hrow : s.row (j : Int) = s.rows.getD j noRow := rfl
      have hz1 : ¬ 40 < key.length := by omega
      have hz2 : ¬ 448 < b.length := by omega
      have hnj : ¬ s.rows.length ≤ j := by omega
      have hjz : (j : Int) < (s.rows.length : Int) := by omega
      have hjz1 : (j : Int).toNat = j := by omega
      by_cases hu : (s.row (j : Int)).used = true
      · have hg : s.put (j : Int) key b = (7, s) := by unfold SS.put; rw [if_neg (by simpa using hi), if_neg hlong, if_pos hu]
        have HP := Lib.hid (RSidPost.same (c := 7) HS.out)
        have HG := Lib.hid hg
        rw [HG.out]
        rw [hrow] at hu
        rw [hu] at k0
        subst hrv
        generalize s.rows.getD j noRow = r at *
        generalize s.rows.length = n at *
        clear H HH c0 c1 k1 k2 k3 k4 hu hg hi hrow hlong hk hb hrv0
        go_enter Tryz.func88, Tryz.ntmps88
        go_wp2
        go_ret
        exact HP.out
      · have hu' : (s.rows.getD j noRow).used = false := by rw [← hrow]; simpa using hu
        rw [hu'] at k0
        have hg : s.put (j : Int) key b = if (s.d.lays (s.pos j + 1) b).1 ≠ 0 then ((s.d.lays (s.pos j + 1) b).1, { s with d := (s.d.lays (s.pos j + 1) b).2 }) else
            if ((s.d.lays (s.pos j + 1) b).2.lays (s.pos j) (headBytes b.length key)).1 ≠ 0 then (((s.d.lays (s.pos j + 1) b).2.lays (s.pos j) (headBytes b.length key)).1, { s with d := ((s.d.lays (s.pos j + 1) b).2.lays (s.pos j) (headBytes b.length key)).2 }) else
            (0, { s with d := ((s.d.lays (s.pos j + 1) b).2.lays (s.pos j) (headBytes b.length key)).2, rows := s.rows.set j ⟨true, b.length, key⟩ }) := by
          unfold SS.put
          rw [if_neg (by simpa using hi), if_neg hlong, if_neg hu]
          rfl
        have hpos : s.pos (j : Int) = s.first + 8 * j := rfl
        have hroom := H.ok.room
        obtain ⟨p6, hnd, -⟩ := H.disk.read
        have hfj : ((s.first : Int) + (j : Int) * 8) = ((s.pos (j : Int) : Nat) : Int) := by rw [hpos]; omega
        have hpl : s.pos (j : Int) + 8 ≤ s.d.n := by rw [hpos]; omega
        have hff : s.first ≤ 4160 := by omega
        have hj5 : j ≤ 1000 := by omega
        by_cases hd : s.d.dead = true
        · have hgg : s.put (j : Int) key b = (14, s) := by rw [hg, DS.lays_dead hd, if_pos (by simp)]
          have HP := Lib.hid (RSidPost.same (c := 14) HS.out)
          have HG := Lib.hid hgg
          rw [HG.out]
          rw [hd] at p6
          subst hrv
          generalize s.rows.length = n at *
          clear H HH c1 k1 k2 k3 k4 hu hg hgg hi hrow hroom hrv0 hpos hfj hpl hd hlong hk hb
          go_enter Tryz.func88, Tryz.ntmps88
          go_wp2
          go_ret
          exact HP.out
        · have hd' : s.d.dead = false := by simpa using hd
          rw [hd'] at p6
          have hm7 : nsec b.length ≤ 7 := by unfold nsec; omega
          obtain ⟨M, hM⟩ : ∃ M, M = nsec b.length := ⟨_, rfl⟩
          have hLL : s.d.lays (s.pos j + 1) b = s.d.lay (s.pos j + 1) b M 0 := by rw [hM]; rfl
          have hns2 : nsec (headBytes b.length key).length = 1 := by rw [headBytes_len _ _ hb448 hk40]; unfold nsec; omega
          have hso := fun d => DS.lays_one (d := d) (s.pos j) (headBytes b.length key) hns2
          have hhl := headBytes_len b.length key hb448 hk40
          have HN2 := Lib.hid hns2
          have H3 : Hid ((h2 b.length).2 = 0 ∧ (h3 b.length key).2 = 0) := Lib.hid ⟨by rw [h2_eq _ hb448], by rw [h3_eq _ _ hb448 hk40]⟩
          have CP := Lib.hid (rpadded_any _ b w hb hbl)
          obtain ⟨pos, hpp⟩ : ∃ pos, pos = s.pos (j : Int) := ⟨_, rfl⟩
          rw [← hpp] at hg hfj hpl hLL hso
          obtain ⟨Z, hZ⟩ : ∃ Z, Z = s.put (j : Int) key b := ⟨_, rfl⟩
          rw [← hZ] at hg ⊢
          obtain ⟨n, hn⟩ : ∃ n, n = s.rows.length := ⟨_, rfl⟩
          rw [← hn] at hrv hcap hnj hjz hjl
          have HN := Lib.hid hn
          rw [← hM] at hm7
          have HM := Lib.hid hM
          have HSO := Lib.hid hso
          have HHL := Lib.hid hhl
          have HG := Lib.hid hg
          have HLL := Lib.hid hLL
          subst hrv
          clear H k1 k2 k3 k4 hu hu' hi hrow hroom hrv0 hpos hd hd' hZ hpp hn hfew h1 hcap0 hM hso hhl hg hLL hns2 hlong hk hb
          obtain ⟨fst, hfst⟩ : ∃ fst, fst = s.first := ⟨_, rfl⟩
          rw [← hfst] at c1 hfj hff
          clear hfst
          have hwr : Hid (IntKind.i64.wrap ((fst : Int) + IntKind.i64.wrap ((j : Int) * 8)) = (pos : Int)) := Lib.hid (by rw [IntWalk.i64_in ((j : Int) * 8) ⟨by omega, by omega⟩, IntWalk.i64_in _ ⟨by omega, by omega⟩]; exact hfj)
          go_enter Tryz.func88, Tryz.ntmps88
          go_wp2_with fail
          refine CP.out.mono ?_
          rintro e w1 ⟨v, PV, rfl, hpad, hc1⟩
          obtain ⟨va, vc, rfl⟩ := hpad.form
          rw [← HM.out] at hpad
          have HP1 := Lib.hid hpad
          have HC1 := Lib.hid hc1
          have HS1 := Lib.hid (HS.out.keep hc1 (by simp))
          rw [← HM.out]
          clear hpad hc1 CP c0 c1 c2 k0 p6
          go_wp2_with fail
          go_loopg [11, 12] M (fun g' s11 s12 wr => ∃ (k : Nat) (dk : DS), s11 = .int .i64 (k : Int) ∧ k ≤ M ∧ M ≤ k + g' ∧ Hid (RSid w1 wr q m W A { s with d := dk } ∧ dk.n = s.d.n ∧ dk.ops ≤ s.d.ops + k ∧ dk.since.length ≤ s.d.since.length + k ∧ s.d.lays (pos + 1) b = dk.lay (pos + 1) b (M - k) k))
          case atStart => exact ⟨0, s.d, rfl, by omega, by omega, Lib.hid ⟨RSid.same HS1.out, rfl, by omega, by omega, HLL.out⟩⟩
          case round =>
            obtain ⟨k, dk, rfl, hk, hkg, HJ⟩ := hrel
            obtain ⟨hsk, hkn, hko, hks, hkl2⟩ := HJ.out
            obtain ⟨Wk, Ak, ⟨Vk, Fk, rvk, Rk, Hk⟩, hWk, hAk, hCk⟩ := hsk
            have c0 : wr.cell? ⟨q, 0, none⟩ = some (.pointer (some ⟨m, 0, none⟩)) := blk_cell Hk.obj.head 0 _ rfl
            have hWw : ∀ x ∈ W, x < w.heap.size := fun x hx => (HS.out.lim).1 x (HS.out.lim.2.1 x hx)
            have HPk := Lib.hid (HP1.out.keepW hCk hWw)
            have HHk := Lib.hid Hk
            have HGk := Lib.hid (And.intro hWk (And.intro hAk hCk))
            have HLk := Lib.hid hkl2
            have HWw := Lib.hid hWw
            by_cases hlt : k < M
            · obtain ⟨gv, cv, ax, cx, hve, e1, b1, b2⟩ := HPk.out.at k hlt
              obtain ⟨rfl, rfl⟩ : va = some ⟨gv, 0, none⟩ ∧ vc = cv := by simpa using hve
              have hkz : (k : Int) < (M : Int) := by omega
              have hkz1 : (k : Int).toNat = k := by omega
              have hkz0 : (0 : Int) ≤ (k : Int) := by omega
              have hw1 : IntKind.i64.wrap ((pos : Int) + 1 + (k : Int)) = ((pos + 1 + k : Nat) : Int) := by rw [IntWalk.i64_in _ ⟨by omega, by omega⟩]; omega
              have hw2 : Hid (IntKind.i64.wrap (IntKind.i64.wrap ((pos : Int) + 1) + (k : Int)) = ((pos + 1 + k : Nat) : Int)) := Lib.hid (by rw [IntWalk.i64_in ((pos : Int) + 1) ⟨by omega, by omega⟩]; exact hw1)
              have CW := Lib.hid (rwrite_any m Vk Fk dk (pos + 1 + k) (.slice ax 64 cx) (secAt b k) wr.drew (Hk.disk.keep (by exact (Chg.refl [] wr).drew) (by simp)) (by omega) (by omega) (by omega) (secAt_len b k) (b1.chg (by exact (Chg.refl [] wr).drew) (by simp)) (fun x hx hm => by
                have h1 := b2 x hx
                rcases hWk x (Hk.sub.1 x hm) with h2 | h2
                · have := hWw x h2; omega
                · have hne : secAt b k ≠ [] := fun e => by have := secAt_len b k; rw [e] at this; simp at this
                  have h3 := (HP1.out.at k hlt)
                  obtain ⟨gv', cv', ax', cx', hve', e1', b1', b2'⟩ := h3
                  obtain ⟨rfl, rfl⟩ : gv = gv' ∧ vc = cv' := by simpa using hve'
                  have e2 := hCk.cell e1' (fun hm2 => by
                    have h5 : gv < w.heap.size := hWw gv hm2
                    have h6 := HP1.out.new gv rfl
                    omega)
                  have e3 : Value.slice ax 64 cx = Value.slice ax' 64 cx' := Option.some.inj (e1.symm.trans e2)
                  rw [e3] at hx
                  have := b1'.lt hne x hx
                  omega))
              have hwo := DS.write_ok dk ((pos + 1 + k : Nat) : Int) (secAt b k)
              obtain ⟨nk, hnk⟩ : ∃ nk, M - k = nk + 1 := ⟨M - k - 1, by omega⟩
              have hlk := hkl2
              rw [hnk, DS.lay_succ] at hlk
              clear Hk hWk hAk hCk hkl2 hve b1 b2 HJ hWw
              generalize dk.write ((pos + 1 + k : Nat) : Int) (secAt b k) = zw at *
              obtain ⟨r1, d1⟩ := zw
              dsimp only at CW hwo hlk
              have HLK := Lib.hid hlk
              clear hlk
              go_wp2_with fail
              refine wp_region_L [(12, fun w' => w'.cell? ⟨q, 0, none⟩ = some (.pointer (some ⟨m, 0, none⟩))), (12, fun w' => w'.cell? ⟨gv, k, none⟩ = some (.slice ax 64 cx))] (by kernel_rfl) ?_ (fun hHeld => ?_)
              · exact (HoldC.cons (c0) (HoldC.cons (e1) HoldC.nil))
              refine wpAnyL_take (i := 0) (oi := _) (v := ?_) rfl (by kernel_rfl) (by kernel_rfl) (by kernel_rfl) (by kernel_rfl) (by kernel_rfl) (fun _ _ _ h => h) (Or.inl ⟨by rfl, ?_⟩) (by assumption) (fun hNew => ?_)
              rotate_left
              · intro w _
                go_simp
                try with_reducible rfl
              clear hHeld
              have hHeld := hNew
              clear hNew
              try simp only [List.getElem_toArray, List.getElem_cons_succ, List.getElem_cons_zero, Act.put, List.setIfInBounds_toArray, List.set_cons_zero, List.set_cons_succ]
              refine wpAnyL_take (i := 1) (oi := _) (v := ?_) rfl (by kernel_rfl) (by kernel_rfl) (by kernel_rfl) (by kernel_rfl) (by kernel_rfl) (fun _ _ _ h => h) (Or.inl ⟨by rfl, ?_⟩) (by assumption) (fun hNew => ?_)
              rotate_left
              · intro w _
                go_simp
                try with_reducible rfl
              clear hHeld
              have hHeld := hNew
              clear hNew
              try simp only [List.getElem_toArray, List.getElem_cons_succ, List.getElem_cons_zero, Act.put, List.setIfInBounds_toArray, List.set_cons_zero, List.set_cons_succ]
              refine wpAnyL_take (i := 2) (oi := _) (v := ?_) rfl (by kernel_rfl) (by kernel_rfl) (by kernel_rfl) (by kernel_rfl) (by kernel_rfl) (fun _ _ _ h => h) (Or.inl ⟨by rfl, ?_⟩) (by assumption) (fun hNew => ?_)
              rotate_left
              · intro w _
                go_simp
                try with_reducible rfl
              clear hHeld
              have hHeld := hNew
              clear hNew
              try simp only [List.getElem_toArray, List.getElem_cons_succ, List.getElem_cons_zero, Act.put, List.setIfInBounds_toArray, List.set_cons_zero, List.set_cons_succ]
              refine wpAnyL_take (i := 4) (oi := _) (v := ?_) rfl (by kernel_rfl) (by kernel_rfl) (by kernel_rfl) (by kernel_rfl) (by kernel_rfl) (fun _ _ _ h => h) (Or.inl ⟨by rfl, ?_⟩) (by assumption) (fun hNew => ?_)
              rotate_left
              · intro w _
                go_simp
                try with_reducible rfl
              clear hHeld
              have hHeld := hNew
              clear hNew
              try simp only [List.getElem_toArray, List.getElem_cons_succ, List.getElem_cons_zero, Act.put, List.setIfInBounds_toArray, List.set_cons_zero, List.set_cons_succ]
              refine wpAnyL_take (i := 5) (oi := _) (v := ?_) rfl (by kernel_rfl) (by kernel_rfl) (by kernel_rfl) (by kernel_rfl) (by kernel_rfl) (fun _ _ _ h => h) (Or.inl ⟨by rfl, ?_⟩) (by assumption) (fun hNew => ?_)
              rotate_left
              · intro w _
                go_simp
                try with_reducible rfl
              clear hHeld
              have hHeld := hNew
              clear hNew
              try simp only [List.getElem_toArray, List.getElem_cons_succ, List.getElem_cons_zero, Act.put, List.setIfInBounds_toArray, List.set_cons_zero, List.set_cons_succ]
              refine wpAnyL_take (i := 6) (oi := _) (v := ?_) rfl (by kernel_rfl) (by kernel_rfl) (by kernel_rfl) (by kernel_rfl) (by kernel_rfl) (fun _ _ _ h => h) (Or.inl ⟨by rfl, ?_⟩) (by assumption) (fun hNew => ?_)
              rotate_left
              · intro w _
                go_simp
                try with_reducible rfl
              clear hHeld
              have hHeld := hNew
              clear hNew
              try simp only [List.getElem_toArray, List.getElem_cons_succ, List.getElem_cons_zero, Act.put, List.setIfInBounds_toArray, List.set_cons_zero, List.set_cons_succ]
              refine wpAnyL_take (i := 7) (oi := _) (v := ?_) rfl (by kernel_rfl) (by kernel_rfl) (by kernel_rfl) (by kernel_rfl) (by kernel_rfl) (fun _ _ _ h => h) (Or.inl ⟨by rfl, ?_⟩) (by assumption) (fun hNew => ?_)
              rotate_left
              · intro w _
                go_simp
                try with_reducible rfl
              clear hHeld
              have hHeld := hNew
              clear hNew
              try simp only [List.getElem_toArray, List.getElem_cons_succ, List.getElem_cons_zero, Act.put, List.setIfInBounds_toArray, List.set_cons_zero, List.set_cons_succ]
              refine wpAnyL_take (i := 8) (oi := _) (v := ?_) rfl (by kernel_rfl) (by kernel_rfl) (by kernel_rfl) (by kernel_rfl) (by kernel_rfl) (fun _ _ _ h => h) (Or.inl ⟨by rfl, ?_⟩) (by assumption) (fun hNew => ?_)
              rotate_left
              · intro w _
                go_simp
                try with_reducible rfl
              clear hHeld
              have hHeld := hNew
              clear hNew
              try simp only [List.getElem_toArray, List.getElem_cons_succ, List.getElem_cons_zero, Act.put, List.setIfInBounds_toArray, List.set_cons_zero, List.set_cons_succ]
              refine wpAnyL_take (i := 9) (oi := _) (v := ?_) rfl (by kernel_rfl) (by kernel_rfl) (by kernel_rfl) (by kernel_rfl) (by kernel_rfl) (fun _ _ _ h => h) (Or.inl ⟨by rfl, ?_⟩) (by assumption) (fun hNew => ?_)
              rotate_left
              · intro w _
                go_simp
                try with_reducible rfl
              clear hHeld
              have hHeld := hNew
              clear hNew
              try simp only [List.getElem_toArray, List.getElem_cons_succ, List.getElem_cons_zero, Act.put, List.setIfInBounds_toArray, List.set_cons_zero, List.set_cons_succ]
              refine wpAnyL_take (i := 10) (oi := _) (v := ?_) rfl (by kernel_rfl) (by kernel_rfl) (by kernel_rfl) (by kernel_rfl) (by kernel_rfl) (fun _ _ _ h => h) (Or.inl ⟨by rfl, ?_⟩) (by assumption) (fun hNew => ?_)
              rotate_left
              · intro w _
                go_simp
                try with_reducible rfl
              clear hHeld
              have hHeld := hNew
              clear hNew
              try simp only [List.getElem_toArray, List.getElem_cons_succ, List.getElem_cons_zero, Act.put, List.setIfInBounds_toArray, List.set_cons_zero, List.set_cons_succ]
              refine wpAnyL_load 0 (i := 3) (oi := _) (v := ?_) rfl rfl (by kernel_rfl) (by kernel_rfl) (by kernel_rfl) (by kernel_rfl) (by kernel_rfl) (by kernel_rfl) (fun _ _ _ h => h) (Or.inl ⟨by rfl, ?_⟩) (by assumption) (fun hNew => ?_)
              rotate_left
              · intro w hSw
                (try dsimp only at hSw)
                go_simp
                try with_reducible rfl
              clear hHeld
              have hHeld := hNew
              clear hNew
              try simp only [List.getElem_toArray, List.getElem_cons_succ, List.getElem_cons_zero, Act.put, List.setIfInBounds_toArray, List.set_cons_zero, List.set_cons_succ]
              refine wpAnyL_load 1 (i := 11) (oi := _) (v := ?_) rfl rfl (by kernel_rfl) (by kernel_rfl) (by kernel_rfl) (by kernel_rfl) (by kernel_rfl) (by kernel_rfl) (fun _ _ _ h => h) (Or.inl ⟨by rfl, ?_⟩) (by assumption) (fun hNew => ?_)
              rotate_left
              · intro w hSw
                (try dsimp only at hSw)
                go_simp
                try with_reducible rfl
              clear hHeld
              have hHeld := hNew
              clear hNew
              try simp only [List.getElem_toArray, List.getElem_cons_succ, List.getElem_cons_zero, Act.put, List.setIfInBounds_toArray, List.set_cons_zero, List.set_cons_succ]
              refine wpAnyL_ready (rs := [12]) (by kernel_rfl) (by simp) ?_
              refine AllReadyL.cons (o := _) rfl (fun K hK => ?_) AllReadyL.nil
              try simp only [List.getElem_toArray, List.getElem_cons_succ, List.getElem_cons_zero]
              go_simp
              try rw [hw2.out]
              refine CW.out.mono ?_
              rintro e w3 ⟨rfl, hd3⟩
              have hcd : Chg [] wr wr.drew := by exact (Chg.refl [] wr).drew
              have hs3 := RSid.pre hcd ((HHk.out.keep hcd (by simp)).did hd3 (by show d1.n = dk.n; exact hwo.1))
              have HS3 : Hid (RSid w1 w3 q m W A { s with d := d1 }) := Lib.hid (RSid.glue HGk.out.1 HGk.out.2.1 HGk.out.2.2 hs3)
              clear hs3 hcd hd3 CW
              try go_wp2_with fail
              clear hHeld
              refine hK.out _ _ ?_ (fun hHeld => ?_)
              · exact (HoldC.past (by kernel_rfl) (HoldC.past (by kernel_rfl) HoldC.nil))
              clear hK K
              try simp only [List.getElem_toArray, List.getElem_cons_succ, List.getElem_cons_zero, Act.put, List.setIfInBounds_toArray, List.set_cons_zero, List.set_cons_succ]
              refine wpAnyL_take (i := 13) (oi := _) (v := ?_) rfl (by kernel_rfl) (by kernel_rfl) (by kernel_rfl) (by kernel_rfl) (by kernel_rfl) (fun _ _ _ h => h) (Or.inl ⟨by rfl, ?_⟩) (by assumption) (fun hNew => ?_)
              rotate_left
              · intro w _
                go_simp
                try with_reducible rfl
              clear hHeld
              have hHeld := hNew
              clear hNew
              try simp only [List.getElem_toArray, List.getElem_cons_succ, List.getElem_cons_zero, Act.put, List.setIfInBounds_toArray, List.set_cons_zero, List.set_cons_succ]
              refine wpAnyL_done (by kernel_rfl) ?_ _
              clear hHeld
              clear c0 e1
              by_cases hr1 : r1 = 0
              · subst hr1
                have HLN : Hid (s.d.lays (pos + 1) b = d1.lay (pos + 1) b (M - (k + 1)) (k + 1)) := Lib.hid (by
                  rw [HLK.out, if_neg (by simp), show nk = M - (k + 1) by omega])
                go_wp2
                go_roundg (gk - 1)
                case measure => omega
                case rel => exact ⟨k + 1, d1, by go_num, by omega, by omega, Lib.hid ⟨HS3.out, by rw [hwo.1, hkn], by omega, by omega, HLN.out⟩⟩
              · have q2 : (r1 != 0) = true := by simp [hr1]
                have HZ : Hid (Z = (r1, { s with d := d1 })) := Lib.hid (by rw [HG.out, HLK.out, if_pos hr1, if_pos hr1])
                clear hr1
                go_wp2
                go_ret
                rw [HZ.out]
                exact ⟨rfl, RSid.pre HC1.out HS3.out⟩
            · obtain rfl : k = M := by omega
              have hkz : ¬ (k : Int) < (k : Int) := by omega
              have CS := Lib.hid (rsync_any m Vk Fk dk wr Hk.disk (by omega))
              have hLk : s.d.lays (pos + 1) b = dk.sync := by rw [hkl2, Nat.sub_self]; rfl
              have hso := DS.sync_ok dk
              clear Hk hWk hAk hCk hkl2 HJ hWw
              have HL := Lib.hid hLk
              clear hLk
              generalize dk.sync = zs at *
              obtain ⟨r1, d1⟩ := zs
              dsimp only at CS hso
              go_wp2_with fail
              refine CS.out.mono ?_
              rintro e w4 ⟨rfl, hd4⟩
              have hs4 := RSid.glue HGk.out.1 HGk.out.2.1 HGk.out.2.2 (HHk.out.did hd4 (by show d1.n = dk.n; exact hso.1))
              have HS4 : Hid (RSid w w4 q m W A { s with d := d1 }) := Lib.hid (RSid.pre HC1.out hs4)
              clear hs4 hd4 CS c0 HHk HGk HPk
              by_cases hr1 : r1 = 0
              · subst hr1
                have HZ : Hid (Z = if (d1.lays pos (headBytes b.length key)).1 ≠ 0 then ((d1.lays pos (headBytes b.length key)).1, { s with d := (d1.lays pos (headBytes b.length key)).2 }) else
                    (0, { s with d := (d1.lays pos (headBytes b.length key)).2, rows := s.rows.set j ⟨true, b.length, key⟩ })) := Lib.hid (by
                  rw [HG.out, HL.out]
                  simp only [ne_eq, not_true_eq_false, if_false])
                have hn1 : d1.n = s.d.n := by rw [hso.1, hkn]
                have ho1 : d1.ops ≤ 900000100 := by omega
                have hs1 : d1.since.length ≤ 900100 := by omega
                clear hkn hko hks hso HG HL HLL HLk
                -- the head
                obtain ⟨W4, A4, hS4, hW4, hA4, hC4⟩ := HS4.out
                obtain ⟨p, hp⟩ : ∃ p, p = w4.heap.size := ⟨_, rfl⟩
                have HPP := Lib.hid hp
                obtain ⟨w5, hw5⟩ : ∃ w5, w5 = w4.alloc (.cells #[.slice none 0 0, .int .i64 0] 88) := ⟨_, rfl⟩
                have hc5 : Chg [] w4 w5 := by rw [hw5]; exact (Chg.refl _ _).alloc _
                have hp5 : PenAt 88 w5 p none [] 0 := ⟨.slice none 0 0, by rw [hw5, hp]; exact heap_alloc_new w4 _, BRow.nil _, rfl, by simp, by simp⟩
                have HW5 := Lib.hid hw5
                have HC5 := Lib.hid hc5
                have HX4 := Lib.hid (And.intro hS4 (And.intro hW4 (And.intro hA4 hC4)))
                have CN1 := Lib.hid (rpnum_any p none [] 0 1 1 w5 hp5 (by omega) (by omega))
                rw [show penNum [] 0 1 (1 : Int).toNat = h1 from rfl] at CN1
                clear hS4 hW4 hA4 hC4 hp hw5 hc5 hp5 HS4
                go_wp2_with fail
                rw [← HW5.out, ← HPP.out]
                refine CN1.out.mono ?_
                rintro e w6 ⟨rfl, hw6⟩
                obtain ⟨g6, hp6, hg6, hc6⟩ := hw6
                have HC6 : Hid (Chg [] w4 w6) := Lib.hid (HC5.out.trans hc6 (fun x hx => .inr (by
                  have : x = p := by simpa using hx
                  have := HPP.out
                  omega)))
                have hge6 : ∀ k, g6 = some k → w4.heap.size ≤ k := by
                  intro k hk
                  rcases hg6 with rfl | ⟨k', rfl, h'⟩
                  · cases hk
                  · obtain rfl : k' = k := by simpa using hk
                    exact Nat.le_trans HC5.out.size h'
                have CN2 := Lib.hid (rpnum_any p g6 h1.1 h1.2 (b.length : Int) 2 w6 hp6 (by omega) (by omega))
                rw [show penNum h1.1 h1.2 (b.length : Int) (2 : Int).toNat = h2 b.length from rfl] at CN2
                have HGE6 := Lib.hid hge6
                clear hp6 hg6 hc6 hge6 CN1
                go_wp2_with fail
                refine CN2.out.mono ?_
                rintro e w7 ⟨rfl, hw7⟩
                obtain ⟨g7, hp7, hg7, hc7⟩ := hw7
                have HC7 : Hid (Chg [] w4 w7) := Lib.hid (HC6.out.trans hc7 (fun x hx => .inr (by
                  have hpp := HPP.out
                  rcases List.mem_cons.1 hx with rfl | hx
                  · omega
                  · exact HGE6.out x (by simpa using hx))))
                have hge7 : ∀ k, g7 = some k → w4.heap.size ≤ k := by
                  intro k hk
                  rcases hg7 with rfl | ⟨k', rfl, h'⟩
                  · exact HGE6.out k hk
                  · obtain rfl : k' = k := by simpa using hk
                    exact Nat.le_trans HC6.out.size h'
                have HKO : Hid (key ≠ [] → ∀ k, (Value.slice ka key.length kc).ownBlock = some k → k < w.heap.size ∧ k ∉ W) := Lib.hid (fun hne k hk => ⟨HK.out.lt hne k hk, HS.out.outside HK.out hne k hk⟩)
                have HK4 : Hid (BytesAt w4 (.slice ka key.length kc) key) := Lib.hid (HK.out.chgW HX4.out.2.2.2 (fun hne k hk => (HKO.out hne k hk).2))
                have CR := Lib.hid (rpraw_any p g7 (h2 b.length).1 (h2 b.length).2 _ key w7 hp7 (HK4.out.chg HC7.out (by simp)) (by omega) (fun hne k hk => by
                  have h8 := (HKO.out hne k hk).1
                  have h9 := HX4.out.2.2.2.size
                  have hpp := HPP.out
                  exact ⟨by omega, fun e => by have := hge7 k e; omega⟩))
                rw [show penRaw (h2 b.length).1 (h2 b.length).2 key = h3 b.length key from rfl] at CR
                have HGE7 := Lib.hid hge7
                clear hp7 hg7 hc7 hge7 CN2
                go_wp2_with fail
                refine CR.out.mono ?_
                rintro e w8 ⟨rfl, hw8⟩
                obtain ⟨g8, hp8, hg8, hc8⟩ := hw8
                have HC8 : Hid (Chg [] w4 w8) := Lib.hid (HC7.out.trans hc8 (fun x hx => .inr (by
                  have hpp := HPP.out
                  rcases List.mem_cons.1 hx with rfl | hx
                  · omega
                  · exact HGE7.out x (by simpa using hx))))
                rw [H3.out.2, ← head_h3] at hp8
                obtain ⟨v8, hv8, hr8, _, _, _⟩ := hp8
                have p0 : w8.cell? ⟨p, 0, none⟩ = some v8 := blk_cell hv8 0 _ rfl
                have CPD := Lib.hid (rpadded_any v8 (headBytes b.length key) w8.drew (hr8.bytes.chg (by exact (Chg.refl [] w8).drew) (by simp)) (by rw [HHL.out]; omega))
                obtain ⟨a8, c8, hv8⟩ := hr8.bytes.slice
                subst hv8
                have hS8 := HX4.out.1.keep HC8.out (by simp)
                obtain ⟨V8, F8, rv8, R8, H8⟩ := hS8
                have c08 : w8.cell? ⟨q, 0, none⟩ = some (.pointer (some ⟨m, 0, none⟩)) := blk_cell H8.obj.head 0 _ rfl
                have HH8 := Lib.hid H8
                clear hv8 hr8 hg8 hc8 CR H8
                go_wp2_with fail
                refine wp_region_L [(12, fun w' => w'.cell? ⟨q, 0, none⟩ = some (.pointer (some ⟨m, 0, none⟩))), (12, fun w' => w'.cell? ⟨p, 0, none⟩ = some (.slice a8 (headBytes b.length key).length c8))] (by kernel_rfl) ?_ (fun hHeld => ?_)
                · exact (HoldC.cons (c08) (HoldC.cons (p0) HoldC.nil))
                refine wpAnyL_take (i := 0) (oi := _) (v := ?_) rfl (by kernel_rfl) (by kernel_rfl) (by kernel_rfl) (by kernel_rfl) (by kernel_rfl) (fun _ _ _ h => h) (Or.inl ⟨by rfl, ?_⟩) (by assumption) (fun hNew => ?_)
                rotate_left
                · intro w _
                  go_simp
                  try with_reducible rfl
                clear hHeld
                have hHeld := hNew
                clear hNew
                try simp only [List.getElem_toArray, List.getElem_cons_succ, List.getElem_cons_zero, Act.put, List.setIfInBounds_toArray, List.set_cons_zero, List.set_cons_succ]
                refine wpAnyL_take (i := 1) (oi := _) (v := ?_) rfl (by kernel_rfl) (by kernel_rfl) (by kernel_rfl) (by kernel_rfl) (by kernel_rfl) (fun _ _ _ h => h) (Or.inl ⟨by rfl, ?_⟩) (by assumption) (fun hNew => ?_)
                rotate_left
                · intro w _
                  go_simp
                  try with_reducible rfl
                clear hHeld
                have hHeld := hNew
                clear hNew
                try simp only [List.getElem_toArray, List.getElem_cons_succ, List.getElem_cons_zero, Act.put, List.setIfInBounds_toArray, List.set_cons_zero, List.set_cons_succ]
                refine wpAnyL_take (i := 2) (oi := _) (v := ?_) rfl (by kernel_rfl) (by kernel_rfl) (by kernel_rfl) (by kernel_rfl) (by kernel_rfl) (fun _ _ _ h => h) (Or.inl ⟨by rfl, ?_⟩) (by assumption) (fun hNew => ?_)
                rotate_left
                · intro w _
                  go_simp
                  try with_reducible rfl
                clear hHeld
                have hHeld := hNew
                clear hNew
                try simp only [List.getElem_toArray, List.getElem_cons_succ, List.getElem_cons_zero, Act.put, List.setIfInBounds_toArray, List.set_cons_zero, List.set_cons_succ]
                refine wpAnyL_take (i := 4) (oi := _) (v := ?_) rfl (by kernel_rfl) (by kernel_rfl) (by kernel_rfl) (by kernel_rfl) (by kernel_rfl) (fun _ _ _ h => h) (Or.inl ⟨by rfl, ?_⟩) (by assumption) (fun hNew => ?_)
                rotate_left
                · intro w _
                  go_simp
                  try with_reducible rfl
                clear hHeld
                have hHeld := hNew
                clear hNew
                try simp only [List.getElem_toArray, List.getElem_cons_succ, List.getElem_cons_zero, Act.put, List.setIfInBounds_toArray, List.set_cons_zero, List.set_cons_succ]
                refine wpAnyL_take (i := 5) (oi := _) (v := ?_) rfl (by kernel_rfl) (by kernel_rfl) (by kernel_rfl) (by kernel_rfl) (by kernel_rfl) (fun _ _ _ h => h) (Or.inl ⟨by rfl, ?_⟩) (by assumption) (fun hNew => ?_)
                rotate_left
                · intro w _
                  go_simp
                  try with_reducible rfl
                clear hHeld
                have hHeld := hNew
                clear hNew
                try simp only [List.getElem_toArray, List.getElem_cons_succ, List.getElem_cons_zero, Act.put, List.setIfInBounds_toArray, List.set_cons_zero, List.set_cons_succ]
                refine wpAnyL_take (i := 6) (oi := _) (v := ?_) rfl (by kernel_rfl) (by kernel_rfl) (by kernel_rfl) (by kernel_rfl) (by kernel_rfl) (fun _ _ _ h => h) (Or.inl ⟨by rfl, ?_⟩) (by assumption) (fun hNew => ?_)
                rotate_left
                · intro w _
                  go_simp
                  try with_reducible rfl
                clear hHeld
                have hHeld := hNew
                clear hNew
                try simp only [List.getElem_toArray, List.getElem_cons_succ, List.getElem_cons_zero, Act.put, List.setIfInBounds_toArray, List.set_cons_zero, List.set_cons_succ]
                refine wpAnyL_take (i := 7) (oi := _) (v := ?_) rfl (by kernel_rfl) (by kernel_rfl) (by kernel_rfl) (by kernel_rfl) (by kernel_rfl) (fun _ _ _ h => h) (Or.inl ⟨by rfl, ?_⟩) (by assumption) (fun hNew => ?_)
                rotate_left
                · intro w _
                  go_simp
                  try with_reducible rfl
                clear hHeld
                have hHeld := hNew
                clear hNew
                try simp only [List.getElem_toArray, List.getElem_cons_succ, List.getElem_cons_zero, Act.put, List.setIfInBounds_toArray, List.set_cons_zero, List.set_cons_succ]
                refine wpAnyL_load 0 (i := 3) (oi := _) (v := ?_) rfl rfl (by kernel_rfl) (by kernel_rfl) (by kernel_rfl) (by kernel_rfl) (by kernel_rfl) (by kernel_rfl) (fun _ _ _ h => h) (Or.inl ⟨by rfl, ?_⟩) (by assumption) (fun hNew => ?_)
                rotate_left
                · intro w hSw
                  (try dsimp only at hSw)
                  go_simp
                  try with_reducible rfl
                clear hHeld
                have hHeld := hNew
                clear hNew
                try simp only [List.getElem_toArray, List.getElem_cons_succ, List.getElem_cons_zero, Act.put, List.setIfInBounds_toArray, List.set_cons_zero, List.set_cons_succ]
                refine wpAnyL_load 1 (i := 8) (oi := _) (v := ?_) rfl rfl (by kernel_rfl) (by kernel_rfl) (by kernel_rfl) (by kernel_rfl) (by kernel_rfl) (by kernel_rfl) (fun _ _ _ h => h) (Or.inl ⟨by rfl, ?_⟩) (by assumption) (fun hNew => ?_)
                rotate_left
                · intro w hSw
                  (try dsimp only at hSw)
                  go_simp
                  try with_reducible rfl
                clear hHeld
                have hHeld := hNew
                clear hNew
                try simp only [List.getElem_toArray, List.getElem_cons_succ, List.getElem_cons_zero, Act.put, List.setIfInBounds_toArray, List.set_cons_zero, List.set_cons_succ]
                refine wpAnyL_ready (rs := [9]) (by kernel_rfl) (by simp) ?_
                refine AllReadyL.cons (o := _) rfl (fun K hK => ?_) AllReadyL.nil
                try simp only [List.getElem_toArray, List.getElem_cons_succ, List.getElem_cons_zero]
                go_simp
                refine CPD.out.mono ?_
                rintro e w9 ⟨v9, PV9, rfl, hpad9, hc9⟩
                have hcd8 : Chg [] w8 w8.drew := by exact (Chg.refl [] w8).drew
                have hc9' : Chg [] w8 w9 := hcd8.trans hc9 (by simp)
                have HC9 := Lib.hid hc9'
                rw [HN2.out] at hpad9
                obtain ⟨g9, cv9, ax9, cx9, hv9, e9, b9, o9⟩ := hpad9.at 0 (by omega)
                subst hv9
                have CW2 := Lib.hid (rwrite_any m V8 F8 d1 pos (.slice ax9 64 cx9) (secAt (headBytes b.length key) 0) w9 (HH8.out.disk.keep hc9' (by simp)) (by omega) (by omega) (by omega) (secAt_len _ _) b9 (fun x hx hm => by
                  have h1 := o9 x hx
                  have h2 : x < w8.heap.size := HH8.out.lim x (HH8.out.aF x (HH8.out.sub.2.2.2.2 x hm))
                  have h3 : w8.drew.heap.size = w8.heap.size := rfl
                  omega))
                have c09 := hc9'.cell c08 (by simp)
                have p09 := hc9'.cell p0 (by simp)
                have hwo := DS.write_ok d1 (pos : Int) (secAt (headBytes b.length key) 0)
                have hso2 := DS.sync_ok (d1.write (pos : Int) (secAt (headBytes b.length key) 0)).2
                have hsp := HSO.out d1
                clear hpad9 b9 o9 hc9 hc9' hcd8 CPD
                generalize d1.write (pos : Int) (secAt (headBytes b.length key) 0) = zw at *
                obtain ⟨r2, d2⟩ := zw
                dsimp only at CW2 hwo hso2 hsp
                have HSP := Lib.hid hsp
                clear hsp
                try go_wp2_with fail
                clear hHeld
                refine hK.out _ _ ?_ (fun hHeld => ?_)
                · exact (HoldC.cons (c09) (HoldC.cons (p09) HoldC.nil))
                clear hK K
                try simp only [List.getElem_toArray, List.getElem_cons_succ, List.getElem_cons_zero, Act.put, List.setIfInBounds_toArray, List.set_cons_zero, List.set_cons_succ]
                refine wpAnyL_take (i := 10) (oi := _) (v := ?_) rfl (by kernel_rfl) (by kernel_rfl) (by kernel_rfl) (by kernel_rfl) (by kernel_rfl) (fun _ _ _ h => h) (Or.inl ⟨by rfl, ?_⟩) (by assumption) (fun hNew => ?_)
                rotate_left
                · intro w _
                  go_simp
                  try with_reducible rfl
                clear hHeld
                have hHeld := hNew
                clear hNew
                try simp only [List.getElem_toArray, List.getElem_cons_succ, List.getElem_cons_zero, Act.put, List.setIfInBounds_toArray, List.set_cons_zero, List.set_cons_succ]
                refine wpAnyL_ready (rs := [11]) (by kernel_rfl) (by simp) ?_
                refine AllReadyL.cons (o := _) rfl (fun K hK => ?_) AllReadyL.nil
                try simp only [List.getElem_toArray, List.getElem_cons_succ, List.getElem_cons_zero]
                go_simp
                clear hHeld
                refine hK.out _ _ ?_ (fun hHeld => ?_)
                · exact (HoldC.cons (c09) (HoldC.cons (p09) HoldC.nil))
                clear hK K
                try simp only [List.getElem_toArray, List.getElem_cons_succ, List.getElem_cons_zero, Act.put, List.setIfInBounds_toArray, List.set_cons_zero, List.set_cons_succ]
                refine wpAnyL_ready (rs := [12]) (by kernel_rfl) (by simp) ?_
                refine AllReadyL.cons (o := _) rfl (fun K hK => ?_) AllReadyL.nil
                try simp only [List.getElem_toArray, List.getElem_cons_succ, List.getElem_cons_zero]
                go_simp
                refine CW2.out.mono ?_
                rintro e w10 ⟨rfl, hd10⟩
                have hs10 := RSid.pre HC8.out (RSid.pre HC9.out ((HH8.out.keep HC9.out (by simp)).did hd10 (by show d2.n = d1.n; exact hwo.1)))
                have HS10 : Hid (RSid w w10 q m W A { s with d := d2 }) := Lib.hid (RSid.glue HX4.out.2.1 HX4.out.2.2.1 HX4.out.2.2.2 hs10)
                clear hs10 hd10 CW2 c09 p09 e9
                try go_wp2_with fail
                clear hHeld
                refine hK.out _ _ ?_ (fun hHeld => ?_)
                · exact (HoldC.past (by kernel_rfl) (HoldC.past (by kernel_rfl) HoldC.nil))
                clear hK K
                try simp only [List.getElem_toArray, List.getElem_cons_succ, List.getElem_cons_zero, Act.put, List.setIfInBounds_toArray, List.set_cons_zero, List.set_cons_succ]
                refine wpAnyL_take (i := 13) (oi := _) (v := ?_) rfl (by kernel_rfl) (by kernel_rfl) (by kernel_rfl) (by kernel_rfl) (by kernel_rfl) (fun _ _ _ h => h) (Or.inl ⟨by rfl, ?_⟩) (by assumption) (fun hNew => ?_)
                rotate_left
                · intro w _
                  go_simp
                  try with_reducible rfl
                clear hHeld
                have hHeld := hNew
                clear hNew
                try simp only [List.getElem_toArray, List.getElem_cons_succ, List.getElem_cons_zero, Act.put, List.setIfInBounds_toArray, List.set_cons_zero, List.set_cons_succ]
                refine wpAnyL_done (by kernel_rfl) ?_ _
                clear hHeld
                clear c08 p0
                by_cases hr2 : r2 = 0
                · subst hr2
                  obtain ⟨W5, A5, ⟨V5, F5, rv5, R5, H5⟩, hW5, hA5, hC5⟩ := HS10.out
                  have c05 : w10.cell? ⟨q, 0, none⟩ = some (.pointer (some ⟨m, 0, none⟩)) := blk_cell H5.obj.head 0 _ rfl
                  have CS := Lib.hid (rsync_any m V5 F5 d2 w10 H5.disk (by omega))
                  have H50 := Lib.hid H5
                  have HG5 := Lib.hid (And.intro hW5 (And.intro hA5 hC5))
                  have hL2 : d1.lays pos (headBytes b.length key) = d2.sync := by rw [HSP.out]; simp
                  have HL2 := Lib.hid hL2
                  clear H5 hW5 hA5 hC5 hL2
                  generalize d2.sync = zs at *
                  obtain ⟨r3, d3⟩ := zs
                  dsimp only at CS hso2
                  go_wp2_with fail
                  refine CS.out.mono ?_
                  rintro e w11 ⟨rfl, hd11⟩
                  have hs11 := RSid.glue HG5.out.1 HG5.out.2.1 HG5.out.2.2 (H50.out.did hd11 (by show d3.n = d2.n; exact hso2.1))
                  have HS11 : Hid (RSid w w11 q m W A { s with d := d3 }) := Lib.hid hs11
                  have HZ3 : Hid (Z = if r3 ≠ 0 then (r3, { s with d := d3 }) else (0, { s with d := d3, rows := s.rows.set j ⟨true, b.length, key⟩ })) := Lib.hid (by
                    rw [HZ.out, HL2.out])
                  clear hs11 hd11 CS c05 H50 HG5 HS10 HL2 HSP
                  by_cases hr3 : r3 = 0
                  · subst hr3
                    obtain ⟨W6, A6, ⟨V6, F6, rv6, R6, H6⟩, hW6, hA6, hC6⟩ := HS11.out
                    have c26 : w11.cell? ⟨q, 2, none⟩ = some rv6 := blk_cell H6.obj.head 2 _ rfl
                    have hjr : j < ({ s with d := d3 } : SS).rows.length := by show j < s.rows.length; rw [← HN.out]; exact hjl
                    obtain ⟨gr, capr, kvr, hrvr, hcapr, hcmr, _, _, _, _, _⟩ := H6.at j hjr
                    rw [show ({ s with d := d3 } : SS).rows.length = s.rows.length from rfl, ← HN.out] at hrvr hcapr
                    have hcd : Chg [] w11 w11.drew := by exact (Chg.refl [] w11).drew
                    have CC := Lib.hid (rcopy_any _ key w11.drew ((HK.out.chgW hC6 (fun hne k hk => (HKO.out hne k hk).2)).chg hcd (by simp)) (by omega))
                    have HH6 := Lib.hid H6
                    have HG6 := Lib.hid (And.intro hW6 (And.intro hA6 hC6))
                    have HGF : Hid (Z = (0, { s with d := d3, rows := s.rows.set j ⟨true, b.length, key⟩ })) := Lib.hid (by rw [HZ3.out, if_neg (by simp)])
                    subst hrvr
                    clear H6 hW6 hA6 hC6 hcd HS11 HZ3
                    go_wp2_with fail
                    refine wp_region_L [(11, fun w' => w'.cell? ⟨q, 2, none⟩ = some (.slice (some ⟨gr, 0, none⟩) n capr))] (by kernel_rfl) ?_ (fun hHeld => ?_)
                    · exact (HoldC.cons (c26) HoldC.nil)
                    refine wpAnyL_take (i := 0) (oi := _) (v := ?_) rfl (by kernel_rfl) (by kernel_rfl) (by kernel_rfl) (by kernel_rfl) (by kernel_rfl) (fun _ _ _ h => h) (Or.inl ⟨by rfl, ?_⟩) (by assumption) (fun hNew => ?_)
                    rotate_left
                    · intro w _
                      go_simp
                      try with_reducible rfl
                    clear hHeld
                    have hHeld := hNew
                    clear hNew
                    try simp only [List.getElem_toArray, List.getElem_cons_succ, List.getElem_cons_zero, Act.put, List.setIfInBounds_toArray, List.set_cons_zero, List.set_cons_succ]
                    refine wpAnyL_take (i := 1) (oi := _) (v := ?_) rfl (by kernel_rfl) (by kernel_rfl) (by kernel_rfl) (by kernel_rfl) (by kernel_rfl) (fun _ _ _ h => h) (Or.inl ⟨by rfl, ?_⟩) (by assumption) (fun hNew => ?_)
                    rotate_left
                    · intro w _
                      go_simp
                      try with_reducible rfl
                    clear hHeld
                    have hHeld := hNew
                    clear hNew
                    try simp only [List.getElem_toArray, List.getElem_cons_succ, List.getElem_cons_zero, Act.put, List.setIfInBounds_toArray, List.set_cons_zero, List.set_cons_succ]
                    refine wpAnyL_take (i := 2) (oi := _) (v := ?_) rfl (by kernel_rfl) (by kernel_rfl) (by kernel_rfl) (by kernel_rfl) (by kernel_rfl) (fun _ _ _ h => h) (Or.inl ⟨by rfl, ?_⟩) (by assumption) (fun hNew => ?_)
                    rotate_left
                    · intro w _
                      go_simp
                      try with_reducible rfl
                    clear hHeld
                    have hHeld := hNew
                    clear hNew
                    try simp only [List.getElem_toArray, List.getElem_cons_succ, List.getElem_cons_zero, Act.put, List.setIfInBounds_toArray, List.set_cons_zero, List.set_cons_succ]
                    refine wpAnyL_take (i := 4) (oi := _) (v := ?_) rfl (by kernel_rfl) (by kernel_rfl) (by kernel_rfl) (by kernel_rfl) (by kernel_rfl) (fun _ _ _ h => h) (Or.inl ⟨by rfl, ?_⟩) (by assumption) (fun hNew => ?_)
                    rotate_left
                    · intro w _
                      go_simp
                      try with_reducible rfl
                    clear hHeld
                    have hHeld := hNew
                    clear hNew
                    try simp only [List.getElem_toArray, List.getElem_cons_succ, List.getElem_cons_zero, Act.put, List.setIfInBounds_toArray, List.set_cons_zero, List.set_cons_succ]
                    refine wpAnyL_take (i := 5) (oi := _) (v := ?_) rfl (by kernel_rfl) (by kernel_rfl) (by kernel_rfl) (by kernel_rfl) (by kernel_rfl) (fun _ _ _ h => h) (Or.inl ⟨by rfl, ?_⟩) (by assumption) (fun hNew => ?_)
                    rotate_left
                    · intro w _
                      go_simp
                      try with_reducible rfl
                    clear hHeld
                    have hHeld := hNew
                    clear hNew
                    try simp only [List.getElem_toArray, List.getElem_cons_succ, List.getElem_cons_zero, Act.put, List.setIfInBounds_toArray, List.set_cons_zero, List.set_cons_succ]
                    refine wpAnyL_take (i := 7) (oi := _) (v := ?_) rfl (by kernel_rfl) (by kernel_rfl) (by kernel_rfl) (by kernel_rfl) (by kernel_rfl) (fun _ _ _ h => h) (Or.inl ⟨by rfl, ?_⟩) (by assumption) (fun hNew => ?_)
                    rotate_left
                    · intro w _
                      go_simp
                      try with_reducible rfl
                    clear hHeld
                    have hHeld := hNew
                    clear hNew
                    try simp only [List.getElem_toArray, List.getElem_cons_succ, List.getElem_cons_zero, Act.put, List.setIfInBounds_toArray, List.set_cons_zero, List.set_cons_succ]
                    refine wpAnyL_take (i := 8) (oi := _) (v := ?_) rfl (by kernel_rfl) (by kernel_rfl) (by kernel_rfl) (by kernel_rfl) (by kernel_rfl) (fun _ _ _ h => h) (Or.inl ⟨by rfl, ?_⟩) (by assumption) (fun hNew => ?_)
                    rotate_left
                    · intro w _
                      go_simp
                      try with_reducible rfl
                    clear hHeld
                    have hHeld := hNew
                    clear hNew
                    try simp only [List.getElem_toArray, List.getElem_cons_succ, List.getElem_cons_zero, Act.put, List.setIfInBounds_toArray, List.set_cons_zero, List.set_cons_succ]
                    refine wpAnyL_load 0 (i := 3) (oi := _) (v := ?_) rfl rfl (by kernel_rfl) (by kernel_rfl) (by kernel_rfl) (by kernel_rfl) (by kernel_rfl) (by kernel_rfl) (fun _ _ _ h => h) (Or.inl ⟨by rfl, ?_⟩) (by assumption) (fun hNew => ?_)
                    rotate_left
                    · intro w hSw
                      (try dsimp only at hSw)
                      go_simp
                      try with_reducible rfl
                    clear hHeld
                    have hHeld := hNew
                    clear hNew
                    try simp only [List.getElem_toArray, List.getElem_cons_succ, List.getElem_cons_zero, Act.put, List.setIfInBounds_toArray, List.set_cons_zero, List.set_cons_succ]
                    refine wpAnyL_ready (rs := [6]) (by kernel_rfl) (by simp) ?_
                    refine AllReadyL.cons (o := _) rfl (fun K hK => ?_) AllReadyL.nil
                    try simp only [List.getElem_toArray, List.getElem_cons_succ, List.getElem_cons_zero]
                    go_simp
                    refine CC.out.mono ?_
                    rintro e w12 ⟨v12, rfl, hr12, ho12, hc12⟩
                    have HC12 : Hid (Chg [] w11 w12) := Lib.hid ((by exact (Chg.refl [] w11).drew : Chg [] w11 w11.drew).trans hc12 (by simp))
                    obtain ⟨a12, c12, rfl⟩ := hr12.bytes.slice
                    have H12 := HH6.out.keep HC12.out (by simp)
                    have hfr : ∀ k, (Value.slice a12 key.length c12).ownBlock = some k → w11.heap.size ≤ k := ho12
                    obtain ⟨A7, hs7, hA7, hC7⟩ := H12.setRow (N := w11.heap.size) j hjr gr capr (by show _ = Value.slice (some ⟨gr, 0, none⟩) s.rows.length capr; rw [HN.out]) ⟨true, b.length, key⟩ _ hr12.bytes (fun k hk => ⟨hr12.lt k hk, fun hm => by
                      have a1 := hfr k hk
                      have a2 := HH6.out.lim k (HH6.out.sub.2.2.1 k hm)
                      omega⟩) (fun k hk _ => hfr k hk) HC12.out.size ⟨hb448, hk40⟩
                    have TH := Lib.hid (H12.there j hjr gr capr (by show _ = Value.slice (some ⟨gr, 0, none⟩) s.rows.length capr; rw [HN.out]))
                    have HSF : Hid (RSid w (w12.setCells gr (j * 3) [.bool true, .slice a12 key.length c12, .int .i64 (b.length : Int)]) q m W A { s with d := d3, rows := s.rows.set j ⟨true, b.length, key⟩ }) := Lib.hid (RSid.glue HG6.out.1 HG6.out.2.1 HG6.out.2.2 ⟨W6, A7, hs7, fun x hx => .inl hx, hA7, (HC12.out.mono (by simp)).trans hC7 (fun x hx => .inl hx)⟩)
                    have c27 := HC12.out.cell c26 (by simp)
                    clear H12 hr12 ho12 hc12 CC hs7 hA7 hC7 hfr
                    try go_wp2_with fail
                    clear hHeld
                    refine hK.out _ _ ?_ (fun hHeld => ?_)
                    · exact (HoldC.cons (c27) HoldC.nil)
                    clear hK K
                    try simp only [List.getElem_toArray, List.getElem_cons_succ, List.getElem_cons_zero, Act.put, List.setIfInBounds_toArray, List.set_cons_zero, List.set_cons_succ]
                    refine wpAnyL_take (i := 9) (oi := _) (v := ?_) rfl (by kernel_rfl) (by kernel_rfl) (by kernel_rfl) (by kernel_rfl) (by kernel_rfl) (fun _ _ _ h => h) (Or.inl ⟨by rfl, ?_⟩) (by assumption) (fun hNew => ?_)
                    rotate_left
                    · intro w _
                      go_simp
                      try with_reducible rfl
                    clear hHeld
                    have hHeld := hNew
                    clear hNew
                    try simp only [List.getElem_toArray, List.getElem_cons_succ, List.getElem_cons_zero, Act.put, List.setIfInBounds_toArray, List.set_cons_zero, List.set_cons_succ]
                    refine wpAnyL_take (i := 10) (oi := _) (v := ?_) rfl (by kernel_rfl) (by kernel_rfl) (by kernel_rfl) (by kernel_rfl) (by kernel_rfl) (fun _ _ _ h => h) (Or.inl ⟨by rfl, ?_⟩) (by assumption) (fun hNew => ?_)
                    rotate_left
                    · intro w _
                      go_simp
                      try with_reducible rfl
                    clear hHeld
                    have hHeld := hNew
                    clear hNew
                    try simp only [List.getElem_toArray, List.getElem_cons_succ, List.getElem_cons_zero, Act.put, List.setIfInBounds_toArray, List.set_cons_zero, List.set_cons_succ]
                    refine wpAnyL_ready (rs := [11]) (by kernel_rfl) (by simp) ?_
                    refine AllReadyL.cons (o := _) rfl (fun K hK => ?_) AllReadyL.nil
                    try simp only [List.getElem_toArray, List.getElem_cons_succ, List.getElem_cons_zero]
                    rw [if_pos (by rfl)]
                    refine wp_store_mid 125 (.tmp 135) (.tmp 134) (by rfl) gr (j * 3) #[.bool true, .slice a12 key.length c12, .int .i64 (b.length : Int)] (by rfl) (by rfl) TH.out (by kernel_rfl) (by simp [Value.oneCell']) ?_
                    clear hHeld
                    refine hK.out _ _ ?_ (fun hHeld => ?_)
                    · exact (HoldC.past (by kernel_rfl) HoldC.nil)
                    clear hK K
                    try simp only [List.getElem_toArray, List.getElem_cons_succ, List.getElem_cons_zero, Act.put, List.setIfInBounds_toArray, List.set_cons_zero, List.set_cons_succ]
                    refine wpAnyL_done (by kernel_rfl) ?_ _
                    clear hHeld
                    go_wp2
                    go_ret
                    rw [HGF.out]
                    exact ⟨rfl, HSF.out⟩
                  · have q2 : (r3 == 0) = false := by simp [hr3]
                    have HGF : Hid (Z = (r3, { s with d := d3 })) := Lib.hid (by rw [HZ3.out, if_pos hr3])
                    clear hr3
                    go_wp2
                    go_ret
                    rw [HGF.out]
                    exact ⟨rfl, HS11.out⟩
                · have q2 : (r2 == 0) = false := by simp [hr2]
                  have HGF : Hid (Z = (r2, { s with d := d2 })) := Lib.hid (by
                    have h9 : d1.lays pos (headBytes b.length key) = (r2, d2) := by rw [HSP.out, if_pos hr2]
                    rw [HZ.out, h9, if_pos hr2])
                  clear hr2
                  go_wp2
                  go_ret
                  rw [HGF.out]
                  exact ⟨rfl, HS10.out⟩
              · have q2 : (r1 != 0) = true := by simp [hr1]
                have HZ : Hid (Z = (r1, { s with d := d1 })) := Lib.hid (by rw [HG.out, HL.out, if_pos hr1])
                clear hr1
                go_wp2
                go_ret
                rw [HZ.out]
                exact ⟨rfl, HS4.out⟩
  · have hg : s.put i key b = (1, s) := by unfold SS.put; rw [if_pos (by simpa using hi)]
    have HP := Lib.hid (RSidPost.same (c := 1) HS.out)
    have HG := Lib.hid hg
    rw [HG.out]
    have HI := Lib.hid hi
    subst hrv0
    generalize hnn : s.rows.length = n at *
    have HNN := Lib.hid hnn
    clear H HH hg hi hfew c0 c1 hk hb
    by_cases h0 : i < 0
    · have q0 : decide (i < 0) = true := decide_eq_true h0
      go_enter Tryz.func88, Tryz.ntmps88
      go_wp2
      go_ret
      exact HP.out
    · have q0 : decide (i < 0) = false := decide_eq_false h0
      have q1 : decide (i ≥ (n : Int)) = true := decide_eq_true (by
        have h9 := HI.out
        unfold SS.has at h9
        have h8 := HNN.out
        omega)
      go_enter Tryz.func88, Tryz.ntmps88
      go_wp2
      go_ret
      exact HP.out
end Go.Proofs.YtbkajnjboipbhaaGreatDoor.W

/- The reference's store: Get, Put. -/
namespace Go.Proofs.YtbkajnjboipbhaaGreatDoor.W
open Go.RowKit
set_option linter.unusedVariables false
set_option linter.unusedSimpArgs false

set_option maxHeartbeats 4000000 in
set_option maxRecDepth 100000 in
theorem rstget_any (q m : Nat) (U B : List Nat) (t : Sto) (x : Id) (w : World) (h : RStAt w q m U B t) (hxo : okD x) : Calls Tryz.prog 76 #[.pointer (some ⟨q, 0, none⟩), idV x] w (GetPost (t.get x) w) := by
  obtain ⟨sp, W, A, h, rfl, rfl⟩ := h
  obtain ⟨w1, hw1⟩ : ∃ w1, w1 = w.alloc (.cells (idC x) 25) := ⟨_, rfl⟩
  have hc1 : Chg [] w w1 := by rw [hw1]; exact (Chg.refl [] w).alloc _
  have hb1 : w1.heap[w.heap.size]? = some (.cells (idC x) 25 (0, 0)) := by rw [hw1]; exact heap_alloc_new w _
  have CK := Lib.hid (rkey_any x w1)
  have mm := id_cells hb1
  have HH1 := Lib.hid (h.keep hc1 (by simp))
  have HC1 := Lib.hid hc1
  have HW1 := Lib.hid hw1
  rw [hw1] at mm
  unfold KeyPost at CK
  clear hw1 hb1 hc1 h
  by_cases hm : mayId x = true
  · have HG : Hid (t.get x = match t.at x with | [] => ([], 6) | i :: _ => t.s.get i) := Lib.hid (by unfold Sto.get; rw [if_neg (by simp [hm])]; try rfl)
    have HM := Lib.hid hm
    simp only [hm, if_true] at CK
    clear hm
    obtain ⟨xc, xl, xn, xi⟩ := x
    obtain ⟨m0, m1, m2, m3⟩ := mm
    go_enter Tryz.func76, Tryz.ntmps76
    go_wp2_with fail
    rw [← HW1.out]
    refine CK.out.mono ?_
    rintro e w2 ⟨hc2, kv, rfl, hkr, hkf⟩
    have HH2 := Lib.hid (HH1.out.keep hc2 (by simp))
    have HC2 := Lib.hid (HC1.out.trans hc2 (by simp))
    have CF := Lib.hid (rfind_any sp m W A t.s kv _ w2 HH2.out.slots hkr.bytes (by rw [idKey_len]; omega))
    rw [Sto.find HM.out] at CF
    obtain ⟨_, k1, _⟩ := HH2.out.cells
    clear hc2 hkr hkf m0 m1 m2 m3 CK
    go_wp2_with fail
    refine CF.out.mono ?_
    rintro e w3 ⟨rfl, hc3⟩
    have HH3 := Lib.hid (HH2.out.keep hc3 (by simp))
    have HC3 := Lib.hid (HC2.out.trans hc3 (by simp))
    clear hc3 k1 CF
    cases hat : t.at ⟨xc, xl, xn, xi⟩ with
    | nil =>
      rw [hat] at HG
      dsimp only at HG
      have HR : Hid (∀ w', Chg [] w w' → GetPost ([], 6) w (.returned (.tuple #[.slice none 0 0, .int .i64 6])) w') := Lib.hid (fun w' hc => GetPost.nil hc)
      rw [← HG.out] at HR
      dsimp only [headI]
      clear hat
      go_wp2
      go_ret2
      exact HR.out _ HC3.out
    | cons i rest =>
      rw [hat] at HG
      dsimp only at HG
      dsimp only [headI]
      have CG := Lib.hid (rget_any sp m W A t.s (i : Int) w3 HH3.out.slots)
      rw [← HG.out] at CG
      obtain ⟨_, k1, _⟩ := HH3.out.cells
      have hn0 : decide ((i : Int) < 0) = false := decide_eq_false (by omega)
      have hn1 : ¬ (i : Int) < 0 := by omega
      clear hat HG
      generalize t.get ⟨xc, xl, xn, xi⟩ = r at *
      obtain ⟨rb, re⟩ := r
      go_wp2_with fail
      refine CG.out.mono ?_
      rintro e w4 ⟨⟨v, rfl, hv, hvf⟩, hc4⟩
      have HF : Hid (GetPost (rb, re) w (.returned (.tuple #[v, .int .i64 re])) w4) := Lib.hid ⟨⟨v, rfl, hv, fun k hk => Nat.le_trans HC3.out.size (hvf k hk)⟩, HC3.out.trans hc4 (by simp)⟩
      clear hv hvf hc4 CG k1
      go_wp2
      go_ret2
      exact HF.out
  · have HG : Hid (t.get x = ([], 1)) := Lib.hid (by unfold Sto.get; rw [if_pos (by simpa using hm)])
    simp only [if_neg hm] at CK
    have HR : Hid (∀ w', Chg [] w w' → GetPost ([], 1) w (.returned (.tuple #[.slice none 0 0, .int .i64 1])) w') := Lib.hid (fun w' hc => GetPost.nil hc)
    rw [← HG.out] at HR
    clear hm HG
    obtain ⟨xc, xl, xn, xi⟩ := x
    obtain ⟨m0, m1, m2, m3⟩ := mm
    go_enter Tryz.func76, Tryz.ntmps76
    go_wp2_with fail
    rw [← HW1.out]
    refine CK.out.mono ?_
    rintro e w2 ⟨hc2, rfl⟩
    have HC2 := Lib.hid (HC1.out.trans hc2 (by simp))
    clear hc2 CK m0 m1 m2 m3
    go_wp2
    go_ret2
    exact HR.out _ HC2.out

theorem keysOk.putS {s : SS} (h : keysOk s.rows) (i : Int) {x : Id} (hm : mayId x = true) (b : List UInt8) : keysOk (s.put i (idKey x) b).2.rows := by
  by_cases he : (s.put i (idKey x) b).1 = 0
  · obtain ⟨_, _, h3⟩ := SS.put_done he
    rw [h3]
    exact h.set _ (fun _ => (un_key hm).2)
  · rw [SS.put_not he]; exact h
theorem keysOk.clearS {s : SS} (h : keysOk s.rows) (i : Int) : keysOk (s.clear i).2.rows := by
  by_cases he : (s.clear i).1 = 0
  · obtain ⟨_, _, h3⟩ := SS.clear_done he
    rw [h3]
    exact h.set _ (fun e => by cases e)
  · rw [SS.clear_not he]; exact h

set_option maxHeartbeats 8000000 in
set_option maxRecDepth 100000 in
theorem rstput_any (q m : Nat) (U B : List Nat) (t : Sto) (x : Id) (bv : Value) (b : List UInt8) (w : World) (h : RStAt w q m U B t) (hxo : okD x) (hb : BytesAt w bv b) (hbl : b.length ≤ 1000000) (ho : t.s.d.ops ≤ 900000000) (hw : t.s.d.since.length ≤ 900000) :
    Calls Tryz.prog 41 #[.pointer (some ⟨q, 0, none⟩), idV x, bv] w fun e w' => e = .returned (.int .i64 (t.put x b).1) ∧ RStd w w' q m U B (t.put x b).2 := by
  obtain ⟨sp, W, A, h, rfl, rfl⟩ := h
  obtain ⟨w1, hw1⟩ : ∃ w1, w1 = w.alloc (.cells (idC x) 25) := ⟨_, rfl⟩
  have hc1 : Chg [] w w1 := by rw [hw1]; exact (Chg.refl [] w).alloc _
  have hb1 : w1.heap[w.heap.size]? = some (.cells (idC x) 25 (0, 0)) := by rw [hw1]; exact heap_alloc_new w _
  have CK := Lib.hid (rkey_any x w1)
  have mm := id_cells hb1
  have HH1 := Lib.hid (h.keep hc1 (by simp))
  have HBY := Lib.hid hb
  obtain ⟨ab, cb, rfl⟩ := hb.slice
  have HC1 := Lib.hid hc1
  have HW1 := Lib.hid hw1
  have HST : Hid (∀ w', Chg [] w w' → RStd w w' q m (q :: W) (q :: A) t) := Lib.hid (fun w' hc => RStd.post (RStd.same ⟨sp, W, A, h, rfl, rfl⟩) hc)
  rw [hw1] at mm
  unfold KeyPost at CK
  clear hw1 hb1 hc1 h hb
  by_cases hm : mayId x = true
  · have HM := Lib.hid hm
    have HG0 : Hid (t.put x b = if 448 < b.length then (3, t) else match t.at x with
        | i :: _ => if (t.s.get i).2 ≠ 0 then ((t.s.get i).2, t) else if (t.s.get i).1 = b then (0, t) else (7, t)
        | [] => if t.s.free < 0 then (5, t) else ((t.s.put t.s.free (idKey x) b).1, { t with s := (t.s.put t.s.free (idKey x) b).2 })) := Lib.hid (by unfold Sto.put; rw [if_neg (by simp [hm])]; try rfl)
    simp only [hm, if_true] at CK
    generalize t.put x b = r at *
    clear hm
    obtain ⟨xc, xl, xn, xi⟩ := x
    obtain ⟨m0, m1, m2, m3⟩ := mm
    go_enter Tryz.func41, Tryz.ntmps41
    go_wp2_with fail
    rw [← HW1.out]
    refine CK.out.mono ?_
    rintro e w2 ⟨hc2, kv, rfl, hkr, hkf⟩
    have HH2 := Lib.hid (HH1.out.keep hc2 (by simp))
    have HC2 := Lib.hid (HC1.out.trans hc2 (by simp))
    have HKR := Lib.hid hkr.bytes
    obtain ⟨_, k1, _⟩ := HH2.out.cells
    clear hc2 hkf m0 m1 m2 m3 CK hkr
    by_cases hlen : 448 < b.length
    · have HR : Hid (r = (3, t)) := Lib.hid (by rw [HG0.out, if_pos hlen])
      have hlz : (448 : Int) < (b.length : Int) := by omega
      clear HG0
      go_wp2
      go_ret
      rw [HR.out]
      exact ⟨rfl, HST.out _ HC2.out⟩
    · have hlz : ¬ (448 : Int) < (b.length : Int) := by omega
      rw [if_neg hlen] at HG0
      have CF := Lib.hid (rfind_any sp m W A t.s kv _ w2 HH2.out.slots HKR.out (by rw [idKey_len]; omega))
      rw [Sto.find HM.out] at CF
      go_wp2_with fail
      refine CF.out.mono ?_
      rintro e w3 ⟨rfl, hc3⟩
      have HH3 := Lib.hid (HH2.out.keep hc3 (by simp))
      have HC3 := Lib.hid (HC2.out.trans hc3 (by simp))
      have HK3 := Lib.hid (HKR.out.chg hc3 (by simp))
      have HB3 := Lib.hid (HBY.out.chg HC3.out (by simp))
      clear hc3 k1 CF HKR
      obtain ⟨_, k1, _⟩ := HH3.out.cells
      cases hat : t.at ⟨xc, xl, xn, xi⟩ with
      | nil =>
        rw [hat] at HG0
        dsimp only at HG0
        dsimp only [headI]
        have CFr := Lib.hid (rfree_any sp m W A t.s w3 HH3.out.slots)
        clear hat
        by_cases hfr : t.s.free < 0
        · have HR : Hid (r = (5, t)) := Lib.hid (by rw [HG0.out, if_pos hfr])
          clear HG0
          go_wp2_with (go_at_call 87; refine CFr.out.mono ?_; rintro e w' ⟨rfl, hq⟩; subst hq)
          go_ret
          rw [HR.out]
          exact ⟨rfl, HST.out _ HC3.out⟩
        · rw [if_neg hfr] at HG0
          obtain ⟨i, hfi, hil, hiu⟩ := SS.free_ok hfr
          rw [hfi] at CFr HG0 hfr
          have CP := Lib.hid (rput_any sp m W A t.s (i : Int) _ _ _ b w3 HH3.out.slots HK3.out HB3.out (by rw [idKey_len]; omega) hbl ho hw)
          have HKO := Lib.hid (HH3.out.ok.putS (i : Int) HM.out b)
          clear hfi hil hiu
          generalize t.s.put (i : Int) (idKey ⟨xc, xl, xn, xi⟩) b = z at *
          obtain ⟨ze, zs⟩ := z
          dsimp only at HG0 HKO
          unfold RSidPost at CP
          go_wp2_with (go_at_call 87; refine CFr.out.mono ?_; rintro e w' ⟨rfl, hq⟩; subst hq)
          refine CP.out.mono ?_
          rintro e w4 ⟨rfl, hs4⟩
          have HF : Hid (RStd w w4 q m (q :: W) (q :: A) { t with s := zs }) := Lib.hid (RStd.pre HC3.out (HH3.out.did hs4 HKO.out))
          clear hs4 CP
          go_wp2
          go_ret
          rw [HG0.out]
          exact ⟨rfl, HF.out⟩
      | cons i rest =>
        rw [hat] at HG0
        dsimp only at HG0
        dsimp only [headI]
        have CG := Lib.hid (rget_any sp m W A t.s (i : Int) w3 HH3.out.slots)
        have hn1 : (i : Int) ≥ 0 := by omega
        have HGL := Lib.hid (show (t.s.get (i : Int)).1.length ≤ 1000 from by
          have hk := HH3.out.slots.okk
          unfold SS.get
          split
          · simp
          · split
            · simp
            · split
              · simp
              · unfold SS.data
                rw [List.length_take]
                have : (t.s.row (i : Int)).n ≤ 448 := by
                  unfold SS.row
                  rw [List.getD_eq_getElem?_getD]
                  cases hr : t.s.rows[(i : Int).toNat]? with
                  | none => exact (show (0 : Nat) ≤ 448 by omega)
                  | some rr => exact (hk.rows _ (List.mem_of_getElem? hr)).1
                omega)
        clear hat
        generalize t.s.get (i : Int) = z at *
        obtain ⟨zb, ze⟩ := z
        dsimp only at HG0 HGL
        unfold GetPost at CG
        go_wp2_with fail
        refine CG.out.mono ?_
        rintro e w4 ⟨⟨v, rfl, hv, hvf⟩, hc4⟩
        have HC4 := Lib.hid (HC3.out.trans hc4 (by simp))
        by_cases he : ze = 0
        · subst he
          rw [if_neg (by simp)] at HG0
          have CS := Lib.hid (same_any v _ zb b w4 hv (HB3.out.chg hc4 (by simp)) (by have := HGL.out; omega) (by omega))
          obtain ⟨av, cv, rfl⟩ := hv.slice
          clear hv hvf hc4 CG k1
          by_cases hs : zb = b
          · rw [if_pos hs] at HG0
            rw [decide_eq_true hs] at CS
            clear hs
            go_wp2_with (go_at_call 14; refine CS.out.mono ?_; rintro e w' ⟨rfl, nn, hq⟩; subst hq)
            go_ret
            rw [HG0.out]
            exact ⟨rfl, HST.out _ (HC4.out.drewN nn)⟩
          · rw [if_neg hs] at HG0
            rw [decide_eq_false hs] at CS
            clear hs
            go_wp2_with (go_at_call 14; refine CS.out.mono ?_; rintro e w' ⟨rfl, nn, hq⟩; subst hq)
            go_ret
            rw [HG0.out]
            exact ⟨rfl, HST.out _ (HC4.out.drewN nn)⟩
        · have q0 : (ze != 0) = true := by simp [he]
          have HR : Hid (r = (ze, t)) := Lib.hid (by rw [HG0.out, if_pos he])
          obtain ⟨av, cv, rfl⟩ := hv.slice
          clear HG0 hv hvf hc4 CG k1
          go_wp2
          go_ret
          rw [HR.out]
          exact ⟨rfl, HST.out _ HC4.out⟩
  · have HR : Hid (t.put x b = (1, t)) := Lib.hid (by unfold Sto.put; rw [if_pos (by simpa using hm)])
    simp only [if_neg hm] at CK
    generalize t.put x b = r at *
    clear hm
    obtain ⟨xc, xl, xn, xi⟩ := x
    obtain ⟨m0, m1, m2, m3⟩ := mm
    go_enter Tryz.func41, Tryz.ntmps41
    go_wp2_with fail
    rw [← HW1.out]
    refine CK.out.mono ?_
    rintro e w2 ⟨hc2, rfl⟩
    have HC2 := Lib.hid (HC1.out.trans hc2 (by simp))
    clear hc2 CK m0 m1 m2 m3
    go_wp2
    go_ret
    rw [HR.out]
    exact ⟨rfl, HST.out _ HC2.out⟩
end Go.Proofs.YtbkajnjboipbhaaGreatDoor.W

/- What the store's laws share. -/
namespace Go.Proofs.YtbkajnjboipbhaaGreatDoor.W
end Go.Proofs.YtbkajnjboipbhaaGreatDoor.W

/- StoreFull, plainly. -/
namespace Go.Proofs.YtbkajnjboipbhaaGreatDoor.W
set_option linter.unusedVariables false
set_option linter.unusedSimpArgs false

theorem range_getD (l : List SRow) : (List.range l.length).map (fun j => l.getD j noRow) = l := by
  apply List.ext_getElem (by simp)
  intro i h1 h2
  simp [List.getD_eq_getElem?_getD, List.getElem?_eq_getElem h2]
theorem used_len (l : List SRow) (P : Nat → Bool) (hP : ∀ j, j < l.length → P j = (l.getD j noRow).used) : ((List.range l.length).filter P).length + l.countP (fun r => !r.used) = l.length := by
  have h1 : ((List.range l.length).filter P).length = l.countP (fun r => r.used) := by
    rw [← List.countP_eq_length_filter]
    conv => rhs; rw [← range_getD l]
    rw [List.countP_map]
    refine List.countP_congr (fun j hj => ?_)
    rw [hP j (List.mem_range.1 hj)]
    rfl
  have h2 := List.length_eq_countP_add_countP (fun r : SRow => r.used) (l := l)
  rw [h1]
  have h3 : l.countP (fun r => decide ¬ r.used = true) = l.countP (fun r => !r.used) := List.countP_congr (fun r _ => by cases r.used <;> simp)
  omega
/-- How many ids there are. -/
theorem Kept.ids_len {t : Sto} {F : Frag} (h : Kept t F) : t.ids.length + t.room = t.s.rows.length := by
  unfold Sto.ids firsts Sto.room
  rw [List.length_mergeSort, List.length_map]
  refine used_len t.s.rows _ (fun j hj => ?_)
  cases hu : (t.s.rows.getD j noRow).used with
  | false => unfold isFirst; rw [hu]; rfl
  | true =>
    refine mem_isFirst.2 ⟨hu, fun k hk hh => ?_⟩
    obtain ⟨hm, he⟩ := un_back (h.keys _ (row_mem hj) hu)
    obtain ⟨u, v, _, h2⟩ := h.told
    have hjm : j ∈ t.at (unId (t.s.rows.getD j noRow).key) := by rw [Sto.at_may hm]; exact upto_mem.2 ⟨hj, hu, he⟩
    have hkm : k ∈ t.at (unId (t.s.rows.getD j noRow).key) := by rw [Sto.at_may hm]; exact upto_mem.2 ⟨by omega, hh.1, by rw [hh.2]; exact he⟩
    rcases h2 _ hm with ⟨_, h4⟩ | ⟨i, b, _, h4, _⟩
    · rw [h4] at hjm; cases hjm
    · rw [h4, List.mem_singleton] at hjm hkm
      omega
theorem SS.clears_ok : ∀ (l : List Nat) (s : SS), (s.clears l).2.d.ops ≤ s.d.ops + 2 * l.length ∧ (s.clears l).2.d.since.length ≤ s.d.since.length + l.length
  | [], s => ⟨Nat.le_refl _, Nat.le_refl _⟩
  | i :: r, s => by
    obtain ⟨h1, h2, _⟩ := s.clear_ok (i : Int)
    obtain ⟨g1, g2⟩ := SS.clears_ok r (s.clear (i : Int)).2
    rw [clears_cons, List.length_cons]
    split
    · exact ⟨by omega, by omega⟩
    · exact ⟨by omega, by omega⟩
theorem Sto.at_len (t : Sto) (x : Id) : (t.at x).length ≤ t.s.rows.length := by
  unfold Sto.at
  split
  · exact upto_len _ _ _
  · simp
theorem Sto.del_ok (t : Sto) (x : Id) : (t.del x).2.s.d.ops ≤ t.s.d.ops + 2 * t.s.rows.length ∧ (t.del x).2.s.d.since.length ≤ t.s.d.since.length + t.s.rows.length := by
  have hl := t.at_len x
  obtain ⟨h1, h2⟩ := SS.clears_ok (t.at x) t.s
  unfold Sto.del
  split
  · exact ⟨by dsimp only; omega, by dsimp only; omega⟩
  · exact ⟨by dsimp only; omega, by dsimp only; omega⟩
def idn (j : Nat) : Id := ⟨1, 0, (j : Int), 0⟩
theorem may_idn {j : Nat} (h : j ≤ 1000) : mayId (idn j) = true := may_iff.2 (by unfold idn; dsimp only; omega)
def fillF (b : List UInt8) (i : Nat) : Frag := fun x => if x.c = 1 ∧ x.l = 0 ∧ x.i = 0 ∧ 0 ≤ x.n ∧ x.n < i then some b else none
structure FullAt (t : Sto) (b : List UInt8) (n i : Nat) : Prop where
  kept : Kept t (fillF b i)
  room : t.room + i = n
  rows : t.s.rows.length = n
  small : t.s.d.ops ≤ 200 + 20 * i ∧ t.s.d.since.length = 0
theorem fillF_self (b : List UInt8) (i : Nat) : fillF b i (idn i) = none := if_neg (by unfold idn; dsimp only; omega)
theorem fillF_next (b : List UInt8) (i : Nat) : setF (fillF b i) (idn i) (some b) = fillF b (i + 1) := by
  funext x
  unfold setF
  by_cases e : x = idn i
  · subst e
    rw [if_pos rfl]
    exact (if_pos (by unfold idn; dsimp only; omega)).symm
  · rw [if_neg e]
    unfold fillF
    by_cases h : x.c = 1 ∧ x.l = 0 ∧ x.i = 0 ∧ 0 ≤ x.n ∧ x.n < i
    · rw [if_pos h, if_pos (by omega)]
    · rw [if_neg h, if_neg (fun h2 => ?_)]
      have : x.n = (i : Int) := by omega
      obtain ⟨a, b', c, d⟩ := x
      refine e ?_
      unfold idn
      simp only [Id.mk.injEq]
      dsimp only at *
      omega
theorem FullAt.step {t : Sto} {b : List UInt8} {n i : Nat} (h : FullAt t b n i) (hi : i < n) (hn : n ≤ 100) (hb : b.length ≤ 448) : (t.put (idn i) b).1 = 0 ∧ FullAt (t.put (idn i) b).2 b n (i + 1) := by
  obtain ⟨o1, o2, _, o4, _⟩ := t.put_ok (idn i) b
  have hr := h.room
  have hs := h.small
  obtain ⟨p1, p2, p3⟩ := h.kept.put_new (may_idn (by omega)) (fillF_self b i) hb (by omega)
  rw [fillF_next] at p2
  exact ⟨p1, p2, by omega, by rw [o4, h.rows], by omega, by rw [p2.since]; rfl⟩
theorem FullAt.new (b : List UInt8) (n : Nat) (h1 : 1 ≤ n) (h2 : n ≤ 12) : ∃ t d, (DS.new (1 + 8 * n)).format = ((0, some t), d) ∧ FullAt t b n 0 := by
  obtain ⟨t, d, f1, f2, f3, f4, f5, f6, _⟩ := Kept.new (1 + 8 * n) (by omega)
  have hrow : (1 + 8 * n - 1) / 8 = n := by omega
  rw [hrow] at f4
  refine ⟨t, d, f1, ?_, ?_, by rw [f4, List.length_replicate], by rw [f3]; omega, by rw [f2.since]; rfl⟩
  · have : fillF b 0 = fun _ => none := by
      funext x
      exact if_neg (by omega)
    rw [this]; exact f2
  · unfold Sto.room
    rw [f4]
    have := List.countP_replicate (p := fun r : SRow => !r.used) (a := noRow) (n := n)
    simp [noRow] at this ⊢
    first | omega | exact this
/-- When it is full. -/
theorem FullAt.after {t : Sto} {b : List UInt8} {n k : Nat} (h : FullAt t b n n) (hk : k < n) (hn : n ≤ 100) (hb : b.length ≤ 448) : t.put (idn n) b = (5, t) ∧ (t.del (idn k)).1 = 0 ∧ (((t.del (idn k)).2).put (idn n) b).1 = 0 ∧ (((t.del (idn k)).2).put (idn n) b).2.room = 0 ∧ (((t.del (idn k)).2).put (idn n) b).2.ids.length = n ∧ (t.del (idn k)).2.s.d.since.length = 0 := by
  have hr := h.room
  have e1 := h.kept.put_full (may_idn (by omega)) (fillF_self b n) hb (by omega)
  obtain ⟨d1, d2, d3, _, d5, d6⟩ := h.kept.del (may_idn (j := k) (by omega))
  have hF : fillF b n (idn k) = some b := if_pos (by unfold idn; dsimp only; omega)
  rw [hF] at d3
  simp only [Option.isSome_some, if_true] at d3
  have hne : idn n ≠ idn k := fun e => by
    have := congrArg Id.n e
    unfold idn at this
    dsimp only at this
    omega
  obtain ⟨p1, p2, p3⟩ := d2.put_new (may_idn (j := n) (by omega)) (by rw [setF_other _ _ hne]; exact fillF_self b n) hb (by omega)
  have hl := p2.ids_len
  obtain ⟨_, _, _, o4, _⟩ := ((t.del (idn k)).2).put_ok (idn n) b
  have hrows := h.rows
  exact ⟨e1, d1, p1, by omega, by omega, by rw [d2.since]; rfl⟩
end Go.Proofs.YtbkajnjboipbhaaGreatDoor.W

/- The reference's store: Delete, Room. -/
namespace Go.Proofs.YtbkajnjboipbhaaGreatDoor.W
open Go.RowKit
set_option linter.unusedVariables false
set_option linter.unusedSimpArgs false

/-- The rows of the reference's slots, to be read. -/
structure RLook (w : World) (sp : Nat) (s : SS) (a : Option Addr) (cap : Nat) : Prop where
  c2 : w.cell? ⟨sp, 2, none⟩ = some (.slice a s.rows.length cap)
  few : s.rows.length ≤ 1000
  big : s.rows.length ≤ cap
  row : ∀ i, i < s.rows.length → ∃ g kv, a = some ⟨g, 0, none⟩ ∧ w.cell? ⟨g, i * 3, none⟩ = some (.bool (s.rows.getD i noRow).used) ∧ w.cell? ⟨g, i * 3 + 1, none⟩ = some kv ∧ BytesAt w kv (s.rows.getD i noRow).key ∧ (s.rows.getD i noRow).key.length ≤ 40
theorem RSlotsAt.look {w : World} {sp m : Nat} {W A : List Nat} {s : SS} (h : RSlotsAt w sp m W A s) : ∃ a cap, RLook w sp s a cap := by
  obtain ⟨V, F, rv, R, H⟩ := h
  obtain ⟨a, cap, hrv, hcap⟩ := H.form
  have hfew := H.few
  refine ⟨a, cap, by rw [← hrv]; exact blk_cell H.obj.head 2 _ rfl, by omega, hcap, fun i hi => ?_⟩
  obtain ⟨g, cap', kv, h1, h2, _, h3, h4, _, h5, _⟩ := H.at i hi
  rw [hrv] at h1
  obtain ⟨rfl, _, _⟩ := Value.slice.inj h1
  refine ⟨g, kv, rfl, h3, h4, h5, ?_⟩
  rw [List.getD_eq_getElem?_getD, List.getElem?_eq_getElem hi]
  exact (H.ok.rows _ (List.getElem_mem hi)).2
theorem RLook.keep {w w' : World} {sp m : Nat} {W A : List Nat} {s : SS} {a : Option Addr} {cap : Nat} (h : RLook w sp s a cap) (hc : Chg [] w w') : RLook w' sp s a cap :=
  ⟨hc.cell h.c2 (by simp), h.few, h.big, fun i hi => by
    obtain ⟨g, kv, h1, h2, h3, h4, h5⟩ := h.row i hi
    exact ⟨g, kv, h1, hc.cell h2 (by simp), hc.cell h3 (by simp), h4.chg hc (by simp), h5⟩⟩

set_option maxHeartbeats 4000000 in
set_option maxRecDepth 100000 in
theorem rstroom_any (q m : Nat) (U B : List Nat) (t : Sto) (w : World) (h : RStAt w q m U B t) : Calls Tryz.prog 79 #[.pointer (some ⟨q, 0, none⟩)] w fun e w' => e = .returned (.int .i64 (t.room : Int)) ∧ w = w' := by
  obtain ⟨sp, W, A, h, rfl, rfl⟩ := h
  obtain ⟨_, k1, _⟩ := h.cells
  obtain ⟨a, cap, HLk⟩ := h.slots.look
  have hfew := HLk.few
  have c2 := HLk.c2
  have HRM : Hid (t.room = t.s.rows.countP (fun r => !r.used)) := Lib.hid rfl
  have HL := Lib.hid HLk.row
  have hbig := HLk.big
  generalize t.room = R at *
  obtain ⟨m0, hm⟩ : ∃ m0, m0 = t.s.rows.length := ⟨_, rfl⟩
  rw [← hm] at hfew c2 hbig
  have HM := Lib.hid hm
  clear hm h HLk
  go_enter Tryz.func79, Tryz.ntmps79
  go_wp2
  go_loopg [3, 4] m0 (fun g' s3 s4 wr => ∃ (i n : Nat), s4 = .int .i64 (i : Int) ∧ s3 = .int .i64 (n : Int) ∧ i ≤ m0 ∧ m0 ≤ i + g' ∧ n ≤ i ∧ wr = w ∧ Hid (n = (t.s.rows.take i).countP (fun r => !r.used)))
  case atStart => exact ⟨0, 0, rfl, rfl, by omega, by omega, by omega, rfl, Lib.hid (by simp)⟩
  case round =>
    obtain ⟨i, n, rfl, rfl, hi, hig, hni, rfl, HN⟩ := hrel
    by_cases hlt : i < m0
    · have hl2 : i < t.s.rows.length := by rw [← HM.out]; exact hlt
      obtain ⟨g, kv, rfl, r0, r1, _, _⟩ := HL.out i hl2
      have hus : (t.s.rows.getD i noRow).used = (t.s.rows[i]).used := by rw [List.getD_eq_getElem?_getD, List.getElem?_eq_getElem hl2]; rfl
      have HC := Lib.hid (count_take (fun r => !r.used) t.s.rows i hl2)
      rw [hus] at r0
      have hiz : (i : Int) < (m0 : Int) := by omega
      have hiz1 : (i : Int).toNat = i := by omega
      clear hus r1
      generalize (t.s.rows[i]).used = u at *
      cases u with
      | true =>
        go_wp2
        go_roundg (gk - 1)
        case measure => omega
        case rel => exact ⟨i + 1, n, by go_num, rfl, by omega, by omega, by omega, rfl, Lib.hid (by rw [HC.out, ← HN.out]; simp)⟩
      | false =>
        go_wp2
        go_roundg (gk - 1)
        case measure => omega
        case rel => exact ⟨i + 1, n + 1, by go_num, by go_num, by omega, by omega, by omega, rfl, Lib.hid (by rw [HC.out, ← HN.out]; simp)⟩
    · have him : i = m0 := by omega
      have hiz : ¬ (i : Int) < (m0 : Int) := by omega
      have HE : Hid (R = n) := Lib.hid (by rw [HRM.out, HN.out, him, HM.out, List.take_length])
      go_wp2
      go_ret
      rw [HE.out]
      exact ⟨rfl, rfl⟩

theorem headI_cons (i : Nat) (r : List Nat) : headI (i :: r) = (i : Int) := rfl
theorem headI_nil : headI [] = -1 := rfl
set_option maxHeartbeats 8000000 in
set_option maxRecDepth 100000 in
theorem rstdel_any (q m : Nat) (U B : List Nat) (t : Sto) (x : Id) (w : World) (h : RStAt w q m U B t) (hxo : okD x) (ho : t.s.d.ops ≤ 800000000) (hw : t.s.d.since.length ≤ 800000) :
    Calls Tryz.prog 42 #[.pointer (some ⟨q, 0, none⟩), idV x] w fun e w' => e = .returned (.int .i64 (t.del x).1) ∧ RStd w w' q m U B (t.del x).2 := by
  obtain ⟨sp, W, A, h, rfl, rfl⟩ := h
  obtain ⟨w1, hw1⟩ : ∃ w1, w1 = w.alloc (.cells (idC x) 25) := ⟨_, rfl⟩
  have hc1 : Chg [] w w1 := by rw [hw1]; exact (Chg.refl [] w).alloc _
  have hb1 : w1.heap[w.heap.size]? = some (.cells (idC x) 25 (0, 0)) := by rw [hw1]; exact heap_alloc_new w _
  have CK := Lib.hid (rkey_any x w1)
  have mm := id_cells hb1
  have HH1 := Lib.hid (h.keep hc1 (by simp))
  have HC1 := Lib.hid hc1
  have HW1 := Lib.hid hw1
  have HST : Hid (∀ w', Chg [] w w' → RStd w w' q m (q :: W) (q :: A) t) := Lib.hid (fun w' hc => RStd.post (RStd.same ⟨sp, W, A, h, rfl, rfl⟩) hc)
  rw [hw1] at mm
  unfold KeyPost at CK
  have hl0 : (t.at x).length ≤ 1000 := by
    unfold Sto.at
    split
    · have h1 := upto_len t.s.rows t.s.rows.length (idKey x)
      have h2 := h.slots.fewR
      omega
    · simp
  clear hw1 hb1 hc1
  by_cases hm : mayId x = true
  · have HM := Lib.hid hm
    have HG : Hid (t.del x = ((t.s.clears (t.at x)).1, { t with s := (t.s.clears (t.at x)).2 })) := Lib.hid (by unfold Sto.del; rw [if_neg (by simp [hm])])
    simp only [hm, if_true] at CK
    generalize t.del x = r at *
    have HAT := Lib.hid (Sto.at_may (t := t) hm)
    generalize t.at x = l0 at *
    obtain ⟨xc, xl, xn, xi⟩ := x
    obtain ⟨m0, m1, m2, m3⟩ := mm
    clear h hm
    go_enter Tryz.func42, Tryz.ntmps42
    go_wp2_with fail
    rw [← HW1.out]
    refine CK.out.mono ?_
    rintro e w2 ⟨hc2, kv, rfl, hkr, hkf⟩
    have HH2 := Lib.hid (HH1.out.keep hc2 (by simp))
    have HC2 := Lib.hid (HC1.out.trans hc2 (by simp))
    have HKR := Lib.hid (And.intro hkr.bytes (fun k hk => Nat.le_trans HC1.out.size (hkf k hk)))
    obtain ⟨_, k1, _⟩ := HH2.out.cells
    have CF := Lib.hid (rfind_any sp m W A t.s kv _ w2 HH2.out.slots HKR.out.1 (by rw [idKey_len]; omega))
    rw [find_upto, ← HAT.out] at CF
    clear hc2 hkf m0 m1 m2 m3 CK hkr
    go_wp2_with fail
    refine CF.out.mono ?_
    rintro e w3 ⟨rfl, hc3⟩
    have HR3 : Hid (RStOk w3 q sp m W A t ∧ BytesAt w3 kv (idKey ⟨xc, xl, xn, xi⟩) ∧ Chg [] w w3) := Lib.hid ⟨HH2.out.keep hc3 (by simp), HKR.out.1.chg hc3 (by simp), HC2.out.trans hc3 (by simp)⟩
    clear hc3 k1 CF
    go_wp2_with fail
    go_loopg [7] l0.length (fun g' s7 wr => ∃ (sk : SS) (l : List Nat), s7 = .int .i64 (headI l) ∧ l.length ≤ g' ∧ l.length ≤ l0.length ∧ Hid (RStd w wr q m (q :: W) (q :: A) ⟨sk, t.whole⟩ ∧ BytesAt wr kv (idKey ⟨xc, xl, xn, xi⟩) ∧ upto sk.rows sk.rows.length (idKey ⟨xc, xl, xn, xi⟩) = l ∧ t.s.clears l0 = sk.clears l ∧
      sk.d.ops + 2 * l.length ≤ t.s.d.ops + 2 * l0.length ∧ sk.d.since.length + l.length ≤ t.s.d.since.length + l0.length))
    case atStart => exact ⟨t.s, l0, rfl, Nat.le_refl _, Nat.le_refl _, Lib.hid ⟨⟨_, _, ⟨sp, W, A, HR3.out.1, rfl, rfl⟩, fun y hy => .inl hy, fun y hy => .inl hy, HR3.out.2.2.mono (by simp)⟩, HR3.out.2.1, HAT.out.symm, rfl, by omega, by omega⟩⟩
    case round =>
      obtain ⟨sk, l, rfl, hlg, hll, HR⟩ := hrel
      obtain ⟨⟨Uk, Bk, ⟨spk, Wk, Ak, hok, rfl, rfl⟩, hW, hA, hch⟩, hby, hup, hcl, hop, hsi⟩ := HR.out
      have HOK := Lib.hid hok
      have HBY := Lib.hid hby
      have HUP := Lib.hid hup
      have HCL := Lib.hid hcl
      have HWA := Lib.hid (And.intro hW (And.intro hA hch))
      clear HR hok hby hup hcl hW hA hch HR3
      cases l with
      | nil =>
        rw [headI_nil]
        have HRR : Hid (r = (0, ⟨sk, t.whole⟩)) := Lib.hid (by rw [HG.out, HCL.out]; rfl)
        have HF : Hid (RStd w wr q m (q :: W) (q :: A) ⟨sk, t.whole⟩) := Lib.hid ⟨q :: Wk, q :: Ak, ⟨spk, Wk, Ak, HOK.out, rfl, rfl⟩, HWA.out.1, HWA.out.2.1, HWA.out.2.2⟩
        clear HG
        go_wp2
        go_ret
        rw [HRR.out]
        exact ⟨rfl, HF.out⟩
      | cons i rest =>
        rw [headI_cons]
        have hge : (i : Int) ≥ 0 := by omega
        obtain ⟨_, k1, _⟩ := HOK.out.cells
        have hrl : rest.length + 1 ≤ l0.length := hll
        have hgk : rest.length + 1 ≤ gk := hlg
        simp only [List.length_cons] at hop hsi
        have CC := Lib.hid (rclear_any spk m Wk Ak sk (i : Int) wr HOK.out.slots (by omega) (by omega))
        have HCL2 : Hid (t.s.clears l0 = if (sk.clear (i : Int)).1 ≠ 0 then sk.clear (i : Int) else (sk.clear (i : Int)).2.clears rest) := Lib.hid (by rw [HCL.out, clears_cons])
        have HKO := Lib.hid (HOK.out.ok.clearS (i : Int))
        obtain ⟨z1, z2, z3⟩ := sk.clear_ok (i : Int)
        have hcd := @SS.clear_done sk (i : Int)
        generalize sk.clear (i : Int) = z at *
        obtain ⟨ze, zs⟩ := z
        dsimp only at HCL2 z1 z2 z3 hcd HKO
        have HCD := Lib.hid hcd
        unfold RSidPost at CC
        clear hlg hll hcd HCL
        go_wp2_with fail
        refine CC.out.mono ?_
        rintro e w4 ⟨rfl, hs4⟩
        have HD4 : Hid (RStd w w4 q m (q :: W) (q :: A) ⟨zs, t.whole⟩) := Lib.hid (RStd.glue HWA.out.1 HWA.out.2.1 HWA.out.2.2 (HOK.out.did hs4 HKO.out))
        have HB4 : Hid (BytesAt w4 kv (idKey ⟨xc, xl, xn, xi⟩)) := Lib.hid (by
          obtain ⟨W', A', a1, a2, a3, a4⟩ := hs4
          refine HBY.out.chg a4 (fun k hk hm => ?_)
          have h8 := (HOK.out.slots.lim).2.2 k hm
          exact h8.not_bytes _ _ HBY.out (fun e => by have := idKey_len ⟨xc, xl, xn, xi⟩; rw [e] at this; simp at this) hk)
        clear hs4 CC k1
        by_cases he : ze = 0
        · subst he
          have HCL3 : Hid (t.s.clears l0 = zs.clears rest) := Lib.hid (by rw [HCL2.out]; rfl)
          obtain ⟨Wn, An, ⟨sp4, W4, A4, hok4, rfl, rfl⟩, hn1, hn2, hn3⟩ := HD4.out
          have HOK4 := Lib.hid hok4
          have HN4 := Lib.hid (And.intro hn1 (And.intro hn2 hn3))
          have HUP4 : Hid (upto zs.rows zs.rows.length (idKey ⟨xc, xl, xn, xi⟩) = rest) := Lib.hid (by
            obtain ⟨_, _, h3⟩ := HCD.out rfl
            have h4 := upto_clear (k := idKey ⟨xc, xl, xn, xi⟩) HUP.out
            rw [if_pos rfl] at h4
            rw [h3, Int.toNat_natCast]
            exact h4)
          obtain ⟨_, k1, _⟩ := HOK4.out.cells
          have CF := Lib.hid (rfind_any sp4 m W4 A4 zs kv _ w4 HOK4.out.slots HB4.out (by rw [idKey_len]; omega))
          rw [find_upto, HUP4.out] at CF
          clear hok4 hn1 hn2 hn3 HCL2
          go_wp2_with fail
          refine CF.out.mono ?_
          rintro e w5 ⟨rfl, hc5⟩
          have HF5 : Hid (RStd w w5 q m (q :: W) (q :: A) ⟨zs, t.whole⟩ ∧ BytesAt w5 kv (idKey ⟨xc, xl, xn, xi⟩)) := Lib.hid ⟨HD4.out.post hc5, HB4.out.chg hc5 (by simp)⟩
          clear hc5 CF k1
          go_wp2_with fail
          go_roundg (gk - 1)
          case measure => omega
          case rel => exact ⟨zs, rest, rfl, by omega, by omega, Lib.hid ⟨HF5.out.1, HF5.out.2, HUP4.out, HCL3.out, by omega, by omega⟩⟩
        · have HRR : Hid (r = (ze, ⟨zs, t.whole⟩)) := Lib.hid (by rw [HG.out, HCL2.out, if_pos he])
          have q0 : (ze != 0) = true := by simp [he]
          clear HG HCL2
          go_wp2
          go_ret
          rw [HRR.out]
          exact ⟨rfl, HD4.out⟩
  · have HR : Hid (t.del x = (1, t)) := Lib.hid (by unfold Sto.del; rw [if_pos (by simpa using hm)])
    simp only [if_neg hm] at CK
    generalize t.del x = r at *
    clear hm
    obtain ⟨xc, xl, xn, xi⟩ := x
    obtain ⟨m0, m1, m2, m3⟩ := mm
    clear h hl0
    go_enter Tryz.func42, Tryz.ntmps42
    go_wp2_with fail
    rw [← HW1.out]
    refine CK.out.mono ?_
    rintro e w2 ⟨hc2, rfl⟩
    have HC2 := Lib.hid (HC1.out.trans hc2 (by simp))
    clear hc2 CK m0 m1 m2 m3
    go_wp2
    go_ret
    rw [HR.out]
    exact ⟨rfl, HST.out _ HC2.out⟩
end Go.Proofs.YtbkajnjboipbhaaGreatDoor.W
