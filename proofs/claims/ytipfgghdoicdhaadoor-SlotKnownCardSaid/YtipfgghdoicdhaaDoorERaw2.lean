/- Package wire's eye: Raw, whole. -/
import Derived.Test.YtipfgghdoicdhaaDoorERaw
namespace Go.Proofs.YtipfgghdoicdhaaDoor.W
open Go.RowKit
set_option linter.unusedVariables false
set_option linter.unusedSimpArgs false

/-- What Raw leaves. -/
def RawLeft (w w' : World) (b g pb : Nat) (r : List UInt8 × List UInt8 × Int) : Prop :=
  ∃ v, Chg [b, pb] w w' ∧ EyeAt w' b g r.2.1 r.2.2 ∧ w'.heap[pb]? = some (.cells #[v] 31 (0, 0)) ∧ BRow w' v r.1 ∧ ∀ k, v.ownBlock = some k → w.heap.size ≤ k

set_option maxHeartbeats 4000000 in
set_option maxRecDepth 100000 in
theorem eraw_any (b g : Nat) (l : List UInt8) (bad : Int) (most : Nat) (w : World) (h : EyeAt w b g l bad) (hmo : most ≤ 1000000) :
    Calls Tryd.prog 66 #[.pointer (some ⟨b, 0, none⟩), .int .i64 (most : Int)] w fun e w' => ∃ v, e = .returned v ∧ BRow w' v (eyeRaw l bad most).1 ∧ (∀ k, v.ownBlock = some k → w.heap.size ≤ k) ∧
      EyeAt w' b g (eyeRaw l bad most).2.1 (eyeRaw l bad most).2.2 ∧ Chg [b] w w' := by
  have hE := h
  obtain ⟨v, hb, hv, hgb, hg, hll⟩ := h
  have hbl := blk_lt hb
  obtain ⟨w3, hw3⟩ : ∃ w3, w3 = ((w.alloc (.cells #[.pointer (some ⟨b, 0, none⟩)] 112)).alloc (.cells #[.int .i64 most] 3)).alloc (.cells #[.slice none 0 0] 31) := ⟨_, rfl⟩
  have hs3 : w3.heap.size = w.heap.size + 3 := by rw [hw3]; simp
  have hb3 : w3.heap[b]? = some (.cells #[.bool true, v, .int .i64 bad] 122 (0, 0)) := by rw [hw3]; exact blk_alloc (blk_alloc (blk_alloc hb))
  have hpe : w3.heap[w.heap.size]? = some (.cells #[.pointer (some ⟨b, 0, none⟩)] 112 (0, 0)) := by rw [hw3]; exact blk_alloc (blk_alloc (heap_alloc_new w _))
  have hpm : w3.heap[w.heap.size + 1]? = some (.cells #[.int .i64 most] 3 (0, 0)) := by
    rw [hw3]
    have := heap_alloc_new (w.alloc (.cells #[.pointer (some ⟨b, 0, none⟩)] 112)) (.cells #[.int .i64 most] 3)
    exact blk_alloc (by simpa using this)
  have hpb : w3.heap[w.heap.size + 1 + 1]? = some (.cells #[.slice none 0 0] 31 (0, 0)) := by
    rw [hw3]
    have := heap_alloc_new ((w.alloc (.cells #[.pointer (some ⟨b, 0, none⟩)] 112)).alloc (.cells #[.int .i64 most] 3)) (.cells #[.slice none 0 0] 31)
    simpa using this
  have hc3 : Chg [b] w w3 := by rw [hw3]; exact (((Chg.refl [b] w).alloc _).alloc _).alloc _
  have hv3 : EyeV w3 v g l := hv.keepC hg hc3 (by simp; exact hgb)
  have hg3 := or_lt hg hc3
  obtain ⟨r, hr⟩ : ∃ r, r = eyeRaw l bad most := ⟨_, rfl⟩
  have CR : Hid (Calls Tryd.prog 78 #[.pointer (some ⟨b, 0, none⟩), .func (.func 81) #[] #[.pointer (some ⟨w.heap.size + 1, 0, none⟩), .pointer (some ⟨w.heap.size, 0, none⟩), .pointer (some ⟨w.heap.size + 1 + 1, 0, none⟩)]] w3
      fun e w' => e = .returned (.tuple #[]) ∧ Hid (RawLeft w3 w' b g (w.heap.size + 1 + 1) r)) := by
    have hgb3 : b < w3.heap.size := blk_lt hb3
    by_cases hbad : bad = 0
    · subst hbad
      by_cases hlen : l.length < 2
      · have hr' : r = ([], l, 2) := by rw [hr]; unfold eyeRaw; rw [if_neg (by simp), if_pos hlen]
        obtain ⟨a, cap, rfl⟩ := hv3.slice
        refine (read_panic b _ 81 _ w3 enters3 a l.length cap rfl 2 hb3 [] (by simp) ?_).mono ?_
        · refine (rstep_short b cap _ _ most _ _ _ a l.length (blk_alloc (blk_alloc hb3)) hlen (blk_alloc (blk_alloc hpm)) (blk_alloc (blk_alloc hpe))).mono ?_
          rintro e w' ⟨rfl, rfl⟩
          exact ⟨rfl, _, Chg.refl _ _, blk_alloc (blk_alloc hb3)⟩
        · rintro e w' ⟨rfl, hc, hh⟩
          rw [hr']
          exact ⟨rfl, _, hc.mono (by simp), ⟨_, hh, hv3.keepC hg3 hc (by simp; exact hgb), hgb, or_lt hg3 hc, hll⟩, hc.keep hpb (by simp; omega), BRow.nil _, by simp [Value.ownBlock]⟩
      · rcases hv3 with ⟨rfl, rfl⟩ | ⟨o, cap, rfl, hlc, hcm, hcell⟩
        · simp at hlen
        have hg4 : g < w.heap.size := by
          rcases hg with hg | hg
          · exact hg
          · cases hg
        obtain ⟨w5, hw5⟩ : ∃ w5, w5 = (w3.alloc (.cells #[.pointer (some ⟨b, 0, none⟩)] 112)).alloc (.cells #[.slice (some ⟨g, o, none⟩) l.length cap] 31) := ⟨_, rfl⟩
        have hc5 : Chg [] w3 w5 := by rw [hw5]; exact ((Chg.refl [] w3).alloc _).alloc _
        have hcell5 : ∀ i, i < l.length → w5.cell? ⟨g, o + i, none⟩ = some (bv (l.getD i 0)) := fun i hi => hc5.cell (hcell i hi) (by simp)
        have hpre : RawPre b g o cap (w.heap.size + 1) w.heap.size most l (.int .i64 0) w5 := ⟨hc5.keep hb3 (by simp), hgb, hlc, hcm, hcell5, by omega, hll, hc5.keep hpm (by simp), hc5.keep hpe (by simp), by omega, by omega⟩
        have hbW1 : (rawW1 b g o cap l w5).heap[b]? = _ := rawW1_at hpre
        have hcW1 : Chg [b] w5 (rawW1 b g o cap l w5) := (Chg.refl _ _).setCell (.inl (by simp)) _
        have hfail : ∀ x : Int, r = ([], l, x) → Hid (Calls Tryd.prog 81 #[.pointer (some ⟨w.heap.size + 1, 0, none⟩), .pointer (some ⟨w.heap.size, 0, none⟩), .pointer (some ⟨w.heap.size + 1 + 1, 0, none⟩)] w5 fun e w' => e = gaveUp x ∧ w' = rawW1 b g o cap l w5) →
            Calls Tryd.prog 78 #[.pointer (some ⟨b, 0, none⟩), .func (.func 81) #[] #[.pointer (some ⟨w.heap.size + 1, 0, none⟩), .pointer (some ⟨w.heap.size, 0, none⟩), .pointer (some ⟨w.heap.size + 1 + 1, 0, none⟩)]] w3
              fun e w' => e = .returned (.tuple #[]) ∧ Hid (RawLeft w3 w' b g (w.heap.size + 1 + 1) r) := by
          intro x hr' HX
          rw [hw5] at HX
          refine (read_panic b _ 81 _ w3 enters3 _ l.length cap rfl x hb3 [b] (by simpa using hgb3) (Lib.hid (HX.out.mono ?_))).mono ?_
          · rintro e w' ⟨rfl, rfl⟩
            rw [← hw5]
            exact ⟨rfl, _, hcW1, hbW1⟩
          · rintro e w' ⟨rfl, hc, hh⟩
            rw [hr']
            have hc' : Chg [b] w3 w' := hc.mono (by simp)
            exact ⟨rfl, _, hc.mono (by simp), ⟨_, hh, EyeV.keep (.inr ⟨o, cap, rfl, hlc, hcm, hcell⟩) (hc'.block g (by omega) (by simp; exact hgb)), hgb, or_lt hg3 hc, hll⟩, hc'.keep hpb (by simp; omega), BRow.nil _, by simp [Value.ownBlock]⟩
        by_cases hlong : most < beNum (l.take 2)
        · exact hfail 3 (by rw [hr]; unfold eyeRaw; rw [if_neg (by simp), if_neg hlen, if_pos hlong]) (Lib.hid (rstep_long b g o cap _ _ most l _ w5 hpre _ hlong))
        · by_cases hsh : (l.drop 2).length < beNum (l.take 2)
          · exact hfail 2 (by rw [hr]; unfold eyeRaw; rw [if_neg (by simp), if_neg hlen, if_neg hlong, if_pos hsh]) (Lib.hid (rstep_short2 b g o cap _ _ most l _ w5 hpre _ (by omega) hsh))
          · have hr' : r = ((l.drop 2).take (beNum (l.take 2)), (l.drop 2).drop (beNum (l.take 2)), 0) := by
              rw [hr]; unfold eyeRaw; rw [if_neg (by simp), if_neg hlen, if_neg hlong, if_neg hsh]
            have CS := rstep_ok b g o cap _ _ (w.heap.size + 1 + 1) most l _ w5 hpre (by omega) (by omega) (by omega) (hc5.keep hpb (by simp)) (by omega)
            rw [hw5] at CS
            refine (read_ret b _ 81 _ w3 enters3 _ _ _ rfl hb3 _ CS).mono ?_
            rintro e w' ⟨rfl, w1, hq, rfl⟩
            rw [← hw5] at hq
            obtain ⟨v', o', cap', q1, q2, q3, q4, q5, q6⟩ := hq
            have hq35 : Chg [b, w.heap.size + 1 + 1] w3 w1 := (hc5.mono (by simp)).trans q3 (fun x hx => .inl hx)
            have hca : Chg [] w1 (w1.alloc (.cells #[.int .i64 0] 125)) := (Chg.refl _ _).alloc _
            rw [hr']
            refine ⟨rfl, v', hq35.alloc _, ⟨_, blk_alloc q5, q6.keep (hca.block g (Nat.lt_of_lt_of_le (by omega) hq35.size) (by simp)), hgb, .inl (Nat.lt_of_lt_of_le (by omega) (hq35.alloc _).size), ?_⟩, blk_alloc q4, q1.keep (fun k hk => hca.block k (q1.lt k hk) (by simp)), fun k hk => Nat.le_trans hc5.size (q2 k hk)⟩
            show ((l.drop 2).drop _).length ≤ _
            rw [List.length_drop, List.length_drop]; omega
    · have hr' : r = ([], l, bad) := by rw [hr]; unfold eyeRaw; rw [if_pos hbad]
      refine (read_done b v bad 81 _ w3 hb3 hbad).mono ?_
      rintro e w' ⟨rfl, rfl⟩
      rw [hr']
      exact ⟨rfl, _, (Chg.refl _ _).alloc _, ⟨v, blk_alloc hb3, hv3.keepC hg3 ((Chg.refl [] w3).alloc _) (by simp), hgb, or_lt hg3 ((Chg.refl [] w3).alloc _), hll⟩, blk_alloc hpb, BRow.nil _, by simp [Value.ownBlock]⟩
  rw [← hr]
  have HC := Lib.hid hc3
  have HW := Lib.hid hw3
  have hmf : ∀ (fn : Fn) (first cap : Array Value) (w : World), (Instr.makeFunc fn first cap).run Tryd.prog w = .ok (.func fn first cap) w := fun _ _ _ _ => rfl
  clear hb hv hb3 hpe hpm hpb hc3 hr hE hw3 hv3
  go_enter Tryd.func66, Tryd.ntmps66
  go_wp2_with fail
  rw [← HW.out]
  refine CR.out.mono ?_
  rintro e w4 ⟨rfl, H4⟩
  obtain ⟨v4, k1, k2, k3, k4, k5⟩ := H4.out
  have x0 := blk_cell k3 0 _ rfl
  have HK := Lib.hid (And.intro k1 (And.intro k2 (And.intro k4 k5)))
  obtain ⟨a4, c4, hv4, _⟩ := k4.bytes
  have HV4 := Lib.hid hv4
  obtain rfl := hv4
  clear k1 k2 k3 k4 k5 H4 CR
  go_wp2
  go_ret
  refine ⟨_, rfl, HK.out.2.2.1, fun k hk => Nat.le_trans HC.out.size (HK.out.2.2.2 k hk), HK.out.2.1, HC.out.trans HK.out.1 (by
    intro x hx
    simp at hx
    rcases hx with rfl | rfl
    · exact .inl (by simp)
    · exact .inr (by omega))⟩
end Go.Proofs.YtipfgghdoicdhaaDoor.W
