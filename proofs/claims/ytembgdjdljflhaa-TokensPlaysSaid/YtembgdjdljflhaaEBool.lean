/- Package wire's eye: Bool, Fail, Left, NewEye, bytes.Clone. -/
import Derived.Test.YtembgdjdljflhaaNum
namespace Go.Proofs.Ytembgdjdljflhaa.W
open Go.RowKit
set_option linter.unusedVariables false
set_option linter.unusedSimpArgs false

theorem enters2 : ∀ args w, (callFunc 61 args).run Try.prog w = .ok (.enter 61 args) w := enters_of Try.func61 (by kernel_rfl) rfl

set_option maxHeartbeats 2000000 in
set_option maxRecDepth 100000 in
theorem bstep_any (b g o cap pe px : Nat) (c : UInt8) (l : List UInt8) (bad : Value) (w : World) (h : w.heap[b]? = some (.cells #[.bool true, .slice (some ⟨g, o, none⟩) (c :: l).length cap, bad] 82 (0, 0)))
    (hgb : g ≠ b) (hl : (c :: l).length ≤ cap) (hc : cap ≤ maxLen) (hcell : w.cell? ⟨g, o, none⟩ = some (bv c))
    (he : w.heap[pe]? = some (.cells #[.pointer (some ⟨b, 0, none⟩)] 44 (0, 0))) (hx : w.heap[px]? = some (.cells #[.bool false] 4 (0, 0))) (hxb : px ≠ b) :
    Calls Try.prog 61 #[.pointer (some ⟨pe, 0, none⟩), .pointer (some ⟨px, 0, none⟩)] w fun e w' => 
      if 1 < c.toNat then e = gaveUp 4 ∧ w' = w.setCell ⟨b, 1, none⟩ (.slice (some ⟨g, if cap = 1 then o else o + 1, none⟩) l.length (cap - 1))
      else e = .returned (.tuple #[]) ∧ w' = (w.setCell ⟨b, 1, none⟩ (.slice (some ⟨g, if cap = 1 then o else o + 1, none⟩) l.length (cap - 1))).setCell ⟨px, 0, none⟩ (.bool (c.toNat == 1)) := by
  have CN := Lib.hid (take_ok b g o cap (c :: l) bad 1 w h hl hc (by simp))
  rw [show (c :: l).length - 1 = l.length from rfl] at CN
  obtain ⟨w1, hw1⟩ : ∃ w1, w1 = w.setCell ⟨b, 1, none⟩ (.slice (some ⟨g, if cap = 1 then o else o + 1, none⟩) l.length (cap - 1)) := ⟨_, rfl⟩
  rw [← hw1] at CN ⊢
  have hx1 : w1.heap[px]? = some (.cells #[.bool false] 4 (0, 0)) := by rw [hw1]; exact blk_sets hx hxb
  have hcl : w1.cell? ⟨g, o, none⟩ = some (bv c) := by
    rw [hw1]; exact (World.cell?_of_block (w := w) (a := ⟨g, o, none⟩) (Below.heap_setCell w _ _ g (by simpa using hgb))).trans hcell
  have e0 := blk_cell he 0 _ rfl
  have x0 := blk_cell hx1 0 _ rfl
  have x1 := blk_frozen hx1 0
  clear h hl hc hcell hw1 he hx hx1
  unfold bv at hcl
  unfold gaveUp
  have hbq : ((c.toNat : Int) == 1) = (c.toNat == 1) := by
    rw [Bool.eq_iff_iff, beq_iff_eq, beq_iff_eq]; omega
  by_cases hc1 : 1 < c.toNat
  · simp only [if_pos hc1]
    go_enter Try.func61, Try.ntmps61
    go_wp2_with fail
    refine CN.out.mono ?_
    rintro e w' ⟨rfl, rfl⟩
    go_wp2
    exact ⟨rfl, rfl, rfl⟩
  · simp only [if_neg hc1]
    go_enter Try.func61, Try.ntmps61
    go_wp2_with fail
    refine CN.out.mono ?_
    rintro e w' ⟨rfl, rfl⟩
    go_wp2
    go_end0
    exact ⟨rfl, rfl⟩

set_option maxHeartbeats 2000000 in
theorem bstep_short (b pe : Nat) (px : Value) (a : Option Addr) (cap : Nat) (bad : Value) (w : World) (h : w.heap[b]? = some (.cells #[.bool true, .slice a 0 cap, bad] 82 (0, 0)))
    (he : w.heap[pe]? = some (.cells #[.pointer (some ⟨b, 0, none⟩)] 44 (0, 0))) :
    Calls Try.prog 61 #[.pointer (some ⟨pe, 0, none⟩), px] w fun e w' => e = gaveUp 2 ∧ w = w' := by
  have CN := Lib.hid (take_short b a 0 cap bad 1 w h (by omega) (by omega))
  have e0 := blk_cell he 0 _ rfl
  clear h he
  unfold gaveUp at *
  go_enter Try.func61, Try.ntmps61
  go_wp2_with fail
  refine CN.out.mono ?_
  rintro e w' ⟨rfl, rfl⟩
  exact ⟨rfl, rfl, rfl⟩

set_option maxHeartbeats 4000000 in
set_option maxRecDepth 100000 in
/-- Bool. -/
theorem ebool_any (b g : Nat) (l : List UInt8) (bad : Int) (w : World) (h : EyeAt w b g l bad) :
    Calls Try.prog 43 #[.pointer (some ⟨b, 0, none⟩)] w fun e w' => e = .returned (.bool (eyeBool l bad).1) ∧
      EyeAt w' b g (eyeBool l bad).2.1 (eyeBool l bad).2.2 ∧ Chg [b] w w' := by
  have hE := h
  obtain ⟨v, hb, hv, hgb, hg, hll⟩ := h
  have hbl := blk_lt hb
  obtain ⟨w3, hw3⟩ : ∃ w3, w3 = (w.alloc (.cells #[.pointer (some ⟨b, 0, none⟩)] 44)).alloc (.cells #[.bool false] 4) := ⟨_, rfl⟩
  have hs3 : w3.heap.size = w.heap.size + 2 := by rw [hw3]; simp
  have hb3 : w3.heap[b]? = some (.cells #[.bool true, v, .int .i64 bad] 82 (0, 0)) := by rw [hw3]; exact blk_alloc (blk_alloc hb)
  have hpe : w3.heap[w.heap.size]? = some (.cells #[.pointer (some ⟨b, 0, none⟩)] 44 (0, 0)) := by rw [hw3]; exact blk_alloc (heap_alloc_new w _)
  have hpx : w3.heap[w.heap.size + 1]? = some (.cells #[.bool false] 4 (0, 0)) := by
    rw [hw3]
    have := heap_alloc_new (w.alloc (.cells #[.pointer (some ⟨b, 0, none⟩)] 44)) (.cells #[.bool false] 4)
    simpa using this
  have hc3 : Chg [b] w w3 := by rw [hw3]; exact ((Chg.refl [b] w).alloc _).alloc _
  have hv3 : EyeV w3 v g l := hv.keepC hg hc3 (by simp; exact hgb)
  have hg3 := or_lt hg hc3
  obtain ⟨r, hr⟩ : ∃ r, r = eyeBool l bad := ⟨_, rfl⟩
  have CR : Hid (Calls Try.prog 57 #[.pointer (some ⟨b, 0, none⟩), .func (.func 61) #[] #[.pointer (some ⟨w.heap.size, 0, none⟩), .pointer (some ⟨w.heap.size + 1, 0, none⟩)]] w3
      fun e w' => e = .returned (.tuple #[]) ∧ Hid (Chg [b, w.heap.size + 1] w3 w' ∧ EyeAt w' b g r.2.1 r.2.2 ∧ w'.heap[w.heap.size + 1]? = some (.cells #[.bool r.1] 4 (0, 0)))) := by
    have hgb3 : b < w3.heap.size := blk_lt hb3
    by_cases hbad : bad = 0
    · subst hbad
      cases l with
      | nil =>
        have hr' : r = (false, [], 2) := by rw [hr]; rfl
        obtain ⟨a, cap, rfl⟩ := hv3.slice
        refine (read_panic b _ 61 _ w3 enters2 a 0 cap rfl 2 hb3 [] (by simp) ?_).mono ?_
        · refine (bstep_short b _ _ a cap _ _ (blk_alloc (blk_alloc hb3)) (blk_alloc (blk_alloc hpe))).mono ?_
          rintro e w' ⟨rfl, rfl⟩
          exact ⟨rfl, _, Chg.refl _ _, blk_alloc (blk_alloc hb3)⟩
        · rintro e w' ⟨rfl, hc, hh⟩
          refine ⟨rfl, hc.mono (by simp), ?_, ?_⟩
          · rw [hr']
            exact ⟨_, hh, hv3.keepC hg3 hc (by simp; exact hgb), hgb, or_lt hg3 hc, hll⟩
          · rw [hr']; exact hc.keep hpx (by simp; omega)
      | cons c l =>
        rcases hv3 with ⟨_, h0⟩ | ⟨o, cap, rfl, hlc, hcm, hcell⟩
        · cases h0
        have hg4 : g < w.heap.size := by
          rcases hg with hg | hg
          · exact hg
          · cases hg
        obtain ⟨w5, hw5⟩ : ∃ w5, w5 = (w3.alloc (.cells #[.pointer (some ⟨b, 0, none⟩)] 44)).alloc (.cells #[.slice (some ⟨g, o, none⟩) (c :: l).length cap] 39) := ⟨_, rfl⟩
        have hc5 : Chg [] w3 w5 := by rw [hw5]; exact ((Chg.refl [] w3).alloc _).alloc _
        have hc0 : w3.cell? ⟨g, o, none⟩ = some (bv c) := hcell 0 (by simp)
        have CS := bstep_any b g o cap _ _ c l _ w5 (hc5.keep hb3 (by simp)) hgb hlc hcm (hc5.cell hc0 (by simp)) (hc5.keep hpe (by simp)) (hc5.keep hpx (by simp)) (by omega)
        by_cases hc1 : 1 < c.toNat
        · have hr' : r = (false, c :: l, 4) := by rw [hr]; unfold eyeBool; simp [hc1]
          refine (read_panic b _ 61 _ w3 enters2 _ _ _ rfl 4 hb3 [b] (by simp; exact hgb3) ?_).mono ?_
          · rw [← hw5]
            refine CS.mono ?_
            intro e w' h
            rw [if_pos hc1] at h
            obtain ⟨rfl, rfl⟩ := h
            exact ⟨rfl, _, (Chg.refl _ _).setCell (.inl (by simp)) _, set_blk (hc5.keep hb3 (by simp))⟩
          · rintro e w' ⟨rfl, hc, hh⟩
            refine ⟨rfl, hc.mono (by simp), ?_, ?_⟩
            · rw [hr']
              exact ⟨_, hh, .inr ⟨o, cap, rfl, hlc, hcm, fun i hi => hc.cell (hcell i hi) (by simp; exact hgb)⟩, hgb, .inl (Nat.lt_of_lt_of_le (show g < w3.heap.size by omega) hc.size), hll⟩
            · rw [hr']; exact hc.keep hpx (by simp; omega)
        · have hr' : r = (c.toNat == 1, l, 0) := by rw [hr]; unfold eyeBool; simp [hc1]
          rw [hw5] at CS
          simp only [if_neg hc1] at CS
          refine (read_ret b _ 61 _ w3 enters2 _ _ _ rfl hb3 _ CS).mono ?_
          rintro e w' ⟨rfl, w1, hq, rfl⟩
          rw [← hw5] at hq
          have hcq : Chg [b, w.heap.size + 1] w3 w1 := by
            rw [hq]
            exact ((hc5.mono (by simp)).setCell (p := ⟨b, 1, none⟩) (.inl (by simp)) _).setCell (p := ⟨w.heap.size + 1, 0, none⟩) (.inl (by simp)) _
          have hb1 : w1.heap[b]? = some (.cells #[.bool true, .slice (some ⟨g, if cap = 1 then o else o + 1, none⟩) l.length (cap - 1), .int .i64 0] 82 (0, 0)) := by
            rw [hq]; exact blk_sets (set_blk (hc5.keep hb3 (by simp))) (by omega)
          have hx1 : w1.heap[w.heap.size + 1]? = some (.cells #[.bool (c.toNat == 1)] 4 (0, 0)) := by
            rw [hq]; exact set_blk (blk_sets (hc5.keep hpx (by simp)) (by omega))
          refine ⟨rfl, hcq.alloc _, ?_, ?_⟩
          · rw [hr']
            refine ⟨_, blk_alloc hb1, ?_, hgb, ?_, ?_⟩
            · exact (EyeV.dropped (n := 1) hlc hcm hcell (by simp)).keep ((hcq.alloc _).block g (by omega) (by simp; omega))
            · exact .inl (Nat.lt_of_lt_of_le (by omega) (hcq.alloc _).size)
            · show l.length ≤ _
              simp at hll; omega
          · rw [hr']; exact blk_alloc hx1
    · have hr' : r = (false, l, bad) := by rw [hr]; unfold eyeBool; rw [if_pos hbad]
      refine (read_done b v bad 61 _ w3 hb3 hbad).mono ?_
      rintro e w' ⟨rfl, rfl⟩
      rw [hr']
      refine ⟨rfl, (Chg.refl _ _).alloc _, ⟨v, blk_alloc hb3, hv3.keepC hg3 ((Chg.refl [] w3).alloc _) (by simp), hgb, or_lt hg3 ((Chg.refl [] w3).alloc _), hll⟩, blk_alloc hpx⟩
  rw [← hr]
  have HC := Lib.hid hc3
  have HW := Lib.hid hw3
  have hmf : ∀ (fn : Fn) (first cap : Array Value) (w : World), (Instr.makeFunc fn first cap).run Try.prog w = .ok (.func fn first cap) w := fun _ _ _ _ => rfl
  clear hb hv hb3 hpe hpx hc3 hr hE hw3 hv3
  go_enter Try.func43, Try.ntmps43
  go_wp2_with fail
  rw [← HW.out]
  refine CR.out.mono ?_
  rintro e w4 ⟨rfl, H4⟩
  have x0 := blk_cell H4.out.2.2 0 _ rfl
  go_wp2
  go_ret
  exact ⟨rfl, H4.out.2.1, HC.out.trans H4.out.1 (by
    intro x hx
    simp at hx
    rcases hx with rfl | rfl
    · exact .inl (by simp)
    · exact .inr (by omega))⟩

set_option maxHeartbeats 2000000 in
/-- Fail. -/
theorem efail_any (b g : Nat) (l : List UInt8) (bad : Int) (w : World) (h : EyeAt w b g l bad) :
    Calls Try.prog 44 #[.pointer (some ⟨b, 0, none⟩)] w fun e w' => e = .returned (.int .i64 bad) ∧ w = w' := by
  obtain ⟨v, hb, _, _, _, _⟩ := h
  have h0 := blk_cell hb 0 _ rfl
  have h2 := blk_cell hb 2 _ rfl
  clear hb
  go_enter Try.func44, Try.ntmps44
  go_wp2
  go_ret
  exact ⟨rfl, rfl⟩

set_option maxHeartbeats 2000000 in
/-- Left. -/
theorem eleft_any (b g : Nat) (l : List UInt8) (bad : Int) (w : World) (h : EyeAt w b g l bad) :
    Calls Try.prog 21 #[.pointer (some ⟨b, 0, none⟩)] w fun e w' => e = .returned (.int .i64 l.length) ∧ w = w' := by
  obtain ⟨v, hb, hv, _, _, _⟩ := h
  obtain ⟨a, cap, rfl⟩ := hv.slice
  have h1 := blk_cell hb 1 _ rfl
  clear hb hv
  go_enter Try.func21, Try.ntmps21
  go_wp2
  go_ret
  exact ⟨rfl, rfl⟩

set_option maxHeartbeats 2000000 in
set_option maxRecDepth 100000 in
/-- bytes.Clone. -/
theorem clone_any (v : Value) (l : List UInt8) (w : World) (h : BytesAt w v l) (hl : l.length ≤ 1000000000) :
    Calls Try.prog 41 #[v] w fun e w' => ∃ v', e = .returned v' ∧ BRow w' v' l ∧ (∀ g, v'.ownBlock = some g → w.heap.size ≤ g) ∧ Chg [] w w' := by
  obtain ⟨a, cap, rfl, h1, h2, h3⟩ := h
  cases a with
  | none =>
    obtain ⟨rfl, rfl⟩ : l = [] ∧ cap = 0 := by
      rcases h3 with h3 | ⟨g, o, h, _⟩
      · exact h3
      · cases h
    have hq : ∀ w, (binOp .eql 39 (.slice none 0 0) (.slice none 0 0)).run Try.prog w = .ok (.bool true) w := fun w => Lib.run_eql_slice_nil w 39 5 none 0 0 0 0 Try.underlying39
    go_enter Try.func41, Try.ntmps41
    go_wp2
    go_ret
    exact ⟨_, rfl, BRow.nil _, by simp [Value.ownBlock], Chg.refl _ _⟩
  | some ad =>
    have hB : BytesAt w (.slice (some ad) l.length cap) l := ⟨_, _, rfl, h1, h2, h3⟩
    have hr : BRow (w.alloc (.cells #[] 5)) (.slice (some ⟨w.heap.size, 0, none⟩) 0 0) [] := World.ownsRow_made w #[] 0 (Nat.zero_le _) (by unfold maxLen; omega) rfl
    have hc0 : Chg [] w (w.alloc (.cells #[] 5)) := (Chg.refl [] w).alloc _
    have hB1 : BytesAt (w.alloc (.cells #[] 5)) (.slice (some ad) l.length cap) l := by
      refine ⟨_, _, rfl, h1, h2, ?_⟩
      rcases h3 with h3 | ⟨g, o, he, hcell⟩
      · exact .inl h3
      · exact .inr ⟨g, o, he, fun i hi => hc0.cell (hcell i hi) (by simp)⟩
    have HB := Lib.hid hB1
    have HR := Lib.hid hr
    have HC := Lib.hid hc0
    have hq : ∀ w, (binOp .eql 39 (.slice (some ad) l.length cap) (.slice none 0 0)).run Try.prog w = .ok (.bool false) w := fun w => Lib.run_eql_slice_nil w 39 5 (some ad) _ _ 0 0 Try.underlying39
    clear hB hB1 hr hc0 h3
    go_enter Try.func41, Try.ntmps41
    go_wp2_with (at_builtin; refine wpList_appB rfl _ _ rfl (.slice (some ⟨w.heap.size, 0, none⟩) 0 0) [] rfl HR.out _ l rfl HB.out (by simp; omega) ?_; intro v1 w1 ho1 hg1 hat1)
    go_ret
    refine ⟨v1, rfl, by simpa using ho1, ?_, HC.out.grown hg1 (by simp [Value.ownBlock])⟩
    intro g hg
    rcases hat1 with h | h
    · rw [h] at hg; simp [Value.ownBlock] at hg; omega
    · rw [h] at hg; simp at hg; omega

set_option maxHeartbeats 2000000 in
set_option maxRecDepth 100000 in
/-- NewEye. -/
theorem neweye_any (v : Value) (l : List UInt8) (w : World) (h : BytesAt w v l) (hl : l.length ≤ 1000000) :
    Calls Try.prog 16 #[v] w fun e w' => ∃ b g, e = .returned (.pointer (some ⟨b, 0, none⟩)) ∧ EyeAt w' b g l 0 ∧ w.heap.size ≤ b ∧ w.heap.size ≤ g ∧ Chg [] w w' := by
  have CC := Lib.hid (clone_any v l w h (by omega))
  clear h
  go_enter Try.func16, Try.ntmps16
  go_wp2_with fail
  refine CC.out.mono ?_
  rintro e w1 ⟨v1, rfl, hr, hg, hc⟩
  have hsl : ∃ a cap, v1 = .slice a l.length cap := by
    obtain ⟨a, cap, h, _⟩ := hr.bytes
    exact ⟨a, cap, h⟩
  obtain ⟨a, cap, rfl⟩ := hsl
  have HR := Lib.hid hr
  have HG := Lib.hid hg
  have HC := Lib.hid hc
  clear hr hg hc CC
  go_wp2
  go_ret
  have hw : w.heap.size ≤ w1.heap.size := HC.out.size
  have hca := (Chg.refl [] w1).alloc (.cells #[.bool true, .slice a l.length cap, .int .i64 0] 82)
  cases a with
  | none =>
    have hn : (Value.slice none l.length cap = .slice none 0 0) ∧ l = [] := by
      rcases HR.out.2 with ⟨h1, h2⟩ | ⟨g, c, cur, h1, _⟩
      · exact ⟨h1, List.eq_nil_of_length_eq_zero h2⟩
      · cases h1
    exact ⟨w1.heap.size, w1.heap.size + 1, rfl, ⟨_, heap_alloc_new w1 _, .inl hn, by omega, .inr hn.1, hl⟩, hw, by omega, HC.out.alloc _⟩
  | some x =>
    have hx := HG.out x.block rfl
    have hl2 := HR.out.lt x.block rfl
    refine ⟨w1.heap.size, x.block, rfl, ⟨_, heap_alloc_new w1 _, ?_, by omega, .inl (by simp; omega), hl⟩, hw, hx, HC.out.alloc _⟩
    rcases HR.out.2 with ⟨h1, h2⟩ | ⟨g, c, cur, h1, _⟩
    · cases h1
    · obtain ⟨aa, cc, h3, h4, h5, h6⟩ := (HR.out.keep (fun g' hg' => hca.block g' (HR.out.lt g' hg') (by simp))).bytes
      obtain ⟨rfl, rfl⟩ : x = ⟨g, 0, none⟩ ∧ cap = c := by simpa using h1
      obtain ⟨rfl, rfl⟩ : some (⟨g, 0, none⟩ : Addr) = aa ∧ cap = cc := by simpa using h3
      refine .inr ⟨0, cap, rfl, h4, h5, ?_⟩
      rcases h6 with ⟨h6, _⟩ | ⟨g2, o2, h6, h7⟩
      · intro i hi
        rw [h6] at hi; simp at hi
      · obtain ⟨rfl, rfl⟩ : g = g2 ∧ 0 = o2 := by simpa using h6
        exact h7
end Go.Proofs.Ytembgdjdljflhaa.W
