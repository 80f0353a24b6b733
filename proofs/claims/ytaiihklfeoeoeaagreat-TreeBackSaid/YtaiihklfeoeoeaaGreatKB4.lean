/- Texts laid together. -/
import Derived.Test.YtaiihklfeoeoeaaGreatKB3
import Derived.Test.YtaiihklfeoeoeaaGreatKB2
import Derived.Lib.ConvBytes
import Derived.Deep.QuietTactic
import Derived.BigQuiet
import Derived.StillTailTactics
import Derived.Deep.AppendLies
import Derived.Deep.CutBlock
import Derived.Deep.DeepCutAuto
import Derived.Test.YtaiihklfeoeoeaaGreatKB1
/- The pens' Raw. -/
namespace Go.Proofs.YtaiihklfeoeoeaaGreat.W
open Go.RowKit
set_option linter.unusedVariables false
set_option linter.unusedSimpArgs false

/-- Raw of a pen. -/
def penRaw (l : List UInt8) (bad : Int) (m : List UInt8) : List UInt8 × Int :=
  if bad ≠ 0 then (l, bad) else if 65535 < m.length then (l, 3) else penAdd l bad (beBytes 2 m.length ++ m)

theorem two_row (w : World) (a b : UInt8) (va vb : Value) (ha : bv a = va) (hb : bv b = vb) : BRow (w.alloc (.cells #[va, vb] 5)) (.slice (some ⟨w.heap.size, 0, none⟩) 2 2) [a, b] := by
  refine ⟨by simp [bvs], .inr ⟨w.heap.size, 2, #[va, vb], rfl, Nat.zero_le _, heap_alloc_new w _, by simp, by unfold maxLen; omega, rfl, ?_⟩⟩
  simp [bvs, ha, hb]

set_option maxHeartbeats 4000000 in
set_option maxRecDepth 100000 in
theorem praw_any (b : Nat) (g : Option Nat) (l : List UInt8) (bad : Int) (v : Value) (m : List UInt8) (w : World) (h : PenAt 78 w b g l bad) (hm : BytesAt w v m) (hml : m.length ≤ 900000) :
    Calls Tryz.prog 85 #[.pointer (some ⟨b, 0, none⟩), v] w fun e w' => e = .returned (.tuple #[]) ∧ Wrote 78 w w' b g (penRaw l bad m) := by
  obtain ⟨a, cap, rfl, h1, h2, h3⟩ := hm
  have HM := Lib.hid (show BytesAt w (.slice a m.length cap) m from ⟨a, cap, rfl, h1, h2, h3⟩)
  have HP := Lib.hid h
  have hbl := h.lt.1
  by_cases hlong : 65535 < m.length
  · have HR : Hid (penRaw l bad m = (l, if bad ≠ 0 then bad else 3)) := Lib.hid (by
      unfold penRaw
      by_cases hb : bad = 0
      · rw [if_neg (by simp [hb]), if_pos hlong, if_neg (by simp [hb])]
      · rw [if_pos hb, if_pos hb])
    have CP := Lib.hid (put_err b g l bad 3 (.slice none 0 0) w h (by omega))
    rw [HR.out]
    generalize (if bad ≠ 0 then bad else (3 : Int)) = x1 at *
    have hlz : (65535 : Int) < (m.length : Int) := by omega
    clear h h3
    go_enter Tryz.func85, Tryz.ntmps85
    go_wp2_with fail
    refine CP.out.mono ?_
    rintro e w2 ⟨rfl, HW⟩
    have HW2 := Lib.hid HW
    clear HW
    go_wp2
    refine bodyPost_ret (results_none rfl _ _ _) rfl ?_
    exact ⟨rfl, HW2.out⟩
  · have hlz : ¬ (65535 : Int) < (m.length : Int) := by omega
    obtain ⟨n, hn⟩ : ∃ n, n = m.length := ⟨_, rfl⟩
    have hv1 : bv (UInt8.ofNat (n / 256)) = .int .u8 ((n : Int) / 256) := by
      have h0 := byte_of n 1
      rw [show ((n : Int) / 2 ^ (8 * 1) % 256) = (n : Int) / 256 by omega] at h0
      simpa using h0
    have hv2 : bv (UInt8.ofNat n) = .int .u8 ((n : Int) % 256) := by
      have := byte_of n 0
      simpa using this
    have hbe : beBytes 2 n = [UInt8.ofNat (n / 256), UInt8.ofNat n] := by simp [beBytes]
    obtain ⟨w1, hw1⟩ : ∃ w1, w1 = w.alloc (.cells #[.int .u8 ((n : Int) / 256), .int .u8 ((n : Int) % 256)] 5) := ⟨_, rfl⟩
    have hc1 : Chg [] w w1 := by rw [hw1]; exact (Chg.refl _ _).alloc _
    have HT : Hid (BRow w1 (.slice (some ⟨w.heap.size, 0, none⟩) 2 2) (beBytes 2 n)) := Lib.hid (by rw [hw1, hbe]; exact two_row w _ _ _ _ hv1 hv2)
    have HM1 : Hid (BytesAt w1 (.slice a m.length cap) m) := Lib.hid (by
      refine ⟨a, cap, rfl, h1, h2, ?_⟩
      rcases h3 with h3 | ⟨g, o, e, hcell⟩
      · exact .inl h3
      · exact .inr ⟨g, o, e, fun i hi => hc1.cell (hcell i hi) (by simp)⟩)
    have HW1 := Lib.hid hw1
    have HC1 := Lib.hid hc1
    have HN := Lib.hid hn
    have hlb : Hid ((beBytes 2 n).length = 2) := Lib.hid (by rw [beBytes_len])
    have HR : Hid (penRaw l bad m = penAdd l bad (beBytes 2 n ++ m)) := Lib.hid (by
      unfold penRaw
      by_cases hb : bad = 0
      · rw [if_neg (by simp [hb]), if_neg hlong, hn]
      · rw [if_pos hb]; unfold penAdd; rw [if_pos hb])
    have hsz : Hid ((beBytes 2 n).length + m.length ≤ 140737488355328) := Lib.hid (by rw [beBytes_len]; omega)
    rw [HR.out]
    rw [← hn] at hlz h1
    have hn0 : (0 : Int) ≤ (n : Int) := by omega
    have hn1 : (n : Int) ≤ 65535 := by omega
    rw [← hn]
    clear h h3 hw1 hc1 hv1 hv2 hbe hn
    go_enter Tryz.func85, Tryz.ntmps85
    go_wp2_with (at_builtin; rw [← HW1.out]; refine wpList_appB rfl (.tmp 17) (.tmp 18) rfl (.slice (some ⟨w.heap.size, 0, none⟩) 2 2) (beBytes 2 n) rfl HT.out _ m (by rw [← HN.out]; rfl) HM1.out hsz.out ?_; intro v1 w2 ho1 hg1 hat1)
    have hc2 : Chg [] w w2 := HC1.out.grown hg1 (fun k hk => .inr (by
      have : w.heap.size = k := by simpa [Value.ownBlock] using hk
      omega))
    have hl12 : (beBytes 2 n ++ m).length = 2 + m.length := by rw [List.length_append, hlb.out]
    obtain ⟨a1, c1, he1, _⟩ := ho1.bytes
    have CP := Lib.hid (put_any b g l bad a1 c1 (beBytes 2 n ++ m) w2 (HP.out.keep hc2 (by simp) (by simp)) (by rw [← he1]; exact ho1.bytes) (by rw [hl12]; omega))
    rw [← he1] at CP
    have HC2 := Lib.hid hc2
    clear ho1 hg1 hat1 he1 hc2 hl12
    refine CP.out.mono ?_
    rintro e w3 ⟨rfl, HW⟩
    have HW3 := Lib.hid (Wrote.before HW HC2.out)
    clear HW CP
    go_wp2
    go_end0
    exact ⟨rfl, HW3.out⟩

theorem Wrote.glue {t : TypeId} {w w1 w2 : World} {b : Nat} {g g1 : Option Nat} {r : List UInt8 × Int} (hg : g1 = g ∨ ∃ k, g1 = some k ∧ w.heap.size ≤ k) (hc : Chg (b :: g.toList) w w1) (h : Wrote t w1 w2 b g1 r) : Wrote t w w2 b g r := by
  obtain ⟨g2, hp2, hg2, hc2⟩ := h
  refine ⟨g2, hp2, ?_, hc.trans hc2 ?_⟩
  · rcases hg2 with rfl | ⟨k, rfl, hk⟩
    · exact hg
    · exact .inr ⟨k, rfl, Nat.le_trans hc.size hk⟩
  · intro x hx
    rcases List.mem_cons.1 hx with rfl | hx
    · exact .inl (List.mem_cons_self ..)
    · rcases hg with rfl | ⟨k, rfl, hk⟩
      · exact .inl (List.mem_cons_of_mem _ hx)
      · obtain rfl : x = k := by simpa using hx
        exact .inr hk
theorem i64_and_low (n : Nat) (h : n ≤ 65535) : bits .and .i64 (n : Int) 65535 = (n : Int) := by
  show IntKind.i64.wrap ((BitVec.ofInt 64 (n : Int) &&& BitVec.ofInt 64 ((65535 : Nat) : Int)).toNat : Int) = _
  rw [BitVec.toNat_and, ofInt_i64 n (by omega), ofInt_i64 65535 (by omega), show (65535 : Nat) = 2 ^ 16 - 1 from rfl, Nat.and_two_pow_sub_one_eq_mod, Nat.mod_eq_of_lt (by omega), IntKind.wrap_i64]
  omega

set_option maxHeartbeats 4000000 in
set_option maxRecDepth 100000 in
/-- The reference's Raw. -/
theorem rpraw_any (b : Nat) (g : Option Nat) (l : List UInt8) (bad : Int) (v : Value) (m : List UInt8) (w : World) (h : PenAt 69 w b g l bad) (hm : BytesAt w v m) (hml : m.length ≤ 900000) (hg : m ≠ [] → ∀ k, v.ownBlock = some k → k ≠ b ∧ g ≠ some k) :
    Calls Tryz.prog 55 #[.pointer (some ⟨b, 0, none⟩), v] w fun e w' => e = .returned (.tuple #[]) ∧ Wrote 69 w w' b g (penRaw l bad m) := by
  obtain ⟨a, cap, rfl, h1, h2, h3⟩ := hm
  have HM := Lib.hid (show BytesAt w (.slice a m.length cap) m from ⟨a, cap, rfl, h1, h2, h3⟩)
  have HP := Lib.hid h
  have HG := Lib.hid hg
  have HG0 : ∀ (w' : World) (g' : Option Nat), Chg (b :: g.toList) w w' → BytesAt w' (.slice a m.length cap) m := fun w' g' hc => by
    refine ⟨a, cap, rfl, h1, h2, ?_⟩
    rcases h3 with h3 | ⟨k, o, rfl, hcell⟩
    · exact .inl h3
    · refine .inr ⟨k, o, rfl, fun i hi => hc.cell (hcell i hi) ?_⟩
      have := hg (fun e => by rw [e] at hi; simp at hi) k rfl
      simp
      exact ⟨this.1, fun e => this.2 e⟩
  have HGM := Lib.hid HG0
  clear HG0 h3 hg
  obtain ⟨pv, hb, hr, hpg, hne, hll⟩ := h
  have b0 := blk_cell hb 0 _ rfl
  have b1 := blk_cell hb 1 _ rfl
  have f1 := blk_frozen hb 1
  have hbl := blk_lt hb
  obtain ⟨ap, cp, rfl⟩ := hr.slice
  by_cases hbad : bad = 0
  · subst hbad
    by_cases hlong : 65535 < m.length
    · have HR : Hid (penRaw l 0 m = penAdd l 3 m) := Lib.hid (by unfold penRaw penAdd; rw [if_neg (by simp), if_pos hlong, if_pos (by decide)])
      have hlz : (65535 : Int) < (m.length : Int) := by omega
      have HC0 : Hid (Chg (b :: g.toList) w (w.setCell ⟨b, 1, none⟩ (.int .i64 3))) := Lib.hid ((Chg.refl _ w).setCell (.inl (by simp)) _)
      have HP0 : PenAt 69 (w.setCell ⟨b, 1, none⟩ (.int .i64 3)) b g l 3 := ⟨_, set_blk hb, hr.keep (fun k hk => Below.heap_setCell w _ _ k (fun e => hne (by rw [← hpg, hk, e]))), hpg, hne, hll⟩
      have hn0 : penNum l 3 = fun _ _ => (l, 3) := by
        funext x n
        unfold penNum; rw [if_pos (by decide)]
      have CN := fun x => rpnum_any b g l 3 x 2 _ HP0 (by omega) (by omega)
      rw [hn0] at CN
      have HCN := Lib.hid CN
      have hA : ∀ w', Wrote 69 w w' b g (penAdd l 3 m) → Wrote 69 w w' b g (penRaw l 0 m) := fun w' h => by rw [HR.out]; exact h
      have HA := Lib.hid hA
      clear hb hr hn0 CN hpg hne hA HP0
      go_enter Tryz.func55, Tryz.ntmps55
      go_wp2_with fail
      refine (HCN.out _).mono ?_
      rintro e w2 ⟨rfl, g2, hp2, hg2, hc2⟩
      have hc02 := HC0.out.trans hc2 (fun x hx => .inl hx)
      have CA := Lib.hid (radd_any b g2 _ _ a cap m w2 hp2 (HGM.out w2 g2 hc02) (by omega))
      have hg02 : g2 = g ∨ ∃ k, g2 = some k ∧ w.heap.size ≤ k := by
        rcases hg2 with h | ⟨k, h, hk⟩
        · exact .inl h
        · exact .inr ⟨k, h, Nat.le_trans HC0.out.size hk⟩
      have HW2 := Lib.hid (And.intro hg02 hc02)
      clear hp2 hg2 hc2 hc02 hg02 HCN
      go_wp2_with fail
      refine CA.out.mono ?_
      rintro e w3 ⟨rfl, hw3⟩
      have HW3 := Lib.hid (Wrote.glue HW2.out.1 HW2.out.2 hw3)
      clear hw3 CA
      go_wp2
      go_end0
      exact ⟨rfl, HA.out _ HW3.out⟩
    · have hlz : ¬ (65535 : Int) < (m.length : Int) := by omega
      by_cases hfull : 65536 < l.length + 2 + m.length
      · have HR : Hid (penRaw l 0 m = penAdd l 3 m) := Lib.hid (by
          unfold penRaw penAdd
          rw [if_neg (by simp), if_neg hlong, if_neg (by simp), if_pos (by rw [List.length_append, beBytes_len]; omega), if_pos (by decide)])
        have hfz : (65536 : Int) < (l.length : Int) + 2 + (m.length : Int) := by omega
        have HC0 : Hid (Chg (b :: g.toList) w (w.setCell ⟨b, 1, none⟩ (.int .i64 3))) := Lib.hid ((Chg.refl _ w).setCell (.inl (by simp)) _)
        have HP0 : PenAt 69 (w.setCell ⟨b, 1, none⟩ (.int .i64 3)) b g l 3 := ⟨_, set_blk hb, hr.keep (fun k hk => Below.heap_setCell w _ _ k (fun e => hne (by rw [← hpg, hk, e]))), hpg, hne, hll⟩
        have hn0 : penNum l 3 = fun _ _ => (l, 3) := by
          funext x n
          unfold penNum; rw [if_pos (by decide)]
        have CN := fun x => rpnum_any b g l 3 x 2 _ HP0 (by omega) (by omega)
        rw [hn0] at CN
        have HCN := Lib.hid CN
        have hA : ∀ w', Wrote 69 w w' b g (penAdd l 3 m) → Wrote 69 w w' b g (penRaw l 0 m) := fun w' h => by rw [HR.out]; exact h
        have HA := Lib.hid hA
        clear hb hr hn0 CN hpg hne hA HP0
        go_enter Tryz.func55, Tryz.ntmps55
        go_wp2_with fail
        refine (HCN.out _).mono ?_
        rintro e w2 ⟨rfl, g2, hp2, hg2, hc2⟩
        have hc02 := HC0.out.trans hc2 (fun x hx => .inl hx)
        have CA := Lib.hid (radd_any b g2 _ _ a cap m w2 hp2 (HGM.out w2 g2 hc02) (by omega))
        have hg02 : g2 = g ∨ ∃ k, g2 = some k ∧ w.heap.size ≤ k := by
          rcases hg2 with h | ⟨k, h, hk⟩
          · exact .inl h
          · exact .inr ⟨k, h, Nat.le_trans HC0.out.size hk⟩
        have HW2 := Lib.hid (And.intro hg02 hc02)
        clear hp2 hg2 hc2 hc02 hg02 HCN
        go_wp2_with fail
        refine CA.out.mono ?_
        rintro e w3 ⟨rfl, hw3⟩
        have HW3 := Lib.hid (Wrote.glue HW2.out.1 HW2.out.2 hw3)
        clear hw3 CA
        go_wp2
        go_end0
        exact ⟨rfl, HA.out _ HW3.out⟩
      · have hfz : ¬ (65536 : Int) < (l.length : Int) + 2 + (m.length : Int) := by omega
        have HC0 : Hid (Chg (b :: g.toList) w w) := Lib.hid (Chg.refl _ w)
        have hand := i64_and_low m.length (by omega)
        have hn0 : penNum l 0 (m.length : Int) 2 = (l ++ beBytes 2 m.length, 0) := by
          unfold penNum
          rw [if_neg (by simp), if_neg (by omega)]
          unfold penAdd
          rw [if_neg (by simp), if_neg (by rw [beBytes_len]; omega), Int.toNat_natCast]
        have CN := fun (_ : Unit) => rpnum_any b g l 0 (m.length : Int) 2 w HP.out (by omega) (by omega)
        rw [show (2 : Int).toNat = 2 from rfl, hn0] at CN
        have HCN := Lib.hid CN
        have HR : Hid (penAdd (l ++ beBytes 2 m.length) 0 m = penRaw l 0 m) := Lib.hid (by
          unfold penRaw penAdd
          rw [if_neg (by simp), if_neg (by rw [List.length_append, beBytes_len]; omega), if_neg (by simp), if_neg hlong, if_neg (by simp), if_neg (by rw [List.length_append, beBytes_len]; omega), List.append_assoc])
        have hA : ∀ w', Wrote 69 w w' b g (penAdd (l ++ beBytes 2 m.length) 0 m) → Wrote 69 w w' b g (penRaw l 0 m) := fun w' h => by rw [← HR.out]; exact h
        have HA := Lib.hid hA
        clear hb hr hn0 CN hpg hne hA
        go_enter Tryz.func55, Tryz.ntmps55
        go_wp2_with fail
        refine (HCN.out ()).mono ?_
        rintro e w2 ⟨rfl, g2, hp2, hg2, hc2⟩
        have hc02 := HC0.out.trans hc2 (fun x hx => .inl hx)
        have CA := Lib.hid (radd_any b g2 _ _ a cap m w2 hp2 (HGM.out w2 g2 hc02) (by omega))
        have hg02 : g2 = g ∨ ∃ k, g2 = some k ∧ w.heap.size ≤ k := by
          rcases hg2 with h | ⟨k, h, hk⟩
          · exact .inl h
          · exact .inr ⟨k, h, Nat.le_trans HC0.out.size hk⟩
        have HW2 := Lib.hid (And.intro hg02 hc02)
        clear hp2 hg2 hc2 hc02 hg02 HCN
        go_wp2_with fail
        refine CA.out.mono ?_
        rintro e w3 ⟨rfl, hw3⟩
        have HW3 := Lib.hid (Wrote.glue HW2.out.1 HW2.out.2 hw3)
        clear hw3 CA
        go_wp2
        go_end0
        exact ⟨rfl, HA.out _ HW3.out⟩
  · have q2 : (bad == 0) = false := by simp [hbad]
    have HR : Hid (penRaw l bad m = penAdd l bad m) := Lib.hid (by unfold penRaw penAdd; rw [if_pos hbad, if_pos hbad])
    have HC0 : Hid (Chg (b :: g.toList) w w) := Lib.hid (Chg.refl _ w)
    have hn0 : penNum l bad = fun _ _ => (l, bad) := by
      funext x n
      unfold penNum; rw [if_pos hbad]
    have CN := fun x => rpnum_any b g l bad x 2 w HP.out (by omega) (by omega)
    rw [hn0] at CN
    have HCN := Lib.hid CN
    have hA : ∀ w', Wrote 69 w w' b g (penAdd l bad m) → Wrote 69 w w' b g (penRaw l bad m) := fun w' h => by rw [HR.out]; exact h
    have HA := Lib.hid hA
    clear hb hr hbad hn0 CN hpg hne hA
    go_enter Tryz.func55, Tryz.ntmps55
    go_wp2_with fail
    refine (HCN.out _).mono ?_
    rintro e w2 ⟨rfl, g2, hp2, hg2, hc2⟩
    have hc02 := HC0.out.trans hc2 (fun x hx => .inl hx)
    have CA := Lib.hid (radd_any b g2 _ _ a cap m w2 hp2 (HGM.out w2 g2 hc02) (by omega))
    have hg02 : g2 = g ∨ ∃ k, g2 = some k ∧ w.heap.size ≤ k := by
      rcases hg2 with h | ⟨k, h, hk⟩
      · exact .inl h
      · exact .inr ⟨k, h, Nat.le_trans HC0.out.size hk⟩
    have HW2 := Lib.hid (And.intro hg02 hc02)
    clear hp2 hg2 hc2 hc02 hg02 HCN
    go_wp2_with fail
    refine CA.out.mono ?_
    rintro e w3 ⟨rfl, hw3⟩
    have HW3 := Lib.hid (Wrote.glue HW2.out.1 HW2.out.2 hw3)
    clear hw3 CA
    go_wp2
    go_end0
    exact ⟨rfl, HA.out _ HW3.out⟩
end Go.Proofs.YtaiihklfeoeoeaaGreat.W

/- The pens' Num and Bool. -/
namespace Go.Proofs.YtaiihklfeoeoeaaGreat.W
open Go.RowKit
set_option linter.unusedVariables false
set_option linter.unusedSimpArgs false

set_option maxHeartbeats 4000000 in
set_option maxRecDepth 100000 in
/-- Bool. -/
theorem pbool_any (b : Nat) (g : Option Nat) (l : List UInt8) (bad : Int) (q : Bool) (w : World) (h : PenAt 78 w b g l bad) :
    Calls Tryz.prog 61 #[.pointer (some ⟨b, 0, none⟩), .bool q] w fun e w' => e = .returned (.tuple #[]) ∧ Wrote 78 w w' b g (penBool l bad q) := by
  have hbl := h.lt.1
  have key : ∀ (v : Int) (c : UInt8), bv c = .int .u8 v → Hid (Calls Tryz.prog 84 #[.pointer (some ⟨b, 0, none⟩), .int .i64 0, .slice (some ⟨w.heap.size, 0, none⟩) 1 1] (w.alloc (.cells #[.int .u8 v] 5)) fun e w' => e = .returned (.tuple #[]) ∧ Wrote 78 w w' b g (penAdd l bad [c])) := by
    intro v c hv
    have hc : Chg [] w (w.alloc (.cells #[.int .u8 v] 5)) := (Chg.refl [] w).alloc _
    refine (put_any b g l bad _ 1 [c] _ (h.keep hc (by simp) (by simp)) (one_byte w c _ hv) (by simp)).mono ?_
    rintro e w' ⟨rfl, h1⟩
    exact ⟨rfl, Wrote.before h1 hc⟩
  unfold penBool
  cases q
  · have CP := key 0 0 rfl
    clear key h
    go_enter Tryz.func61, Tryz.ntmps61
    go_wp2_with fail
    refine CP.out.mono ?_
    rintro e w2 ⟨rfl, HW⟩
    have HW2 := Lib.hid HW
    clear HW
    go_wp2
    go_end0
    exact ⟨rfl, HW2.out⟩
  · have CP := key 1 1 rfl
    clear key h
    go_enter Tryz.func61, Tryz.ntmps61
    go_wp2_with fail
    refine CP.out.mono ?_
    rintro e w2 ⟨rfl, HW⟩
    have HW2 := Lib.hid HW
    clear HW
    go_wp2
    refine bodyPost_ret (results_none rfl _ _ _) rfl ?_
    exact ⟨rfl, HW2.out⟩

set_option maxHeartbeats 4000000 in
set_option maxRecDepth 100000 in
/-- The reference's Bool. -/
theorem rpbool_any (b : Nat) (g : Option Nat) (l : List UInt8) (bad : Int) (q : Bool) (w : World) (h : PenAt 69 w b g l bad) :
    Calls Tryz.prog 56 #[.pointer (some ⟨b, 0, none⟩), .bool q] w fun e w' => e = .returned (.tuple #[]) ∧ Wrote 69 w w' b g (penBool l bad q) := by
  have hbl := h.lt.1
  have e : ∀ (x : Int) (c : UInt8), x = (c.toNat : Int) → penNum l bad x 1 = penAdd l bad [c] := by
    intro x c hx
    have hc := c.toNat_lt
    unfold penNum
    split
    · unfold penAdd; rw [if_pos (by assumption)]
    · rw [if_neg (by omega), hx, Int.toNat_natCast]
      simp [beBytes]
  unfold penBool
  cases q
  · have CP := rpnum_any b g l bad 0 1 w h (by omega) (by omega)
    rw [show (1 : Int).toNat = 1 from rfl, e 0 0 rfl] at CP
    have HP := Lib.hid CP
    clear CP h e
    go_enter Tryz.func56, Tryz.ntmps56
    go_wp2_with fail
    refine HP.out.mono ?_
    rintro e w2 ⟨rfl, HW⟩
    have HW2 := Lib.hid HW
    clear HW
    go_wp2
    go_end0
    exact ⟨rfl, HW2.out⟩
  · have CP := rpnum_any b g l bad 1 1 w h (by omega) (by omega)
    rw [show (1 : Int).toNat = 1 from rfl, e 1 1 rfl] at CP
    have HP := Lib.hid CP
    clear CP h e
    go_enter Tryz.func56, Tryz.ntmps56
    go_wp2_with fail
    refine HP.out.mono ?_
    rintro e w2 ⟨rfl, HW⟩
    have HW2 := Lib.hid HW
    clear HW
    go_wp2
    first
      | go_end0
      | refine bodyPost_ret (results_none rfl _ _ _) rfl ?_
    exact ⟨rfl, HW2.out⟩

end Go.Proofs.YtaiihklfeoeoeaaGreat.W

/- The pen's Text; a tree's Write; its bytes. -/
namespace Go.Proofs.YtaiihklfeoeoeaaGreat.W
open Go.RowKit
open Go.Proofs.YtaiihklfeoeoeaaGreat.NM
set_option linter.unusedVariables false
set_option linter.unusedSimpArgs false

/-! ### Plain -/
def thB (x : Th) : List UInt8 := beBytes 2 x.ino ++ (beBytes 2 x.dir ++ ((beBytes 2 x.name.length ++ x.name) ++ [if x.isDir then 1 else 0]))
def thBs (T : PT) : List UInt8 := T.flatMap thB
def treeB (T : PT) : List UInt8 := beBytes 2 T.length ++ thBs T
theorem thB_len (x : Th) : (thB x).length = 7 + x.name.length := by unfold thB; simp [beBytes_len]; omega
theorem thBs_app (T U : PT) : thBs (T ++ U) = thBs T ++ thBs U := List.flatMap_append
theorem thBs_one (x : Th) : thBs [x] = thB x := by simp [thBs]
theorem thBs_len : ∀ (T : PT), (∀ x ∈ T, x.name.length ≤ 12) → (thBs T).length ≤ 19 * T.length
  | [], _ => by simp [thBs]
  | x :: r, h => by
    have h1 := thBs_len r (fun y hy => h y (List.mem_cons_of_mem _ hy))
    have h2 := h x (List.mem_cons_self ..)
    have : thBs (x :: r) = thB x ++ thBs r := rfl
    rw [this, List.length_append, thB_len, List.length_cons]; omega
theorem name_len {T : PT} (h : TOk T) : ∀ x ∈ T, x.name.length ≤ 12 := fun x hx => (may_len (h.may x hx)).2
theorem take_len' {T : PT} (h : TOk T) (k : Nat) : (thBs (T.take k)).length ≤ 2413 := by
  have h1 := thBs_len (T.take k) (fun x hx => name_len h x (List.take_subset k T hx))
  have h2 := tok_len h
  have h3 : (T.take k).length ≤ T.length := List.length_take_le' k T
  omega
theorem penNum_ok {l : List UInt8} {x : Nat} (hx : x < 65536) (hl : l.length + 2 ≤ 65536) : penNum l 0 (x : Int) 2 = (l ++ beBytes 2 x, 0) := by
  unfold penNum penAdd
  rw [if_neg (by simp), if_neg (by simp; omega), if_neg (by simp), Int.toNat_natCast, if_neg (by rw [beBytes_len]; omega)]
theorem penBool_ok {l : List UInt8} {q : Bool} (hl : l.length + 1 ≤ 65536) : penBool l 0 q = (l ++ [if q then 1 else 0], 0) := by
  unfold penBool penAdd
  rw [if_neg (by simp), if_neg (by simp; omega)]
theorem penRaw_ok {l m : List UInt8} (hm : m.length ≤ 65535) (hl : l.length + 2 + m.length ≤ 65536) : penRaw l 0 m = (l ++ (beBytes 2 m.length ++ m), 0) := by
  unfold penRaw penAdd
  rw [if_neg (by simp), if_neg (by omega), if_neg (by simp), if_neg (by rw [List.length_append, beBytes_len]; omega)]

/-! ### '[]byte(s)' -/
theorem conv_text (w : World) (s : List UInt8) (hs : s.length ≤ 1000000) : ∃ v W', (convert 9 38 (.string (mk s))).run Tryz.prog w = .ok v W' ∧ BytesAt W' v s ∧ (∀ k, v.ownBlock = some k → k = w.heap.size) ∧ Chg [] w W' ∧ ∃ c, v = .slice (some ⟨w.heap.size, 0, none⟩) s.length c := by
  have hz : (mk s).size = s.length := by rw [size_len, data_mk]
  refine ⟨_, _, Lib.run_convert_string_bytes w 9 38 5 (mk s) Tryz.underlying9 Tryz.underlying38 Tryz.underlying5, ?_, ?_, ?_, ?_⟩
  · refine ⟨_, _, by rw [hz], ?_, ?_, .inr ⟨_, 0, rfl, fun i hi => ?_⟩⟩
    · have := grownCap_ge w (mk s).size 0 5; rw [hz] at this; first | exact this | (rw [hz]; exact this)
    · exact grownCap_le_maxLen w (mk s).size 0 5 (by rw [hz]; unfold maxLen; omega)
    · rw [Nat.zero_add]
      exact Lib.bytesWorld_cell w 5 (mk s) i (by rw [hz]; exact hi)
  · intro k hk
    have : w.heap.size = k := by simpa [Value.ownBlock] using hk
    exact this.symm
  · refine ⟨rfl, rfl, rfl, by rw [Lib.bytesWorld_size]; omega, fun k hk _ => Lib.bytesWorld_at_old w 5 (mk s) k hk⟩
  · exact ⟨_, by rw [hz]⟩

set_option maxHeartbeats 2000000 in
set_option maxRecDepth 100000 in
theorem ptext_any (b : Nat) (g : Option Nat) (l : List UInt8) (bad : Int) (s : List UInt8) (w : World) (h : PenAt 78 w b g l bad) (hs : s.length ≤ 900000) :
    Calls Tryz.prog 60 #[.pointer (some ⟨b, 0, none⟩), .string (mk s)] w fun e w' => e = .returned (.tuple #[]) ∧ Wrote 78 w w' b g (penRaw l bad s) := by
  obtain ⟨v, W', hrun, hb, hk, hc, c, rfl⟩ := conv_text w s (by omega)
  have HP := Lib.hid (h.keep hc (by simp) (by simp))
  have HB := Lib.hid hb
  have HC := Lib.hid hc
  clear h hb hk hc
  go_enter Tryz.func60, Tryz.ntmps60
  go_wp2_with fail
  refine (praw_any b g l bad _ s W' HP.out HB.out hs).mono ?_
  rintro e w2 ⟨rfl, h2⟩
  have H2 := Lib.hid (h2.before HC.out)
  clear h2
  go_wp2
  first | go_end0 | skip
  exact ⟨rfl, H2.out⟩

/-! ### Write -/
/-- What has been written after k numbers (the root is passed over). -/
def upTo (l : List UInt8) (T : PT) (k : Nat) : List UInt8 := l ++ beBytes 2 T.length ++ thBs (T.take (k - 1))
theorem upTo_end (l : List UInt8) (T : PT) : upTo l T (T.length + 1) = l ++ treeB T := by
  unfold upTo treeB; rw [Nat.add_sub_cancel, List.take_length, List.append_assoc]
theorem upTo_len {T : PT} (h : TOk T) (l : List UInt8) (k : Nat) : (upTo l T k).length ≤ l.length + 2415 := by
  have := take_len' h (k - 1)
  unfold upTo; rw [List.length_append, List.length_append, beBytes_len]; omega
theorem upTo_succ {T : PT} (l : List UInt8) {k : Nat} {x : Th} (hx : T[k]? = some x) : upTo l T (k + 2) = upTo l T (k + 1) ++ thB x := by
  unfold upTo
  rw [show k + 2 - 1 = k + 1 by omega, show k + 1 - 1 = k by omega, List.take_add_one, hx, thBs_app]
  show l ++ beBytes 2 T.length ++ (thBs (T.take k) ++ thBs [x]) = _
  rw [thBs_one, List.append_assoc (l ++ beBytes 2 T.length)]
theorem TreeAt.wrote {ty : TypeId} {w w' : World} {t b : Nat} {S : List Nat} {T : PT} {g : Option Nat} {r : List UInt8 × Int} (h : TreeAt w t S T) (hb : b ∉ S) (hg : ∀ k, g = some k → k ∉ S) (hw : Wrote ty w w' b g r) : TreeAt w' t S T := by
  obtain ⟨g', _, _, hc⟩ := hw
  refine h.keep hc (fun x hx hm => ?_)
  rcases List.mem_cons.1 hm with rfl | hm
  · exact hb hx
  · exact hg x (by simpa using hm) hx
theorem TreeOk.wrote {ty : TypeId} {w w' : World} {t b bm : Nat} {f gg : Nat → Nat} {S : List Nat} {T : PT} {g : Option Nat} {r : List UInt8 × Int} (h : TreeOk w t S T bm f gg) (hb : b ∉ S) (hg : ∀ k, g = some k → k ∉ S) (hw : Wrote ty w w' b g r) : TreeOk w' t S T bm f gg := by
  obtain ⟨g', _, _, hc⟩ := hw
  refine h.keep hc (fun x hx hm => ?_)
  rcases List.mem_cons.1 hm with rfl | hm
  · exact hb hx
  · exact hg x (by simpa using hm) hx
theorem inos_row {w : World} {base : Nat} {T : PT} {v : Value} (h : w.ownsRow base 3 1 v (inosL T).length ((inosL T).map (Value.int .i64))) : ∃ gr cr, v = .slice (some ⟨gr, 0, none⟩) (T.length + 1) cr ∧ base ≤ gr ∧ gr < w.heap.size ∧ w.cell? ⟨gr, 0, none⟩ = some (.int .i64 1) ∧ ∀ j x, T[j]? = some x → w.cell? ⟨gr, j + 1, none⟩ = some (.int .i64 (x.ino : Int)) := by
  rcases h.2 with ⟨rfl, h0⟩ | ⟨gr, cap, cur, rfl, hbg, hg, hnc, hcm, hcs, htake⟩
  · rw [inosL_len] at h0; omega
  · refine ⟨gr, cap, by rw [inosL_len], hbg, blk_lt hg, ?_, fun j x hx => ?_⟩
    · have := h.cells (g := gr) rfl 0 (.int .i64 1) rfl
      rwa [add_none] at this
    · have := h.cells (g := gr) rfl (j + 1) (.int .i64 (x.ino : Int)) (by
        unfold inosL
        rw [List.map_cons, List.getElem?_cons_succ, List.getElem?_map, List.getElem?_map, hx]; rfl)
      rw [add_none] at this
      simpa using this
theorem Wrote.pen {ty : TypeId} {w w' : World} {b : Nat} {g : Option Nat} {l : List UInt8} {bad : Int} (h : Wrote ty w w' b g (l, bad)) : ∃ g', PenAt ty w' b g' l bad ∧ (g' = g ∨ ∃ k, g' = some k ∧ w.heap.size ≤ k) := by
  obtain ⟨g', h1, h2, _⟩ := h
  exact ⟨g', h1, h2⟩
theorem Wrote.to {ty : TypeId} {w w' : World} {b : Nat} {g : Option Nat} {r r' : List UInt8 × Int} (h : Wrote ty w w' b g r) (e : r = r') : Wrote ty w w' b g r' := by subst e; exact h
theorem Wrote.size {ty : TypeId} {w w' : World} {b : Nat} {g : Option Nat} {r : List UInt8 × Int} (h : Wrote ty w w' b g r) : w.heap.size ≤ w'.heap.size := by obtain ⟨g', _, _, hc⟩ := h; exact hc.size

set_option maxHeartbeats 8000000 in
set_option maxRecDepth 100000 in
theorem twrite_any (t : Nat) (S : List Nat) (T : PT) (b : Nat) (g : Option Nat) (l : List UInt8) (w : World) (h : TreeAt w t S T) (hp : PenAt 78 w b g l 0) (hb : b ∉ S) (hg : ∀ k, g = some k → k ∉ S) (hl : l.length ≤ 60000) :
    Calls Tryz.prog 33 #[.pointer (some ⟨t, 0, none⟩), .pointer (some ⟨b, 0, none⟩)] w fun e w' => e = .returned (.tuple #[]) ∧ Wrote 78 w w' b g (l ++ treeB T, 0) := by
  have H := Lib.hid h
  have HP := Lib.hid hp
  have HBG := Lib.hid (And.intro hb hg)
  have hok := Lib.hid h.ok
  have hTl := tok_len h.ok
  have hbl := hp.lt.1
  obtain ⟨bm, f, gg, HT⟩ := h
  have HTT := Lib.hid HT
  have c0 := blk_cell HT.head 0 _ rfl
  have hln := HT.things.len Tryz.underlying53
  have hLL := Lib.hid (show ((T.length + 1 : Nat) : Int) - 1 = (T.length : Int) by omega)
  have hl1 : ((T.length + 1 : Nat) : Int) - 1 = (T.length : Int) := hLL.out
  clear hp hb hg HT
  go_enter Tryz.func33, Tryz.ntmps33
  go_wp2_with fail
  refine (tmade_any t S T w H.out).mono ?_
  rintro e w' ⟨rfl, rfl⟩
  obtain ⟨n1, hn1⟩ : ∃ n1, n1 = T.length + 1 := ⟨_, rfl⟩
  rw [← hn1] at hln hl1
  have HN1 := Lib.hid hn1
  clear hn1
  go_wp2_with fail
  refine (pnum_any b g l 0 T.length 2 w HP.out (by omega) (by omega)).mono ?_
  rintro e w2 ⟨rfl, hw2⟩
  have HW2 := Lib.hid (hw2.to (r' := (upTo l T 1, 0)) (by
    rw [show (2 : Int).toNat = 2 from rfl, penNum_ok (by omega) (by omega)]
    unfold upTo; simp [thBs]))
  have HT2 := Lib.hid (HTT.out.wrote HBG.out.1 HBG.out.2 hw2)
  have H2 : Hid (TreeAt w2 t S T) := Lib.hid ⟨bm, f, gg, HT2.out⟩
  clear hw2 hln hl1 c0
  go_wp2_with fail
  refine (tinos_any t S T w2 H2.out).mono ?_
  rintro e w3 ⟨v, rfl, hrow, hc3⟩
  obtain ⟨gr, cr, rfl, hgr2, hgr3, q0, qs⟩ := inos_row hrow
  have HT3 := Lib.hid (HT2.out.keep hc3 (by simp))
  have HQS := Lib.hid qs
  have HQ0 := Lib.hid q0
  obtain ⟨g2, hp2, hg2⟩ := HW2.out.pen
  have HBG2 : Hid (b ∉ S ∧ ∀ k, g2 = some k → k ∉ S) := Lib.hid ⟨HBG.out.1, fun k hk hm => by
    rcases hg2 with h4 | ⟨j, h4, h5⟩
    · exact HBG.out.2 k (by rw [← h4]; exact hk) hm
    · have := HTT.out.lim k hm
      rw [h4] at hk
      have : j = k := by simpa using hk
      omega⟩
  have hbl2 := hp2.lt.1
  have HG2 := Lib.hid hp2.lt.2
  have HP3 := Lib.hid (hp2.keep hc3 (by simp) (by simp))
  have HW23 : Hid (∀ w' r, Wrote 78 w3 w' b g2 r → Wrote 78 w w' b g r) := Lib.hid (fun w' r h => by
    obtain ⟨g2', a1, a2, a3⟩ := HW2.out
    have e : g2' = g2 := by
      obtain ⟨v1, b1, _, b3, _⟩ := a1
      obtain ⟨v2, c1, _, c3, _⟩ := hp2
      rw [b1] at c1
      have : v1 = v2 := by simpa using c1
      rw [← b3, ← c3, this]
    subst e
    exact (h.before hc3).glue a2 a3)
  clear hrow hc3 qs q0 hp2 hg2
  go_wp2
  go_loopg [21] (T.length + 1) (fun gh v21 wr => ∃ k : Nat, v21 = .int .i64 k ∧ k ≤ T.length + 1 ∧ T.length + 1 ≤ k + gh ∧ Hid (Wrote 78 w3 wr b g2 (upTo l T k, 0)))
  case atStart => exact ⟨0, rfl, by omega, by omega, Lib.hid (Wrote.same HP3.out)⟩
  case round =>
    obtain ⟨k, rfl, hk, hkg, HW⟩ := hrel
    have hsz3 := HW.out.size
    have hgrw : ∀ j v, w3.cell? ⟨gr, j, none⟩ = some v → wr.cell? ⟨gr, j, none⟩ = some v := fun j v hv => by
      obtain ⟨g4, _, _, hc4⟩ := HW.out
      refine hc4.cell hv (fun hm => ?_)
      rcases List.mem_cons.1 hm with h4 | h4
      · have : gr = b := h4
        omega
      · have := HG2.out gr (by simpa using h4)
        omega
    by_cases hlt : k < T.length + 1
    · rcases Nat.eq_zero_or_pos k with hk0 | hk0
      · subst hk0
        have e0 := hgrw 0 _ HQ0.out
        have hz : (0 : Int) < ((T.length + 1 : Nat) : Int) := by omega
        have HU : Hid (Wrote 78 w3 wr b g2 (upTo l T 1, 0)) := Lib.hid HW.out
        clear hgrw
        go_wp2
        go_roundg T.length
        case measure => omega
        case rel => exact ⟨1, by first | rfl | go_num, by omega, by omega, HU⟩
      · obtain ⟨j, rfl⟩ : ∃ j, k = j + 1 := ⟨k - 1, by omega⟩
        obtain ⟨x, hx⟩ : ∃ x, T[j]? = some x := ⟨_, List.getElem?_eq_getElem (by omega)⟩
        have e0 := hgrw (j + 1) _ (HQS.out j x hx)
        have hxm := List.mem_of_getElem? hx
        have hxi := hok.out.nums x hxm
        have hxh : tHas T x.ino = true := has_iff.2 (.inr ⟨x, hxm, rfl⟩)
        have hxd := has_small hok.out (dir_has (hok.out.dirs x hxm))
        have hxn := name_len hok.out x hxm
        have HTr := Lib.hid (HT3.out.wrote HBG2.out.1 HBG2.out.2 HW.out)
        have c0 := blk_cell HTr.out.head 0 _ rfl
        have hlk := HTr.out.at hxh
        have hx1 : ((x.ino : Int) == 1) = false := by simp; omega
        have hz : ((j + 1 : Nat) : Int) < ((T.length + 1 : Nat) : Int) := by omega
        have HUP := Lib.hid (upTo_succ l hx)
        have HUL : Hid (∀ k, (upTo l T k).length ≤ l.length + 2415) := Lib.hid (fun k => upTo_len hok.out l k)
        have HXH := Lib.hid hxh
        have HTH := Lib.hid (thOf_mem hok.out hxm)
        have HID : Hid (tIsDir T x.ino = x.isDir) := Lib.hid (by rw [isDir_thOf _ hxh, thOf_mem hok.out hxm])
        clear hgrw hx hxm hxh
        obtain ⟨ga, hpa, hga, hca⟩ := HW.out
        have GA := Lib.hid (And.intro hga hca)
        have HUk := HUL.out (j + 1)
        clear hga hca
        obtain ⟨lk, hlk0⟩ : ∃ lk, lk = upTo l T (j + 1) := ⟨_, rfl⟩
        rw [← hlk0] at hpa HUk HUP
        have hlkl : lk.length ≤ 63000 := by omega
        have HPA := Lib.hid hpa
        clear hpa hlk0 HUk HW HUL
        go_wp2_with fail
        refine (pnum_any b ga lk 0 x.ino 2 wr HPA.out (by omega) (by omega)).mono ?_
        rintro e w5 ⟨rfl, h5⟩
        have HW5 := Lib.hid ((h5.glue GA.out.1 GA.out.2).to (r' := (lk ++ beBytes 2 x.ino, 0)) (penNum_ok (by omega) (by omega)))
        have HT5 := Lib.hid (HT3.out.wrote HBG2.out.1 HBG2.out.2 HW5.out)
        clear h5 hlk c0 e0
        obtain ⟨d0, d1, d2, d3⟩ := HT5.out.cells HXH.out
        rw [HTH.out] at d0
        clear d1 d2 d3
        obtain ⟨gb, hpb, hgb, hcb⟩ := HW5.out
        have GB := Lib.hid (And.intro hgb hcb)
        have HPB := Lib.hid hpb
        clear hgb hcb hpb HW5
        have hm5 : (lk ++ beBytes 2 x.ino).length ≤ 63100 := by rw [List.length_append, beBytes_len]; omega
        go_wp2_with fail
        refine (pnum_any b gb _ 0 x.dir 2 w5 HPB.out (by omega) (by omega)).mono ?_
        rintro e w6 ⟨rfl, h6⟩
        have HW6 := Lib.hid ((h6.glue GB.out.1 GB.out.2).to (r' := (lk ++ beBytes 2 x.ino ++ beBytes 2 x.dir, 0)) (penNum_ok (by omega) (by omega)))
        have HT6 := Lib.hid (HT3.out.wrote HBG2.out.1 HBG2.out.2 HW6.out)
        clear h6 d0
        obtain ⟨d0, d1, d2, d3⟩ := HT6.out.cells HXH.out
        rw [HTH.out] at d1
        clear d0 d2 d3
        obtain ⟨gc, hpc, hgc, hcc⟩ := HW6.out
        have GC := Lib.hid (And.intro hgc hcc)
        have HPC := Lib.hid hpc
        clear hgc hcc hpc HW6
        have hm6 : (lk ++ beBytes 2 x.ino ++ beBytes 2 x.dir).length ≤ 63200 := by rw [List.length_append, beBytes_len]; omega
        go_wp2_with fail
        refine (ptext_any b gc _ 0 x.name w6 HPC.out (by omega)).mono ?_
        rintro e w7 ⟨rfl, h7⟩
        have HW7 := Lib.hid ((h7.glue GC.out.1 GC.out.2).to (r' := (lk ++ beBytes 2 x.ino ++ beBytes 2 x.dir ++ (beBytes 2 x.name.length ++ x.name), 0)) (penRaw_ok (by omega) (by omega)))
        have HT7 := Lib.hid (HT3.out.wrote HBG2.out.1 HBG2.out.2 HW7.out)
        clear h7 d1
        obtain ⟨d0, d1, d2, d3⟩ := HT7.out.cells HXH.out
        rw [HID.out] at d2
        clear d0 d1 d3
        obtain ⟨gd, hpd, hgd, hcd⟩ := HW7.out
        have GD := Lib.hid (And.intro hgd hcd)
        have HPD := Lib.hid hpd
        clear hgd hcd hpd HW7
        have hm7 : (lk ++ beBytes 2 x.ino ++ beBytes 2 x.dir ++ (beBytes 2 x.name.length ++ x.name)).length ≤ 63300 := by simp only [List.length_append, beBytes_len] at hlkl ⊢; omega
        go_wp2_with fail
        refine (pbool_any b gd _ 0 x.isDir w7 HPD.out).mono ?_
        rintro e w8 ⟨rfl, h8⟩
        have HW8 := Lib.hid ((h8.glue GD.out.1 GD.out.2).to (r' := (upTo l T (j + 2), 0)) (by
          rw [penBool_ok (by omega), HUP.out]
          unfold thB
          simp only [List.append_assoc]))
        clear h8 d2
        go_wp2
        go_roundg (T.length - j - 1)
        case measure => omega
        case rel => exact ⟨j + 2, by first | rfl | go_num | (congr 1; omega), by omega, by omega, HW8⟩
    · have HF : Hid (Wrote 78 w wr b g (l ++ treeB T, 0)) := Lib.hid (by
        obtain rfl : k = T.length + 1 := by omega
        rw [← upTo_end]
        exact HW23.out _ _ HW.out)
      clear hgrw
      go_wp2
      first | go_end0 | skip
      exact ⟨rfl, HF.out⟩

/-! ### Bytes -/
theorem treeB_len {T : PT} (h : TOk T) : 2 ≤ (treeB T).length ∧ (treeB T).length ≤ 2415 := by
  have := take_len' h T.length
  rw [List.take_length] at this
  unfold treeB
  rw [List.length_append, beBytes_len]; omega
theorem new_pen (ty : TypeId) (w : World) : PenAt ty (w.alloc (.cells #[.slice none 0 0, .int .i64 0] ty)) w.heap.size none [] 0 :=
  ⟨_, heap_alloc_new w _, BRow.nil _, by simp [Value.ownBlock], by simp, by simp⟩
def BytesPost (w : World) (l : List UInt8) (e : Ending) (w' : World) : Prop := ∃ v, e = .returned v ∧ BRow w' v l ∧ (∀ k, v.ownBlock = some k → w.heap.size ≤ k) ∧ Chg [] w w'

set_option maxHeartbeats 4000000 in
set_option maxRecDepth 100000 in
theorem tbytes_any (t : Nat) (S : List Nat) (T : PT) (w : World) (h : TreeAt w t S T) : Calls Tryz.prog 12 #[.pointer (some ⟨t, 0, none⟩)] w (BytesPost w (treeB T)) := by
  have hal : Chg [] w (w.alloc (.cells #[.slice none 0 0, .int .i64 0] 78)) := (Chg.refl [] w).alloc _
  have H := Lib.hid (h.keep0 hal)
  have HP := Lib.hid (new_pen 78 w)
  have HL := Lib.hid h.lim
  have HAL := Lib.hid hal
  clear h hal
  go_enter Tryz.func12, Tryz.ntmps12
  go_wp2_with fail
  refine (twrite_any t S T w.heap.size none [] _ H.out HP.out (fun hm => by have := HL.out _ hm; omega) (by simp) (by simp)).mono ?_
  rintro e w2 ⟨rfl, h2⟩
  obtain ⟨g2, hp2, hg2, hc2⟩ := h2
  rw [List.nil_append] at hp2
  have HP2 := Lib.hid hp2
  have HC2 : Hid (Chg [] w w2) := Lib.hid (HAL.out.trans hc2 (fun x hx => .inr (by simp at hx; omega)))
  clear hp2 hg2 hc2
  go_wp2_with fail
  refine (pbytes_any w.heap.size g2 (treeB T) w2 HP2.out).mono ?_
  rintro e w3 ⟨v, rfl, hr, hn, hc⟩
  have HF : Hid (BRow w3 v (treeB T) ∧ (∀ k, v.ownBlock = some k → w.heap.size ≤ k) ∧ Chg [] w w3) := Lib.hid ⟨hr, fun k hk => Nat.le_trans HC2.out.size (hn k hk), chg_tr HC2.out hc⟩
  clear hr hn hc
  go_wp2
  go_ret
  exact ⟨v, rfl, HF.out⟩
end Go.Proofs.YtaiihklfeoeoeaaGreat.W

/- Has of both; the reference's Inos, Write. -/
namespace Go.Proofs.YtaiihklfeoeoeaaGreat.W
open Go.RowKit
open Go.Proofs.YtaiihklfeoeoeaaGreat.NM
set_option linter.unusedVariables false
set_option linter.unusedSimpArgs false

set_option maxHeartbeats 2000000 in
set_option maxRecDepth 100000 in
theorem thas_any (t : Nat) (S : List Nat) (T : PT) (n : Nat) (w : World) (h : TreeAt w t S T) (hn : n ≤ 1000) : Calls Tryz.prog 29 #[.pointer (some ⟨t, 0, none⟩), .int .i64 (n : Int)] w fun e w' => e = .returned (.bool (tHas T n)) ∧ w = w' := by
  have H := Lib.hid h
  obtain ⟨bm, f, g, HT⟩ := h
  have c0 := blk_cell HT.head 0 _ rfl
  have hlk := HT.things.look keInt Tryz.underlying53 zeroPT (x := (n : Int)) (i64_ok (by omega) (by omega))
  cases hh : tHas T n with
  | true =>
    rw [φT_has hh] at hlk
    have hlk' : (Instr.lookup 53 (.map (some bm)) (.int .i64 (n : Int)) false).run Tryz.prog w = .ok (.pointer (some ⟨f n, 0, none⟩)) w := hlk
    clear hlk HT hh
    go_enter Tryz.func29, Tryz.ntmps29
    go_wp2_with fail
    refine (tmade_any t S T w H.out).mono ?_
    rintro e w' ⟨rfl, rfl⟩
    go_wp2
    go_ret
    exact ⟨rfl, rfl⟩
  | false =>
    have e : φT T f (n : Int) = none := by
      unfold φT
      rw [if_neg (by simp [hh])]
    rw [e] at hlk
    have hlk' : (Instr.lookup 53 (.map (some bm)) (.int .i64 (n : Int)) false).run Tryz.prog w = .ok (.pointer none) w := hlk
    clear hlk HT hh e
    go_enter Tryz.func29, Tryz.ntmps29
    go_wp2_with fail
    refine (tmade_any t S T w H.out).mono ?_
    rintro e w' ⟨rfl, rfl⟩
    go_wp2
    go_ret
    exact ⟨rfl, rfl⟩

set_option maxHeartbeats 2000000 in
set_option maxRecDepth 100000 in
theorem rhas_any (b base : Nat) (v : Value) (T : PT) (n : Nat) (w : World) (h : RTOk w b v base T) : Calls Tryz.prog 30 #[.pointer (some ⟨b, 0, none⟩), .int .i64 (n : Int)] w fun e w' => e = .returned (.bool (tHas T n)) ∧ w = w' := by
  have HF := Lib.hid (rfind_any b base v T n w h)
  have HC := Lib.hid (fiI_cases T n)
  clear h
  by_cases h1 : n = 1
  · subst h1
    go_enter Tryz.func30, Tryz.ntmps30
    go_wp2
    go_ret
    exact ⟨rfl, rfl⟩
  · have e1 : (n == 1) = false := by simpa using h1
    have hn : ((n : Int) == 1) = false := by simp; omega
    rcases HC.out with ⟨h2, h3⟩ | ⟨i, x, h2, h3, h4⟩
    · have HA : Hid (tHas T n = false) := Lib.hid (by unfold tHas; rw [e1, h3]; rfl)
      rw [h2] at HF
      clear h2 h3 e1 h1
      go_enter Tryz.func30, Tryz.ntmps30
      go_wp2_with fail
      refine HF.out.mono ?_
      rintro e w' ⟨rfl, rfl⟩
      go_wp2
      go_ret
      rw [HA.out]
      exact ⟨rfl, rfl⟩
    · have HA : Hid (tHas T n = true) := Lib.hid (by unfold tHas; rw [e1, h4]; rfl)
      rw [h2] at HF
      have hi0 : (0 : Int) ≤ (i : Int) := by omega
      clear h2 h3 h4 e1 h1
      go_enter Tryz.func30, Tryz.ntmps30
      go_wp2_with fail
      refine HF.out.mono ?_
      rintro e w' ⟨rfl, rfl⟩
      go_wp2
      go_ret
      rw [HA.out]
      exact ⟨rfl, rfl⟩

theorem inos_take {T : PT} {k : Nat} {x : Th} (hx : T[k]? = some x) : inosL (T.take (k + 1)) = inosL (T.take k) ++ [(x.ino : Int)] := by
  unfold inosL
  rw [List.take_add_one, hx]
  simp

set_option maxHeartbeats 4000000 in
set_option maxRecDepth 100000 in
theorem rinos_any (b base : Nat) (v : Value) (T : PT) (w : World) (h : RTOk w b v base T) : Calls Tryz.prog 11 #[.pointer (some ⟨b, 0, none⟩)] w (InosPost w (inosL T)) := by
  have hl := tok_len' h.ok
  have H := Lib.hid h
  obtain ⟨a, cap, hv, hcap, hr⟩ := throw_own h.rows
  subst hv
  have HR := Lib.hid hr
  have hbl := h.lt
  have hn0 : (w.alloc (.cells #[.int .i64 1] 3)).ownsRow w.heap.size 3 1 (.slice (some ⟨w.heap.size, 0, none⟩) 1 1) 1 [.int .i64 1] := ⟨rfl, .inr ⟨w.heap.size, 1, #[.int .i64 1], rfl, Nat.le_refl _, heap_alloc_new w _, by omega, by unfold maxLen; omega, rfl, rfl⟩⟩
  have HN0 := Lib.hid hn0
  have HC0 : Hid (Chg [] w (w.alloc (.cells #[.int .i64 1] 3))) := Lib.hid ((Chg.refl [] w).alloc _)
  clear hr h hn0
  go_enter Tryz.func11, Tryz.ntmps11
  go_wp2
  go_loopg [3, 4] T.length (fun gh v3 v4 wr => ∃ k : Nat, v4 = .int .i64 k ∧ k ≤ T.length ∧ T.length ≤ k + gh ∧ Hid (wr.ownsRow w.heap.size 3 1 v3 (k + 1) ((inosL (T.take k)).map (Value.int .i64))) ∧ Hid (Chg [] w wr))
  case atStart => exact ⟨0, rfl, by omega, by omega, HN0, HC0⟩
  case round =>
    obtain ⟨k, rfl, hk, hkg, HO, HC⟩ := hrel
    have t0 : wr.cell? ⟨b, 0, none⟩ = some (.slice a T.length cap) := blk_cell (HC.out.keep H.out.head (by simp)) 0 _ rfl
    by_cases hlt : k < T.length
    · obtain ⟨x, hx⟩ : ∃ x, T[k]? = some x := ⟨_, List.getElem?_eq_getElem hlt⟩
      obtain ⟨g, rfl, hg, hc⟩ : ∃ g, a = some ⟨g, 0, none⟩ ∧ g < w.heap.size ∧ wr.cell? ⟨g, k * 4, none⟩ = some (.int .i64 (x.ino : Int)) := by
        rcases HR.out with h0 | ⟨g, h1, h2, h3⟩
        · rw [h0] at hlt; simp at hlt
        · exact ⟨g, h1, h2, HC.out.cell (h3 k x hx).1 (by simp)⟩
      have HT := Lib.hid (inos_take hx)
      have hkz : (k : Int) < (T.length : Int) := by omega
      have hbs := HC.out.size
      clear hx
      go_wp2_with (at_builtin; refine wpList_app1 rfl _ _ _ rfl w.heap.size elInts _ _ _ rfl HO.out _ #[.int .i64 (x.ino : Int)] rfl rfl (one1 rfl) (by unfold maxLen; omega) (by omega) hbs ?_; intro v7 w7 ho7 hg7)
      have HO7 : Hid (w7.ownsRow w.heap.size 3 1 v7 (k + 1 + 1) ((inosL (T.take (k + 1))).map (Value.int .i64))) := Lib.hid (by rw [HT.out, List.map_append]; exact ho7)
      have HC7 : Hid (Chg [] w w7) := Lib.hid (HC.out.grown hg7 (fun j hj => .inr (World.ownsRow.lt HO.out j hj).1))
      clear ho7 hg7
      go_roundg (T.length - k - 1)
      case measure => omega
      case rel => exact ⟨k + 1, by go_num, by omega, by omega, HO7, HC7⟩
    · have HF : Hid (wr.ownsRow w.heap.size 3 1 u3 (inosL T).length ((inosL T).map (Value.int .i64))) := Lib.hid (by
        obtain rfl : k = T.length := by omega
        have := HO.out
        rw [List.take_length] at this
        rw [inosL_len]; exact this)
      go_wp2
      go_ret
      exact ⟨_, rfl, HF.out, HC.out⟩

set_option maxHeartbeats 8000000 in
set_option maxRecDepth 100000 in
theorem rtwrite_any (b base : Nat) (v : Value) (T : PT) (p : Nat) (g : Option Nat) (l : List UInt8) (w : World) (h : RTOk w b v base T) (hp : PenAt 69 w p g l 0) (hpb : p ≠ b) (hpv : v.ownBlock ≠ some p) (hgb : g ≠ some b) (hgv : ∀ k, g = some k → v.ownBlock ≠ some k) (hl : l.length ≤ 60000) :
    Calls Tryz.prog 27 #[.pointer (some ⟨b, 0, none⟩), .pointer (some ⟨p, 0, none⟩)] w fun e w' => e = .returned (.tuple #[]) ∧ Wrote 69 w w' p g (l ++ treeB T, 0) := by
  have hTl := tok_len' h.ok
  have hok := Lib.hid h.ok
  have H := Lib.hid h
  obtain ⟨a, cap, hv, hcap, hr⟩ := throw_own h.rows
  subst hv
  have HR := Lib.hid hr
  have HP := Lib.hid hp
  have HA := Lib.hid (And.intro hpb (And.intro hpv (And.intro hgb hgv)))
  have hbl := h.lt
  have hpl := hp.lt.1
  have t0 : w.cell? ⟨b, 0, none⟩ = some (.slice a T.length cap) := blk_cell h.head 0 _ rfl
  have HK : Hid (∀ w' r, Wrote 69 w w' p g r → RTOk w' b (.slice a T.length cap) base T) := Lib.hid (fun w' r ⟨g', _, _, hc⟩ => H.out.keep hc (by
    intro hm
    rcases List.mem_cons.1 hm with h1 | h1
    · exact HA.out.1 h1.symm
    · exact HA.out.2.2.1 (by simpa using h1)) (fun k hk hm => by
    rcases List.mem_cons.1 hm with h1 | h1
    · exact HA.out.2.1 (by rw [hk, h1])
    · exact HA.out.2.2.2 k (by simpa using h1) hk))
  clear hr h hp hpb hpv hgb hgv
  go_enter Tryz.func27, Tryz.ntmps27
  go_wp2_with fail
  refine (rpnum_any p g l 0 T.length 2 w HP.out (by omega) (by omega)).mono ?_
  rintro e w2 ⟨rfl, hw2⟩
  have HW2 := Lib.hid (hw2.to (r' := (upTo l T 1, 0)) (by
    rw [show (2 : Int).toNat = 2 from rfl, penNum_ok (by omega) (by omega)]
    unfold upTo; simp [thBs]))
  clear hw2 t0
  go_wp2
  go_loopg [4] (T.length + 1) (fun gh v4 wr => ∃ k : Nat, v4 = .int .i64 k ∧ k ≤ T.length ∧ T.length ≤ k + gh ∧ Hid (Wrote 69 w wr p g (upTo l T (k + 1), 0)))
  case atStart => exact ⟨0, rfl, by omega, by omega, HW2⟩
  case round =>
    obtain ⟨k, rfl, hk, hkg, HW⟩ := hrel
    have HKr := Lib.hid (HK.out _ _ HW.out)
    have t0 : wr.cell? ⟨b, 0, none⟩ = some (.slice a T.length cap) := blk_cell HKr.out.head 0 _ rfl
    by_cases hlt : k < T.length
    · obtain ⟨x, hx⟩ : ∃ x, T[k]? = some x := ⟨_, List.getElem?_eq_getElem hlt⟩
      obtain ⟨gr, rfl⟩ : ∃ g, a = some ⟨g, 0, none⟩ := by
        rcases HR.out with h0 | ⟨g, h1, h2, h3⟩
        · rw [h0] at hlt; simp at hlt
        · exact ⟨g, h1⟩
      have HX : Hid (∀ w' r, Wrote 69 w w' p g r → w'.cell? ⟨b, 0, none⟩ = some (.slice (some ⟨gr, 0, none⟩) T.length cap) ∧ w'.cell? ⟨gr, k * 4, none⟩ = some (.int .i64 (x.ino : Int)) ∧ w'.cell? ⟨gr, k * 4 + 1, none⟩ = some (.int .i64 (x.dir : Int)) ∧ w'.cell? ⟨gr, k * 4 + 2, none⟩ = some (.string (mk x.name)) ∧ w'.cell? ⟨gr, k * 4 + 3, none⟩ = some (.bool x.isDir) ∧ gr < w'.heap.size) := Lib.hid (fun w' r hw => by
        have h1 := HK.out w' r hw
        obtain ⟨a2, c2, e2, _, hr2⟩ := throw_own h1.rows
        simp only [Value.slice.injEq] at e2
        rcases hr2 with h0 | ⟨g2, h3, h4, h5⟩
        · rw [h0] at hlt; simp at hlt
        · rw [h3] at e2
          have : gr = g2 := by simpa using e2.1
          subst this
          obtain ⟨c0, c1, c2', c3⟩ := h5 k x hx
          exact ⟨blk_cell h1.head 0 _ rfl, c0, c1, c2', c3, h4⟩)
      have hxm := List.mem_of_getElem? hx
      have hxi := hok.out.nums x hxm
      have hxd := has_small hok.out (dir_has (hok.out.dirs x hxm))
      have hxn := name_len hok.out x hxm
      have HUP := Lib.hid (upTo_succ l hx)
      have hul := upTo_len hok.out l (k + 1)
      have hkz : (k : Int) < (T.length : Int) := by omega
      obtain ⟨_, e0, _, _, _, e5⟩ := HX.out _ _ HW.out
      obtain ⟨ga, hpa, hga, hca⟩ := HW.out
      have GA := Lib.hid (And.intro hga hca)
      obtain ⟨lk, hlk0⟩ : ∃ lk, lk = upTo l T (k + 1) := ⟨_, rfl⟩
      rw [← hlk0] at hpa hul HUP
      have hlkl : lk.length ≤ 63000 := by omega
      have HPA := Lib.hid hpa
      clear hpa hlk0 hul HW hga hca hx hxm
      go_wp2_with fail
      refine (rpnum_any p ga lk 0 x.ino 2 wr HPA.out (by omega) (by omega)).mono ?_
      rintro e w5 ⟨rfl, h5⟩
      have HW5 := Lib.hid ((h5.glue GA.out.1 GA.out.2).to (r' := (lk ++ beBytes 2 x.ino, 0)) (penNum_ok (by omega) (by omega)))
      clear h5 t0 e0 e5
      obtain ⟨t0, _, e1, _, _, e5⟩ := HX.out _ _ HW5.out
      obtain ⟨gb, hpb, hgb, hcb⟩ := HW5.out
      have GB := Lib.hid (And.intro hgb hcb)
      have HPB := Lib.hid hpb
      clear hgb hcb hpb HW5
      have hm5 : (lk ++ beBytes 2 x.ino).length ≤ 63100 := by rw [List.length_append, beBytes_len]; omega
      go_wp2_with fail
      refine (rpnum_any p gb _ 0 x.dir 2 w5 HPB.out (by omega) (by omega)).mono ?_
      rintro e w6 ⟨rfl, h6⟩
      have HW6 := Lib.hid ((h6.glue GB.out.1 GB.out.2).to (r' := (lk ++ beBytes 2 x.ino ++ beBytes 2 x.dir, 0)) (penNum_ok (by omega) (by omega)))
      clear h6 t0 e1 e5
      obtain ⟨t0, _, _, e2, _, e5⟩ := HX.out _ _ HW6.out
      obtain ⟨gc, hpc, hgc, hcc⟩ := HW6.out
      have GC := Lib.hid (And.intro hgc hcc)
      have HPC := Lib.hid hpc
      clear hgc hcc hpc HW6
      have hm6 : (lk ++ beBytes 2 x.ino ++ beBytes 2 x.dir).length ≤ 63200 := by rw [List.length_append, beBytes_len]; omega
      obtain ⟨vt, Wt, hrun, hbt, hkt, hct, cvt, rfl⟩ := conv_text w6 x.name (by omega)
      have HPT := Lib.hid (HPC.out.keep hct (by simp) (by simp))
      have HBT := Lib.hid hbt
      have HCT := Lib.hid hct
      have HNT : Hid (∀ k, (Value.slice (some ⟨w6.heap.size, 0, none⟩) x.name.length cvt).ownBlock = some k → k ≠ p ∧ gc ≠ some k) := Lib.hid (fun k hk => by
        have e := hkt k hk
        have h1 := HPC.out.lt
        refine ⟨by omega, fun e2 => ?_⟩
        have := h1.2 k e2; omega)
      clear hbt hkt hct
      go_wp2_with fail
      refine (rpraw_any p gc _ 0 _ x.name Wt HPT.out HBT.out (by omega) (fun _ => HNT.out)).mono ?_
      rintro e w7 ⟨rfl, h7⟩
      have HW7 := Lib.hid (((h7.before HCT.out).glue GC.out.1 GC.out.2).to (r' := (lk ++ beBytes 2 x.ino ++ beBytes 2 x.dir ++ (beBytes 2 x.name.length ++ x.name), 0)) (penRaw_ok (by omega) (by omega)))
      clear h7 t0 e2 e5 hrun
      obtain ⟨t0, _, _, _, e3, e5⟩ := HX.out _ _ HW7.out
      obtain ⟨gd, hpd, hgd, hcd⟩ := HW7.out
      have GD := Lib.hid (And.intro hgd hcd)
      have HPD := Lib.hid hpd
      clear hgd hcd hpd HW7
      have hm7 : (lk ++ beBytes 2 x.ino ++ beBytes 2 x.dir ++ (beBytes 2 x.name.length ++ x.name)).length ≤ 63300 := by simp only [List.length_append, beBytes_len] at hlkl ⊢; omega
      go_wp2_with fail
      refine (rpbool_any p gd _ 0 x.isDir w7 HPD.out).mono ?_
      rintro e w8 ⟨rfl, h8⟩
      have HW8 := Lib.hid ((h8.glue GD.out.1 GD.out.2).to (r' := (upTo l T (k + 1 + 1), 0)) (by
        rw [penBool_ok (by omega), HUP.out]
        unfold thB
        simp only [List.append_assoc]))
      clear h8 t0 e3 e5
      go_wp2
      go_roundg (T.length - k - 1)
      case measure => omega
      case rel => exact ⟨k + 1, by go_num, by omega, by omega, HW8⟩
    · have HF : Hid (Wrote 69 w wr p g (l ++ treeB T, 0)) := Lib.hid (by
        obtain rfl : k = T.length := by omega
        rw [← upTo_end]
        exact HW.out)
      go_wp2
      first | go_end0 | skip
      exact ⟨rfl, HF.out⟩
end Go.Proofs.YtaiihklfeoeoeaaGreat.W

/- SameEntries, at two rows that are the same. -/
namespace Go.Proofs.YtaiihklfeoeoeaaGreat.W
open Go.RowKit
open Go.Proofs.YtaiihklfeoeoeaaGreat.NM
set_option linter.unusedVariables false
set_option linter.unusedSimpArgs false

/-- A slice of entries that lies in memory. -/
def EntsAt (w : World) (u : Value) (L : List Ent) : Prop := ∃ a c, u = .slice a L.length c ∧ (L = [] ∨ ∃ g, a = some ⟨g, 0, none⟩ ∧ g < w.heap.size ∧ ∀ i e, L[i]? = some e →
  w.cell? ⟨g, i * 3, none⟩ = some (.string ⟨e.1.toArray⟩) ∧ w.cell? ⟨g, i * 3 + 1, none⟩ = some (.int .i64 (e.2.1 : Int)) ∧ w.cell? ⟨g, i * 3 + 2, none⟩ = some (.bool e.2.2))
theorem EntsAt.keep {S : List Nat} {w w' : World} {u : Value} {L : List Ent} (h : EntsAt w u L) (hc : Chg S w w') (hS : ∀ g, u.ownBlock = some g → g ∉ S) : EntsAt w' u L := by
  obtain ⟨a, c, rfl, h⟩ := h
  refine ⟨a, c, rfl, ?_⟩
  rcases h with h | ⟨g, rfl, hg, h⟩
  · exact .inl h
  · have hn := hS g rfl
    refine .inr ⟨g, rfl, Nat.lt_of_lt_of_le hg hc.size, fun i e he => ?_⟩
    obtain ⟨c0, c1, c2⟩ := h i e he
    exact ⟨hc.cell c0 hn, hc.cell c1 hn, hc.cell c2 hn⟩
theorem EntsAt.keep0 {w w' : World} {u : Value} {L : List Ent} (h : EntsAt w u L) (hc : Chg [] w w') : EntsAt w' u L := h.keep hc (by simp)
instance : Inhabited Ent := ⟨([], 0, false)⟩
theorem ents_own {w : World} {base : Nat} {L : List Ent} {v : Value} (h : w.ownsRow base 109 3 v L.length (L.flatMap entC)) : EntsAt w v L := by
  rcases h.2 with ⟨rfl, h0⟩ | ⟨g, cap, cur, rfl, hbg, hg, hnc, hcm, hcs, htake⟩
  · exact ⟨none, 0, by rw [h0], .inl (List.eq_nil_of_length_eq_zero h0)⟩
  · refine ⟨_, cap, rfl, .inr ⟨g, rfl, blk_lt hg, fun i e he => ?_⟩⟩
    have hi := (List.getElem?_eq_some_iff.1 he).1
    have key : ∀ j, j < 3 → ∀ u, (entC e)[j]? = some u → w.cell? ⟨g, i * 3 + j, none⟩ = some u := by
      intro j hj u hu
      have := h.cells (g := g) rfl (i * 3 + j) u (by
        have := flatMap_at entC (fun _ => rfl) L i j hi hj
        rw [show L[i]! = e by simp [List.getElem!_eq_getElem?_getD, he]] at this
        rw [this]; exact hu)
      rw [add_none] at this
      simpa using this
    exact ⟨by simpa using key 0 (by omega) (.string ⟨e.1.toArray⟩) rfl, key 1 (by omega) _ rfl, key 2 (by omega) _ rfl⟩

set_option maxHeartbeats 2000000 in
set_option maxRecDepth 100000 in
theorem samee_any (u v : Value) (L : List Ent) (w : World) (hu : EntsAt w u L) (hv : EntsAt w v L) (hL : L.length ≤ 1000000) : Calls Tryz.prog 28 #[u, v] w fun e w' => e = .returned (.bool true) ∧ ∃ n, w' = w.drewN n := by
  obtain ⟨a, c, rfl, hu⟩ := hu
  obtain ⟨a2, c2, rfl, hv⟩ := hv
  have HU := Lib.hid hu
  have HV := Lib.hid hv
  clear hu hv
  go_enter Tryz.func28, Tryz.ntmps28
  go_wp2
  go_loopw [5] (fun v5 wr => ∃ k : Nat, v5 = .int .i64 k ∧ k ≤ L.length ∧ ∃ n, wr = w.drewN n) (fun v5 _ => L.length - (intOf v5).toNat)
  case atStart => exact ⟨0, rfl, by omega, 0, rfl⟩
  case round =>
    obtain ⟨k, rfl, hk, n, rfl⟩ := hrel
    by_cases hlt : k < L.length
    · obtain ⟨x, hx⟩ : ∃ x, L[k]? = some x := ⟨_, List.getElem?_eq_getElem hlt⟩
      obtain ⟨g, rfl, hg, c0, c1, c2⟩ : ∃ g, a = some ⟨g, 0, none⟩ ∧ g < w.heap.size ∧ w.cell? ⟨g, k * 3, none⟩ = some (.string ⟨x.1.toArray⟩) ∧ w.cell? ⟨g, k * 3 + 1, none⟩ = some (.int .i64 (x.2.1 : Int)) ∧ w.cell? ⟨g, k * 3 + 2, none⟩ = some (.bool x.2.2) := by
        rcases HU.out with h0 | ⟨g, h1, h2, h3⟩
        · rw [h0] at hlt; simp at hlt
        · exact ⟨g, h1, h2, h3 k x hx⟩
      obtain ⟨g2, rfl, hg2, b0, b1, b2⟩ : ∃ g, a2 = some ⟨g, 0, none⟩ ∧ g < w.heap.size ∧ w.cell? ⟨g, k * 3, none⟩ = some (.string ⟨x.1.toArray⟩) ∧ w.cell? ⟨g, k * 3 + 1, none⟩ = some (.int .i64 (x.2.1 : Int)) ∧ w.cell? ⟨g, k * 3 + 2, none⟩ = some (.bool x.2.2) := by
        rcases HV.out with h0 | ⟨g, h1, h2, h3⟩
        · rw [h0] at hlt; simp at hlt
        · exact ⟨g, h1, h2, h3 k x hx⟩
      have hkz : (k : Int) < (L.length : Int) := by omega
      obtain ⟨sx, ix, bx⟩ := x
      simp only at c0 c1 c2 b0 b1 b2
      clear hx
      go_wp2_with fail
      go_quiet (fail)
      go_wp2
      go_roundw
      case rel => exact ⟨k + 1, by go_num, by omega, _, by first | rfl | rw [World.drewN_drewN] | simp⟩
      case measure => simp [intOf]; omega
    · go_wp2
      go_ret
      exact ⟨rfl, n, rfl⟩
end Go.Proofs.YtaiihklfeoeoeaaGreat.W

/- The reference's List. -/
namespace Go.Proofs.YtaiihklfeoeoeaaGreat.W
open Go.RowKit
open Go.Proofs.YtaiihklfeoeoeaaGreat.NM
set_option linter.unusedVariables false
set_option linter.unusedSimpArgs false

/-! ### Plain -/
def entTh (x : Th) : Ent := (x.name, x.ino, x.isDir)
/-- What a directory's entries are while they are gathered. -/
def Gath (T : PT) (n k : Nat) (acc : List Ent) : Prop := acc.Pairwise (fun a b => a.1 ≤ b.1) ∧ acc.Perm (((T.take k).filter (fun x => x.dir == n)).map entTh)
theorem gath_zero (T : PT) (n : Nat) : Gath T n 0 [] := ⟨.nil, by simp⟩
theorem gath_skip {T : PT} {n k : Nat} {acc : List Ent} {x : Th} (h : Gath T n k acc) (hx : T[k]? = some x) (hn : x.dir ≠ n) : Gath T n (k + 1) acc := by
  refine ⟨h.1, ?_⟩
  rw [List.take_add_one, hx, List.filter_append]
  have : (x.dir == n) = false := by simpa using hn
  simpa [this] using h.2
theorem gath_put {T : PT} {n k j : Nat} {acc : List Ent} {x : Th} (h : Gath T n k acc) (hx : T[k]? = some x) (hn : x.dir = n) (hj : j ≤ acc.length) (h1 : ∀ i e, j ≤ i → acc[i]? = some e → x.name < e.1) (h2 : ∀ e, 0 < j → acc[j - 1]? = some e → e.1 ≤ x.name) :
    Gath T n (k + 1) (acc.take j ++ entTh x :: acc.drop j) := by
  have hp := h.1
  refine ⟨?_, ?_⟩
  · have hs : acc = acc.take j ++ acc.drop j := (List.take_append_drop j acc).symm
    rw [hs] at hp
    obtain ⟨p1, p2, p3⟩ := List.pairwise_append.1 hp
    refine List.pairwise_append.2 ⟨p1, List.pairwise_cons.2 ⟨fun b hb => ?_, p2⟩, fun a ha b hb => ?_⟩
    · obtain ⟨i, hi⟩ := List.mem_iff_getElem?.1 hb
      rw [List.getElem?_drop] at hi
      exact List.le_of_lt (h1 (j + i) b (by omega) hi)
    · rcases List.mem_cons.1 hb with rfl | hb
      · show a.1 ≤ x.name
        obtain ⟨i, hi⟩ := List.mem_iff_getElem?.1 ha
        rw [List.getElem?_take] at hi
        by_cases hij : i < j
        · rw [if_pos hij] at hi
          obtain ⟨e, he⟩ : ∃ e, acc[j - 1]? = some e := ⟨_, List.getElem?_eq_getElem (by omega)⟩
          have h3 := h2 e (by omega) he
          by_cases hie : i = j - 1
          · rw [hie, he] at hi
            rw [← Option.some.inj hi]; exact h3
          · have hpp := List.pairwise_iff_getElem.1 h.1 i (j - 1) (List.getElem?_eq_some_iff.1 hi).1 (List.getElem?_eq_some_iff.1 he).1 (by omega)
            rw [(List.getElem?_eq_some_iff.1 hi).2, (List.getElem?_eq_some_iff.1 he).2] at hpp
            exact List.le_trans hpp h3
        · rw [if_neg hij] at hi; cases hi
      · exact p3 a ha b hb
  · rw [List.take_add_one, hx, List.filter_append]
    have : (x.dir == n) = true := by simpa using hn
    have e : (some x).toList.filter (fun x => x.dir == n) = [x] := by simp [this]
    rw [e, List.map_append]
    refine (List.perm_middle.trans ?_).trans (List.perm_append_comm (l₁ := [entTh x]))
    refine List.Perm.cons _ ?_
    rw [List.take_append_drop]
    exact h.2
theorem gath_all {T : PT} (hT : TOk T) {n : Nat} {acc : List Ent} (h : Gath T n T.length acc) : acc = entsOf T n := by
  obtain ⟨h1, h2⟩ := h
  rw [List.take_length] at h2
  have hk : ∀ e ∈ acc, e = entOf T n e.1 := by
    intro e he
    obtain ⟨x, hx, rfl⟩ := List.mem_map.1 (h2.mem_iff.1 he)
    obtain ⟨hx1, hx2⟩ := List.mem_filter.1 hx
    have hxn : x.dir = n := by simpa using hx2
    have hkid : tKid T n x.name = x.ino := by
      unfold tKid
      rw [← hxn, kidOf_mem hT hx1]
    have hd : tIsDir T x.ino = x.isDir := by
      have h2 := (hT.nums x hx1).1
      have e : (x.ino == 1) = false := by simp; omega
      unfold tIsDir
      rw [get_mem hT hx1, e]; rfl
    show (x.name, x.ino, x.isDir) = (x.name, tKid T n x.name, tIsDir T (tKid T n x.name))
    rw [hkid, hd]
  have hm : acc.map (fun e => e.1) = namesOf T n := by
    have hp : (acc.map (fun e => e.1)).Perm ((T.filter (fun x => x.dir == n)).map (fun x => x.name)) := by
      have := h2.map (fun e : Ent => e.1)
      rw [List.map_map] at this
      exact this
    have hs : (acc.map (fun e => e.1)).Pairwise (fun x y => x ≤ y) := List.pairwise_map.2 h1
    have hs2 : (namesOf T n).Pairwise (fun x y => x ≤ y) := (List.pairwise_mergeSort (le := fun x y : List UInt8 => decide (x ≤ y)) leB_trans leB_total _).imp fun {a b} hab => by simpa using hab
    exact List.Perm.eq_of_pairwise (le := fun x y : List UInt8 => x ≤ y) (fun a b _ _ h1 h2 => List.le_antisymm h1 h2) hs hs2 (hp.trans (List.mergeSort_perm _ _).symm)
  unfold entsOf
  rw [← hm, List.map_map]
  conv => lhs; rw [← List.map_id acc]
  exact List.map_congr_left fun e he => hk e he
/-- The row while the new entry is on its way down: at place k stands what is no matter. -/
def slid (acc : List Ent) (g : Ent) (k : Nat) : List Ent := acc.take k ++ g :: acc.drop k
theorem slid_len (acc : List Ent) (g : Ent) (k : Nat) (hk : k ≤ acc.length) : (slid acc g k).length = acc.length + 1 := by
  unfold slid; simp; omega
theorem slid_end (acc : List Ent) (g : Ent) : slid acc g acc.length = acc ++ [g] := by unfold slid; simp
theorem slid_below {acc : List Ent} {g : Ent} {k i : Nat} (hi : i < k) (hk : k ≤ acc.length) : (slid acc g k)[i]? = acc[i]? := by
  unfold slid
  rw [List.getElem?_append_left (by rw [List.length_take]; omega), List.getElem?_take, if_pos hi]
theorem slid_down {acc : List Ent} {g y : Ent} {k : Nat} (hy : acc[k]? = some y) : (slid acc g (k + 1)).set (k + 1) y = slid acc y k := by
  have hk := (List.getElem?_eq_some_iff.1 hy).1
  unfold slid
  have e1 : acc.take (k + 1) = acc.take k ++ [y] := by rw [List.take_add_one, hy]; rfl
  have e2 : acc.drop k = y :: acc.drop (k + 1) := by rw [List.drop_eq_getElem_cons hk, (List.getElem?_eq_some_iff.1 hy).2]
  rw [e1, e2, List.append_assoc, List.set_append_right _ _ (by rw [List.length_take]; omega)]
  have : k + 1 - (acc.take k).length = 1 := by rw [List.length_take]; omega
  rw [this]; rfl
theorem slid_put {acc : List Ent} {g x : Ent} {k : Nat} (hk : k ≤ acc.length) : (slid acc g k).set k x = slid acc x k := by
  unfold slid
  rw [List.set_append_right _ _ (by rw [List.length_take]; omega)]
  have : k - (acc.take k).length = 0 := by rw [List.length_take]; omega
  rw [this]; rfl

/-! ### A row of entries of our own -/
def ERow (w : World) (base : Nat) (v : Value) (L : List Ent) : Prop := w.ownsRow base 109 3 v L.length (L.flatMap entC)
theorem entC_one (x : Ent) : ∀ v ∈ entC x, v.oneCell' = true := by
  intro v hv
  simp [entC] at hv
  rcases hv with rfl | rfl | rfl <;> rfl
theorem ents_set : ∀ (L : List Ent) (k : Nat) (x : Ent), k < L.length → (((L.flatMap entC).set (k * 3) (.string ⟨x.1.toArray⟩)).set (k * 3 + 1) (.int .i64 (x.2.1 : Int))).set (k * 3 + 2) (.bool x.2.2) = (L.set k x).flatMap entC
  | [], k, x, h => by simp at h
  | y :: r, 0, x, _ => by simp [entC]
  | y :: r, k + 1, x, h => by
    have ih := ents_set r k x (by simpa using h)
    have e : (y :: r).flatMap entC = entC y ++ r.flatMap entC := rfl
    have hl : (entC y).length = 3 := rfl
    rw [e, List.set_append_right _ _ (by rw [hl]; omega), List.set_append_right _ _ (by rw [hl]; omega), List.set_append_right _ _ (by rw [hl]; omega), hl]
    rw [show (k + 1) * 3 - 3 = k * 3 by omega, show (k + 1) * 3 + 1 - 3 = k * 3 + 1 by omega, show (k + 1) * 3 + 2 - 3 = k * 3 + 2 by omega, ih]
    rfl
/-- An entry stored into the row. -/
theorem ERow.put {w : World} {base g c : Nat} {L : List Ent} {n : Nat} (hn : n = L.length) (h : ERow w base (.slice (some ⟨g, 0, none⟩) n c) L) {k : Nat} (hk : k < L.length) (x : Ent) :
    ERow (((w.setCell ⟨g, k * 3, none⟩ (.string ⟨x.1.toArray⟩)).setCell ⟨g, k * 3 + 1, none⟩ (.int .i64 (x.2.1 : Int))).setCell ⟨g, k * 3 + 2, none⟩ (.bool x.2.2)) base (.slice (some ⟨g, 0, none⟩) n c) (L.set k x) := by
  subst hn
  obtain ⟨o1, _⟩ := World.ownsRow.stored h (k * 3) (.string ⟨x.1.toArray⟩)
  obtain ⟨o2, _⟩ := World.ownsRow.stored o1 (k * 3 + 1) (.int .i64 (x.2.1 : Int))
  obtain ⟨o3, _⟩ := World.ownsRow.stored o2 (k * 3 + 2) (.bool x.2.2)
  rw [ents_set L k x hk] at o3
  unfold ERow
  rw [List.length_set]
  exact o3
theorem ERow.form {w : World} {base : Nat} {v : Value} {L : List Ent} (h : ERow w base v L) (hn : 0 < L.length) : ∃ g c, v = .slice (some ⟨g, 0, none⟩) L.length c ∧ L.length ≤ c ∧ base ≤ g ∧ g < w.heap.size := by
  rcases h.2 with ⟨_, h0⟩ | ⟨g, cap, cur, rfl, hbg, hg, hnc, hcm, hcs, htake⟩
  · omega
  · exact ⟨g, cap, rfl, hnc, hbg, blk_lt hg⟩
theorem ERow.at {w : World} {base g c n : Nat} {L : List Ent} (h : ERow w base (.slice (some ⟨g, 0, none⟩) n c) L) {i : Nat} {e : Ent} (he : L[i]? = some e) :
    w.cell? ⟨g, i * 3, none⟩ = some (.string ⟨e.1.toArray⟩) ∧ w.cell? ⟨g, i * 3 + 1, none⟩ = some (.int .i64 (e.2.1 : Int)) ∧ w.cell? ⟨g, i * 3 + 2, none⟩ = some (.bool e.2.2) ∧ ∀ j, w.frozen? ⟨g, j, none⟩ = false := by
  obtain ⟨a, c', hv, hr⟩ := ents_own h
  have hi := (List.getElem?_eq_some_iff.1 he).1
  rcases hr with h0 | ⟨g', h1, h2, h3⟩
  · rw [h0] at hi; simp at hi
  · simp only [Value.slice.injEq] at hv
    have hgg : g = g' := by
      have := hv.1.trans h1
      simpa using this
    subst hgg
    obtain ⟨c0, c1, c2⟩ := h3 i e he
    refine ⟨c0, c1, c2, fun j => ?_⟩
    rcases h.2 with ⟨h4, _⟩ | ⟨g', cap, cur, h4, _, hg, _⟩
    · cases h4
    · simp only [Value.slice.injEq, Option.some.injEq, Addr.mk.injEq, and_true, true_and] at h4
      obtain ⟨rfl, _⟩ := h4
      exact blk_frozen hg j
end Go.Proofs.YtaiihklfeoeoeaaGreat.W

/- The reference's List. -/
namespace Go.Proofs.YtaiihklfeoeoeaaGreat.W
open Go.RowKit
open Go.Proofs.YtaiihklfeoeoeaaGreat.NM
set_option linter.unusedVariables false
set_option linter.unusedSimpArgs false

theorem less_eqB : ∀ (x y : List UInt8), Op.bytesLess x y = decide (x < y)
  | [], [] => rfl
  | [], b :: y => by simp [Op.bytesLess]
  | a :: x, [] => by simp [Op.bytesLess]
  | a :: x, b :: y => by
    rw [Op.bytesLess, less_eqB x y, Bool.eq_iff_iff]
    simp [List.cons_lt_cons_iff]
theorem leqB_true {s u : List UInt8} (h : (Op.bytesLess s u || s == u) = true) : s ≤ u := by
  rw [less_eqB] at h
  simp at h
  rcases h with h | h
  · exact List.le_of_lt h
  · rw [h]; exact List.le_refl u
theorem leqB_false {s u : List UInt8} (h : (Op.bytesLess s u || s == u) = false) : u < s := by
  rw [less_eqB] at h
  simp at h
  rcases List.le_total s u with h1 | h1
  · rcases List.le_iff_lt_or_eq.1 h1 with h2 | h2
    · exact absurd h2 (by simpa using h.1)
    · exact absurd h2 h.2
  · rcases List.le_iff_lt_or_eq.1 h1 with h2 | h2
    · exact h2
    · exact absurd h2.symm h.2
theorem gtrB (s u : List UInt8) : (!Op.bytesLess s u && !s == u) = decide (u < s) := by
  rw [← Bool.not_or]
  cases hb : (Op.bytesLess s u || s == u) with
  | true =>
    have h1 := leqB_true hb
    have : ¬ u < s := fun h2 => by
      rcases List.le_iff_lt_or_eq.1 h1 with h3 | h3
      · exact absurd (List.lt_trans h2 h3) (List.lt_irrefl _)
      · rw [h3] at h2; exact absurd h2 (List.lt_irrefl _)
    rw [decide_eq_false this]; rfl
  | false => rw [decide_eq_true (leqB_false hb)]; rfl
def nextGt (acc : List Ent) (x : List UInt8) : Nat → Bool
  | 0 => false
  | i + 1 => match acc[i]? with | some e => decide (x < e.1) | none => false
theorem chg_sets {w : World} {g : Nat} (S : List Nat) (hg : g ∈ S) (i j k : Nat) (a b c : Value) : Chg S w (((w.setCell ⟨g, i, none⟩ a).setCell ⟨g, j, none⟩ b).setCell ⟨g, k, none⟩ c) :=
  (((Chg.refl S w).setCell (p := ⟨g, i, none⟩) (.inl hg) _).setCell (p := ⟨g, j, none⟩) (.inl hg) _).setCell (p := ⟨g, k, none⟩) (.inl hg) _
theorem ERow.keep {S : List Nat} {w w' : World} {base : Nat} {v : Value} {L : List Ent} (h : ERow w base v L) (hc : Chg S w w') (hS : ∀ g, v.ownBlock = some g → g ∉ S) : ERow w' base v L :=
  row_keep h (fun g hg => hc.block g (World.ownsRow.lt h g hg).2 (hS g hg))

set_option maxHeartbeats 8000000 in
set_option maxRecDepth 100000 in
theorem rlist_any (b base : Nat) (v : Value) (T : PT) (s : ByteArray) (w : World) (h : RTOk w b v base T) (hs : s.size ≤ 1000) : Calls Tryz.prog 26 #[.pointer (some ⟨b, 0, none⟩), .string s] w (ListPost w (tList T s.data.toList)) := by
  have H := Lib.hid h
  have hok := Lib.hid h.ok
  have hTl := tok_len' h.ok
  have hbl := h.lt
  obtain ⟨Z, hZ⟩ : ∃ Z, tList T s.data.toList = Z := ⟨_, rfl⟩
  have HX : Hid (Z = if (tLook T s.data.toList).2.2 ≠ 0 then ([], (tLook T s.data.toList).2.2) else if (tLook T s.data.toList).2.1 = false then ([], 10) else (entsOf T (tLook T s.data.toList).1, 0)) := Lib.hid (by rw [← hZ]; rfl)
  rw [hZ]
  clear hZ
  have HP := Lib.hid (rlook_any b base v T s w h hs)
  have HO : Hid ((tLook T s.data.toList).2.2 = 0 → tHas T (tLook T s.data.toList).1 = true ∧ (tLook T s.data.toList).2.1 = tIsDir T (tLook T s.data.toList).1) := Lib.hid (fun h => look_okL h)
  obtain ⟨i3, hi3, hz3, hs3, hy3⟩ := info_parts (show (Tryz.prog.info? 109).map (fun i => (i.zero, i.size, i.bytes)) = some (some (.agg #[.string ByteArray.empty, .int .i64 0, .bool false]), 3, 32) by kernel_rfl)
  have I3 := Lib.hid (And.intro hi3 (And.intro hz3 (And.intro hs3 hy3)))
  clear h hs hi3 hz3 hs3 hy3
  generalize tLook T s.data.toList = r at *
  obtain ⟨n, isd, er⟩ := r
  simp only at HX HO
  go_enter Tryz.func26, Tryz.ntmps26
  go_wp2_with fail
  refine HP.out.mono ?_
  rintro e w1 ⟨rfl, hb1⟩
  have HB := Lib.hid hb1
  have H1 := Lib.hid (H.out.keep0 hb1)
  have hsz1 := hb1.size
  clear hb1 HP
  by_cases h0 : er = 0
  · subst h0
    obtain ⟨o1, o2⟩ := HO.out rfl
    have HX1 : Hid (Z = if isd = false then ([], 10) else (entsOf T n, 0)) := Lib.hid (by rw [HX.out, if_neg (by simp)])
    have has := has_small hok.out o1
    clear o1 o2 HX HO
    cases isd with
    | false =>
      have HE : Hid (Z = ([], 10)) := Lib.hid (by rw [HX1.out, if_pos rfl])
      go_wp2
      go_ret2
      rw [HE.out]
      exact ⟨_, rfl, World.ownsRow_nil _ _ _ _, HB.out⟩
    | true =>
      have HE : Hid (Z = (entsOf T n, 0)) := Lib.hid (by rw [HX1.out, if_neg (by simp)])
      obtain ⟨A, cap, hv, hcap, hrow⟩ := throw_own H1.out.rows
      subst hv
      have HR := Lib.hid hrow
      clear hrow HX1
      go_wp2
      go_loopg [9, 10] T.length (fun gh v9 v10 wr => ∃ (k : Nat) (acc : List Ent), v10 = .int .i64 k ∧ k ≤ T.length ∧ T.length ≤ k + gh ∧ acc.length ≤ k ∧ Hid (Gath T n k acc) ∧ Hid (ERow wr w1.heap.size v9 acc) ∧ Hid (Chg [] w1 wr))
      case atStart => exact ⟨0, [], rfl, by omega, by omega, by simp, Lib.hid (gath_zero T n), Lib.hid (World.ownsRow_nil _ _ _ _), Lib.hid (Chg.refl _ _)⟩
      case round =>
        obtain ⟨k, acc, rfl, hk, hkg, hacc, HG, HR9, HC⟩ := hrel
        have t0 : wr.cell? ⟨b, 0, none⟩ = some (.slice A T.length cap) := blk_cell (HC.out.keep H1.out.head (by simp)) 0 _ rfl
        have hszr := HC.out.size
        by_cases hlt : k < T.length
        · obtain ⟨x, hx⟩ : ∃ x, T[k]? = some x := ⟨_, List.getElem?_eq_getElem hlt⟩
          obtain ⟨g, rfl, hg, c0, c1, c2, c3⟩ : ∃ g, A = some ⟨g, 0, none⟩ ∧ g < w1.heap.size ∧ wr.cell? ⟨g, k * 4, none⟩ = some (.int .i64 (x.ino : Int)) ∧ wr.cell? ⟨g, k * 4 + 1, none⟩ = some (.int .i64 (x.dir : Int)) ∧
              wr.cell? ⟨g, k * 4 + 2, none⟩ = some (.string ⟨x.name.toArray⟩) ∧ wr.cell? ⟨g, k * 4 + 3, none⟩ = some (.bool x.isDir) := by
            rcases HR.out with h0 | ⟨g, h1, h2, h3⟩
            · rw [h0] at hlt; simp at hlt
            · obtain ⟨c0, c1, c2, c3⟩ := h3 k x hx
              exact ⟨g, h1, h2, HC.out.cell c0 (by simp), HC.out.cell c1 (by simp), HC.out.cell c2 (by simp), HC.out.cell c3 (by simp)⟩
          have HXk := Lib.hid hx
          have hkz : (k : Int) < (T.length : Int) := by omega
          obtain ⟨y, hy⟩ : ∃ y : Int, y = x.dir := ⟨_, rfl⟩
          rw [← hy] at c1
          have HY := Lib.hid hy
          clear hx hy
          cases hq : (y == (n : Int)) with
          | false =>
            have hqn : (y != (n : Int)) = true := by rw [bne, hq]; rfl
            have HG2 := Lib.hid (gath_skip HG.out HXk.out (by
              intro e
              rw [HY.out, e] at hq
              simp at hq))
            clear hq
            go_wp2
            go_roundg (T.length - k - 1)
            case measure => omega
            case rel => exact ⟨k + 1, acc, by go_num, by omega, by omega, by omega, HG2, HR9, HC⟩
          | true =>
            have hqn : (y != (n : Int)) = false := by rw [bne, hq]; rfl
            have HXN : Hid (x.dir = n) := Lib.hid (by rw [HY.out] at hq; have := eq_of_beq hq; omega)
            clear hq
            obtain ⟨a9, c9, hv9, _⟩ := ents_own HR9.out
            subst hv9
            obtain ⟨WX, hWX⟩ : ∃ WX, WX = (wr.alloc (.cells #[.string ⟨x.name.toArray⟩, .int .i64 (x.ino : Int), .bool x.isDir] 109)).drew := ⟨_, rfl⟩
            have HWX : Hid (Chg [] wr WX ∧ WX.heap[wr.heap.size]? = some (.cells #[.string ⟨x.name.toArray⟩, .int .i64 (x.ino : Int), .bool x.isDir] 109 (0, 0)) ∧ WX.heap.size = wr.heap.size + 1) := Lib.hid ⟨by rw [hWX]; exact ((Chg.refl [] wr).alloc _).drew, by rw [hWX]; exact heap_alloc_new wr _, by rw [hWX]; simp⟩
            have HRX := Lib.hid (HR9.out.keep HWX.out.1 (by simp))
            have x0 := blk_cell HWX.out.2.1 0 _ rfl
            have x1 := blk_cell HWX.out.2.1 1 _ rfl
            have x2 := blk_cell HWX.out.2.1 2 _ rfl
            have hxl : wr.heap.size < WX.heap.size := by have := HWX.out.2.2; omega
            have HRA : Hid ((WX.alloc (.cells #[.string ⟨x.name.toArray⟩, .int .i64 (x.ino : Int), .bool x.isDir] 109)).ownsRow w1.heap.size 109 3 (.slice a9 acc.length c9) acc.length (acc.flatMap entC)) := Lib.hid (World.ownsRow.alloc HRX.out _)
            have HNEW : Hid (∀ j u, (entC (entTh x))[j]? = some u → (WX.alloc (.cells #[.string ⟨x.name.toArray⟩, .int .i64 (x.ino : Int), .bool x.isDir] 109)).cell? ((⟨WX.heap.size, 0, none⟩ : Addr).add j) = some u) := Lib.hid (World.news_of_block (cs := #[.string ⟨x.name.toArray⟩, .int .i64 (x.ino : Int), .bool x.isDir]) (t := 109) (fr := (0, 0)) (heap_alloc_new WX _))
            have hbA : w1.heap.size ≤ (WX.alloc (.cells #[.string ⟨x.name.toArray⟩, .int .i64 (x.ino : Int), .bool x.isDir] 109)).heap.size := by simp; omega
            go_upto_region 11 with (fail)
            have HAL : Hid (∀ o, Chg [] wr (wr.alloc o).drew) := Lib.hid (fun o => ((Chg.refl [] wr).alloc o).drew)
            refine wp_region_L [(26, fun w' => w'.cell? ⟨b, 0, none⟩ = some (.slice (some ⟨g, 0, none⟩) T.length cap)), (26, fun w' => w'.cell? ⟨g, k * 4 + 2, none⟩ = some (.string ⟨x.name.toArray⟩)), (26, fun w' => w'.cell? ⟨g, k * 4, none⟩ = some (.int .i64 (x.ino : Int))), (26, fun w' => w'.cell? ⟨g, k * 4 + 3, none⟩ = some (.bool x.isDir))] (by kernel_rfl) ?_ (fun hHeld => ?_)
            · exact (HoldC.cons (t0) (HoldC.cons (c2) (HoldC.cons (c0) (HoldC.cons (c3) HoldC.nil))))
            refine wpAnyL_take (i := 0) (oi := _) (v := ?_) rfl (by kernel_rfl) (by kernel_rfl) (by kernel_rfl) (by kernel_rfl) (by kernel_rfl) (fun _ _ _ h => h) (Or.inl ⟨by rfl, ?_⟩) (by assumption) (fun hNew => ?_)
            rotate_left
            · intro w _
              go_simp
              try with_reducible rfl
            clear hHeld
            have hHeld := hNew
            clear hNew
            try simp only [List.getElem_toArray, List.getElem_cons_succ, List.getElem_cons_zero, Act.put, List.setIfInBounds_toArray, List.set_cons_zero, List.set_cons_succ]
            refine wpAnyL_take (i := 1) (oi := _) (v := ?_) rfl (by kernel_rfl) (by kernel_rfl) (by kernel_rfl) (by kernel_rfl) (by kernel_rfl) (fun _ _ _ h => h) (Or.inl ⟨by rfl, ?_⟩) (by assumption) (fun hNew => ?_)
            rotate_left
            · intro w _
              go_simp
              try with_reducible rfl
            clear hHeld
            have hHeld := hNew
            clear hNew
            try simp only [List.getElem_toArray, List.getElem_cons_succ, List.getElem_cons_zero, Act.put, List.setIfInBounds_toArray, List.set_cons_zero, List.set_cons_succ]
            refine wpAnyL_take (i := 2) (oi := _) (v := ?_) rfl (by kernel_rfl) (by kernel_rfl) (by kernel_rfl) (by kernel_rfl) (by kernel_rfl) (fun _ _ _ h => h) (Or.inl ⟨by rfl, ?_⟩) (by assumption) (fun hNew => ?_)
            rotate_left
            · intro w _
              go_simp
              try with_reducible rfl
            clear hHeld
            have hHeld := hNew
            clear hNew
            try simp only [List.getElem_toArray, List.getElem_cons_succ, List.getElem_cons_zero, Act.put, List.setIfInBounds_toArray, List.set_cons_zero, List.set_cons_succ]
            refine wpAnyL_take (i := 4) (oi := _) (v := ?_) rfl (by kernel_rfl) (by kernel_rfl) (by kernel_rfl) (by kernel_rfl) (by kernel_rfl) (fun _ _ _ h => h) (Or.inl ⟨by rfl, ?_⟩) (by assumption) (fun hNew => ?_)
            rotate_left
            · intro w _
              go_simp
              try with_reducible rfl
            clear hHeld
            have hHeld := hNew
            clear hNew
            try simp only [List.getElem_toArray, List.getElem_cons_succ, List.getElem_cons_zero, Act.put, List.setIfInBounds_toArray, List.set_cons_zero, List.set_cons_succ]
            refine wpAnyL_take (i := 8) (oi := _) (v := ?_) rfl (by kernel_rfl) (by kernel_rfl) (by kernel_rfl) (by kernel_rfl) (by kernel_rfl) (fun _ _ _ h => h) (Or.inl ⟨by rfl, ?_⟩) (by assumption) (fun hNew => ?_)
            rotate_left
            · intro w _
              go_simp
              try with_reducible rfl
            clear hHeld
            have hHeld := hNew
            clear hNew
            try simp only [List.getElem_toArray, List.getElem_cons_succ, List.getElem_cons_zero, Act.put, List.setIfInBounds_toArray, List.set_cons_zero, List.set_cons_succ]
            refine wpAnyL_take (i := 9) (oi := _) (v := ?_) rfl (by kernel_rfl) (by kernel_rfl) (by kernel_rfl) (by kernel_rfl) (by kernel_rfl) (fun _ _ _ h => h) (Or.inl ⟨by rfl, ?_⟩) (by assumption) (fun hNew => ?_)
            rotate_left
            · intro w _
              go_simp
              try with_reducible rfl
            clear hHeld
            have hHeld := hNew
            clear hNew
            try simp only [List.getElem_toArray, List.getElem_cons_succ, List.getElem_cons_zero, Act.put, List.setIfInBounds_toArray, List.set_cons_zero, List.set_cons_succ]
            refine wpAnyL_take (i := 10) (oi := _) (v := ?_) rfl (by kernel_rfl) (by kernel_rfl) (by kernel_rfl) (by kernel_rfl) (by kernel_rfl) (fun _ _ _ h => h) (Or.inl ⟨by rfl, ?_⟩) (by assumption) (fun hNew => ?_)
            rotate_left
            · intro w _
              go_simp
              try with_reducible rfl
            clear hHeld
            have hHeld := hNew
            clear hNew
            try simp only [List.getElem_toArray, List.getElem_cons_succ, List.getElem_cons_zero, Act.put, List.setIfInBounds_toArray, List.set_cons_zero, List.set_cons_succ]
            refine wpAnyL_take (i := 12) (oi := _) (v := ?_) rfl (by kernel_rfl) (by kernel_rfl) (by kernel_rfl) (by kernel_rfl) (by kernel_rfl) (fun _ _ _ h => h) (Or.inl ⟨by rfl, ?_⟩) (by assumption) (fun hNew => ?_)
            rotate_left
            · intro w _
              go_simp
              try with_reducible rfl
            clear hHeld
            have hHeld := hNew
            clear hNew
            try simp only [List.getElem_toArray, List.getElem_cons_succ, List.getElem_cons_zero, Act.put, List.setIfInBounds_toArray, List.set_cons_zero, List.set_cons_succ]
            refine wpAnyL_take (i := 16) (oi := _) (v := ?_) rfl (by kernel_rfl) (by kernel_rfl) (by kernel_rfl) (by kernel_rfl) (by kernel_rfl) (fun _ _ _ h => h) (Or.inl ⟨by rfl, ?_⟩) (by assumption) (fun hNew => ?_)
            rotate_left
            · intro w _
              go_simp
              try with_reducible rfl
            clear hHeld
            have hHeld := hNew
            clear hNew
            try simp only [List.getElem_toArray, List.getElem_cons_succ, List.getElem_cons_zero, Act.put, List.setIfInBounds_toArray, List.set_cons_zero, List.set_cons_succ]
            refine wpAnyL_take (i := 17) (oi := _) (v := ?_) rfl (by kernel_rfl) (by kernel_rfl) (by kernel_rfl) (by kernel_rfl) (by kernel_rfl) (fun _ _ _ h => h) (Or.inl ⟨by rfl, ?_⟩) (by assumption) (fun hNew => ?_)
            rotate_left
            · intro w _
              go_simp
              try with_reducible rfl
            clear hHeld
            have hHeld := hNew
            clear hNew
            try simp only [List.getElem_toArray, List.getElem_cons_succ, List.getElem_cons_zero, Act.put, List.setIfInBounds_toArray, List.set_cons_zero, List.set_cons_succ]
            refine wpAnyL_take (i := 18) (oi := _) (v := ?_) rfl (by kernel_rfl) (by kernel_rfl) (by kernel_rfl) (by kernel_rfl) (by kernel_rfl) (fun _ _ _ h => h) (Or.inl ⟨by rfl, ?_⟩) (by assumption) (fun hNew => ?_)
            rotate_left
            · intro w _
              go_simp
              try with_reducible rfl
            clear hHeld
            have hHeld := hNew
            clear hNew
            try simp only [List.getElem_toArray, List.getElem_cons_succ, List.getElem_cons_zero, Act.put, List.setIfInBounds_toArray, List.set_cons_zero, List.set_cons_succ]
            refine wpAnyL_take (i := 20) (oi := _) (v := ?_) rfl (by kernel_rfl) (by kernel_rfl) (by kernel_rfl) (by kernel_rfl) (by kernel_rfl) (fun _ _ _ h => h) (Or.inl ⟨by rfl, ?_⟩) (by assumption) (fun hNew => ?_)
            rotate_left
            · intro w _
              go_simp
              try with_reducible rfl
            clear hHeld
            have hHeld := hNew
            clear hNew
            try simp only [List.getElem_toArray, List.getElem_cons_succ, List.getElem_cons_zero, Act.put, List.setIfInBounds_toArray, List.set_cons_zero, List.set_cons_succ]
            refine wpAnyL_load 0 (i := 3) (oi := _) (v := ?_) rfl rfl (by kernel_rfl) (by kernel_rfl) (by kernel_rfl) (by kernel_rfl) (by kernel_rfl) (by kernel_rfl) (fun _ _ _ h => h) (Or.inl ⟨by rfl, ?_⟩) (by assumption) (fun hNew => ?_)
            rotate_left
            · intro w hSw
              (try dsimp only at hSw)
              go_simp
              try with_reducible rfl
            clear hHeld
            have hHeld := hNew
            clear hNew
            try simp only [List.getElem_toArray, List.getElem_cons_succ, List.getElem_cons_zero, Act.put, List.setIfInBounds_toArray, List.set_cons_zero, List.set_cons_succ]
            refine wpAnyL_take (i := 5) (oi := _) (v := ?_) rfl (by kernel_rfl) (by kernel_rfl) (by kernel_rfl) (by kernel_rfl) (by kernel_rfl) (fun _ _ _ h => h) (Or.inl ⟨by rfl, ?_⟩) (by assumption) (fun hNew => ?_)
            rotate_left
            · intro w _
              go_simp
              try with_reducible rfl
            clear hHeld
            have hHeld := hNew
            clear hNew
            try simp only [List.getElem_toArray, List.getElem_cons_succ, List.getElem_cons_zero, Act.put, List.setIfInBounds_toArray, List.set_cons_zero, List.set_cons_succ]
            refine wpAnyL_take (i := 6) (oi := _) (v := ?_) rfl (by kernel_rfl) (by kernel_rfl) (by kernel_rfl) (by kernel_rfl) (by kernel_rfl) (fun _ _ _ h => h) (Or.inl ⟨by rfl, ?_⟩) (by assumption) (fun hNew => ?_)
            rotate_left
            · intro w _
              go_simp
              try with_reducible rfl
            clear hHeld
            have hHeld := hNew
            clear hNew
            try simp only [List.getElem_toArray, List.getElem_cons_succ, List.getElem_cons_zero, Act.put, List.setIfInBounds_toArray, List.set_cons_zero, List.set_cons_succ]
            refine wpAnyL_load 1 (i := 7) (oi := _) (v := ?_) rfl rfl (by kernel_rfl) (by kernel_rfl) (by kernel_rfl) (by kernel_rfl) (by kernel_rfl) (by kernel_rfl) (fun _ _ _ h => h) (Or.inl ⟨by rfl, ?_⟩) (by assumption) (fun hNew => ?_)
            rotate_left
            · intro w hSw
              (try dsimp only at hSw)
              go_simp
              try with_reducible rfl
            clear hHeld
            have hHeld := hNew
            clear hNew
            try simp only [List.getElem_toArray, List.getElem_cons_succ, List.getElem_cons_zero, Act.put, List.setIfInBounds_toArray, List.set_cons_zero, List.set_cons_succ]
            refine wpAnyL_load 0 (i := 11) (oi := _) (v := ?_) rfl rfl (by kernel_rfl) (by kernel_rfl) (by kernel_rfl) (by kernel_rfl) (by kernel_rfl) (by kernel_rfl) (fun _ _ _ h => h) (Or.inl ⟨by rfl, ?_⟩) (by assumption) (fun hNew => ?_)
            rotate_left
            · intro w hSw
              (try dsimp only at hSw)
              go_simp
              try with_reducible rfl
            clear hHeld
            have hHeld := hNew
            clear hNew
            try simp only [List.getElem_toArray, List.getElem_cons_succ, List.getElem_cons_zero, Act.put, List.setIfInBounds_toArray, List.set_cons_zero, List.set_cons_succ]
            refine wpAnyL_take (i := 13) (oi := _) (v := ?_) rfl (by kernel_rfl) (by kernel_rfl) (by kernel_rfl) (by kernel_rfl) (by kernel_rfl) (fun _ _ _ h => h) (Or.inl ⟨by rfl, ?_⟩) (by assumption) (fun hNew => ?_)
            rotate_left
            · intro w _
              go_simp
              try with_reducible rfl
            clear hHeld
            have hHeld := hNew
            clear hNew
            try simp only [List.getElem_toArray, List.getElem_cons_succ, List.getElem_cons_zero, Act.put, List.setIfInBounds_toArray, List.set_cons_zero, List.set_cons_succ]
            refine wpAnyL_take (i := 14) (oi := _) (v := ?_) rfl (by kernel_rfl) (by kernel_rfl) (by kernel_rfl) (by kernel_rfl) (by kernel_rfl) (fun _ _ _ h => h) (Or.inl ⟨by rfl, ?_⟩) (by assumption) (fun hNew => ?_)
            rotate_left
            · intro w _
              go_simp
              try with_reducible rfl
            clear hHeld
            have hHeld := hNew
            clear hNew
            try simp only [List.getElem_toArray, List.getElem_cons_succ, List.getElem_cons_zero, Act.put, List.setIfInBounds_toArray, List.set_cons_zero, List.set_cons_succ]
            refine wpAnyL_load 2 (i := 15) (oi := _) (v := ?_) rfl rfl (by kernel_rfl) (by kernel_rfl) (by kernel_rfl) (by kernel_rfl) (by kernel_rfl) (by kernel_rfl) (fun _ _ _ h => h) (Or.inl ⟨by rfl, ?_⟩) (by assumption) (fun hNew => ?_)
            rotate_left
            · intro w hSw
              (try dsimp only at hSw)
              go_simp
              try with_reducible rfl
            clear hHeld
            have hHeld := hNew
            clear hNew
            try simp only [List.getElem_toArray, List.getElem_cons_succ, List.getElem_cons_zero, Act.put, List.setIfInBounds_toArray, List.set_cons_zero, List.set_cons_succ]
            refine wpAnyL_load 0 (i := 19) (oi := _) (v := ?_) rfl rfl (by kernel_rfl) (by kernel_rfl) (by kernel_rfl) (by kernel_rfl) (by kernel_rfl) (by kernel_rfl) (fun _ _ _ h => h) (Or.inl ⟨by rfl, ?_⟩) (by assumption) (fun hNew => ?_)
            rotate_left
            · intro w hSw
              (try dsimp only at hSw)
              go_simp
              try with_reducible rfl
            clear hHeld
            have hHeld := hNew
            clear hNew
            try simp only [List.getElem_toArray, List.getElem_cons_succ, List.getElem_cons_zero, Act.put, List.setIfInBounds_toArray, List.set_cons_zero, List.set_cons_succ]
            refine wpAnyL_take (i := 21) (oi := _) (v := ?_) rfl (by kernel_rfl) (by kernel_rfl) (by kernel_rfl) (by kernel_rfl) (by kernel_rfl) (fun _ _ _ h => h) (Or.inl ⟨by rfl, ?_⟩) (by assumption) (fun hNew => ?_)
            rotate_left
            · intro w _
              go_simp
              try with_reducible rfl
            clear hHeld
            have hHeld := hNew
            clear hNew
            try simp only [List.getElem_toArray, List.getElem_cons_succ, List.getElem_cons_zero, Act.put, List.setIfInBounds_toArray, List.set_cons_zero, List.set_cons_succ]
            refine wpAnyL_take (i := 22) (oi := _) (v := ?_) rfl (by kernel_rfl) (by kernel_rfl) (by kernel_rfl) (by kernel_rfl) (by kernel_rfl) (fun _ _ _ h => h) (Or.inl ⟨by rfl, ?_⟩) (by assumption) (fun hNew => ?_)
            rotate_left
            · intro w _
              go_simp
              try with_reducible rfl
            clear hHeld
            have hHeld := hNew
            clear hNew
            try simp only [List.getElem_toArray, List.getElem_cons_succ, List.getElem_cons_zero, Act.put, List.setIfInBounds_toArray, List.set_cons_zero, List.set_cons_succ]
            refine wpAnyL_load 3 (i := 23) (oi := _) (v := ?_) rfl rfl (by kernel_rfl) (by kernel_rfl) (by kernel_rfl) (by kernel_rfl) (by kernel_rfl) (by kernel_rfl) (fun _ _ _ h => h) (Or.inl ⟨by rfl, ?_⟩) (by assumption) (fun hNew => ?_)
            rotate_left
            · intro w hSw
              (try dsimp only at hSw)
              go_simp
              try with_reducible rfl
            clear hHeld
            have hHeld := hNew
            clear hNew
            try simp only [List.getElem_toArray, List.getElem_cons_succ, List.getElem_cons_zero, Act.put, List.setIfInBounds_toArray, List.set_cons_zero, List.set_cons_succ]
            refine wpAnyL_take (i := 24) (oi := _) (v := ?_) rfl (by kernel_rfl) (by kernel_rfl) (by kernel_rfl) (by kernel_rfl) (by kernel_rfl) (fun _ _ _ h => h) (Or.inl ⟨by rfl, ?_⟩) (by assumption) (fun hNew => ?_)
            rotate_left
            · intro w _
              go_simp
              try with_reducible rfl
            clear hHeld
            have hHeld := hNew
            clear hNew
            try simp only [List.getElem_toArray, List.getElem_cons_succ, List.getElem_cons_zero, Act.put, List.setIfInBounds_toArray, List.set_cons_zero, List.set_cons_succ]
            refine wpAnyL_ready (rs := [25]) (by kernel_rfl) (by simp) ?_
            refine AllReadyL.cons (o := _) rfl (fun K hK => ?_) AllReadyL.nil
            try simp only [List.getElem_toArray, List.getElem_cons_succ, List.getElem_cons_zero]
            go_simp
            clear hHeld
            refine hK.out _ _ ?_ (fun hHeld => ?_)
            · exact (HoldC.cons ((HAL.out _).cell t0 (by simp)) (HoldC.cons ((HAL.out _).cell c2 (by simp)) (HoldC.cons ((HAL.out _).cell c0 (by simp)) (HoldC.cons ((HAL.out _).cell c3 (by simp)) HoldC.nil))))
            clear hK K
            try simp only [List.getElem_toArray, List.getElem_cons_succ, List.getElem_cons_zero, Act.put, List.setIfInBounds_toArray, List.set_cons_zero, List.set_cons_succ]
            refine wpAnyL_ready (rs := [26]) (by kernel_rfl) (by simp) ?_
            refine AllReadyL.cons (o := _) rfl (fun K hK => ?_) AllReadyL.nil
            try simp only [List.getElem_toArray, List.getElem_cons_succ, List.getElem_cons_zero]
            go_simp
            clear hHeld
            refine hK.out _ _ ?_ (fun hHeld => ?_)
            · exact (HoldC.past (by kernel_rfl) (HoldC.past (by kernel_rfl) (HoldC.past (by kernel_rfl) (HoldC.past (by kernel_rfl) HoldC.nil))))
            clear hK K
            try simp only [List.getElem_toArray, List.getElem_cons_succ, List.getElem_cons_zero, Act.put, List.setIfInBounds_toArray, List.set_cons_zero, List.set_cons_succ]
            refine wpAnyL_done (by kernel_rfl) ?_ _
            clear hHeld
            rw [← hWX]
            clear hWX t0 c0 c2 c3
            go_wp2_with (at_builtin; refine wpList_append_lies _ rfl (.tmp 71) (.tmp 73) 62 rfl w1.heap.size 109 i3 _ 3 32 Tryz.underlying62 I3.out.1 I3.out.2.1 I3.out.2.2.1 I3.out.2.2.2 rfl (by omega) _ acc.length _ rfl HRA.out ⟨WX.heap.size, 0, none⟩ 1 1 (entC (entTh x)) rfl rfl HNEW.out (entC_one _) (by omega) (by unfold maxLen; omega) (by omega) hbA _ rfl ?_; intro g7 c7 w7 ho7 hg7 hat7 hlt7)
            obtain ⟨xo, hxo⟩ : ∃ xo, xo = wr.heap.size := ⟨_, rfl⟩
            obtain ⟨m7, hm7⟩ : ∃ m7, m7 = acc.length + 1 := ⟨_, rfl⟩
            have H7 : Hid (g7 ≠ xo ∧ w1.heap.size ≤ g7 ∧ w7.heap[xo]? = some (.cells #[.string ⟨x.name.toArray⟩, .int .i64 (x.ino : Int), .bool x.isDir] 109 (0, 0)) ∧ Chg [] w1 w7 ∧ ERow w7 w1.heap.size (.slice (some ⟨g7, 0, none⟩) m7 c7) (slid acc (entTh x) acc.length) ∧ m7 = acc.length + 1 ∧ xo < w7.heap.size ∧ w1.heap.size ≤ xo) := Lib.hid (by
              have e1 : (WX.alloc (.cells #[.string ⟨x.name.toArray⟩, .int .i64 (x.ino : Int), .bool x.isDir] 109)).heap.size = wr.heap.size + 2 := by have := HWX.out.2.2; simp; omega
              have hne : ∀ q, (Value.slice a9 acc.length c9).ownBlock = some q → q < wr.heap.size ∧ w1.heap.size ≤ q := fun q hq => ⟨(World.ownsRow.lt HR9.out q hq).2, (World.ownsRow.lt HR9.out q hq).1⟩
              have hxb : (WX.alloc (.cells #[.string ⟨x.name.toArray⟩, .int .i64 (x.ino : Int), .bool x.isDir] 109)).heap[xo]? = some (.cells #[.string ⟨x.name.toArray⟩, .int .i64 (x.ino : Int), .bool x.isDir] 109 (0, 0)) := by
                rw [hxo]; exact ((Chg.refl [] WX).alloc _).keep HWX.out.2.1 (by simp)
              refine ⟨?_, ?_, ?_, ?_, ?_, hm7, ?_, by omega⟩
              · rcases hat7 with h | h
                · have := hne g7 h; omega
                · omega
              · rcases hat7 with h | h
                · exact (hne g7 h).2
                · omega
              · exact (hg7.block xo (by omega) (fun e => by have := hne xo e.symm; omega)).trans hxb
              · exact (chg_tr HC.out (HWX.out.1.trans ((Chg.refl [] WX).alloc _) (by simp))).grown hg7 (fun q hq => .inr (hne q hq).2)
              · rw [slid_end, hm7]
                unfold ERow
                rw [List.length_append, List.flatMap_append]
                have e2 : List.flatMap entC [entTh x] = entC (entTh x) := by simp
                rw [e2]; exact ho7
              · have := hg7.size; omega)
            have hxw7 := H7.out.2.2.2.2.2.2.1
            try rw [← hxo]
            rw [← hm7]
            have HM7 := Lib.hid hm7
            have hm7l : m7 ≤ T.length := by omega
            have hjm : acc.length ≤ m7 := by omega
            obtain ⟨wo, rfl⟩ : ∃ wo : World, wo = wr := ⟨_, rfl⟩
            obtain ⟨gko, rfl⟩ : ∃ gko : Nat, gko = gk := ⟨_, rfl⟩
            clear ho7 hg7 hat7 hlt7 hxo hm7 x0 x1 x2
            try go_frame
            go_loopg [12] acc.length (fun gh v12 wx => ∃ (j : Nat) (ge : Ent), v12 = .int .i64 j ∧ j ≤ acc.length ∧ j ≤ gh ∧ Hid (ERow wx w1.heap.size (.slice (some ⟨g7, 0, none⟩) m7 c7) (slid acc ge j)) ∧ Hid (wx.heap[xo]? = some (.cells #[.string ⟨x.name.toArray⟩, .int .i64 (x.ino : Int), .bool x.isDir] 109 (0, 0))) ∧ Hid (Chg [] w1 wx) ∧ Hid (∀ i e, j ≤ i → acc[i]? = some e → x.name < e.1))
            case atStart => exact ⟨acc.length, _, rfl, Nat.le_refl _, Nat.le_refl _, Lib.hid H7.out.2.2.2.2.1, Lib.hid H7.out.2.2.1, Lib.hid H7.out.2.2.2.1, Lib.hid (fun i e h1 h2 => by have := (List.getElem?_eq_some_iff.1 h2).1; omega)⟩
            case round =>
              obtain ⟨j, ge, rfl, hj, hjg, HRJ, HXJ, HCJ, HGT⟩ := hrel
              obtain ⟨wz, rfl⟩ : ∃ wz : World, wz = wr := ⟨_, rfl⟩
              have y0 := blk_cell HXJ.out 0 _ rfl
              have y1 := blk_cell HXJ.out 1 _ rfl
              have y2 := blk_cell HXJ.out 2 _ rfl
              have hxz := blk_lt HXJ.out
              have hslid := slid_len acc ge j hj
              have HSL := Lib.hid hslid
              clear hslid
              obtain ⟨gg, hgg⟩ : ∃ gg : Bool, gg = nextGt acc x.name j := ⟨_, rfl⟩
              have HGG := Lib.hid hgg
              clear hgg
              go_upto_region 14 with (fail)
              go_cut [87] (fun s87 wy => s87 = .bool gg ∧ ∃ nd, wy = wz.drewN nd)
              case first =>
                rcases Nat.eq_zero_or_pos j with hj0 | hj0
                · have q1 : decide ((0 : Int) < (j : Int)) = false := decide_eq_false (by omega)
                  have q1n : decide (0 < j) = false := decide_eq_false (by omega)
                  have HG0 : Hid (gg = false) := Lib.hid (by rw [HGG.out, hj0]; rfl)
                  clear hj0
                  go_quiet (fail)
                  go_wp2
                  go_meet
                  exact ⟨by rw [HG0.out], _, rfl⟩
                · obtain ⟨i, hi⟩ : ∃ i, j = i + 1 := ⟨j - 1, by omega⟩
                  obtain ⟨e, he⟩ : ∃ e, acc[i]? = some e := ⟨_, List.getElem?_eq_getElem (by omega)⟩
                  have q1 : decide ((0 : Int) < (j : Int)) = true := decide_eq_true (by omega)
                  have q1n : decide (0 < j) = true := decide_eq_true (by omega)
                  have q2 : IntKind.i64.wrap ((j : Int) - 1) = (i : Int) := by
                    have : (j : Int) - 1 = (i : Int) := by omega
                    rw [this]; exact IntWalk.i64_in _ (by omega)
                  have q4 : (i : Int) < (m7 : Int) := by omega
                  have z0 := (HRJ.out.at (i := i) (e := e) ((slid_below (by omega) hj).trans he)).1
                  have hg7z := (World.ownsRow.lt HRJ.out g7 rfl).2
                  have HG1 : Hid (gg = decide (x.name < e.1)) := Lib.hid (by rw [HGG.out, hi]; unfold nextGt; simp only [he])
                  clear hi he hj0
                  go_quiet (fail)
                  go_wp2
                  go_meet
                  refine ⟨congrArg Value.bool ?_, _, rfl⟩
                  rw [HG1.out]
                  exact gtrB _ _
              case rest =>
              obtain ⟨rfl, nd, hwc⟩ := hcut
              rw [hwc]
              clear hwc
              have HRZ : Hid (ERow (wz.drewN nd) w1.heap.size (.slice (some ⟨g7, 0, none⟩) m7 c7) (slid acc ge j)) := Lib.hid (HRJ.out.keep ((Chg.refl [] wz).drewN nd) (by simp))
              have HXZ : Hid ((wz.drewN nd).heap[xo]? = some (.cells #[.string ⟨x.name.toArray⟩, .int .i64 (x.ino : Int), .bool x.isDir] 109 (0, 0))) := Lib.hid HXJ.out
              have HCZ : Hid (Chg [] w1 (wz.drewN nd)) := Lib.hid (HCJ.out.drewN nd)
              generalize wz.drewN nd = wd at *
              have hg7d := (World.ownsRow.lt HRZ.out g7 rfl).2
              have hxd := blk_lt HXZ.out
              clear y0 y1 y2 hxz
              have y0 := blk_cell HXZ.out 0 _ rfl
              have y1 := blk_cell HXZ.out 1 _ rfl
              have y2 := blk_cell HXZ.out 2 _ rfl
              cases hgv : gg with
              | true =>
                obtain ⟨i, hi⟩ : ∃ i, j = i + 1 := by
                  rw [HGG.out] at hgv
                  cases j with
                  | zero => cases hgv
                  | succ i => exact ⟨i, rfl⟩
                subst hi
                obtain ⟨e, he⟩ : ∃ e, acc[i]? = some e := ⟨_, List.getElem?_eq_getElem (by omega)⟩
                have HLT : Hid (x.name < e.1) := Lib.hid (by
                  rw [HGG.out] at hgv
                  unfold nextGt at hgv
                  simp only [he] at hgv
                  simpa using hgv)
                obtain ⟨z0, z1, z2, zf⟩ := HRZ.out.at (i := i) (e := e) ((slid_below (by omega) hj).trans he)
                obtain ⟨ge', hge'⟩ : ∃ ge', (slid acc ge (i + 1))[i + 1]? = some ge' := ⟨_, List.getElem?_eq_getElem (by rw [HSL.out]; omega)⟩
                obtain ⟨v0, v1, v2, _⟩ := HRZ.out.at hge'
                have f0 := zf ((i + 1) * 3)
                have f1 := zf ((i + 1) * 3 + 1)
                have f2 := zf ((i + 1) * 3 + 2)
                have q4 : (i : Int) < (m7 : Int) := by omega
                have q5 : (i : Int) + 1 < (m7 : Int) := by have := HM7.out; omega
                have HPUT : Hid (ERow (((wd.setCell ⟨g7, (i + 1) * 3, none⟩ (.string ⟨e.1.toArray⟩)).setCell ⟨g7, (i + 1) * 3 + 1, none⟩ (.int .i64 (e.2.1 : Int))).setCell ⟨g7, (i + 1) * 3 + 2, none⟩ (.bool e.2.2)) w1.heap.size (.slice (some ⟨g7, 0, none⟩) m7 c7) (slid acc e i)) := Lib.hid (by
                  have := HRZ.out.put (by rw [HSL.out, HM7.out]) (k := i + 1) (by rw [HSL.out]; omega) e
                  rwa [slid_down he] at this)
                have HCP : Hid (Chg [g7] wd (((wd.setCell ⟨g7, (i + 1) * 3, none⟩ (.string ⟨e.1.toArray⟩)).setCell ⟨g7, (i + 1) * 3 + 1, none⟩ (.int .i64 (e.2.1 : Int))).setCell ⟨g7, (i + 1) * 3 + 2, none⟩ (.bool e.2.2))) := Lib.hid (chg_sets [g7] (by simp) _ _ _ _ _ _)
                have HGT2 : Hid (∀ q e', i ≤ q → acc[q]? = some e' → x.name < e'.1) := Lib.hid (fun q e' h1 h2 => by
                  rcases Nat.lt_or_ge i q with h3 | h3
                  · exact HGT.out q e' h3 h2
                  · obtain rfl : q = i := by omega
                    rw [he] at h2
                    rw [← Option.some.inj h2]; exact HLT.out)
                subst hgv
                clear zf hge' he
                go_wp2
                go_roundg i
                case measure => omega
                case rel =>
                  exact ⟨i, e, by go_num, by omega, Nat.le_refl _, HPUT, Lib.hid (HCP.out.keep HXZ.out (by have := H7.out.1; simp; exact fun h => this h.symm)), Lib.hid (HCZ.out.trans HCP.out (fun z hz => .inr (by have := H7.out.2.1; simp at hz; subst hz; exact this))), HGT2⟩
              | false =>
                have HLE : Hid (∀ e, 0 < j → acc[j - 1]? = some e → e.1 ≤ x.name) := Lib.hid (fun e h1 h2 => by
                  obtain ⟨i, hi⟩ : ∃ i, j = i + 1 := ⟨j - 1, by omega⟩
                  rw [HGG.out, hi] at hgv
                  rw [hi, Nat.add_sub_cancel] at h2
                  unfold nextGt at hgv
                  simp only [h2] at hgv
                  have h3 : ¬ x.name < e.1 := by simpa using hgv
                  rcases List.le_total e.1 x.name with h4 | h4
                  · exact h4
                  · rcases List.le_iff_lt_or_eq.1 h4 with h5 | h5
                    · exact absurd h5 h3
                    · rw [h5]; exact List.le_refl _)
                have HGP := Lib.hid (gath_put HG.out HXk.out HXN.out hj HGT.out HLE.out)
                obtain ⟨ge', hge'⟩ : ∃ ge', (slid acc ge j)[j]? = some ge' := ⟨_, List.getElem?_eq_getElem (by rw [HSL.out]; omega)⟩
                obtain ⟨v0, v1, v2, vf⟩ := HRZ.out.at hge'
                have f0 := vf (j * 3)
                have f1 := vf (j * 3 + 1)
                have f2 := vf (j * 3 + 2)
                have q4 : (j : Int) < (m7 : Int) := by have := HM7.out; omega
                have HPUT : Hid (ERow (((wd.setCell ⟨g7, j * 3, none⟩ (.string ⟨x.name.toArray⟩)).setCell ⟨g7, j * 3 + 1, none⟩ (.int .i64 (x.ino : Int))).setCell ⟨g7, j * 3 + 2, none⟩ (.bool x.isDir)) w1.heap.size (.slice (some ⟨g7, 0, none⟩) m7 c7) (acc.take j ++ entTh x :: acc.drop j)) := Lib.hid (by
                  have := HRZ.out.put (by rw [HSL.out, HM7.out]) (k := j) (by rw [HSL.out]; omega) (entTh x)
                  rwa [slid_put hj] at this)
                have HCP : Hid (Chg [g7] wd (((wd.setCell ⟨g7, j * 3, none⟩ (.string ⟨x.name.toArray⟩)).setCell ⟨g7, j * 3 + 1, none⟩ (.int .i64 (x.ino : Int))).setCell ⟨g7, j * 3 + 2, none⟩ (.bool x.isDir))) := Lib.hid (chg_sets [g7] (by simp) _ _ _ _ _ _)
                subst hgv
                clear vf hge'
                go_wp2
                go_roundg (T.length - k - 1)
                case measure => omega
                case rel =>
                  exact ⟨k + 1, acc.take j ++ entTh x :: acc.drop j, by go_num, by omega, by omega, by simp; omega, HGP, HPUT, Lib.hid (HCZ.out.trans HCP.out (fun z hz => .inr (by have := H7.out.2.1; simp at hz; subst hz; exact this)))⟩
        · have HF : Hid (ERow wr w.heap.size u9 (entsOf T n) ∧ Chg [] w wr) := Lib.hid (by
            obtain rfl : k = T.length := by omega
            rw [← gath_all hok.out HG.out]
            exact ⟨row_base HR9.out _ (fun g hg => Nat.le_trans hsz1 (World.ownsRow.lt HR9.out g hg).1), chg_tr HB.out HC.out⟩)
          go_wp2
          go_ret2
          rw [HE.out]
          exact ⟨_, rfl, HF.out⟩
  · have HE : Hid (Z = ([], er)) := Lib.hid (by rw [HX.out, if_pos h0])
    have he0 : (er != 0) = true := by simpa using h0
    clear h0 HX HO
    go_wp2
    go_ret2
    rw [HE.out]
    exact ⟨_, rfl, World.ownsRow_nil _ _ _ _, HB.out⟩
end Go.Proofs.YtaiihklfeoeoeaaGreat.W

/- The reference's Same. -/
namespace Go.Proofs.YtaiihklfeoeoeaaGreat.W
open Go.RowKit
set_option linter.unusedVariables false
set_option linter.unusedSimpArgs false

theorem same_of (l m : List UInt8) (h : l.length = m.length) (hq : ∀ q, q < l.length → l.getD q 0 = m.getD q 0) : l = m := by
  apply List.ext_getElem h
  intro i h1 h2
  have := hq i h1
  simpa [List.getD_eq_getElem?_getD, List.getElem?_eq_getElem h1, List.getElem?_eq_getElem h2] using this
theorem bv_neq (a b : UInt8) (h : a ≠ b) : (((a.toNat : Int) != (b.toNat : Int)) = true) := by
  rw [bne_iff_ne]
  intro e
  exact h (UInt8.toNat_inj.1 (by omega))

set_option maxHeartbeats 4000000 in
set_option maxRecDepth 100000 in
/-- Same. -/
theorem same_any (u v : Value) (l m : List UInt8) (w : World) (hu : BytesAt w u l) (hv : BytesAt w v m) (hl : l.length ≤ 1000000000) (hm : m.length ≤ 1000000000) :
    Calls Tryz.prog 15 #[u, v] w fun e w' => e = .returned (.bool (decide (l = m))) ∧ ∃ n, w' = w.drewN n := by
  obtain ⟨au, cu, rfl, hlu, _, hu⟩ := hu
  obtain ⟨av, cv, rfl, hlv, _, hv⟩ := hv
  obtain ⟨d, hd⟩ : ∃ d, d = decide (l = m) := ⟨_, rfl⟩
  rw [← hd]
  have HD := Lib.hid hd
  clear hd
  have HU := Lib.hid hu
  have HV := Lib.hid hv
  clear hu hv
  by_cases hlen : l.length = m.length
  · have hmz : ((l.length : Int) != (m.length : Int)) = false := by rw [hlen]; simp
    have HL := Lib.hid hlen
    have hml : m.length = l.length := hlen.symm
    rw [hml]
    clear hlen hml hmz
    go_enter Tryz.func15, Tryz.ntmps15
    go_wp2
    go_loopg [5] l.length (fun g' s5 wr => ∃ (j n : Nat), s5 = .int .i64 j ∧ j ≤ l.length ∧ l.length ≤ j + g' ∧ Hid (∀ q, q < j → l.getD q 0 = m.getD q 0) ∧ wr = w.drewN n)
    case atStart => exact ⟨0, 0, rfl, by omega, by omega, fun q hq => absurd hq (by omega), rfl⟩
    case round =>
      obtain ⟨j, n, rfl, hj, hjg, HQ, rfl⟩ := hrel
      by_cases hlt : j < l.length
      · rcases HU.out with ⟨h0, _⟩ | ⟨gu, ou, rfl, hcu⟩
        · rw [h0] at hlt; simp at hlt
        rcases HV.out with ⟨h0, _⟩ | ⟨gv, ov, rfl, hcv⟩
        · have := HL.out; rw [h0, List.length_nil] at this; omega
        obtain ⟨x, hx, c0⟩ : ∃ x, l.getD j 0 = x ∧ w.cell? ⟨gu, ou + j, none⟩ = some (.int .u8 (x.toNat : Int)) := ⟨_, rfl, hcu j hlt⟩
        obtain ⟨y, hy, c1⟩ : ∃ y, m.getD j 0 = y ∧ w.cell? ⟨gv, ov + j, none⟩ = some (.int .u8 (y.toNat : Int)) := ⟨_, rfl, hcv j (by rw [← HL.out]; exact hlt)⟩
        have HX := Lib.hid hx
        have HY := Lib.hid hy
        have hjz : (j : Int) < (l.length : Int) := by omega
        have hjz0 : (0 : Int) ≤ (j : Int) := by omega
        have hjz1 : (j : Int).toNat = j := by omega
        clear hcu hcv hx hy
        by_cases hxy : x = y
        · subst hxy
          go_wp2
          go_quiet (fail)
          go_wp2
          go_roundg (gk - 1)
          case measure => omega
          case rel =>
            refine ⟨j + 1, _, by go_num, by omega, by omega, ?_, rfl⟩
            intro q hq
            rcases Nat.lt_or_ge q j with h | h
            · exact HQ.out q h
            · obtain rfl : q = j := by omega
              rw [HX.out, HY.out]
        · have hne := bv_neq x y hxy
          have hd : Hid (d = false) := Lib.hid (by
            rw [HD.out, decide_eq_false_iff_not]
            intro e
            have h1 := HX.out
            rw [e] at h1
            exact hxy (h1.symm.trans HY.out))
          clear hxy
          go_wp2
          go_quiet (fail)
          go_wp2
          go_ret
          exact ⟨ret_bool hd.out.symm, _, World.drewN_drewN ..⟩
      · have hd : Hid (d = true) := Lib.hid (by
          rw [HD.out, decide_eq_true_iff]
          exact same_of l m HL.out (fun q hq => HQ.out q (by omega)))
        go_wp2
        go_ret
        exact ⟨ret_bool hd.out.symm, _, rfl⟩
  · have hmz : ((l.length : Int) != (m.length : Int)) = true := by rw [bne_iff_ne]; omega
    have hd : Hid (d = false) := Lib.hid (by
      rw [HD.out, decide_eq_false_iff_not]
      intro e
      exact hlen (by rw [e]))
    clear hlen
    go_enter Tryz.func15, Tryz.ntmps15
    go_wp2
    go_ret
    exact ⟨ret_bool hd.out.symm, 0, rfl⟩
end Go.Proofs.YtaiihklfeoeoeaaGreat.W

/- looks: both tell the same. -/
namespace Go.Proofs.YtaiihklfeoeoeaaGreat.W
open Go.RowKit
open Go.Proofs.YtaiihklfeoeoeaaGreat.NM
set_option linter.unusedVariables false
set_option linter.unusedSimpArgs false

theorem list_few {T : PT} (h : TOk T) (p : List UInt8) : (tList T p).1.length ≤ 1000 := by
  have hl := tok_len h
  unfold tList
  split
  · simp
  · split
    · simp
    · unfold entsOf namesOf
      rw [List.length_map, List.length_mergeSort, List.length_map]
      have := List.length_filter_le (fun x : Th => x.dir == (tLook T p).1) T
      omega

set_option maxHeartbeats 8000000 in
set_option maxRecDepth 100000 in
theorem looks_any {K : List Nat} {w0 w : World} {t b : Nat} {T : PT} (h : Both K w0 w t b T T) (s : ByteArray) (hs : s.size ≤ 1000) :
    Calls Tryz.prog 9 #[.pointer (some ⟨t, 0, none⟩), .pointer (some ⟨b, 0, none⟩), .string s] w fun e w' => e = .returned (.bool true) ∧ Chg [] w w' := by
  obtain ⟨S, v, H2, _⟩ := h
  have HO := Lib.hid H2.ours
  have HRf := Lib.hid H2.refs
  have hok := Lib.hid H2.ours.ok
  have hTl := tok_len H2.ours.ok
  have hl2 := Lib.hid (treeB_len hok.out)
  have hml : s.size ≤ maxLen := by unfold maxLen; omega
  have HML := Lib.hid hml
  have hfew := Lib.hid (list_few hok.out s.data.toList)
  obtain ⟨lk, hlk⟩ : ∃ lk, lk = tLook T s.data.toList := ⟨_, rfl⟩
  obtain ⟨li, hli⟩ : ∃ li, li = tList T s.data.toList := ⟨_, rfl⟩
  have C1 := tlook_any t S T s w HO.out hml
  rw [← hlk] at C1
  have HC1 := Lib.hid C1
  have HC2 : Hid (∀ w2, Chg [] w w2 → Calls Tryz.prog 24 #[.pointer (some ⟨b, 0, none⟩), .string s] w2 (LookPost w2 lk)) := Lib.hid (fun w2 hc => by
    rw [hlk]; exact rlook_any b _ v T s w2 (HRf.out.keep0 hc) hs)
  have HC3 : Hid (∀ w2, Chg [] w w2 → Calls Tryz.prog 25 #[.pointer (some ⟨t, 0, none⟩), .string s] w2 (ListPost w2 li)) := Lib.hid (fun w2 hc => by
    rw [hli]; exact tlist_any t S T s w2 (HO.out.keep0 hc) HML.out (by omega))
  have HC4 : Hid (∀ w2, Chg [] w w2 → Calls Tryz.prog 26 #[.pointer (some ⟨b, 0, none⟩), .string s] w2 (ListPost w2 li)) := Lib.hid (fun w2 hc => by
    rw [hli]; exact rlist_any b _ v T s w2 (HRf.out.keep0 hc) hs)
  have HN : Hid (lk.1 ≤ 128) := Lib.hid (by
    rw [hlk]
    unfold tLook
    cases splitB s.data.toList with
    | none => simp
    | some l =>
      simp only
      split
      · simp
      · exact walk_small hok.out l 1 rfl)
  rw [← hli] at hfew
  clear H2 C1 hlk hli
  obtain ⟨n, dd, er⟩ := lk
  obtain ⟨L, le⟩ := li
  have hn := HN.out
  simp only at hn
  go_enter Tryz.func9, Tryz.ntmps9
  go_wp2_with fail
  refine HC1.out.mono ?_
  rintro e w1 ⟨rfl, hc1⟩
  have HW1 := Lib.hid hc1
  clear hc1
  go_wp2_with fail
  refine (HC2.out w1 HW1.out).mono ?_
  rintro e w2 ⟨rfl, hc2⟩
  have HW2 := Lib.hid (chg_tr HW1.out hc2)
  clear hc2
  go_wp2_with fail
  refine (HC3.out w2 HW2.out).mono ?_
  rintro e w3 ⟨v3, rfl, hr3, hc3⟩
  have HE3 := Lib.hid (ents_own hr3)
  have HW3 := Lib.hid (chg_tr HW2.out hc3)
  clear hr3 hc3
  go_wp2_with fail
  refine (HC4.out w3 HW3.out).mono ?_
  rintro e w4 ⟨v4, rfl, hr4, hc4⟩
  have HE4 := Lib.hid (ents_own hr4)
  have HE34 := Lib.hid (HE3.out.keep0 hc4)
  have HW4 := Lib.hid (chg_tr HW3.out hc4)
  clear hr4 hc4
  have hal : Chg [] w4 (w4.alloc (.cells #[.slice none 0 0, .int .i64 0] 69)) := (Chg.refl [] w4).alloc _
  have HAL := Lib.hid hal
  have HP5 := Lib.hid (new_pen 69 w4)
  have HR5 := Lib.hid (HRf.out.keep0 (chg_tr HW4.out hal))
  have HR4 := Lib.hid (HRf.out.keep0 HW4.out)
  clear hal
  go_wp2_with fail
  refine (rtwrite_any b _ v T w4.heap.size none [] _ HR5.out HP5.out (by have := HR4.out.lt; omega) (fun e => by have := (World.ownsRow.lt HR4.out.rows _ e).2; omega) (by simp) (by simp) (by simp)).mono ?_
  rintro e w6 ⟨rfl, h6⟩
  obtain ⟨g6, hp6, hg6, hc6⟩ := h6
  rw [List.nil_append] at hp6
  obtain ⟨vp, hb6, hr6, _, _, _⟩ := hp6
  have HBP := Lib.hid hr6.bytes
  have hp0 := blk_cell hb6 0 _ rfl
  have HC46 : Hid (Chg [] w4 w6) := Lib.hid (HAL.out.trans hc6 (fun x hx => .inr (by simp at hx; omega)))
  have HW6 := Lib.hid (chg_tr HW4.out HC46.out)
  have HEa := Lib.hid (HE34.out.keep0 HC46.out)
  have HEb := Lib.hid (HE4.out.keep0 HC46.out)
  obtain ⟨p, hp⟩ : ∃ p, p = w4.heap.size := ⟨_, rfl⟩
  rw [← hp] at hp0 ⊢
  have CS := Lib.hid (fun (X : World) (hX : Chg [] w6 X) => samee_any v3 v4 L X (HEa.out.keep0 hX) (HEb.out.keep0 hX) (by have h9 : L.length ≤ 1000 := hfew.out; omega))
  have CB := Lib.hid (fun (X : World) (hX : Chg [] w6 X) => tbytes_any t S T X (HO.out.keep0 (chg_tr HW6.out hX)))
  have CT := Lib.hid (fun (X : World) (hX : Chg [] w6 X) => thas_any t S T n X (HO.out.keep0 (chg_tr HW6.out hX)) (by omega))
  have CR := Lib.hid (fun (X : World) (hX : Chg [] w6 X) => rhas_any b _ v T n X (HRf.out.keep0 (chg_tr HW6.out hX)))
  generalize tHas T n = hh at *
  have HD6 : Hid (Chg [] w6 w6.drew) := Lib.hid ((Chg.refl [] w6).drew)
  clear hb6 hr6 hc6 hg6 hp
  go_upto_region 7 with (fail)
  refine wp_region_L [(30, fun w' => w'.cell? ⟨p, 0, none⟩ = some vp)] (by kernel_rfl) ?_ (fun hHeld => ?_)
  · exact (HoldC.cons (hp0) HoldC.nil)
  refine wpAnyL_take (i := 0) (oi := _) (v := ?_) rfl (by kernel_rfl) (by kernel_rfl) (by kernel_rfl) (by kernel_rfl) (by kernel_rfl) (fun _ _ _ h => h) (Or.inl ⟨by rfl, ?_⟩) (by assumption) (fun hNew => ?_)
  rotate_left
  · intro w _
    go_simp
    try with_reducible rfl
  clear hHeld
  have hHeld := hNew
  clear hNew
  try simp only [List.getElem_toArray, List.getElem_cons_succ, List.getElem_cons_zero, Act.put, List.setIfInBounds_toArray, List.set_cons_zero, List.set_cons_succ]
  refine wpAnyL_take (i := 1) (oi := _) (v := ?_) rfl (by kernel_rfl) (by kernel_rfl) (by kernel_rfl) (by kernel_rfl) (by kernel_rfl) (fun _ _ _ h => h) (Or.inl ⟨by rfl, ?_⟩) (by assumption) (fun hNew => ?_)
  rotate_left
  · intro w _
    go_simp
    try with_reducible rfl
  clear hHeld
  have hHeld := hNew
  clear hNew
  try simp only [List.getElem_toArray, List.getElem_cons_succ, List.getElem_cons_zero, Act.put, List.setIfInBounds_toArray, List.set_cons_zero, List.set_cons_succ]
  refine wpAnyL_take (i := 2) (oi := _) (v := ?_) rfl (by kernel_rfl) (by kernel_rfl) (by kernel_rfl) (by kernel_rfl) (by kernel_rfl) (fun _ _ _ h => h) (Or.inl ⟨by rfl, ?_⟩) (by assumption) (fun hNew => ?_)
  rotate_left
  · intro w _
    go_simp
    try with_reducible rfl
  clear hHeld
  have hHeld := hNew
  clear hNew
  try simp only [List.getElem_toArray, List.getElem_cons_succ, List.getElem_cons_zero, Act.put, List.setIfInBounds_toArray, List.set_cons_zero, List.set_cons_succ]
  refine wpAnyL_take (i := 3) (oi := _) (v := ?_) rfl (by kernel_rfl) (by kernel_rfl) (by kernel_rfl) (by kernel_rfl) (by kernel_rfl) (fun _ _ _ h => h) (Or.inl ⟨by rfl, ?_⟩) (by assumption) (fun hNew => ?_)
  rotate_left
  · intro w _
    go_simp
    try with_reducible rfl
  clear hHeld
  have hHeld := hNew
  clear hNew
  try simp only [List.getElem_toArray, List.getElem_cons_succ, List.getElem_cons_zero, Act.put, List.setIfInBounds_toArray, List.set_cons_zero, List.set_cons_succ]
  refine wpAnyL_take (i := 4) (oi := _) (v := ?_) rfl (by kernel_rfl) (by kernel_rfl) (by kernel_rfl) (by kernel_rfl) (by kernel_rfl) (fun _ _ _ h => h) (Or.inl ⟨by rfl, ?_⟩) (by assumption) (fun hNew => ?_)
  rotate_left
  · intro w _
    go_simp
    try with_reducible rfl
  clear hHeld
  have hHeld := hNew
  clear hNew
  try simp only [List.getElem_toArray, List.getElem_cons_succ, List.getElem_cons_zero, Act.put, List.setIfInBounds_toArray, List.set_cons_zero, List.set_cons_succ]
  refine wpAnyL_take (i := 5) (oi := _) (v := ?_) rfl (by kernel_rfl) (by kernel_rfl) (by kernel_rfl) (by kernel_rfl) (by kernel_rfl) (fun _ _ _ h => h) (Or.inl ⟨by rfl, ?_⟩) (by assumption) (fun hNew => ?_)
  rotate_left
  · intro w _
    go_simp
    try with_reducible rfl
  clear hHeld
  have hHeld := hNew
  clear hNew
  try simp only [List.getElem_toArray, List.getElem_cons_succ, List.getElem_cons_zero, Act.put, List.setIfInBounds_toArray, List.set_cons_zero, List.set_cons_succ]
  refine wpAnyL_take (i := 6) (oi := _) (v := ?_) rfl (by kernel_rfl) (by kernel_rfl) (by kernel_rfl) (by kernel_rfl) (by kernel_rfl) (fun _ _ _ h => h) (Or.inl ⟨by rfl, ?_⟩) (by assumption) (fun hNew => ?_)
  rotate_left
  · intro w _
    go_simp
    try with_reducible rfl
  clear hHeld
  have hHeld := hNew
  clear hNew
  try simp only [List.getElem_toArray, List.getElem_cons_succ, List.getElem_cons_zero, Act.put, List.setIfInBounds_toArray, List.set_cons_zero, List.set_cons_succ]
  refine wpAnyL_take (i := 7) (oi := _) (v := ?_) rfl (by kernel_rfl) (by kernel_rfl) (by kernel_rfl) (by kernel_rfl) (by kernel_rfl) (fun _ _ _ h => h) (Or.inl ⟨by rfl, ?_⟩) (by assumption) (fun hNew => ?_)
  rotate_left
  · intro w _
    go_simp
    try with_reducible rfl
  clear hHeld
  have hHeld := hNew
  clear hNew
  try simp only [List.getElem_toArray, List.getElem_cons_succ, List.getElem_cons_zero, Act.put, List.setIfInBounds_toArray, List.set_cons_zero, List.set_cons_succ]
  refine wpAnyL_take (i := 8) (oi := _) (v := ?_) rfl (by kernel_rfl) (by kernel_rfl) (by kernel_rfl) (by kernel_rfl) (by kernel_rfl) (fun _ _ _ h => h) (Or.inl ⟨by rfl, ?_⟩) (by assumption) (fun hNew => ?_)
  rotate_left
  · intro w _
    go_simp
    try with_reducible rfl
  clear hHeld
  have hHeld := hNew
  clear hNew
  try simp only [List.getElem_toArray, List.getElem_cons_succ, List.getElem_cons_zero, Act.put, List.setIfInBounds_toArray, List.set_cons_zero, List.set_cons_succ]
  refine wpAnyL_take (i := 9) (oi := _) (v := ?_) rfl (by kernel_rfl) (by kernel_rfl) (by kernel_rfl) (by kernel_rfl) (by kernel_rfl) (fun _ _ _ h => h) (Or.inl ⟨by rfl, ?_⟩) (by assumption) (fun hNew => ?_)
  rotate_left
  · intro w _
    go_simp
    try with_reducible rfl
  clear hHeld
  have hHeld := hNew
  clear hNew
  try simp only [List.getElem_toArray, List.getElem_cons_succ, List.getElem_cons_zero, Act.put, List.setIfInBounds_toArray, List.set_cons_zero, List.set_cons_succ]
  refine wpAnyL_take (i := 10) (oi := _) (v := ?_) rfl (by kernel_rfl) (by kernel_rfl) (by kernel_rfl) (by kernel_rfl) (by kernel_rfl) (fun _ _ _ h => h) (Or.inl ⟨by rfl, ?_⟩) (by assumption) (fun hNew => ?_)
  rotate_left
  · intro w _
    go_simp
    try with_reducible rfl
  clear hHeld
  have hHeld := hNew
  clear hNew
  try simp only [List.getElem_toArray, List.getElem_cons_succ, List.getElem_cons_zero, Act.put, List.setIfInBounds_toArray, List.set_cons_zero, List.set_cons_succ]
  refine wpAnyL_take (i := 11) (oi := _) (v := ?_) rfl (by kernel_rfl) (by kernel_rfl) (by kernel_rfl) (by kernel_rfl) (by kernel_rfl) (fun _ _ _ h => h) (Or.inl ⟨by rfl, ?_⟩) (by assumption) (fun hNew => ?_)
  rotate_left
  · intro w _
    go_simp
    try with_reducible rfl
  clear hHeld
  have hHeld := hNew
  clear hNew
  try simp only [List.getElem_toArray, List.getElem_cons_succ, List.getElem_cons_zero, Act.put, List.setIfInBounds_toArray, List.set_cons_zero, List.set_cons_succ]
  refine wpAnyL_take (i := 12) (oi := _) (v := ?_) rfl (by kernel_rfl) (by kernel_rfl) (by kernel_rfl) (by kernel_rfl) (by kernel_rfl) (fun _ _ _ h => h) (Or.inl ⟨by rfl, ?_⟩) (by assumption) (fun hNew => ?_)
  rotate_left
  · intro w _
    go_simp
    try with_reducible rfl
  clear hHeld
  have hHeld := hNew
  clear hNew
  try simp only [List.getElem_toArray, List.getElem_cons_succ, List.getElem_cons_zero, Act.put, List.setIfInBounds_toArray, List.set_cons_zero, List.set_cons_succ]
  refine wpAnyL_take (i := 13) (oi := _) (v := ?_) rfl (by kernel_rfl) (by kernel_rfl) (by kernel_rfl) (by kernel_rfl) (by kernel_rfl) (fun _ _ _ h => h) (Or.inl ⟨by rfl, ?_⟩) (by assumption) (fun hNew => ?_)
  rotate_left
  · intro w _
    go_simp
    try with_reducible rfl
  clear hHeld
  have hHeld := hNew
  clear hNew
  try simp only [List.getElem_toArray, List.getElem_cons_succ, List.getElem_cons_zero, Act.put, List.setIfInBounds_toArray, List.set_cons_zero, List.set_cons_succ]
  refine wpAnyL_take (i := 14) (oi := _) (v := ?_) rfl (by kernel_rfl) (by kernel_rfl) (by kernel_rfl) (by kernel_rfl) (by kernel_rfl) (fun _ _ _ h => h) (Or.inl ⟨by rfl, ?_⟩) (by assumption) (fun hNew => ?_)
  rotate_left
  · intro w _
    go_simp
    try with_reducible rfl
  clear hHeld
  have hHeld := hNew
  clear hNew
  try simp only [List.getElem_toArray, List.getElem_cons_succ, List.getElem_cons_zero, Act.put, List.setIfInBounds_toArray, List.set_cons_zero, List.set_cons_succ]
  refine wpAnyL_take (i := 15) (oi := _) (v := ?_) rfl (by kernel_rfl) (by kernel_rfl) (by kernel_rfl) (by kernel_rfl) (by kernel_rfl) (fun _ _ _ h => h) (Or.inl ⟨by rfl, ?_⟩) (by assumption) (fun hNew => ?_)
  rotate_left
  · intro w _
    go_simp
    try with_reducible rfl
  clear hHeld
  have hHeld := hNew
  clear hNew
  try simp only [List.getElem_toArray, List.getElem_cons_succ, List.getElem_cons_zero, Act.put, List.setIfInBounds_toArray, List.set_cons_zero, List.set_cons_succ]
  refine wpAnyL_take (i := 16) (oi := _) (v := ?_) rfl (by kernel_rfl) (by kernel_rfl) (by kernel_rfl) (by kernel_rfl) (by kernel_rfl) (fun _ _ _ h => h) (Or.inl ⟨by rfl, ?_⟩) (by assumption) (fun hNew => ?_)
  rotate_left
  · intro w _
    go_simp
    try with_reducible rfl
  clear hHeld
  have hHeld := hNew
  clear hNew
  try simp only [List.getElem_toArray, List.getElem_cons_succ, List.getElem_cons_zero, Act.put, List.setIfInBounds_toArray, List.set_cons_zero, List.set_cons_succ]
  refine wpAnyL_take (i := 17) (oi := _) (v := ?_) rfl (by kernel_rfl) (by kernel_rfl) (by kernel_rfl) (by kernel_rfl) (by kernel_rfl) (fun _ _ _ h => h) (Or.inl ⟨by rfl, ?_⟩) (by assumption) (fun hNew => ?_)
  rotate_left
  · intro w _
    go_simp
    try with_reducible rfl
  clear hHeld
  have hHeld := hNew
  clear hNew
  try simp only [List.getElem_toArray, List.getElem_cons_succ, List.getElem_cons_zero, Act.put, List.setIfInBounds_toArray, List.set_cons_zero, List.set_cons_succ]
  refine wpAnyL_take (i := 18) (oi := _) (v := ?_) rfl (by kernel_rfl) (by kernel_rfl) (by kernel_rfl) (by kernel_rfl) (by kernel_rfl) (fun _ _ _ h => h) (Or.inl ⟨by rfl, ?_⟩) (by assumption) (fun hNew => ?_)
  rotate_left
  · intro w _
    go_simp
    try with_reducible rfl
  clear hHeld
  have hHeld := hNew
  clear hNew
  try simp only [List.getElem_toArray, List.getElem_cons_succ, List.getElem_cons_zero, Act.put, List.setIfInBounds_toArray, List.set_cons_zero, List.set_cons_succ]
  refine wpAnyL_take (i := 19) (oi := _) (v := ?_) rfl (by kernel_rfl) (by kernel_rfl) (by kernel_rfl) (by kernel_rfl) (by kernel_rfl) (fun _ _ _ h => h) (Or.inl ⟨by rfl, ?_⟩) (by assumption) (fun hNew => ?_)
  rotate_left
  · intro w _
    go_simp
    try with_reducible rfl
  clear hHeld
  have hHeld := hNew
  clear hNew
  try simp only [List.getElem_toArray, List.getElem_cons_succ, List.getElem_cons_zero, Act.put, List.setIfInBounds_toArray, List.set_cons_zero, List.set_cons_succ]
  refine wpAnyL_take (i := 20) (oi := _) (v := ?_) rfl (by kernel_rfl) (by kernel_rfl) (by kernel_rfl) (by kernel_rfl) (by kernel_rfl) (fun _ _ _ h => h) (Or.inl ⟨by rfl, ?_⟩) (by assumption) (fun hNew => ?_)
  rotate_left
  · intro w _
    go_simp
    try with_reducible rfl
  clear hHeld
  have hHeld := hNew
  clear hNew
  try simp only [List.getElem_toArray, List.getElem_cons_succ, List.getElem_cons_zero, Act.put, List.setIfInBounds_toArray, List.set_cons_zero, List.set_cons_succ]
  refine wpAnyL_ready (rs := [21]) (by kernel_rfl) (by simp) ?_
  refine AllReadyL.cons (o := _) rfl (fun K hK => ?_) AllReadyL.nil
  try simp only [List.getElem_toArray, List.getElem_cons_succ, List.getElem_cons_zero]
  go_simp
  refine (CS.out _ HD6.out).mono ?_
  rintro e w7 ⟨rfl, n7, hw7⟩
  have HC7 : Hid (Chg [] w6 w7) := Lib.hid (by rw [hw7]; exact HD6.out.drewN _)
  have p7 := HC7.out.cell hp0 (by simp)
  clear hw7
  try go_wp2_with fail
  clear hHeld
  refine hK.out _ _ ?_ (fun hHeld => ?_)
  · exact (HoldC.cons (p7) HoldC.nil)
  clear hK K
  try simp only [List.getElem_toArray, List.getElem_cons_succ, List.getElem_cons_zero, Act.put, List.setIfInBounds_toArray, List.set_cons_zero, List.set_cons_succ]
  refine wpAnyL_take (i := 22) (oi := _) (v := ?_) rfl (by kernel_rfl) (by kernel_rfl) (by kernel_rfl) (by kernel_rfl) (by kernel_rfl) (fun _ _ _ h => h) (Or.inl ⟨by rfl, ?_⟩) (by assumption) (fun hNew => ?_)
  rotate_left
  · intro w _
    go_simp
    try with_reducible rfl
  clear hHeld
  have hHeld := hNew
  clear hNew
  try simp only [List.getElem_toArray, List.getElem_cons_succ, List.getElem_cons_zero, Act.put, List.setIfInBounds_toArray, List.set_cons_zero, List.set_cons_succ]
  refine wpAnyL_take (i := 23) (oi := _) (v := ?_) rfl (by kernel_rfl) (by kernel_rfl) (by kernel_rfl) (by kernel_rfl) (by kernel_rfl) (fun _ _ _ h => h) (Or.inl ⟨by rfl, ?_⟩) (by assumption) (fun hNew => ?_)
  rotate_left
  · intro w _
    go_simp
    try with_reducible rfl
  clear hHeld
  have hHeld := hNew
  clear hNew
  try simp only [List.getElem_toArray, List.getElem_cons_succ, List.getElem_cons_zero, Act.put, List.setIfInBounds_toArray, List.set_cons_zero, List.set_cons_succ]
  refine wpAnyL_take (i := 24) (oi := _) (v := ?_) rfl (by kernel_rfl) (by kernel_rfl) (by kernel_rfl) (by kernel_rfl) (by kernel_rfl) (fun _ _ _ h => h) (Or.inl ⟨by rfl, ?_⟩) (by assumption) (fun hNew => ?_)
  rotate_left
  · intro w _
    go_simp
    try with_reducible rfl
  clear hHeld
  have hHeld := hNew
  clear hNew
  try simp only [List.getElem_toArray, List.getElem_cons_succ, List.getElem_cons_zero, Act.put, List.setIfInBounds_toArray, List.set_cons_zero, List.set_cons_succ]
  refine wpAnyL_take (i := 26) (oi := _) (v := ?_) rfl (by kernel_rfl) (by kernel_rfl) (by kernel_rfl) (by kernel_rfl) (by kernel_rfl) (fun _ _ _ h => h) (Or.inl ⟨by rfl, ?_⟩) (by assumption) (fun hNew => ?_)
  rotate_left
  · intro w _
    go_simp
    try with_reducible rfl
  clear hHeld
  have hHeld := hNew
  clear hNew
  try simp only [List.getElem_toArray, List.getElem_cons_succ, List.getElem_cons_zero, Act.put, List.setIfInBounds_toArray, List.set_cons_zero, List.set_cons_succ]
  refine wpAnyL_take (i := 27) (oi := _) (v := ?_) rfl (by kernel_rfl) (by kernel_rfl) (by kernel_rfl) (by kernel_rfl) (by kernel_rfl) (fun _ _ _ h => h) (Or.inl ⟨by rfl, ?_⟩) (by assumption) (fun hNew => ?_)
  rotate_left
  · intro w _
    go_simp
    try with_reducible rfl
  clear hHeld
  have hHeld := hNew
  clear hNew
  try simp only [List.getElem_toArray, List.getElem_cons_succ, List.getElem_cons_zero, Act.put, List.setIfInBounds_toArray, List.set_cons_zero, List.set_cons_succ]
  refine wpAnyL_take (i := 28) (oi := _) (v := ?_) rfl (by kernel_rfl) (by kernel_rfl) (by kernel_rfl) (by kernel_rfl) (by kernel_rfl) (fun _ _ _ h => h) (Or.inl ⟨by rfl, ?_⟩) (by assumption) (fun hNew => ?_)
  rotate_left
  · intro w _
    go_simp
    try with_reducible rfl
  clear hHeld
  have hHeld := hNew
  clear hNew
  try simp only [List.getElem_toArray, List.getElem_cons_succ, List.getElem_cons_zero, Act.put, List.setIfInBounds_toArray, List.set_cons_zero, List.set_cons_succ]
  refine wpAnyL_load 0 (i := 29) (oi := _) (v := ?_) rfl rfl (by kernel_rfl) (by kernel_rfl) (by kernel_rfl) (by kernel_rfl) (by kernel_rfl) (by kernel_rfl) (fun _ _ _ h => h) (Or.inl ⟨by rfl, ?_⟩) (by assumption) (fun hNew => ?_)
  rotate_left
  · intro w hSw
    (try dsimp only at hSw)
    go_simp
    try with_reducible rfl
  clear hHeld
  have hHeld := hNew
  clear hNew
  try simp only [List.getElem_toArray, List.getElem_cons_succ, List.getElem_cons_zero, Act.put, List.setIfInBounds_toArray, List.set_cons_zero, List.set_cons_succ]
  refine wpAnyL_ready (rs := [25]) (by kernel_rfl) (by simp) ?_
  refine AllReadyL.cons (o := _) rfl (fun K hK => ?_) AllReadyL.nil
  try simp only [List.getElem_toArray, List.getElem_cons_succ, List.getElem_cons_zero]
  go_simp
  refine (CB.out _ HC7.out).mono ?_
  rintro e w8 ⟨v8, rfl, hr8, hv8, hc8⟩
  have HB8 := Lib.hid hr8.bytes
  have HC8 := Lib.hid (chg_tr HC7.out hc8)
  have p8 := HC8.out.cell hp0 (by simp)
  have HBP8 := Lib.hid (HBP.out.keep (fun g hg => HC8.out.block g (by
    obtain ⟨a, c, rfl, _, _, hh⟩ := HBP.out
    rcases hh with ⟨h1, h2⟩ | ⟨g', o, rfl, hcell⟩
    · have := hl2.out.1
      rw [h1] at this
      simp at this
    · have h3 := World.block_lt_of_cell? w6 _ (hcell 0 (by have := hl2.out.1; omega))
      have : g' = g := by simpa [Value.ownBlock] using hg
      subst this
      exact h3) (by simp)))
  clear hr8 hv8 hc8
  try go_wp2_with fail
  clear hHeld
  refine hK.out _ _ ?_ (fun hHeld => ?_)
  · exact (HoldC.cons (p8) HoldC.nil)
  clear hK K
  try simp only [List.getElem_toArray, List.getElem_cons_succ, List.getElem_cons_zero, Act.put, List.setIfInBounds_toArray, List.set_cons_zero, List.set_cons_succ]
  refine wpAnyL_ready (rs := [30]) (by kernel_rfl) (by simp) ?_
  refine AllReadyL.cons (o := _) rfl (fun K hK => ?_) AllReadyL.nil
  try simp only [List.getElem_toArray, List.getElem_cons_succ, List.getElem_cons_zero]
  go_simp
  refine (same_any v8 vp _ _ w8 HB8.out HBP8.out (by have := hl2.out; omega) (by have := hl2.out; omega)).mono ?_
  rintro e w9 ⟨he, n9, hw9⟩
  have HE9 : Hid (e = .returned (.bool true)) := Lib.hid (by rw [he, decide_eq_true rfl])
  have HC9 : Hid (Chg [] w6 w9) := Lib.hid (by rw [hw9]; exact HC8.out.drewN _)
  clear he hw9
  rw [HE9.out]
  try go_wp2_with fail
  clear hHeld
  refine hK.out _ _ ?_ (fun hHeld => ?_)
  · exact (HoldC.past (by kernel_rfl) HoldC.nil)
  clear hK K
  try simp only [List.getElem_toArray, List.getElem_cons_succ, List.getElem_cons_zero, Act.put, List.setIfInBounds_toArray, List.set_cons_zero, List.set_cons_succ]
  refine wpAnyL_take (i := 31) (oi := _) (v := ?_) rfl (by kernel_rfl) (by kernel_rfl) (by kernel_rfl) (by kernel_rfl) (by kernel_rfl) (fun _ _ _ h => h) (Or.inl ⟨by rfl, ?_⟩) (by assumption) (fun hNew => ?_)
  rotate_left
  · intro w _
    go_simp
    try with_reducible rfl
  clear hHeld
  have hHeld := hNew
  clear hNew
  try simp only [List.getElem_toArray, List.getElem_cons_succ, List.getElem_cons_zero, Act.put, List.setIfInBounds_toArray, List.set_cons_zero, List.set_cons_succ]
  refine wpAnyL_take (i := 32) (oi := _) (v := ?_) rfl (by kernel_rfl) (by kernel_rfl) (by kernel_rfl) (by kernel_rfl) (by kernel_rfl) (fun _ _ _ h => h) (Or.inl ⟨by rfl, ?_⟩) (by assumption) (fun hNew => ?_)
  rotate_left
  · intro w _
    go_simp
    try with_reducible rfl
  clear hHeld
  have hHeld := hNew
  clear hNew
  try simp only [List.getElem_toArray, List.getElem_cons_succ, List.getElem_cons_zero, Act.put, List.setIfInBounds_toArray, List.set_cons_zero, List.set_cons_succ]
  refine wpAnyL_take (i := 33) (oi := _) (v := ?_) rfl (by kernel_rfl) (by kernel_rfl) (by kernel_rfl) (by kernel_rfl) (by kernel_rfl) (fun _ _ _ h => h) (Or.inl ⟨by rfl, ?_⟩) (by assumption) (fun hNew => ?_)
  rotate_left
  · intro w _
    go_simp
    try with_reducible rfl
  clear hHeld
  have hHeld := hNew
  clear hNew
  try simp only [List.getElem_toArray, List.getElem_cons_succ, List.getElem_cons_zero, Act.put, List.setIfInBounds_toArray, List.set_cons_zero, List.set_cons_succ]
  refine wpAnyL_take (i := 34) (oi := _) (v := ?_) rfl (by kernel_rfl) (by kernel_rfl) (by kernel_rfl) (by kernel_rfl) (by kernel_rfl) (fun _ _ _ h => h) (Or.inl ⟨by rfl, ?_⟩) (by assumption) (fun hNew => ?_)
  rotate_left
  · intro w _
    go_simp
    try with_reducible rfl
  clear hHeld
  have hHeld := hNew
  clear hNew
  try simp only [List.getElem_toArray, List.getElem_cons_succ, List.getElem_cons_zero, Act.put, List.setIfInBounds_toArray, List.set_cons_zero, List.set_cons_succ]
  refine wpAnyL_take (i := 36) (oi := _) (v := ?_) rfl (by kernel_rfl) (by kernel_rfl) (by kernel_rfl) (by kernel_rfl) (by kernel_rfl) (fun _ _ _ h => h) (Or.inl ⟨by rfl, ?_⟩) (by assumption) (fun hNew => ?_)
  rotate_left
  · intro w _
    go_simp
    try with_reducible rfl
  clear hHeld
  have hHeld := hNew
  clear hNew
  try simp only [List.getElem_toArray, List.getElem_cons_succ, List.getElem_cons_zero, Act.put, List.setIfInBounds_toArray, List.set_cons_zero, List.set_cons_succ]
  refine wpAnyL_take (i := 37) (oi := _) (v := ?_) rfl (by kernel_rfl) (by kernel_rfl) (by kernel_rfl) (by kernel_rfl) (by kernel_rfl) (fun _ _ _ h => h) (Or.inl ⟨by rfl, ?_⟩) (by assumption) (fun hNew => ?_)
  rotate_left
  · intro w _
    go_simp
    try with_reducible rfl
  clear hHeld
  have hHeld := hNew
  clear hNew
  try simp only [List.getElem_toArray, List.getElem_cons_succ, List.getElem_cons_zero, Act.put, List.setIfInBounds_toArray, List.set_cons_zero, List.set_cons_succ]
  refine wpAnyL_ready (rs := [35]) (by kernel_rfl) (by simp) ?_
  refine AllReadyL.cons (o := _) rfl (fun K hK => ?_) AllReadyL.nil
  try simp only [List.getElem_toArray, List.getElem_cons_succ, List.getElem_cons_zero]
  go_simp
  refine (CT.out _ HC9.out).mono ?_
  rintro e wA ⟨rfl, hwA⟩
  subst hwA
  try go_wp2_with fail
  clear hHeld
  refine hK.out _ _ ?_ (fun hHeld => ?_)
  · exact (HoldC.past (by kernel_rfl) HoldC.nil)
  clear hK K
  try simp only [List.getElem_toArray, List.getElem_cons_succ, List.getElem_cons_zero, Act.put, List.setIfInBounds_toArray, List.set_cons_zero, List.set_cons_succ]
  refine wpAnyL_ready (rs := [38]) (by kernel_rfl) (by simp) ?_
  refine AllReadyL.cons (o := _) rfl (fun K hK => ?_) AllReadyL.nil
  try simp only [List.getElem_toArray, List.getElem_cons_succ, List.getElem_cons_zero]
  go_simp
  refine (CR.out _ HC9.out).mono ?_
  rintro e wB ⟨rfl, hwB⟩
  subst hwB
  try go_wp2_with fail
  clear hHeld
  refine hK.out _ _ ?_ (fun hHeld => ?_)
  · exact (HoldC.past (by kernel_rfl) HoldC.nil)
  clear hK K
  try simp only [List.getElem_toArray, List.getElem_cons_succ, List.getElem_cons_zero, Act.put, List.setIfInBounds_toArray, List.set_cons_zero, List.set_cons_succ]
  refine wpAnyL_take (i := 39) (oi := _) (v := ?_) rfl (by kernel_rfl) (by kernel_rfl) (by kernel_rfl) (by kernel_rfl) (by kernel_rfl) (fun _ _ _ h => h) (Or.inl ⟨by rfl, ?_⟩) (by assumption) (fun hNew => ?_)
  rotate_left
  · intro w _
    go_simp
    try with_reducible rfl
  clear hHeld
  have hHeld := hNew
  clear hNew
  try simp only [List.getElem_toArray, List.getElem_cons_succ, List.getElem_cons_zero, Act.put, List.setIfInBounds_toArray, List.set_cons_zero, List.set_cons_succ]
  refine wpAnyL_take (i := 40) (oi := _) (v := ?_) rfl (by kernel_rfl) (by kernel_rfl) (by kernel_rfl) (by kernel_rfl) (by kernel_rfl) (fun _ _ _ h => h) (Or.inl ⟨by rfl, ?_⟩) (by assumption) (fun hNew => ?_)
  rotate_left
  · intro w _
    go_simp
    try with_reducible rfl
  clear hHeld
  have hHeld := hNew
  clear hNew
  try simp only [List.getElem_toArray, List.getElem_cons_succ, List.getElem_cons_zero, Act.put, List.setIfInBounds_toArray, List.set_cons_zero, List.set_cons_succ]
  refine wpAnyL_take (i := 41) (oi := _) (v := ?_) rfl (by kernel_rfl) (by kernel_rfl) (by kernel_rfl) (by kernel_rfl) (by kernel_rfl) (fun _ _ _ h => h) (Or.inl ⟨by rfl, ?_⟩) (by assumption) (fun hNew => ?_)
  rotate_left
  · intro w _
    go_simp
    try with_reducible rfl
  clear hHeld
  have hHeld := hNew
  clear hNew
  try simp only [List.getElem_toArray, List.getElem_cons_succ, List.getElem_cons_zero, Act.put, List.setIfInBounds_toArray, List.set_cons_zero, List.set_cons_succ]
  refine wpAnyL_done (by kernel_rfl) ?_ _
  clear hHeld
  have HF := Lib.hid (chg_tr HW6.out HC9.out)
  go_wp2
  go_ret
  exact ⟨rfl, HF.out⟩
end Go.Proofs.YtaiihklfeoeoeaaGreat.W

/- Whatever is made, removed, moved: both say the same, in each answer and as a whole. -/
namespace Go.Proofs.YtaiihklfeoeoeaaGreat.treePlays
open Go.RowKit
open Go.Proofs.YtaiihklfeoeoeaaGreat.NM
open Go.Proofs.YtaiihklfeoeoeaaGreat.W
set_option linter.unusedVariables false
set_option linter.unusedSimpArgs false

theorem doT_same (T : PT) (x : Dd) : doB T T x = true := doB_self T x
theorem deed_at {W w : World} {a0 : Option Addr} {len0 k : Nat} {f0 : Nat → Dd} (h : DeedsAt W a0 len0 f0) (hc : Chg [] W w) (hk : k < len0) : ∃ g o, a0 = some ⟨g, o, none⟩ ∧ g < w.heap.size ∧ w.cell? ⟨g, o + k * 4, none⟩ = some (.int .i64 (f0 k).c) ∧ w.cell? ⟨g, o + k * 4 + 1, none⟩ = some (.string (mk (f0 k).p)) ∧
    w.cell? ⟨g, o + k * 4 + 2, none⟩ = some (.string (mk (f0 k).q)) ∧ w.cell? ⟨g, o + k * 4 + 3, none⟩ = some (.bool (f0 k).d) := by
  rcases h.keep hc with h0 | ⟨g, o, h1, h2⟩
  · omega
  · obtain ⟨c0, c1, c2, c3, _⟩ := h2 k hk
    exact ⟨g, o, h1, World.block_lt_of_cell? w _ c0, c0, c1, c2, c3⟩

set_option maxHeartbeats 8000000 in
set_option maxRecDepth 100000 in
theorem walk (a0 : Option Addr) (len0 cap0 : Nat) (f0 : Nat → Dd) (a1 : ByteArray) (W : World) (w0 : len0 ≤ maxLen ∧ DeedsAt W a0 len0 f0) (hp0 : a1.size ≤ maxLen) :
    Calls Tryz.prog 3 #[.slice a0 len0 cap0, .string a1] W fun e W' => e = .returned (.bool true) ∧ Below W.heap.size W W' := by
  obtain ⟨hlm, hd0⟩ := w0
  have CA := Lib.hid (tawake_any W)
  have HD := Lib.hid hd0
  have HLM := Lib.hid hlm
  unfold maxLen at hlm hp0
  clear hd0
  go_enter Tryz.func3, Tryz.ntmps3
  go_wp2_with fail
  refine CA.out.mono ?_
  rintro e wa ⟨rfl, hc1⟩
  have HC1 := Lib.hid hc1
  have CR := Lib.hid (room_any a0 len0 cap0 f0 80 wa (HD.out.keep hc1) HLM.out)
  clear hc1 CA
  by_cases hroom : roomB len0 f0 80 = true ∧ a1.size ≤ 300
  · obtain ⟨hr1, hp3⟩ := hroom
    obtain ⟨hn80, hsmall⟩ := room_true hr1
    rw [hr1] at CR
    have HSM := Lib.hid hsmall
    clear hr1 hsmall hp0
    go_wp2_with fail
    refine CR.out.mono ?_
    rintro e w' ⟨rfl, rfl⟩
    go_wp2_with fail
    refine (onew_any HC1.out).mono ?_
    rintro e w2 ⟨t, rfl, ht⟩
    have HB0 := Lib.hid ht.both
    clear ht CR
    obtain ⟨b, hb⟩ : ∃ b, b = w2.heap.size := ⟨_, rfl⟩
    rw [← hb] at HB0
    go_wp2
    rw [← hb]
    clear hb
    go_loopg [7] len0 (fun gh v7 wr => ∃ k : Nat, v7 = .int .i64 k ∧ k ≤ len0 ∧ len0 ≤ k + gh ∧ Hid (∃ T, Both [] W wr t b T T))
    case atStart => exact ⟨0, rfl, by omega, by omega, Lib.hid ⟨[], HB0.out⟩⟩
    case round =>
      obtain ⟨k, rfl, hk, hkg, HO⟩ := hrel
      obtain ⟨T, hT⟩ := HO.out
      by_cases hlt : k < len0
      · obtain ⟨g, o, rfl, hgl, c0, c1, c2, c3⟩ := deed_at HD.out hT.chg hlt
        have HDA : Hid (∀ w', Chg [] W w' → w'.cell? ⟨g, o + k * 4 + 1, none⟩ = some (.string (mk (f0 k).p))) := Lib.hid (fun w' hc => by
          obtain ⟨g', o', e, _, _, c1, _, _⟩ := deed_at HD.out hc hlt
          simp only [Option.some.injEq, Addr.mk.injEq, and_true] at e
          obtain ⟨rfl, rfl⟩ := e
          exact c1)
        have hx1 := (HSM.out k hlt).1
        have hx2 := (HSM.out k hlt).2
        have HT := Lib.hid hT
        generalize f0 k = x at *
        have CD := do_any HT.out x (by omega) (by omega)
        rw [doB_self] at CD
        have HCD := Lib.hid CD
        have hkz : (k : Int) < (len0 : Int) := by omega
        clear hT CD
        go_wp2_with fail
        refine HCD.out.mono ?_
        rintro e w3 ⟨rfl, h3, _⟩
        have H3 := Lib.hid h3
        have d1 := HDA.out w3 h3.chg
        clear h3 HCD c0 c1 c2 c3
        go_wp2_with fail
        refine (looks_any H3.out (mk x.p) (by rw [size_len, data_mk]; omega)).mono ?_
        rintro e w4 ⟨rfl, hc4⟩
        have H4 := Lib.hid (H3.out.keep hc4)
        clear hc4 d1
        go_wp2_with fail
        refine (looks_any H4.out a1 (by omega)).mono ?_
        rintro e w5 ⟨rfl, hc5⟩
        have H5 := Lib.hid (H4.out.keep hc5)
        clear hc5
        go_wp2_with fail
        refine (looks_any H5.out (mk [47]) (by decide)).mono ?_
        rintro e w6 ⟨rfl, hc6⟩
        have H6 := Lib.hid (H5.out.keep hc6)
        clear hc6
        go_wp2
        go_roundg (len0 - k - 1)
        case measure => omega
        case rel => exact ⟨k + 1, by go_num, by omega, by omega, Lib.hid ⟨_, H6.out⟩⟩
      · obtain ⟨S, v, H2, _⟩ := hT
        have HOu := Lib.hid H2.ours
        have HRe := Lib.hid H2.refs
        have HCh := Lib.hid H2.chg
        have hTl := tok_len H2.ours.ok
        clear H2 HO
        go_wp2_with fail
        refine (tinos_any t S T wr HOu.out).mono ?_
        rintro e w3 ⟨va, rfl, hra, hca⟩
        obtain ⟨aa, ca, rfl, hrow, _⟩ := rowAt_own hra
        have HRA := Lib.hid hrow
        have HCA := Lib.hid hca
        have HR3 := Lib.hid (HRe.out.keep0 hca)
        clear hra hca hrow
        go_wp2_with fail
        refine (rinos_any b _ v T w3 HR3.out).mono ?_
        rintro e w4 ⟨vb, rfl, hrb, hcb⟩
        obtain ⟨ab, cb, rfl, hrowb, _⟩ := rowAt_own hrb
        have HRB := Lib.hid hrowb
        have HCB := Lib.hid hcb
        have HF : Hid (Chg [] W w4) := Lib.hid (chg_tr HCh.out (chg_tr HCA.out hcb))
        clear hrb hcb hrowb
        obtain ⟨m, hm⟩ : ∃ m, m = (inosL T).length := ⟨_, rfl⟩
        have hml : m ≤ 200 := by rw [hm, inosL_len]; omega
        rw [← hm] at HRA HRB ⊢
        have HMm := Lib.hid hm
        clear hm
        go_wp2
        go_loopw [10] (fun v10 wx => ∃ k : Nat, v10 = .int .i64 k ∧ k ≤ m ∧ ∃ n, wx = w4.drewN n) (fun v10 _ => m - (intOf v10).toNat)
        case atStart => exact ⟨0, rfl, by omega, 0, rfl⟩
        case round =>
          obtain ⟨q, rfl, hq, n, rfl⟩ := hrel
          by_cases hqm : q < m
          · obtain ⟨ga, oa, rfl, hga, hca⟩ : ∃ ga oa, aa = some ⟨ga, oa, none⟩ ∧ ga < w3.heap.size ∧ ∀ i, i < m → w3.cell? ⟨ga, oa + i, none⟩ = some (((inosL T).map (Value.int .i64)).getD i undef) := by
              rcases HRA.out with h0 | h0
              · omega
              · exact h0
            obtain ⟨gb, ob, rfl, hgb, hcb⟩ : ∃ gb ob, ab = some ⟨gb, ob, none⟩ ∧ gb < w4.heap.size ∧ ∀ i, i < m → w4.cell? ⟨gb, ob + i, none⟩ = some (((inosL T).map (Value.int .i64)).getD i undef) := by
              rcases HRB.out with h0 | h0
              · omega
              · exact h0
            have ea := HCB.out.cell (hca q hqm) (by simp)
            have eb := hcb q hqm
            have hz : ∃ z : Int, ((inosL T).map (Value.int .i64)).getD q undef = .int .i64 z := by
              have hl : q < (inosL T).length := by
                rw [← HMm.out]; exact hqm
              refine ⟨(inosL T)[q], ?_⟩
              rw [List.getD_eq_getElem?_getD, List.getElem?_map, List.getElem?_eq_getElem hl]; rfl
            obtain ⟨z, hz⟩ := hz
            rw [hz] at ea eb
            have hqz : (q : Int) < (m : Int) := by omega
            clear hca hcb hz
            go_wp2_with fail
            go_quiet (fail)
            go_wp2
            go_roundw
            case rel => exact ⟨q + 1, by go_num, by omega, _, by first | rfl | rw [World.drewN_drewN] | simp⟩
            case measure => simp [intOf]; omega
          · have HF2 : Hid (Chg [] W (w4.drewN n)) := Lib.hid (HF.out.drewN n)
            go_wp2
            go_ret
            exact ⟨rfl, HF2.out.below (by simp)⟩
  · have HNR := Lib.hid hroom
    clear hroom
    generalize hrb : roomB len0 f0 80 = rb at *
    have HRB := Lib.hid hrb
    clear hrb
    cases rb with
    | false =>
      go_wp2_with fail
      refine CR.out.mono ?_
      rintro e w' ⟨rfl, rfl⟩
      go_wp2
      go_ret
      exact ⟨rfl, HC1.out.below (by simp)⟩
    | true =>
      have hp3 : ¬ a1.size ≤ 300 := fun h => HNR.out ⟨rfl, h⟩
      go_wp2_with fail
      refine CR.out.mono ?_
      rintro e w' ⟨rfl, rfl⟩
      go_wp2
      go_ret
      exact ⟨rfl, HC1.out.below (by simp)⟩
end Go.Proofs.YtaiihklfeoeoeaaGreat.treePlays

/- Paths in a tree, plainly: one thing has one path; each thing is below the root. -/
namespace Go.Proofs.YtaiihklfeoeoeaaGreat.W
open Go.Proofs.YtaiihklfeoeoeaaGreat.NM
set_option linter.unusedVariables false
set_option linter.unusedSimpArgs false

theorem walk_app (T : PT) : ∀ (l m : List (List UInt8)) (a : Nat), (tWalk T l a).2 = 0 → tWalk T (l ++ m) a = tWalk T m (tWalk T l a).1
  | [], m, a, _ => rfl
  | s :: l, m, a, h => by
    unfold tWalk at h
    rw [List.cons_append]
    conv => lhs; unfold tWalk
    conv => rhs; arg 3; unfold tWalk
    by_cases h1 : tIsDir T a = false
    · rw [if_pos h1] at h; cases h
    · rw [if_neg h1] at h ⊢
      rw [if_neg h1]
      by_cases h3 : tKid T a s = 0
      · rw [if_pos h3] at h; cases h
      · rw [if_neg h3] at h ⊢
        rw [if_neg h3]
        exact walk_app T l m _ h
theorem walk_stop (T : PT) : ∀ (l m : List (List UInt8)) (a : Nat), (tWalk T l a).2 ≠ 0 → tWalk T (l ++ m) a = tWalk T l a
  | [], m, a, h => absurd rfl h
  | s :: l, m, a, h => by
    unfold tWalk at h
    rw [List.cons_append]
    unfold tWalk
    by_cases h1 : tIsDir T a = false
    · rw [if_pos h1, if_pos h1]
    · rw [if_neg h1] at h ⊢
      rw [if_neg h1]
      by_cases h3 : tKid T a s = 0
      · rw [if_pos h3, if_pos h3]
      · rw [if_neg h3] at h ⊢
        rw [if_neg h3]
        exact walk_stop T l m _ h
theorem walk_one (T : PT) (s : List UInt8) (a : Nat) : tWalk T [s] a = if tIsDir T a = false then (0, 10) else if tKid T a s = 0 then (0, 6) else (tKid T a s, 0) := rfl
theorem walk_snoc {T : PT} {l : List (List UInt8)} {s : List UInt8} {a c : Nat} (h : tWalk T l a = (c, 0)) (hd : tIsDir T c = true) (hk : tKid T c s ≠ 0) : tWalk T (l ++ [s]) a = (tKid T c s, 0) := by
  rw [walk_app T l [s] a (by rw [h]), h, walk_one, if_neg (by rw [hd]; simp), if_neg hk]
theorem walk_snoc_inv {T : PT} {l : List (List UInt8)} {s : List UInt8} {a b : Nat} (h : tWalk T (l ++ [s]) a = (b, 0)) : ∃ c, tWalk T l a = (c, 0) ∧ tIsDir T c = true ∧ tKid T c s = b ∧ tKid T c s ≠ 0 := by
  by_cases h2 : (tWalk T l a).2 = 0
  · rw [walk_app T l [s] a h2, walk_one] at h
    by_cases h1 : tIsDir T (tWalk T l a).1 = false
    · rw [if_pos h1] at h; cases h
    · rw [if_neg h1] at h
      by_cases h3 : tKid T (tWalk T l a).1 s = 0
      · rw [if_pos h3] at h; cases h
      · rw [if_neg h3] at h
        exact ⟨_, Prod.ext rfl h2, by simpa using h1, (Prod.mk.inj h).1, h3⟩
  · rw [walk_stop T l [s] a h2] at h
    rw [h] at h2; exact absurd rfl h2
theorem kid_some {T : PT} {c : Nat} {s : List UInt8} (h : tKid T c s ≠ 0) : ∃ x, tKidOf T c s = some x ∧ x ∈ T ∧ x.dir = c ∧ x.name = s ∧ tKid T c s = x.ino := by
  unfold tKid at h
  cases hk : tKidOf T c s with
  | none => rw [hk] at h; exact absurd rfl h
  | some x =>
    obtain ⟨h1, h2, h3⟩ := kidOf_some hk
    exact ⟨x, rfl, h1, h2, h3, by unfold tKid; rw [hk]⟩
theorem kid_of_mem {T : PT} (h : TOk T) {x : Th} (hx : x ∈ T) : tKid T x.dir x.name = x.ino ∧ tKid T x.dir x.name ≠ 0 := by
  have := (h.nums x hx).1
  have e : tKid T x.dir x.name = x.ino := by unfold tKid; rw [kidOf_mem h hx]
  exact ⟨e, by rw [e]; omega⟩
theorem ino_inj {T : PT} (h : TOk T) {x y : Th} (hx : x ∈ T) (hy : y ∈ T) (e : x.ino = y.ino) : x = y := by
  have h1 := get_mem h hx
  rw [e, get_mem h hy] at h1
  exact (Option.some.inj h1).symm
/-- One thing has one path. -/
theorem walk_uniq {T : PT} (h : TOk T) : ∀ (n : Nat) (l m : List (List UInt8)) (b : Nat), l.length = n → tWalk T l 1 = (b, 0) → tWalk T m 1 = (b, 0) → l = m
  | 0, l, m, b, hn, h1, h2 => by
    obtain rfl := List.eq_nil_of_length_eq_zero hn
    obtain rfl : 1 = b := (Prod.mk.inj h1).1
    rcases List.eq_nil_or_concat m with rfl | ⟨m', s, rfl⟩
    · rfl
    · rw [List.concat_eq_append] at h2
      obtain ⟨c, _, _, e, hk⟩ := walk_snoc_inv h2
      obtain ⟨x, _, hx, _, _, e2⟩ := kid_some hk
      have := (h.nums x hx).1
      omega
  | n + 1, l, m, b, hn, h1, h2 => by
    rcases List.eq_nil_or_concat l with rfl | ⟨l', s, rfl⟩
    · simp at hn
    · rw [List.concat_eq_append] at h1 hn ⊢
      obtain ⟨c, g1, g2, g3, g4⟩ := walk_snoc_inv h1
      obtain ⟨x, _, hx, xd, xn, xe⟩ := kid_some g4
      rcases List.eq_nil_or_concat m with rfl | ⟨m', s', rfl⟩
      · obtain rfl : 1 = b := (Prod.mk.inj h2).1
        have := (h.nums x hx).1
        omega
      · rw [List.concat_eq_append] at h2 ⊢
        obtain ⟨c', k1, k2, k3, k4⟩ := walk_snoc_inv h2
        obtain ⟨y, _, hy, yd, yn, ye⟩ := kid_some k4
        obtain rfl := ino_inj h hx hy (by omega)
        obtain rfl : c = c' := by omega
        obtain rfl : s = s' := by rw [← xn, yn]
        rw [walk_uniq h n l' m' c (by simpa using hn) g1 k1]
theorem walk_inj {T : PT} (h : TOk T) {l m : List (List UInt8)} {b : Nat} (h1 : tWalk T l 1 = (b, 0)) (h2 : tWalk T m 1 = (b, 0)) : l = m := walk_uniq h _ l m b rfl h1 h2

/-! ### Below the root -/
inductive Reach (T : PT) : Nat → Prop
  | root : Reach T 1
  | step {x : Th} : x ∈ T → Reach T x.dir → Reach T x.ino
def TR (T : PT) : Prop := ∀ x ∈ T, Reach T x.ino
theorem TR.nil : TR [] := fun x hx => by cases hx
theorem Reach.mono {T U : PT} (h : ∀ x ∈ T, x ∈ U) {a : Nat} (hr : Reach T a) : Reach U a := by
  induction hr with
  | root => exact .root
  | step hx _ ih => exact .step (h _ hx) ih
theorem walk_reach {T : PT} : ∀ (l : List (List UInt8)) (a b : Nat), Reach T a → tWalk T l a = (b, 0) → Reach T b
  | [], a, b, ha, h => by obtain rfl : a = b := (Prod.mk.inj h).1; exact ha
  | s :: l, a, b, ha, h => by
    unfold tWalk at h
    by_cases h1 : tIsDir T a = false
    · rw [if_pos h1] at h; cases h
    · rw [if_neg h1] at h
      by_cases h3 : tKid T a s = 0
      · rw [if_pos h3] at h; cases h
      · rw [if_neg h3] at h
        obtain ⟨x, _, hx, xd, xn, xe⟩ := kid_some h3
        rw [xe] at h
        exact walk_reach l _ b (.step hx (by rw [xd]; exact ha)) h
theorem place_walk {T : PT} {p : List UInt8} (h : (tPlace T p).2.2 = 0) : ∃ l s, splitB p = some (l ++ [s]) ∧ tWalk T l 1 = ((tPlace T p).1, 0) ∧ (tPlace T p).2.1 = s ∧ tIsDir T (tPlace T p).1 = true := by
  unfold tPlace at h ⊢
  cases hs : splitB p with
  | none => rw [hs] at h; cases h
  | some l =>
    rw [hs] at h
    simp only at h ⊢
    by_cases h0 : l = []
    · rw [if_pos h0] at h; cases h
    · rw [if_neg h0] at h ⊢
      by_cases h1 : (tWalk T l.dropLast 1).2 ≠ 0
      · rw [if_pos h1] at h; exact absurd h h1
      · rw [if_neg h1] at h ⊢
        by_cases h2 : tIsDir T (tWalk T l.dropLast 1).1 = false
        · rw [if_pos h2] at h; cases h
        · rw [if_neg h2]
          have e : l.dropLast ++ [l.getLastD []] = l := by
            rw [List.getLastD_eq_getLast?, List.getLast?_eq_some_getLast h0]
            exact List.dropLast_concat_getLast h0
          exact ⟨l.dropLast, l.getLastD [], by rw [e], Prod.ext rfl (by simpa using h1), rfl, by simpa using h2⟩
theorem TR.make {T : PT} (hT : TOk T) (h : TR T) (p : List UInt8) (d : Bool) : TR (tMake T p d).2 := by
  unfold tMake
  split
  · exact h
  · split
    · exact h
    · rename_i h0
      split
      · exact h
      · split
        · exact h
        · obtain ⟨l, s, _, hw, _, _⟩ := place_walk (T := T) (p := p) (by simpa using h0)
          have hr := walk_reach l 1 _ .root hw
          intro x hx
          have hm : ∀ z ∈ T, z ∈ tIns ⟨tLeast 2 T, (tPlace T p).1, (tPlace T p).2.1, d⟩ T := fun z hz => (mem_ins T z).2 (.inr hz)
          rcases (mem_ins T x).1 hx with rfl | hx'
          · exact .step hx (hr.mono hm)
          · exact (h x hx').mono hm
theorem reach_del {T : PT} {n : Nat} (hno : ∀ x ∈ T, x.dir ≠ n) {a : Nat} (hr : Reach T a) (ha : a ≠ n) : Reach (T.filter (fun x => x.ino != n)) a := by
  induction hr with
  | root => exact .root
  | @step x hx _ ih => exact .step (List.mem_filter.2 ⟨hx, by simpa using ha⟩) (ih (hno x hx))
theorem TR.remove {T : PT} (h : TR T) (p : List UInt8) (d : Bool) : TR (tRemove T p d).2 := by
  unfold tRemove
  split
  · exact h
  · split
    · exact h
    · split
      · exact h
      · split
        · exact h
        · split
          · exact h
          · rename_i h5
            intro x hx
            obtain ⟨h1, h2⟩ := List.mem_filter.1 hx
            refine reach_del (fun y hy e => h5 ?_) (h x h1) (by simpa using h2)
            rw [List.any_eq_true]
            exact ⟨y, hy, by simpa using e⟩
/-- A walk that doesn't meet n goes as before when n is given another name. -/
theorem walk_ren {T : PT} (hT : TOk T) {n q : Nat} {s : List UInt8} (hok : TOk (tRename T n q s)) : ∀ (l : List (List UInt8)) (a b : Nat), tWalk T l a = (b, 0) → (∀ k, k ≤ l.length → k ≠ 0 → tWalk T (l.take k) a ≠ (n, 0)) → tWalk (tRename T n q s) l a = (b, 0)
  | [], a, b, h, _ => h
  | u :: l, a, b, h, hno => by
    have h' := h
    unfold tWalk at h ⊢
    rw [isDir_ren]
    by_cases h1 : tIsDir T a = false
    · rw [if_pos h1] at h; cases h
    · rw [if_neg h1] at h ⊢
      by_cases h3 : tKid T a u = 0
      · rw [if_pos h3] at h; cases h
      · rw [if_neg h3] at h
        obtain ⟨x, _, hx, xd, xn, xe⟩ := kid_some h3
        have h1w : tWalk T ((u :: l).take 1) a = (x.ino, 0) := by
          show tWalk T [u] a = _
          rw [walk_one, if_neg h1, if_neg h3, xe]
        have hne : x.ino ≠ n := fun e => hno 1 (by simp) (by omega) (by rw [h1w, e])
        have hx' : x ∈ tRename T n q s := mem_ren.2 ⟨x, hx, by rw [if_neg hne]⟩
        have hk : tKid (tRename T n q s) a u = x.ino := by
          have := (kid_of_mem hok hx').1
          rw [xd, xn] at this; exact this
        have := (hT.nums x hx).1
        rw [hk, if_neg (by omega)]
        rw [xe] at h
        refine walk_ren hT hok l _ b h (fun k hk hk0 he => hno (k + 1) (by simp; omega) (by omega) ?_)
        rw [List.take_succ_cons]
        unfold tWalk
        rw [if_neg h1, if_neg h3, xe, he]
theorem look_walk {T : PT} {p : List UInt8} (h : (tLook T p).2.2 = 0) : ∃ l, splitB p = some l ∧ tWalk T l 1 = ((tLook T p).1, 0) ∧ (tLook T p).2.1 = tIsDir T (tLook T p).1 := by
  unfold tLook at h ⊢
  cases hs : splitB p with
  | none => rw [hs] at h; cases h
  | some l =>
    rw [hs] at h
    simp only at h ⊢
    by_cases h1 : (tWalk T l 1).2 ≠ 0
    · rw [if_pos h1] at h; exact absurd h h1
    · rw [if_neg h1]
      exact ⟨l, rfl, Prod.ext rfl (by simpa using h1), rfl⟩
/-- What a move that goes looks like. -/
theorem move_goes {T : PT} {p q : List UInt8} (h : (tMove T p q).1 = 0) : ∃ l m s n d, splitB p = some l ∧ splitB q = some (m ++ [s]) ∧ tWalk T l 1 = (n, 0) ∧ n ≠ 1 ∧ tWalk T m 1 = (d, 0) ∧ tIsDir T d = true ∧ tKid T d s = 0 ∧
    l.isPrefixOf (m ++ [s]) = false ∧ (m ++ [s]).isPrefixOf l = false ∧ tMove T p q = (0, tRename T n d s) ∧ tLook T p = (n, tIsDir T n, 0) := by
  have h0 := h
  unfold tMove at h
  by_cases h1 : (tLook T p).2.2 ≠ 0
  · rw [if_pos h1] at h; exact absurd h h1
  · rw [if_neg h1] at h
    by_cases h2 : (tLook T p).1 = 1
    · rw [if_pos h2] at h; cases h
    · rw [if_neg h2] at h
      by_cases h3 : splitB q = none
      · rw [if_pos h3] at h; cases h
      · rw [if_neg h3] at h
        by_cases h4 : (withinB q p || withinB p q) = true
        · rw [if_pos h4] at h; cases h
        · rw [if_neg h4] at h
          by_cases h5 : (tPlace T q).2.2 ≠ 0
          · rw [if_pos h5] at h; exact absurd h h5
          · rw [if_neg h5] at h
            by_cases h6 : tKid T (tPlace T q).1 (tPlace T q).2.1 ≠ 0
            · rw [if_pos h6] at h; cases h
            · obtain ⟨l, e1, e2, e3⟩ := look_walk (T := T) (p := p) (by simpa using h1)
              obtain ⟨m, s, f1, f2, f3, f4⟩ := place_walk (T := T) (p := q) (by simpa using h5)
              have hw : withinB q p = false ∧ withinB p q = false := by simpa using h4
              unfold withinB at hw
              rw [e1, f1] at hw
              refine ⟨l, m, s, _, _, e1, f1, e2, h2, f2, f4, by rw [← f3]; simpa using h6, hw.1, hw.2, ?_, ?_⟩
              · unfold tMove
                rw [if_neg h1, if_neg h2, if_neg h3, if_neg h4, if_neg h5, if_neg h6, f3]
              · exact Prod.ext rfl (Prod.ext e3 (by simpa using h1))
theorem move_stays {T : PT} {p q : List UInt8} (h : (tMove T p q).1 ≠ 0) : (tMove T p q).2 = T := by
  unfold tMove at h ⊢
  split
  · rfl
  · split
    · rfl
    · split
      · rfl
      · split
        · rfl
        · split
          · rfl
          · split
            · rfl
            · rename_i h1 h2 h3 h4 h5 h6
              rw [if_neg h1, if_neg h2, if_neg h3, if_neg h4, if_neg h5, if_neg h6] at h
              exact absurd rfl h
/-- Where no way leads through what is moved. -/
theorem free_walk {T : PT} (hT : TOk T) {l m : List (List UInt8)} {s : List UInt8} {n : Nat} (hl : tWalk T l 1 = (n, 0)) (hp : l.isPrefixOf (m ++ [s]) = false) : ∀ k, k ≤ m.length → k ≠ 0 → tWalk T (m.take k) 1 ≠ (n, 0) := by
  intro k hk _ he
  have e := walk_inj hT hl he
  have : l.isPrefixOf (m ++ [s]) = true := by
    rw [List.isPrefixOf_iff_prefix, e]
    exact (List.take_prefix k m).trans (List.prefix_append m [s])
  rw [hp] at this; cases this
theorem ren_tok {T : PT} (hT : TOk T) {n d : Nat} {s : List UInt8} {q : List UInt8} {m : List (List UInt8)} (hq : splitB q = some (m ++ [s])) (hd : tIsDir T d = true) (hk : tKid T d s = 0) : TOk (tRename T n d s) :=
  hT.ren hd ((kid_zero hT).1 hk) ((split_some hq).1 s (by simp))
theorem reach_ren {T : PT} (hT : TOk T) (h : TR T) {n d : Nat} {s : List UInt8} {m : List (List UInt8)} (hok : TOk (tRename T n d s)) (hm : tWalk T m 1 = (d, 0)) (hf : ∀ k, k ≤ m.length → k ≠ 0 → tWalk T (m.take k) 1 ≠ (n, 0)) : TR (tRename T n d s) := by
  have hd : Reach (tRename T n d s) d := walk_reach m 1 d .root (walk_ren hT hok m 1 d hm hf)
  have key : ∀ a, Reach T a → Reach (tRename T n d s) a := by
    intro a ha
    induction ha with
    | root => exact .root
    | @step x hx _ ih =>
      by_cases e : x.ino = n
      · have : ({ x with dir := d, name := s } : Th) ∈ tRename T n d s := mem_ren.2 ⟨x, hx, by rw [if_pos e]⟩
        exact Reach.step (x := { x with dir := d, name := s }) this hd
      · exact Reach.step (mem_ren.2 ⟨x, hx, by rw [if_neg e]⟩) ih
  intro y hy
  obtain ⟨x, hx, rfl⟩ := mem_ren.1 hy
  rw [(ren_ino x n d s).1]
  exact key _ (h x hx)
theorem TR.move {T : PT} (hT : TOk T) (h : TR T) (p q : List UInt8) : TR (tMove T p q).2 := by
  by_cases h0 : (tMove T p q).1 = 0
  · obtain ⟨l, m, s, n, d, e1, e2, e3, e4, e5, e6, e7, e8, e9, e10, e11⟩ := move_goes h0
    rw [e10]
    exact reach_ren hT h (ren_tok hT e2 e6 e7) e5 (free_walk hT e3 e8)
  · rw [move_stays h0]; exact h
end Go.Proofs.YtaiihklfeoeoeaaGreat.W
