/- The pens' Raw. -/
import Derived.Test.YtaiihklfeoeoeaaPNum0
import Derived.Test.YtaiihklfeoeoeaaRCopy
namespace Go.Proofs.Ytaiihklfeoeoeaa.W
open Go.RowKit
set_option linter.unusedVariables false
set_option linter.unusedSimpArgs false

/-- Raw of a pen. -/
def penRaw (l : List UInt8) (bad : Int) (m : List UInt8) : List UInt8 × Int :=
  if bad ≠ 0 then (l, bad) else if 65535 < m.length then (l, 3) else penAdd l bad (beBytes 2 m.length ++ m)

theorem two_row (w : World) (a b : UInt8) (va vb : Value) (ha : bv a = va) (hb : bv b = vb) : BRow (w.alloc (.cells #[va, vb] 5)) (.slice (some ⟨w.heap.size, 0, none⟩) 2 2) [a, b] := by
  refine ⟨by simp [bvs], .inr ⟨w.heap.size, 2, #[va, vb], rfl, Nat.zero_le _, heap_alloc_new w _, by simp, by unfold maxLen; omega, rfl, ?_⟩⟩
  simp [bvs, ha, hb]

set_option maxHeartbeats 4000000 in
set_option maxRecDepth 100000 in
theorem praw_any (b : Nat) (g : Option Nat) (l : List UInt8) (bad : Int) (v : Value) (m : List UInt8) (w : World) (h : PenAt 82 w b g l bad) (hm : BytesAt w v m) (hml : m.length ≤ 900000) :
    Calls Try.prog 82 #[.pointer (some ⟨b, 0, none⟩), v] w fun e w' => e = .returned (.tuple #[]) ∧ Wrote 82 w w' b g (penRaw l bad m) := by
  obtain ⟨a, cap, rfl, h1, h2, h3⟩ := hm
  have HM := Lib.hid (show BytesAt w (.slice a m.length cap) m from ⟨a, cap, rfl, h1, h2, h3⟩)
  have HP := Lib.hid h
  have hbl := h.lt.1
  by_cases hlong : 65535 < m.length
  · have HR : Hid (penRaw l bad m = (l, if bad ≠ 0 then bad else 3)) := Lib.hid (by
      unfold penRaw
      by_cases hb : bad = 0
      · rw [if_neg (by simp [hb]), if_pos hlong, if_neg (by simp [hb])]
      · rw [if_pos hb, if_pos hb])
    have CP := Lib.hid (put_err b g l bad 3 (.slice none 0 0) w h (by omega))
    rw [HR.out]
    generalize (if bad ≠ 0 then bad else (3 : Int)) = x1 at *
    have hlz : (65535 : Int) < (m.length : Int) := by omega
    clear h h3
    go_enter Try.func82, Try.ntmps82
    go_wp2_with fail
    refine CP.out.mono ?_
    rintro e w2 ⟨rfl, HW⟩
    have HW2 := Lib.hid HW
    clear HW
    go_wp2
    refine bodyPost_ret (results_none rfl _ _ _) rfl ?_
    exact ⟨rfl, HW2.out⟩
  · have hlz : ¬ (65535 : Int) < (m.length : Int) := by omega
    obtain ⟨n, hn⟩ : ∃ n, n = m.length := ⟨_, rfl⟩
    have hv1 : bv (UInt8.ofNat (n / 256)) = .int .u8 ((n : Int) / 256) := by
      have h0 := byte_of n 1
      rw [show ((n : Int) / 2 ^ (8 * 1) % 256) = (n : Int) / 256 by omega] at h0
      simpa using h0
    have hv2 : bv (UInt8.ofNat n) = .int .u8 ((n : Int) % 256) := by
      have := byte_of n 0
      simpa using this
    have hbe : beBytes 2 n = [UInt8.ofNat (n / 256), UInt8.ofNat n] := by simp [beBytes]
    obtain ⟨w1, hw1⟩ : ∃ w1, w1 = w.alloc (.cells #[.int .u8 ((n : Int) / 256), .int .u8 ((n : Int) % 256)] 5) := ⟨_, rfl⟩
    have hc1 : Chg [] w w1 := by rw [hw1]; exact (Chg.refl _ _).alloc _
    have HT : Hid (BRow w1 (.slice (some ⟨w.heap.size, 0, none⟩) 2 2) (beBytes 2 n)) := Lib.hid (by rw [hw1, hbe]; exact two_row w _ _ _ _ hv1 hv2)
    have HM1 : Hid (BytesAt w1 (.slice a m.length cap) m) := Lib.hid (by
      refine ⟨a, cap, rfl, h1, h2, ?_⟩
      rcases h3 with h3 | ⟨g, o, e, hcell⟩
      · exact .inl h3
      · exact .inr ⟨g, o, e, fun i hi => hc1.cell (hcell i hi) (by simp)⟩)
    have HW1 := Lib.hid hw1
    have HC1 := Lib.hid hc1
    have HN := Lib.hid hn
    have hlb : Hid ((beBytes 2 n).length = 2) := Lib.hid (by rw [beBytes_len])
    have HR : Hid (penRaw l bad m = penAdd l bad (beBytes 2 n ++ m)) := Lib.hid (by
      unfold penRaw
      by_cases hb : bad = 0
      · rw [if_neg (by simp [hb]), if_neg hlong, hn]
      · rw [if_pos hb]; unfold penAdd; rw [if_pos hb])
    have hsz : Hid ((beBytes 2 n).length + m.length ≤ 140737488355328) := Lib.hid (by rw [beBytes_len]; omega)
    rw [HR.out]
    rw [← hn] at hlz h1
    have hn0 : (0 : Int) ≤ (n : Int) := by omega
    have hn1 : (n : Int) ≤ 65535 := by omega
    rw [← hn]
    clear h h3 hw1 hc1 hv1 hv2 hbe hn
    go_enter Try.func82, Try.ntmps82
    go_wp2_with (at_builtin; rw [← HW1.out]; refine wpList_appB rfl (.tmp 17) (.tmp 18) rfl (.slice (some ⟨w.heap.size, 0, none⟩) 2 2) (beBytes 2 n) rfl HT.out _ m (by rw [← HN.out]; rfl) HM1.out hsz.out ?_; intro v1 w2 ho1 hg1 hat1)
    have hc2 : Chg [] w w2 := HC1.out.grown hg1 (fun k hk => .inr (by
      have : w.heap.size = k := by simpa [Value.ownBlock] using hk
      omega))
    have hl12 : (beBytes 2 n ++ m).length = 2 + m.length := by rw [List.length_append, hlb.out]
    obtain ⟨a1, c1, he1, _⟩ := ho1.bytes
    have CP := Lib.hid (put_any b g l bad a1 c1 (beBytes 2 n ++ m) w2 (HP.out.keep hc2 (by simp) (by simp)) (by rw [← he1]; exact ho1.bytes) (by rw [hl12]; omega))
    rw [← he1] at CP
    have HC2 := Lib.hid hc2
    clear ho1 hg1 hat1 he1 hc2 hl12
    refine CP.out.mono ?_
    rintro e w3 ⟨rfl, HW⟩
    have HW3 := Lib.hid (Wrote.before HW HC2.out)
    clear HW CP
    go_wp2
    go_end0
    exact ⟨rfl, HW3.out⟩

theorem Wrote.glue {t : TypeId} {w w1 w2 : World} {b : Nat} {g g1 : Option Nat} {r : List UInt8 × Int} (hg : g1 = g ∨ ∃ k, g1 = some k ∧ w.heap.size ≤ k) (hc : Chg (b :: g.toList) w w1) (h : Wrote t w1 w2 b g1 r) : Wrote t w w2 b g r := by
  obtain ⟨g2, hp2, hg2, hc2⟩ := h
  refine ⟨g2, hp2, ?_, hc.trans hc2 ?_⟩
  · rcases hg2 with rfl | ⟨k, rfl, hk⟩
    · exact hg
    · exact .inr ⟨k, rfl, Nat.le_trans hc.size hk⟩
  · intro x hx
    rcases List.mem_cons.1 hx with rfl | hx
    · exact .inl (List.mem_cons_self ..)
    · rcases hg with rfl | ⟨k, rfl, hk⟩
      · exact .inl (List.mem_cons_of_mem _ hx)
      · obtain rfl : x = k := by simpa using hx
        exact .inr hk
theorem i64_and_low (n : Nat) (h : n ≤ 65535) : bits .and .i64 (n : Int) 65535 = (n : Int) := by
  show IntKind.i64.wrap ((BitVec.ofInt 64 (n : Int) &&& BitVec.ofInt 64 ((65535 : Nat) : Int)).toNat : Int) = _
  rw [BitVec.toNat_and, ofInt_i64 n (by omega), ofInt_i64 65535 (by omega), show (65535 : Nat) = 2 ^ 16 - 1 from rfl, Nat.and_two_pow_sub_one_eq_mod, Nat.mod_eq_of_lt (by omega), IntKind.wrap_i64]
  omega

end Go.Proofs.Ytaiihklfeoeoeaa.W
