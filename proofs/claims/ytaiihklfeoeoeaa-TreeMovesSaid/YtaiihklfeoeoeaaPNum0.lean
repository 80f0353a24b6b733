/- The pens' Num. -/
import Derived.Test.YtaiihklfeoeoeaaPen
namespace Go.Proofs.Ytaiihklfeoeoeaa.W
open Go.RowKit
set_option linter.unusedVariables false
set_option linter.unusedSimpArgs false

theorem pow_wrap (n : Nat) (h : n ≤ 7) : ∃ M : Nat, M = 256 ^ n ∧ wrap64 ((2 : Int) ^ (8 * n)) = (M : Int) := by
  have hp : (256 : Nat) ^ n = 2 ^ (8 * n) := by rw [show (256 : Nat) = 2 ^ 8 from rfl, ← Nat.pow_mul]
  have hle : (2 : Nat) ^ (8 * n) ≤ 2 ^ 56 := Nat.pow_le_pow_right (by omega) (by omega)
  refine ⟨_, rfl, ?_⟩
  rw [hp]
  have : ((2 : Int) ^ (8 * n)) = ((2 ^ (8 * n) : Nat) : Int) := by push_cast; rfl
  rw [this]
  generalize (2 : Nat) ^ (8 * n) = z at *
  rw [wrap64]
  omega
theorem byte_of (x k : Nat) : bv (UInt8.ofNat (x / 256 ^ k)) = .int .u8 ((x : Int) / 2 ^ (8 * k) % 256) := by
  unfold bv
  rw [UInt8.toNat_ofNat', show (256 : Nat) ^ k = 2 ^ (8 * k) by rw [show (256 : Nat) = 2 ^ 8 from rfl, ← Nat.pow_mul]]
  congr 1
theorem one_byte (w : World) (c : UInt8) (v : Value) (hv : bv c = v) : BytesAt (w.alloc (.cells #[v] 5)) (.slice (some ⟨w.heap.size, 0, none⟩) 1 1) [c] := by
  refine ⟨_, 1, rfl, by simp, by unfold maxLen; omega, .inr ⟨_, 0, rfl, fun i hi => ?_⟩⟩
  have : i = 0 := by simpa using hi
  subst this
  have h := blk_cell (heap_alloc_new w (.cells #[v] 5)) 0 v rfl
  rw [hv.symm] at h
  rw [← hv]
  exact h
theorem Wrote.before {t : TypeId} {w0 w w' : World} {b : Nat} {g : Option Nat} {r : List UInt8 × Int} (h : Wrote t w w' b g r) (hc : Chg [] w0 w) : Wrote t w0 w' b g r := by
  obtain ⟨g', h1, h2, h3⟩ := h
  refine ⟨g', h1, ?_, (hc.mono (by simp)).trans h3 (fun x hx => .inl hx)⟩
  rcases h2 with h2 | ⟨k, h2, h4⟩
  · exact .inl h2
  · exact .inr ⟨k, h2, Nat.le_trans hc.size h4⟩

set_option maxHeartbeats 4000000 in
set_option maxRecDepth 100000 in
/-- Num. -/
theorem pnum_ok (b : Nat) (g : Option Nat) (l : List UInt8) (bad : Int) (x n : Nat) (w : World) (h : PenAt 82 w b g l bad) (h1 : 1 ≤ n) (h7 : n ≤ 7) (hx : x < 256 ^ n) :
    Calls Try.prog 51 #[.pointer (some ⟨b, 0, none⟩), .int .i64 x, .int .i64 n] w fun e w' => e = .returned (.tuple #[]) ∧ Wrote 82 w w' b g (penAdd l bad (beBytes n x)) := by
  have HP := Lib.hid h
  have hbl := h.lt.1
  have hp : (256 : Nat) ^ n = 2 ^ (8 * n) := by rw [show (256 : Nat) = 2 ^ 8 from rfl, ← Nat.pow_mul]
  have hq : (((x : Int) / 2 ^ (8 * n)) != 0) = false := by
    rw [bne_eq_false_iff_eq]
    have : x / 2 ^ (8 * n) = 0 := Nat.div_eq_of_lt (by rw [← hp]; exact hx)
    exact_mod_cast this
  have hx0 : (0 : Int) ≤ (x : Int) := by omega
  have HX := Lib.hid hx
  clear h hp hx
  go_enter Try.func51, Try.ntmps51
  go_wp2_with (go_at_call 80; refine (wmay_yes _ _ (by omega) (by omega)).mono ?_; rintro e w' ⟨rfl, rfl⟩)
  go_loopg [6, 7] n (fun g' s6 s7 wr => ∃ (m : Nat) (o : List UInt8), s7 = .int .i64 ((m : Int) - 1) ∧ m ≤ n ∧ m ≤ g' ∧ Hid (BRow wr s6 o) ∧ Hid (o ++ beBytes m x = beBytes n x) ∧ Chg [] w wr ∧ (∀ k, s6.ownBlock = some k → w.heap.size ≤ k) ∧ o.length + m ≤ 10)
  case atStart => exact ⟨n, [], rfl, by omega, by omega, BRow.nil _, Lib.hid (List.nil_append _), Chg.refl _ _, by simp [Value.ownBlock], by simp; omega⟩
  case round =>
    obtain ⟨m, o, rfl, hm, hmg, HR, HE, hc, hfr, hol⟩ := hrel
    have HC := Lib.hid hc
    have HF := Lib.hid hfr
    have hws := hc.size
    clear hc hfr
    cases m with
    | zero =>
      obtain ⟨a6, c6, rfl⟩ := HR.out.slice
      have ho : o = beBytes n x := by simpa [beBytes] using HE.out
      have CP := Lib.hid (put_any b g l bad a6 c6 o wr (HP.out.keep HC.out (by simp) (by simp)) HR.out.bytes (by omega))
      rw [ho] at CP
      have HO := Lib.hid ho
      have h00 : ((0 : Nat) : Int) - 1 = -1 := by omega
      rw [← ho] at CP
      clear ho
      go_wp2_with fail
      refine CP.out.mono ?_
      rintro e w2 ⟨rfl, HW⟩
      have HW2 := Lib.hid HW
      clear HW
      go_wp2
      go_end0
      rw [← HO.out]
      refine ⟨rfl, Wrote.before HW2.out HC.out⟩
    | succ k =>
      rw [show (((k + 1 : Nat) : Int) - 1) = (k : Int) from by omega]
      have hk0 : (0 : Int) ≤ (k : Int) := by omega
      have hv : bv (UInt8.ofNat (x / 256 ^ k)) = .int .u8 ((x : Int) / 2 ^ (8 * k) % 256) := byte_of x k
      have HB := Lib.hid (one_byte wr _ _ hv)
      have HE2 : Hid ((o ++ [UInt8.ofNat (x / 256 ^ k)]) ++ beBytes k x = beBytes n x) := Lib.hid (by rw [List.append_assoc]; exact HE.out)
      have HR2 := Lib.hid (HR.out.keep (w' := wr.alloc (.cells #[.int .u8 ((x : Int) / 2 ^ (8 * k) % 256)] 5)) (fun g hg => heap_alloc_old wr _ (HR.out.lt g hg)))
      clear hv
      go_wp2_with (at_builtin; refine wpList_appB rfl _ _ rfl _ o rfl HR2.out _ _ rfl HB.out (by simp; omega) ?_; intro v1 w1 ho1 hg1 hat1)
      go_roundg (gk - 1)
      case measure => omega
      case rel =>
        refine ⟨k, _, rfl, by omega, by omega, ho1, HE2.out, (HC.out.alloc _).grown hg1 (fun q hq => .inr (HF.out q hq)), ?_, by simp; omega⟩
        intro q hq
        rcases hat1 with h | h
        · exact HF.out q (h.symm.trans hq)
        · have : wr.heap.size + 1 = q := by
            have := h.symm.trans hq
            simpa using this
          omega

set_option maxHeartbeats 4000000 in
set_option maxRecDepth 100000 in
theorem pnum_bad (b : Nat) (g : Option Nat) (l : List UInt8) (bad : Int) (x : Int) (n : Nat) (w : World) (h : PenAt 82 w b g l bad) (h1 : 1 ≤ n) (h7 : n ≤ 7) (hx : x < 0 ∨ ((256 ^ n : Nat) : Int) ≤ x) :
    Calls Try.prog 51 #[.pointer (some ⟨b, 0, none⟩), .int .i64 x, .int .i64 n] w fun e w' => e = .returned (.tuple #[]) ∧ Wrote 82 w w' b g (l, if bad ≠ 0 then bad else 1) := by
  have CP := Lib.hid (put_err b g l bad 1 (.slice none 0 0) w h (by omega))
  generalize (if bad ≠ 0 then bad else (1 : Int)) = x1 at *
  clear h
  by_cases h0 : x < 0
  · clear hx
    go_enter Try.func51, Try.ntmps51
    go_wp2_with (go_at_call 80; refine (wmay_yes _ _ (by omega) (by omega)).mono ?_; rintro e w' ⟨rfl, rfl⟩)
    refine CP.out.mono ?_
    rintro e w2 ⟨rfl, HW⟩
    have HW2 := Lib.hid HW
    clear HW
    go_wp2
    refine bodyPost_ret (results_none rfl _ _ _) rfl ?_
    exact ⟨rfl, HW2.out⟩
  · have hp : (256 : Nat) ^ n = 2 ^ (8 * n) := by rw [show (256 : Nat) = 2 ^ 8 from rfl, ← Nat.pow_mul]
    obtain ⟨y, rfl⟩ := Int.eq_ofNat_of_zero_le (show 0 ≤ x by omega)
    have hy : 256 ^ n ≤ y := by omega
    have hq : (((y : Int) / 2 ^ (8 * n)) != 0) = true := by
      rw [bne_iff_ne]
      intro e
      have e' : y / 2 ^ (8 * n) = 0 := by exact_mod_cast e
      rw [Nat.div_eq_zero_iff] at e'
      have := Nat.two_pow_pos (8 * n)
      omega
    clear hp hx hy
    go_enter Try.func51, Try.ntmps51
    go_wp2_with (go_at_call 80; refine (wmay_yes _ _ (by omega) (by omega)).mono ?_; rintro e w' ⟨rfl, rfl⟩)
    refine CP.out.mono ?_
    rintro e w2 ⟨rfl, HW⟩
    have HW2 := Lib.hid HW
    clear HW
    go_wp2
    refine bodyPost_ret (results_none rfl _ _ _) rfl ?_
    exact ⟨rfl, HW2.out⟩

/-- Num. -/
theorem pnum_any (b : Nat) (g : Option Nat) (l : List UInt8) (bad : Int) (x width : Int) (w : World) (h : PenAt 82 w b g l bad) (h1 : 1 ≤ width) (h7 : width ≤ 7) :
    Calls Try.prog 51 #[.pointer (some ⟨b, 0, none⟩), .int .i64 x, .int .i64 width] w fun e w' => e = .returned (.tuple #[]) ∧ Wrote 82 w w' b g (penNum l bad x width.toNat) := by
  obtain ⟨n, rfl⟩ := Int.eq_ofNat_of_zero_le (show 0 ≤ width by omega)
  rw [Int.toNat_natCast]
  by_cases hx : x < 0 ∨ ((256 ^ n : Nat) : Int) ≤ x
  · have e : penNum l bad x n = (l, if bad ≠ 0 then bad else 1) := by
      unfold penNum
      rw [if_pos hx]
      split <;> rfl
    rw [e]
    exact pnum_bad b g l bad x n w h (by omega) (by omega) hx
  · obtain ⟨y, rfl⟩ := Int.eq_ofNat_of_zero_le (show 0 ≤ x by omega)
    have e : penNum l bad y n = penAdd l bad (beBytes n y) := by
      unfold penNum
      rw [if_neg hx, Int.toNat_natCast]
      split
      · unfold penAdd; rw [if_pos (by assumption)]
      · rfl
    rw [e]
    exact pnum_ok b g l bad y n w h (by omega) (by omega) (by omega)

set_option maxHeartbeats 4000000 in
set_option maxRecDepth 100000 in
/-- Bytes, of a pen that has not failed. -/
theorem pbytes_any (b : Nat) (g : Option Nat) (l : List UInt8) (w : World) (h : PenAt 82 w b g l 0) :
    Calls Try.prog 39 #[.pointer (some ⟨b, 0, none⟩)] w fun e w' => ∃ v', e = .returned (.tuple #[v', .int .i64 0]) ∧ BRow w' v' l ∧ (∀ g, v'.ownBlock = some g → w.heap.size ≤ g) ∧ Chg [] w w' := by
  obtain ⟨v, hb, hr, hg, hne, hl⟩ := h
  obtain ⟨av, cv, rfl⟩ := hr.slice
  have b0 := blk_cell hb 0 _ rfl
  have b1 := blk_cell hb 1 _ rfl
  have CC := Lib.hid (clone_any _ l w hr.bytes (by omega))
  clear hb hr hg
  go_enter Try.func39, Try.ntmps39
  go_wp2_with fail
  refine CC.out.mono ?_
  rintro e w1 ⟨v1, rfl, h1, h2, h3⟩
  have H := Lib.hid (And.intro h1 (And.intro h2 h3))
  clear h1 h2 h3
  go_wp2
  go_ret2
  exact ⟨_, rfl, H.out⟩
end Go.Proofs.Ytaiihklfeoeoeaa.W
