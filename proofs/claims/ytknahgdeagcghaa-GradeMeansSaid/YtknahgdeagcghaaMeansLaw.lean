/- The walk of GradeMeans, the law itself. -/
import Derived.Test.YtknahgdeagcghaaMeansWalk
namespace Go.Proofs.Ytknahgdeagcghaa.gradeMeans
open Go.RowKit Fl
set_option linter.unusedVariables false
attribute [local go_sem] run_add run_sub run_mul run_quo

def sumZ : List Int → Int
  | [] => 0
  | z :: l => z + sumZ l
theorem sumZ_snoc (l : List Int) (z : Int) : sumZ (l ++ [z]) = sumZ l + z := by
  induction l with
  | nil => simp [sumZ]
  | cons a l ih => simp only [List.cons_append, sumZ, ih]; omega

theorem el39 : El Try.prog 39 22 (.float .f64 0) 1 8 := El.mk Try.underlying39 (by kernel_rfl) rfl (by decide)

/-- What the loop has behind it after k rounds. -/
structure Got (zs : List Int) (k : Nat) (xs : List Nat) (os : List (Option Int)) (lo hi : Int) : Prop where
  len : xs.length = os.length
  most : xs.length ≤ 2 * k
  fits : ∀ i, i < xs.length → Fits (xs.getD i 0) (os.getD i none)
  sum : sumO os = sumZ (zs.take k)
  cnt : cntO os = k
  lo1 : k * lo ≤ sumZ (zs.take k)
  hi1 : sumZ (zs.take k) ≤ k * hi
  lo2 : -32768 ≤ lo ∧ lo ≤ 32767
  hi2 : -32768 ≤ hi ∧ hi ≤ 32767

theorem fits_snoc {xs : List Nat} {os : List (Option Int)} (hl : xs.length = os.length) (h : ∀ i, i < xs.length → Fits (xs.getD i 0) (os.getD i none)) {x : Nat} {o : Option Int} (hx : Fits x o) :
    ∀ i, i < (xs ++ [x]).length → Fits ((xs ++ [x]).getD i 0) ((os ++ [o]).getD i none) := by
  intro i hi
  simp only [List.length_append, List.length_singleton] at hi
  simp only [List.getD_eq_getElem?_getD]
  by_cases c : i < xs.length
  · rw [List.getElem?_append_left c, List.getElem?_append_left (by omega)]
    have := h i c
    simpa only [List.getD_eq_getElem?_getD] using this
  · obtain rfl : i = xs.length := by omega
    rw [List.getElem?_append_right (Nat.le_refl _), List.getElem?_append_right (by omega)]
    simp [hl]; exact hx

theorem Got.step {zs : List Int} {k : Nat} {xs : List Nat} {os : List (Option Int)} {lo hi lo' hi' z : Int} (h : Got zs k xs os lo hi) (hk : k < zs.length) (hz : zs.getD k 0 = z) (hz1 : -32768 ≤ z) (hz2 : z ≤ 32767)
    (hlo : lo' = if k = 0 ∨ z < lo then z else lo) (hhi : hi' = if k = 0 ∨ hi < z then z else hi) :
    Got zs (k + 1) (xs ++ [floatOfInt .f64 z]) (os ++ [some z]) lo' hi' := by
  have e : sumZ (zs.take (k + 1)) = sumZ (zs.take k) + z := by
    rw [take_snoc zs k hk, sumZ_snoc, ← hz, List.getD_eq_getElem?_getD, List.getElem?_eq_getElem hk]; rfl
  have l1 := h.lo1
  have l2 := h.hi1
  have s0 : k = 0 → sumZ (zs.take k) = 0 := by rintro rfl; rfl
  have hl := h.len
  have hm := h.most
  refine ⟨by simp [h.len], by simp; omega, fits_snoc h.len h.fits ⟨ofInt_lt z, rfl, by omega, by omega⟩, by rw [sumO_snoc, h.sum, e]; rfl, by rw [cntO_snoc, h.cnt]; simp, ?_, ?_, ?_, ?_⟩
  · rw [e, Int.natCast_add, Int.add_mul]
    by_cases c : k = 0
    · have := s0 c; subst c; rw [hlo]; simp [sumZ]
    · have hle : lo' ≤ lo ∧ lo' ≤ z := by rw [hlo]; split <;> omega
      have := Int.mul_le_mul_of_nonneg_left hle.1 (by omega : (0 : Int) ≤ k)
      simp; omega
  · rw [e, Int.natCast_add, Int.add_mul]
    by_cases c : k = 0
    · have := s0 c; subst c; rw [hhi]; simp [sumZ]
    · have hle : hi ≤ hi' ∧ z ≤ hi' := by rw [hhi]; split <;> omega
      have := Int.mul_le_mul_of_nonneg_left hle.1 (by omega : (0 : Int) ≤ k)
      simp; omega
  · have := h.lo2; rw [hlo]; split <;> omega
  · have := h.hi2; rw [hhi]; split <;> omega

theorem Got.gap {zs : List Int} {k : Nat} {xs : List Nat} {os : List (Option Int)} {lo hi : Int} (h : Got zs (k + 1) xs os lo hi) (hm : xs.length ≤ 2 * k + 1) {x : Nat} (hx : x < 18446744073709551616) (hn : isNan x = true) :
    Got zs (k + 1) (xs ++ [x]) (os ++ [none]) lo hi :=
  ⟨by simp [h.len], by simp; omega, fits_snoc h.len h.fits ⟨hx, hn⟩, by rw [sumO_snoc, h.sum]; simp, by rw [cntO_snoc, h.cnt]; simp, h.lo1, h.hi1, h.lo2, h.hi2⟩

theorem sumZ_one (zs : List Int) (h : 0 < zs.length) : sumZ (zs.take 1) = zs.getD 0 0 := by
  cases zs with
  | nil => simp at h
  | cons a l => simp [sumZ]

theorem sumZ_bound (zs : List Int) (hw : ∀ i, -32768 ≤ zs.getD i 0 ∧ zs.getD i 0 ≤ 32767) : ∀ k, k ≤ zs.length → -(32768 * k : Int) ≤ sumZ (zs.take k) ∧ sumZ (zs.take k) ≤ 32768 * k := by
  intro k
  induction k with
  | zero => intro _; simp [sumZ]
  | succ k ih =>
    intro h
    obtain ⟨i1, i2⟩ := ih (by omega)
    obtain ⟨w1, w2⟩ := hw k
    rw [List.getD_eq_getElem?_getD, List.getElem?_eq_getElem (by omega : k < zs.length)] at w1 w2
    simp only [Option.getD_some] at w1 w2
    rw [take_snoc zs k (by omega), sumZ_snoc]
    omega

theorem final {zs : List Int} {n : Nat} {xs : List Nat} {os : List (Option Int)} {lo hi : Int} (h : Got zs n xs os lo hi) (hn : 0 < n) (hn60 : n ≤ 60) (hz : n ≤ zs.length) (hw : ∀ i, -32768 ≤ zs.getD i 0 ∧ zs.getD i 0 ≤ 32767) :
    ∃ m, (∀ W, arithR .quo (floatOfInt .f64 (sumO os)) (floatOfInt .f64 (cntO os)) W = m) ∧ (∀ W, arithW .quo (floatOfInt .f64 (sumO os)) (floatOfInt .f64 (cntO os)) W = W) ∧
    (FloatKind.f64.format.order m (floatOfInt .f64 lo) = some .gt ∨ FloatKind.f64.format.order m (floatOfInt .f64 lo) = some .eq) ∧
    (FloatKind.f64.format.order m (floatOfInt .f64 hi) = some .lt ∨ FloatKind.f64.format.order m (floatOfInt .f64 hi) = some .eq) ∧
    (n = 1 → FloatKind.f64.format.order m (floatOfInt .f64 (zs.getD 0 0)) = some .eq) := by
  obtain ⟨b1, b2⟩ := sumZ_bound zs hw n hz
  have l2 := h.lo2
  have h2 := h.hi2
  obtain ⟨m, e, f1, f2⟩ := mean_between (sumZ (zs.take n)) n lo hi (by omega) (by omega) (by omega) (by omega) (by omega) h.lo1 h.hi1
  rw [h.sum, h.cnt]
  refine ⟨m, fun W => (arith_some e W).1, fun W => (arith_some e W).2, f1, f2, ?_⟩
  rintro rfl
  obtain ⟨w1, w2⟩ := hw 0
  have hs := sumZ_one zs (by omega)
  obtain ⟨m2, e2, g1, g2⟩ := mean_between (sumZ (zs.take 1)) (1 : Nat) (zs.getD 0 0) (zs.getD 0 0) (by omega) (by omega) (by omega) (by omega) (by omega) (by rw [hs]; simp) (by rw [hs]; simp)
  have : m2 = m := by rw [e] at e2; injection e2 with e2; exact e2.symm
  subst this
  rcases g1 with g1 | g1
  · rcases g2 with g2 | g2
    · rw [g1] at g2; cases g2
    · exact g2
  · exact g1

theorem own_arith {w : World} {base : Nat} {e : TypeId} {size : Nat} {v : Value} {n : Nat} {xs : List Value} {op : BinOp} {x y : Nat} (h : w.ownsRow base e size v n xs) : (arithW op x y w).ownsRow base e size v n xs := by
  unfold arithW
  split
  · exact h
  · exact h
theorem below_size {B : Nat} {w w' : World} (h : Below B w w') : w.heap.size ≤ w'.heap.size := h.size

set_option maxHeartbeats 2000000 in
set_option maxRecDepth 100000 in
theorem walk_row (b off : Nat) (n c : Nat) (zs : List Int) (A1 : Option Addr) (n1 c1 : Nat) (B : Nat → Bool) (w : World) (hn : 0 < n) (hn60 : n ≤ 60) (h100 : n1 ≤ 100) (hz : n ≤ zs.length)
    (hb : b < w.heap.size) (hc : ∀ i, i < n → w.cell? ⟨b, off + i, none⟩ = some (.int .i16 (zs.getD i 0))) (hw : ∀ i, -32768 ≤ zs.getD i 0 ∧ zs.getD i 0 ≤ 32767)
    (h1 : RowAt w w.heap.size A1 n1 (fun i => .bool (B i))) :
    Calls Try.prog 8 #[.slice (some ⟨b, off, none⟩) n c, .slice A1 n1 c1] w fun e w' => e = .returned (.bool true) ∧ Below w.heap.size w w' := by
  have HC := Lib.hid hc
  have HW := Lib.hid hw
  have H1 := Lib.hid h1
  have HZ : Hid (∀ W, isNan (arithR .quo 0 0 W) = true) := Lib.hid (fun W => arithR_none (by decide +kernel) W)
  clear hc hw h1
  go_enter Try.func8, Try.ntmps8
  go_wp2_with (first
    | (go_at_call 10; refine (awake_any _).mono ?_; rintro e w' ⟨rfl, rfl⟩))
  go_loopw [6, 7, 8, 9] (fun v l h i wr => ∃ (k : Nat) (xs : List Nat) (os : List (Option Int)) (lo hi : Int), k ≤ n ∧ i = .int .i64 k ∧ l = .int .i64 lo ∧ h = .int .i64 hi ∧
      Got zs k xs os lo hi ∧ wr.ownsRow w.heap.size 22 1 v xs.length (xs.map (Value.float .f64)) ∧ Below w.heap.size w wr)
    (fun _ _ _ i _ => n - (intOf i).toNat)
  case atStart => exact ⟨0, [], [], 0, 0, Nat.zero_le _, rfl, rfl, rfl, ⟨rfl, Nat.le_refl _, fun i hi => by simp at hi, rfl, rfl, by simp [sumZ], by simp [sumZ], by omega, by omega⟩, World.ownsRow_nil _ _ _ _, Below.refl _ _⟩
  case round =>
    obtain ⟨k, xs, os, lo, hi', hk, rfl, rfl, rfl, hgot, hown, hbel⟩ := hrel
    by_cases hlt : k < n
    · obtain ⟨z, hcz, hz1, hz2, hzz⟩ : ∃ z, wr.cell? ⟨b, off + k, none⟩ = some (.int .i16 z) ∧ -32768 ≤ z ∧ z ≤ 32767 ∧ zs.getD k 0 = z :=
        ⟨_, (hbel.cell (p := ⟨b, off + k, none⟩) hb).trans (HC.out k hlt), (HW.out k).1, (HW.out k).2, rfl⟩
      have HZZ := Lib.hid hzz
      clear hzz
      have hmost := hgot.most
      have HG := Lib.hid hgot
      clear hgot
      have hs0 := hbel.size
      have hkb : ∃ t : Bool, ((k : Int) == 0) = t ∧ Hid (t = true ↔ k = 0) := ⟨_, rfl, Lib.hid (by simp)⟩
      obtain ⟨t, hkb, HK⟩ := hkb
      cases t
      all_goals
        by_cases hg : k < n1
        · rcases H1.out with h0 | ⟨b1, off1, rfl, hb1, hc1⟩
          · omega
          · have hcb : wr.cell? ⟨b1, off1 + k, none⟩ = some (.bool (B k)) := (hbel.cell (p := ⟨b1, off1 + k, none⟩) hb1).trans (hc1 k hg)
            cases hB : B k with
            | true =>
              rw [hB] at hcb
              clear hB hc1
              go_wp2_with (first
                | (at_builtin; refine wpList_app1 rfl (.tmp 27) (.tmp 33) _ rfl w.heap.size el39 _ _ _ rfl hown _ _ rfl rfl (one1 rfl) (by unfold maxLen; omega) (by omega) hs0 ?_
                   intro v1 w1 hown1 hg1
                   have hbel1 := Below.of_grown hown hg1 (Nat.le_refl _) hs0 hbel
                   have hs1 := hbel1.size
                   have hcz1 : w1.cell? ⟨b, off + k, none⟩ = some (.int .i16 z) := (hbel1.cell (p := ⟨b, off + k, none⟩) hb).trans ((hbel.cell (p := ⟨b, off + k, none⟩) hb).symm.trans hcz)
                   have hcb1 : w1.cell? ⟨b1, off1 + k, none⟩ = some (.bool true) := (hbel1.cell (p := ⟨b1, off1 + k, none⟩) hb1).trans ((hbel.cell (p := ⟨b1, off1 + k, none⟩) hb1).symm.trans hcb)
                   clear hown hg1 hcz hcb)
                | (at_builtin; refine wpList_app1 rfl (.tmp 45) (.tmp 49) _ rfl w.heap.size el39 v1 _ _ rfl (w := arithW .quo 0 0 w1) (own_arith hown1) _ _ rfl rfl (one1 rfl) (by unfold maxLen; omega) (by omega) (below_size (arithW_below hbel1 _ _ _)) ?_
                   intro v2 w2 hown2 hg2
                   have hbel2 := Below.of_grown (own_arith hown1) hg2 (Nat.le_refl _) (below_size (arithW_below hbel1 _ _ _)) (arithW_below hbel1 _ _ _)
                   have hcz2 : w2.cell? ⟨b, off + k, none⟩ = some (.int .i16 z) := (hbel2.cell (p := ⟨b, off + k, none⟩) hb).trans ((hbel1.cell (p := ⟨b, off + k, none⟩) hb).symm.trans hcz1)
                   have HN := Lib.hid (HZ.out w1)
                   clear hg2))
              all_goals
                go_roundw
                case rel => exact ⟨k + 1, _, _, _, _, by omega, by go_num, rfl, rfl, (HG.out.step (by omega) HZZ.out hz1 hz2 (by have := HK.out; simp at this; first | rw [if_pos (by omega)] | rw [if_neg (by omega)]) (by have := HK.out; simp at this; first | rw [if_pos (by omega)] | rw [if_neg (by omega)])).gap (by simp; omega) (arithR_lt .quo 0 0 w1) HN.out, by simpa using hown2, hbel2⟩
                case measure => simp [intOf]; omega
            | false =>
              rw [hB] at hcb
              clear hB hc1
              go_wp2_with (first
                | (at_builtin; refine wpList_app1 rfl (.tmp 27) (.tmp 33) _ rfl w.heap.size el39 _ _ _ rfl hown _ _ rfl rfl (one1 rfl) (by unfold maxLen; omega) (by omega) hs0 ?_
                   intro v1 w1 hown1 hg1
                   have hbel1 := Below.of_grown hown hg1 (Nat.le_refl _) hs0 hbel
                   have hs1 := hbel1.size
                   have hcz1 : w1.cell? ⟨b, off + k, none⟩ = some (.int .i16 z) := (hbel1.cell (p := ⟨b, off + k, none⟩) hb).trans ((hbel.cell (p := ⟨b, off + k, none⟩) hb).symm.trans hcz)
                   have hcb1 : w1.cell? ⟨b1, off1 + k, none⟩ = some (.bool false) := (hbel1.cell (p := ⟨b1, off1 + k, none⟩) hb1).trans ((hbel.cell (p := ⟨b1, off1 + k, none⟩) hb1).symm.trans hcb)
                   clear hown hg1 hcz hcb))
              all_goals
                go_roundw
                case rel => exact ⟨k + 1, _, _, _, _, by omega, by go_num, rfl, rfl, HG.out.step (by omega) HZZ.out hz1 hz2 (by have := HK.out; simp at this; first | rw [if_pos (by omega)] | rw [if_neg (by omega)]) (by have := HK.out; simp at this; first | rw [if_pos (by omega)] | rw [if_neg (by omega)]), by simpa using hown1, hbel1⟩
                case measure => simp [intOf]; omega
        · go_wp2_with (first
            | (at_builtin; refine wpList_app1 rfl (.tmp 27) (.tmp 33) _ rfl w.heap.size el39 _ _ _ rfl hown _ _ rfl rfl (one1 rfl) (by unfold maxLen; omega) (by omega) hs0 ?_
               intro v1 w1 hown1 hg1
               have hbel1 := Below.of_grown hown hg1 (Nat.le_refl _) hs0 hbel
               have hs1 := hbel1.size
               have hcz1 : w1.cell? ⟨b, off + k, none⟩ = some (.int .i16 z) := (hbel1.cell (p := ⟨b, off + k, none⟩) hb).trans ((hbel.cell (p := ⟨b, off + k, none⟩) hb).symm.trans hcz)
               clear hown hg1 hcz))
          all_goals
            go_roundw
            case rel => exact ⟨k + 1, _, _, _, _, by omega, by go_num, rfl, rfl, HG.out.step (by omega) HZZ.out hz1 hz2 (by have := HK.out; simp at this; first | rw [if_pos (by omega)] | rw [if_neg (by omega)]) (by have := HK.out; simp at this; first | rw [if_pos (by omega)] | rw [if_neg (by omega)]), by simpa using hown1, hbel1⟩
            case measure => simp [intOf]; omega
    · obtain rfl : k = n := by omega
      have HG := Lib.hid hgot
      obtain ⟨va, vc, rfl, hrow, hlen⟩ := rowAt_own hown
      have hrow' : RowAt wr wr.heap.size va xs.length (fun i => .float .f64 (xs.getD i 0)) := by
        rcases hrow with h0 | ⟨b2, off2, e1, e2, e3⟩
        · exact .inl h0
        · refine .inr ⟨b2, off2, e1, e2, fun i hi => ?_⟩
          rw [e3 i hi]
          simp only [List.getD_eq_getElem?_getD, List.getElem?_map, List.getElem?_eq_getElem hi]
          rfl
      have HR := Lib.hid hrow'
      obtain ⟨m, hm1, hm2, f1, f2, f3⟩ := final hgot hn hn60 hz (fun i => HW.out i)
      have hcz : wr.cell? ⟨b, off, none⟩ = some (.int .i16 (zs.getD 0 0)) := (hbel.cell (p := ⟨b, off, none⟩) hb).trans (by simpa using HC.out 0 hn)
      have hmost : xs.length ≤ 120 := by have := hgot.most; omega
      generalize zs.getD 0 0 = z0 at *
      have F1 := Lib.hid f1
      have F2 := Lib.hid f2
      have F3 := Lib.hid f3
      clear f1 f2 f3 hgot hrow hrow' hlen hown
      go_wp2_with (first
        | (go_at_call 17; refine (mean_any xs os _ _ _ _ _ hmost rfl HG.out.len.symm HR.out HG.out.fits).mono ?_; rintro e w' ⟨rfl, rfl⟩; rw [hm1, hm2]))
      all_goals
        have f1 := F1.out
        have f2 := F2.out
        go_ret
        refine ⟨ret_bool ?_, hbel⟩
        first
          | (have f3 := F3.out (by omega)
             rw [f3]
             rcases f1 with f1 | f1 <;> rcases f2 with f2 | f2 <;> rw [f1, f2] <;> simp <;> done)
          | (rcases f1 with f1 | f1 <;> rcases f2 with f2 | f2 <;> rw [f1, f2] <;> rfl)

set_option maxHeartbeats 1000000 in
theorem walk_big (A0 : Option Addr) (n c : Nat) (A1 : Option Addr) (n1 c1 : Nat) (w : World) (h : 60 < n ∨ 100 < n1) :
    Calls Try.prog 8 #[.slice A0 n c, .slice A1 n1 c1] w fun e w' => e = .returned (.bool true) ∧ Below w.heap.size w w' := by
  by_cases h60 : 60 < n
  · go_enter Try.func8, Try.ntmps8
    go_wp2_with (first
      | (go_at_call 10; refine (awake_any _).mono ?_; rintro e w' ⟨rfl, rfl⟩))
    go_ret
    exact ⟨rfl, Below.refl _ _⟩
  · have h100 : 100 < n1 := by omega
    go_enter Try.func8, Try.ntmps8
    go_wp2_with (first
      | (go_at_call 10; refine (awake_any _).mono ?_; rintro e w' ⟨rfl, rfl⟩))
    go_ret
    exact ⟨rfl, Below.refl _ _⟩

set_option maxHeartbeats 1000000 in
theorem walk_nil (A0 : Option Addr) (c : Nat) (A1 : Option Addr) (n1 c1 : Nat) (w : World) (h100 : n1 ≤ 100) :
    Calls Try.prog 8 #[.slice A0 0 c, .slice A1 n1 c1] w fun e w' => e = .returned (.bool true) ∧ Below w.heap.size w w' := by
  have hN : isNan (arithR .quo (floatOfInt .f64 (sumO [])) (floatOfInt .f64 (cntO [])) w) = true := arithR_none (by decide +kernel) w
  have hL := arithR_lt .quo (floatOfInt .f64 (sumO [])) (floatOfInt .f64 (cntO [])) w
  have hB := arithW_below (Below.refl w.heap.size w) .quo (floatOfInt .f64 (sumO [])) (floatOfInt .f64 (cntO []))
  go_enter Try.func8, Try.ntmps8
  go_wp2_with (first
    | (go_at_call 10; refine (awake_any _).mono ?_; rintro e w' ⟨rfl, rfl⟩))
  refine wp_loop_rounds 1 ?_
  rw [rounds_succ]
  go_wp2_with (first
    | (go_at_call 17; refine (mean_any [] [] none 0 0 w.heap.size w (by omega) rfl rfl (.inl rfl) (fun i hi => absurd hi (by omega))).mono ?_; rintro e w' ⟨rfl, rfl⟩))
  go_ret
  refine ⟨ret_bool ?_, hB⟩
  have := nanB_isNan _ hL
  rw [hN] at this
  exact this

theorem walk (a0 : Option Addr) (len0 cap0 : Nat) (z0 : List Int) (a1 : Option Addr) (len1 cap1 : Nat) (b1 : Nat → Bool) (w : World) (w0 : IsRow .i16 w a0 len0 cap0 z0) (w1 : IsBools w a1 len1 b1) :
    Calls Try.prog 8 #[.slice a0 len0 cap0, .slice a1 len1 cap1] w fun e w' => e = .returned (.bool true) ∧ Below w.heap.size w w' := by
  obtain ⟨h1, h2, h3, h4⟩ := w0.rowAt
  by_cases hb : 60 < len0 ∨ 100 < len1
  · exact walk_big _ _ _ _ _ _ _ hb
  · rcases h1 with h0 | ⟨b, off, rfl, hlt, hc⟩
    · subst h0
      exact walk_nil _ _ _ _ _ _ (by omega)
    · by_cases hn : len0 = 0
      · subst hn
        exact walk_nil _ _ _ _ _ _ (by omega)
      · exact walk_row b off len0 cap0 z0 a1 len1 cap1 b1 w (by omega) (by omega) (by omega) h3 hlt hc (fun i => bounds_i16 (h4 i)) w1.rowAt.1
end Go.Proofs.Ytknahgdeagcghaa.gradeMeans
