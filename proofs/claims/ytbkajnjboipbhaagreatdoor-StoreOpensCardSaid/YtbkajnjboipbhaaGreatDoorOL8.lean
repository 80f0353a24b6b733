/- Texts laid together. -/
import Derived.Test.YtbkajnjboipbhaaGreatDoorOL7
import Derived.Deep.DeepCutAuto
import Derived.Deep.CutBlock
/- StoreOpens: the walk. -/
namespace Go.Proofs.YtbkajnjboipbhaaGreatDoor.W
open Go.RowKit
set_option linter.unusedVariables false
set_option linter.unusedSimpArgs false

theorem ops_since (n : Nat) (h9 : 9 ≤ n) : ∃ t d, (DS.new n).format = ((0, some t), d) ∧ t.s.d.n = n ∧ t.s.d.ops ≤ n ∧ t.s.d.since.length = 0 := by
  obtain ⟨t, d, h1, h2, h3, h4, h5, h6, _⟩ := Kept.new n h9
  exact ⟨t, d, h1, by rw [h3]; exact h5, by rw [h3]; exact h6, by rw [h2.since]; rfl⟩
theorem own_image {X : List Nat} {w0 w : World} {q p : Nat} {t : Sto} (h : Own6 X w0 w q p t) : Calls Tryz.prog 25 #[.pointer (some ⟨p, 0, none⟩)] w fun e w' => ∃ v, e = .returned v ∧ BRow w' v (flat t.s.d.n t.s.d.now) ∧ (flat t.s.d.n t.s.d.now).length = t.s.d.n * 64 ∧ (∀ g, v.ownBlock = some g → w.heap.size ≤ g) ∧ Chg [] w w' := by
  obtain ⟨U, h1, h2, h3, h4⟩ := h
  obtain ⟨S, hd⟩ := h1.disk
  refine (dimage_any p S t.s.d w hd).mono ?_
  rintro e w' ⟨v, rfl, a1, a2, a3⟩
  obtain ⟨gn, gl, cn, cl, vv, H⟩ := hd
  exact ⟨v, rfl, a1, flat_len _ _ (fun i hi => H.now.len i hi), a2, a3⟩
/-- One byte is another. -/
theorem BRow.set {w : World} {g cap : Nat} {l : List UInt8} (h : BRow w (.slice (some ⟨g, 0, none⟩) l.length cap) l) (j : Nat) (hj : j < l.length) (y : UInt8) :
    BRow (w.setCell ⟨g, j, none⟩ (bv y)) (.slice (some ⟨g, 0, none⟩) l.length cap) (l.set j y) := by
  unfold BRow at h ⊢
  have h1 := row_set h j (bv y) (by omega)
  rw [List.length_set, show bvs (l.set j y) = (bvs l).set j (bv y) by simp [bvs, List.map_set]]
  exact h1
theorem u8_any (z : Int) : ∃ y : UInt8, IntKind.u8.wrap z = (y.toNat : Int) := ⟨UInt8.ofNat (z % 256).toNat, by rw [IntKind.wrap_u8, UInt8.toNat_ofNat']; omega⟩
theorem xor_u8 (a b : Int) : ∃ y : UInt8, bits .xor .u8 a b = (y.toNat : Int) := u8_any _
theorem tmod_in (z : Int) : -16896 < z.tmod 16896 ∧ z.tmod 16896 < 16896 := by
  by_cases h : 0 ≤ z
  · rw [Int.tmod_eq_emod_of_nonneg h]; omega
  · obtain ⟨y, rfl⟩ : ∃ y, z = -y := ⟨-z, by omega⟩
    rw [Int.neg_tmod, Int.tmod_eq_emod_of_nonneg (by omega)]; omega
theorem hit_in (z : Int) : ∃ k : Nat, k < 16896 ∧ (z.tmod 16896 + 16896) % 16896 = (k : Int) := by
  have h1 := tmod_in z
  exact ⟨((z.tmod 16896 + 16896) % 16896).toNat, by omega, by omega⟩
/-- The bytes under way. -/
def Bits (w0 w : World) (g cap : Nat) (l : List UInt8) : Prop := BRow w (.slice (some ⟨g, 0, none⟩) l.length cap) l ∧ l.length = 2112 ∧ w0.heap.size ≤ g ∧ Chg [] w0 w

set_option maxHeartbeats 16000000 in
set_option maxRecDepth 100000 in
theorem opens6_any (a : Option Addr) (n cap : Nat) (f : Nat → Dd) (ah : Option Addr) (nh ch : Nat) (zs : List Int) (w : World) (hin : DeedsAt w a n f) (hn : n ≤ maxLen) (hh : IsRow .i64 w ah nh ch zs) :
    Calls Tryz.prog 5 #[.slice a n cap, .slice ah nh ch] w fun e w' => e = .returned (.bool true) ∧ Chg [] w w' := by
  have CW := Lib.hid (awake6_any w)
  have HI := Lib.hid hin
  have HH := Lib.hid hh.rowAt
  have hnn : n ≤ 9223372036854775807 := by unfold maxLen at hn; omega
  have hnh : nh ≤ 9223372036854775807 := by have := hh.rowAt.2.1; unfold maxLen at this; omega
  clear hin hn hh
  go_enter Tryz.func5, Tryz.ntmps5
  go_wp2_with fail
  refine CW.out.mono ?_
  rintro e w2 ⟨rfl, hc2⟩
  have CR := Lib.hid (room6_any a n cap 20 f w2 (HI.out.keep hc2) (by omega))
  have HC2 := Lib.hid hc2
  clear hc2 CW
  go_wp2_with fail
  refine CR.out.mono ?_
  rintro e w' ⟨hr, hq⟩
  subst hq
  rcases hr with ⟨rfl, hfew⟩ | rfl
  rotate_left
  · go_wp2
    go_ret
    exact ⟨rfl, HC2.out⟩
  by_cases h20 : nh ≤ 20
  rotate_left
  · have q0 : decide ((nh : Int) > 20) = true := decide_eq_true (by omega)
    have q1 : (20 : Int) < (nh : Int) := by omega
    go_wp2
    go_ret
    exact ⟨rfl, HC2.out⟩
  have q0 : decide ((nh : Int) > 20) = false := decide_eq_false (by omega)
  have q1 : ¬ (20 : Int) < (nh : Int) := by omega
  obtain ⟨t0, d0, hfm, hn0, ho0, hs0⟩ := ops_since 33 (by omega)
  have HFM := Lib.hid hfm
  have HT0 := Lib.hid (And.intro hn0 (And.intro ho0 hs0))
  have HFEW := Lib.hid hfew
  have hn20 : n ≤ 20 := hfew.1
  have CN := Lib.hid (own_disk 33 w2 (by omega) (by omega))
  clear hfm hn0 ho0 hs0 hfew CR
  go_wp2_with fail
  refine CN.out.mono ?_
  rintro e w3 ⟨p, S, rfl, hd3, hS3, hc3⟩
  have CF := Lib.hid (own_format (w0 := w) hd3 (fun x hx => Nat.le_trans HC2.out.size (hS3 x hx)) (HC2.out.trans hc3 (by simp)) HFM.out)
  clear hd3 hS3 hc3 CN q0 q1
  go_wp2_with fail
  refine CF.out.mono ?_
  rintro e w4 ⟨q, rfl, ho4⟩
  have HO4 := Lib.hid ho4
  clear ho4 CF
  go_wp2_with fail
  go_loopg [9] n (fun g' s9 wr => ∃ (j : Nat) (t : Sto), s9 = .int .i64 (j : Int) ∧ j ≤ n ∧ n ≤ j + g' ∧ Hid (Own6 [] w wr q p t ∧ t.s.d.n = 33 ∧ t.s.d.ops ≤ 33 + 20 * j ∧ t.s.d.since.length ≤ 20 * j))
  case atStart => exact ⟨0, t0, rfl, by omega, by omega, Lib.hid ⟨HO4.out, HT0.out.1, by have := HT0.out.2.1; omega, by have := HT0.out.2.2; omega⟩⟩
  case round =>
    obtain ⟨j, t, rfl, hj, hjg, HJ⟩ := hrel
    clear HO4
    by_cases hlt : j < n
    · have hjz : (j : Int) < (n : Int) := by omega
      rcases HI.out with h0 | ⟨g, o, rfl, hc⟩
      · omega
      have hd := hc j hlt
      have hbw : (f j).b ≠ [] → ∀ k, (f j).bv.ownBlock = some k → k < w.heap.size := hd.came.2
      obtain ⟨ab, cb, hbv⟩ := hd.came.1.slice
      have HDC : Hid (∀ w', Chg [] w w' → (w'.cell? ⟨g, o + j * 7, none⟩ = some (.int .i64 (f j).k) ∧ (w'.cell? ⟨g, o + j * 7 + 2, none⟩ = some (.int .i64 (f j).x.c) ∧ w'.cell? ⟨g, o + j * 7 + 2 + 1, none⟩ = some (.int .i64 (f j).x.l) ∧ w'.cell? ⟨g, o + j * 7 + 2 + 2, none⟩ = some (.int .i64 (f j).x.n) ∧ w'.cell? ⟨g, o + j * 7 + 2 + 3, none⟩ = some (.int .i64 (f j).x.i)) ∧
          w'.cell? ⟨g, o + j * 7 + 6, none⟩ = some (.slice ab (f j).b.length cb))) := Lib.hid (fun w' hcw => by
        have hd' := hd.keep hcw
        exact ⟨hd'.c0, ⟨hd'.c2, hd'.c3, hd'.c4, hd'.c5⟩, by rw [← hbv]; exact hd'.c6⟩)
      have HBY : Hid (∀ w', Chg [] w w' → BytesAt w' (.slice ab (f j).b.length cb) (f j).b) := Lib.hid (fun w' hcw => by rw [← hbv]; exact hd.came.1.chg hcw (by simp))
      have HBK : Hid ((f j).b ≠ [] → ∀ k, (Value.slice ab (f j).b.length cb).ownBlock = some k → k < w.heap.size) := Lib.hid (by rw [← hbv]; exact hbw)
      have hbl := HFEW.out.2 j hlt
      have hxo := hd.wx
      clear hc hd hbw hbv
      generalize f j = r at *
      obtain ⟨k, m, ⟨xc, xl, xn, xi⟩, bv0, b⟩ := r
      dsimp only at HDC HBY HBK hbl hxo
      have HOr := Lib.hid HJ.out.1
      obtain ⟨-, hj1, hj2, hj3⟩ := HJ.out
      have HJ1 := Lib.hid hj1
      clear HJ hj1
      obtain ⟨d0, d2, d6⟩ := HDC.out wr HOr.out.chg
      by_cases hk : k ≤ 4
      · have hk4 : k ≤ 4 := hk
        have CP := Lib.hid (own_put (HOr.out.keep0 (Chg.drew (Chg.refl [] wr))) ⟨xc, xl, xn, xi⟩ hxo (.slice ab b.length cb) b (HBY.out wr.drew (HOr.out.chg.drew)) (fun hne kk hkk => .inl (HBK.out hne kk hkk)) (by omega) (by omega) (by omega))
        obtain ⟨o1, o2, o3, -, -⟩ := t.put_ok ⟨xc, xl, xn, xi⟩ b
        have HO := Lib.hid (And.intro o1 (And.intro o2 (o3.trans HJ1.out)))
        generalize t.put ⟨xc, xl, xn, xi⟩ b = z at *
        obtain ⟨ze, t1⟩ := z
        dsimp only at CP HO
        clear o1 o2 o3
        go_wp2_with fail
        refine wp_region_L [(11, fun w' => (w'.cell? ⟨g, o + j * 7 + 2, none⟩ = some (.int .i64 xc) ∧ w'.cell? ⟨g, o + j * 7 + 2 + 1, none⟩ = some (.int .i64 xl) ∧ w'.cell? ⟨g, o + j * 7 + 2 + 2, none⟩ = some (.int .i64 xn) ∧ w'.cell? ⟨g, o + j * 7 + 2 + 3, none⟩ = some (.int .i64 xi))), (11, fun w' => w'.cell? ⟨g, o + j * 7 + 6, none⟩ = some (.slice ab b.length cb))] (by kernel_rfl) ?_ (fun hHeld => ?_)
        · exact (HoldC.cons (d2) (HoldC.cons (d6) HoldC.nil))
        refine wpAnyL_take (i := 0) (oi := _) (v := ?_) rfl (by kernel_rfl) (by kernel_rfl) (by kernel_rfl) (by kernel_rfl) (by kernel_rfl) (fun _ _ _ h => h) (Or.inl ⟨by rfl, ?_⟩) (by assumption) (fun hNew => ?_)
        rotate_left
        · intro w _
          go_simp
          try with_reducible rfl
        clear hHeld
        have hHeld := hNew
        clear hNew
        try simp only [List.getElem_toArray, List.getElem_cons_succ, List.getElem_cons_zero, Act.put, List.setIfInBounds_toArray, List.set_cons_zero, List.set_cons_succ]
        refine wpAnyL_take (i := 1) (oi := _) (v := ?_) rfl (by kernel_rfl) (by kernel_rfl) (by kernel_rfl) (by kernel_rfl) (by kernel_rfl) (fun _ _ _ h => h) (Or.inl ⟨by rfl, ?_⟩) (by assumption) (fun hNew => ?_)
        rotate_left
        · intro w _
          go_simp
          try with_reducible rfl
        clear hHeld
        have hHeld := hNew
        clear hNew
        try simp only [List.getElem_toArray, List.getElem_cons_succ, List.getElem_cons_zero, Act.put, List.setIfInBounds_toArray, List.set_cons_zero, List.set_cons_succ]
        refine wpAnyL_take (i := 2) (oi := _) (v := ?_) rfl (by kernel_rfl) (by kernel_rfl) (by kernel_rfl) (by kernel_rfl) (by kernel_rfl) (fun _ _ _ h => h) (Or.inl ⟨by rfl, ?_⟩) (by assumption) (fun hNew => ?_)
        rotate_left
        · intro w _
          go_simp
          try with_reducible rfl
        clear hHeld
        have hHeld := hNew
        clear hNew
        try simp only [List.getElem_toArray, List.getElem_cons_succ, List.getElem_cons_zero, Act.put, List.setIfInBounds_toArray, List.set_cons_zero, List.set_cons_succ]
        refine wpAnyL_take (i := 3) (oi := _) (v := ?_) rfl (by kernel_rfl) (by kernel_rfl) (by kernel_rfl) (by kernel_rfl) (by kernel_rfl) (fun _ _ _ h => h) (Or.inl ⟨by rfl, ?_⟩) (by assumption) (fun hNew => ?_)
        rotate_left
        · intro w _
          go_simp
          try with_reducible rfl
        clear hHeld
        have hHeld := hNew
        clear hNew
        try simp only [List.getElem_toArray, List.getElem_cons_succ, List.getElem_cons_zero, Act.put, List.setIfInBounds_toArray, List.set_cons_zero, List.set_cons_succ]
        refine wpAnyL_take (i := 4) (oi := _) (v := ?_) rfl (by kernel_rfl) (by kernel_rfl) (by kernel_rfl) (by kernel_rfl) (by kernel_rfl) (fun _ _ _ h => h) (Or.inl ⟨by rfl, ?_⟩) (by assumption) (fun hNew => ?_)
        rotate_left
        · intro w _
          go_simp
          try with_reducible rfl
        clear hHeld
        have hHeld := hNew
        clear hNew
        try simp only [List.getElem_toArray, List.getElem_cons_succ, List.getElem_cons_zero, Act.put, List.setIfInBounds_toArray, List.set_cons_zero, List.set_cons_succ]
        refine wpAnyL_load 0 (i := 5) (oi := _) (v := ?_) rfl rfl (by kernel_rfl) (by kernel_rfl) (by kernel_rfl) (by kernel_rfl) (by kernel_rfl) (by kernel_rfl) (fun _ _ _ h => h) (Or.inl ⟨by rfl, ?_⟩) (by assumption) (fun hNew => ?_)
        rotate_left
        · intro w hSw
          (try dsimp only at hSw)
          go_simp
          try with_reducible rfl
        clear hHeld
        have hHeld := hNew
        clear hNew
        try simp only [List.getElem_toArray, List.getElem_cons_succ, List.getElem_cons_zero, Act.put, List.setIfInBounds_toArray, List.set_cons_zero, List.set_cons_succ]
        refine wpAnyL_take (i := 6) (oi := _) (v := ?_) rfl (by kernel_rfl) (by kernel_rfl) (by kernel_rfl) (by kernel_rfl) (by kernel_rfl) (fun _ _ _ h => h) (Or.inl ⟨by rfl, ?_⟩) (by assumption) (fun hNew => ?_)
        rotate_left
        · intro w _
          go_simp
          try with_reducible rfl
        clear hHeld
        have hHeld := hNew
        clear hNew
        try simp only [List.getElem_toArray, List.getElem_cons_succ, List.getElem_cons_zero, Act.put, List.setIfInBounds_toArray, List.set_cons_zero, List.set_cons_succ]
        refine wpAnyL_take (i := 7) (oi := _) (v := ?_) rfl (by kernel_rfl) (by kernel_rfl) (by kernel_rfl) (by kernel_rfl) (by kernel_rfl) (fun _ _ _ h => h) (Or.inl ⟨by rfl, ?_⟩) (by assumption) (fun hNew => ?_)
        rotate_left
        · intro w _
          go_simp
          try with_reducible rfl
        clear hHeld
        have hHeld := hNew
        clear hNew
        try simp only [List.getElem_toArray, List.getElem_cons_succ, List.getElem_cons_zero, Act.put, List.setIfInBounds_toArray, List.set_cons_zero, List.set_cons_succ]
        refine wpAnyL_take (i := 8) (oi := _) (v := ?_) rfl (by kernel_rfl) (by kernel_rfl) (by kernel_rfl) (by kernel_rfl) (by kernel_rfl) (fun _ _ _ h => h) (Or.inl ⟨by rfl, ?_⟩) (by assumption) (fun hNew => ?_)
        rotate_left
        · intro w _
          go_simp
          try with_reducible rfl
        clear hHeld
        have hHeld := hNew
        clear hNew
        try simp only [List.getElem_toArray, List.getElem_cons_succ, List.getElem_cons_zero, Act.put, List.setIfInBounds_toArray, List.set_cons_zero, List.set_cons_succ]
        refine wpAnyL_take (i := 9) (oi := _) (v := ?_) rfl (by kernel_rfl) (by kernel_rfl) (by kernel_rfl) (by kernel_rfl) (by kernel_rfl) (fun _ _ _ h => h) (Or.inl ⟨by rfl, ?_⟩) (by assumption) (fun hNew => ?_)
        rotate_left
        · intro w _
          go_simp
          try with_reducible rfl
        clear hHeld
        have hHeld := hNew
        clear hNew
        try simp only [List.getElem_toArray, List.getElem_cons_succ, List.getElem_cons_zero, Act.put, List.setIfInBounds_toArray, List.set_cons_zero, List.set_cons_succ]
        refine wpAnyL_load 1 (i := 10) (oi := _) (v := ?_) rfl rfl (by kernel_rfl) (by kernel_rfl) (by kernel_rfl) (by kernel_rfl) (by kernel_rfl) (by kernel_rfl) (fun _ _ _ h => h) (Or.inl ⟨by rfl, ?_⟩) (by assumption) (fun hNew => ?_)
        rotate_left
        · intro w hSw
          (try dsimp only at hSw)
          go_simp
          try with_reducible rfl
        clear hHeld
        have hHeld := hNew
        clear hNew
        try simp only [List.getElem_toArray, List.getElem_cons_succ, List.getElem_cons_zero, Act.put, List.setIfInBounds_toArray, List.set_cons_zero, List.set_cons_succ]
        refine wpAnyL_ready (rs := [11]) (by kernel_rfl) (by simp) ?_
        refine AllReadyL.cons (o := _) rfl (fun K hK => ?_) AllReadyL.nil
        try simp only [List.getElem_toArray, List.getElem_cons_succ, List.getElem_cons_zero]
        go_simp
        refine CP.out.mono ?_
        rintro e w5 ⟨rfl, ho5, _⟩
        have HN := Lib.hid (And.intro ho5 (And.intro HO.out.2.2 (And.intro HO.out.1 HO.out.2.1)))
        clear ho5 CP
        clear hHeld
        refine hK.out _ _ ?_ (fun hHeld => ?_)
        · exact (HoldC.past (by kernel_rfl) (HoldC.past (by kernel_rfl) HoldC.nil))
        clear hK K
        try simp only [List.getElem_toArray, List.getElem_cons_succ, List.getElem_cons_zero, Act.put, List.setIfInBounds_toArray, List.set_cons_zero, List.set_cons_succ]
        refine wpAnyL_done (by kernel_rfl) ?_ _
        clear hHeld
        clear d0 d2 d6
        go_wp2_with fail
        go_roundg (gk - 1)
        case measure => omega
        case rel => exact ⟨j + 1, t1, by go_num, by omega, by omega, Lib.hid ⟨HN.out.1, HN.out.2.1, by have := HN.out.2.2.1; omega, by have := HN.out.2.2.2; omega⟩⟩
      · have hk4 : ¬ k ≤ 4 := hk
        have HN := Lib.hid (And.intro HOr.out (And.intro HJ1.out (And.intro hj2 hj3)))
        go_wp2_with fail
        go_roundg (gk - 1)
        case measure => omega
        case rel => exact ⟨j + 1, t, by go_num, by omega, by omega, Lib.hid ⟨HN.out.1, HN.out.2.1, by have := HN.out.2.2.1; omega, by have := HN.out.2.2.2; omega⟩⟩
    · have hjz : ¬ (j : Int) < (n : Int) := by omega
      obtain ⟨hO, hj1, -, -⟩ := HJ.out
      have CI := Lib.hid (own_image hO)
      have HC := Lib.hid hO.chg
      rw [hj1] at CI
      clear hO hj1 HJ
      go_wp2_with fail
      refine CI.out.mono ?_
      rintro e w5 ⟨v5, rfl, hb5, hl5, ho5, hc5⟩
      obtain ⟨g5, c5, rfl, hg5⟩ : ∃ g c, v5 = .slice (some ⟨g, 0, none⟩) 2112 c ∧ w.heap.size ≤ g := by
        rcases hb5.2 with ⟨h1, h2⟩ | ⟨g, cap', cur, h1, h2, h3, _⟩
        · omega
        · exact ⟨g, cap', by rw [h1, hl5], Nat.le_trans HC.out.size (ho5 g (by rw [h1]; rfl))⟩
      obtain ⟨w0r, hw0r⟩ : ∃ w0r, w0r = wr := ⟨_, rfl⟩
      rw [← hw0r] at *
      have HB5 : Hid (∃ l, Bits w w5 g5 c5 l) := Lib.hid ⟨_, by rw [hl5]; exact hb5, hl5, hg5, HC.out.trans hc5 (by simp)⟩
      clear hb5 hl5 ho5 hc5 hg5 CI HC hw0r
      go_wp2_with fail
      go_loopg [11] nh (fun g' s11 wr => ∃ k : Nat, s11 = .int .i64 (k : Int) ∧ k ≤ nh ∧ nh ≤ k + g' ∧ Hid (∃ l, Bits w wr g5 c5 l))
      case atStart => exact ⟨0, rfl, by omega, by omega, HB5⟩
      case round =>
        obtain ⟨k, rfl, hk, hkg, HK⟩ := hrel
        clear HB5
        by_cases hlt : k < nh
        · have hkz : (k : Int) < (nh : Int) := by omega
          have hkz0 : (0 : Int) ≤ (k : Int) := by omega
          have hkz1 : (k : Int).toNat = k := by omega
          obtain ⟨l, hb, hl, hg, hc⟩ := HK.out
          obtain ⟨gh, oh, rfl, hcell⟩ : ∃ gh oh, ah = some ⟨gh, oh, none⟩ ∧ ∀ i, i < nh → w.cell? ⟨gh, oh + i, none⟩ = some (.int .i64 (zs.getD i 0)) := by
            rcases HH.out.1 with h0 | ⟨gh, oh, h1, _, h2⟩
            · omega
            · exact ⟨gh, oh, h1, h2⟩
          have e0 := hc.cell (hcell k hlt) (by simp)
          generalize zs.getD k 0 = z at *
          have hm := tmod_in z
          obtain ⟨y, hy, hyk⟩ := hit_in z
          clear hcell HK
          have HY := Lib.hid hyk
          have HE0 := Lib.hid e0
          have HBB := Lib.hid hb
          have HX := Lib.hid (And.intro hl (And.intro hg hc))
          clear hb hl hg hc hyk
          go_upto_region 18 with (fail)
          go_cut [12] (fun s12 wx => s12 = .int .i64 (y : Int) ∧ wx = wr)
          case first =>
            go_wp2_with fail
            go_meet
            exact ⟨by rw [HY.out], rfl⟩
          case rest =>
          obtain ⟨rfl, hwc⟩ := hcut
          rw [hwc]
          clear hwc e0
          have hl := HX.out.1
          have hb := HBB.out
          rw [hl] at hb
          have hyb : y / 8 < 2112 := by omega
          have hyz : (y : Int) / 8 < 2112 := by omega
          have hyz0 : (0 : Int) ≤ (y : Int) / 8 := by omega
          have hyz1 : ((y : Int) / 8).toNat = y / 8 := by omega
          obtain ⟨c0, hc0⟩ : ∃ c0, c0 = l.getD (y / 8) 0 := ⟨_, rfl⟩
          have e5 : wr.cell? ⟨g5, y / 8, none⟩ = some (.int .u8 (c0.toNat : Int)) := by
            have h1 := World.ownsRow.cells hb (g := g5) rfl (y / 8) _ (bvs_at l (y / 8) (by omega))
            rw [add_none, Nat.zero_add, ← hc0] at h1
            exact h1
          have e6 : wr.frozen? ⟨g5, y / 8, none⟩ = false := by
            rcases hb.2 with ⟨h1, _⟩ | ⟨g', cap', cur, h1, _, h2, _⟩
            · cases h1
            · obtain rfl : g5 = g' := by simp at h1; exact h1.1
              exact blk_frozen h2 _
          have e7 : g5 < wr.heap.size := (World.ownsRow.lt hb g5 rfl).2
          clear hb hc0
          go_wp2_with fail
          obtain ⟨x, hx⟩ := xor_u8 (c0.toNat : Int) (2 ^ (y % 8) % 256)
          have HX2 := Lib.hid hx
          have HBS := Lib.hid (HBB.out.set (y / 8) (by have := HX.out.1; omega) x)
          go_roundg (gk - 1)
          case measure => omega
          case rel =>
            refine ⟨k + 1, by go_num, by omega, by omega, Lib.hid ⟨l.set (y / 8) x, ?_, ?_, HX.out.2.1, ?_⟩⟩
            · rw [HX2.out, List.length_set]
              exact HBS.out
            · rw [List.length_set]; exact HX.out.1
            · exact HX.out.2.2.setCell (.inr HX.out.2.1) _
        · have hkz : ¬ (k : Int) < (nh : Int) := by omega
          obtain ⟨l, hb, hl, hg, hc⟩ := HK.out
          have hb2 := hb.bytes
          rw [hl] at hb2
          have HB2 := Lib.hid hb2
          have HL := Lib.hid hl
          have HC := Lib.hid hc
          have CL := Lib.hid (dload_any _ l 33 wr hb2 hl (by omega) (by omega))
          have hcode := stOpen_code (DS.load 33 l) (by show 9 ≤ 33; omega)
          have HCODE := Lib.hid hcode
          clear hb hl hg hc hb2 hcode HK
          go_wp2_with fail
          refine CL.out.mono ?_
          rintro e w6 ⟨p6, S6, rfl, hd6, hS6, hc6⟩
          have HD6 := Lib.hid hd6
          have HC6 := Lib.hid hc6
          have CRL := Lib.hid (rload_any _ l 33 w6 (HB2.out.chg hc6 (by simp)) HL.out (by omega) (by omega))
          clear hd6 hS6 hc6 CL
          go_wp2_with fail
          refine CRL.out.mono ?_
          rintro e w7 ⟨m7, V7, F7, rfl, hr7, hF7, hc7⟩
          have HR7 := Lib.hid hr7
          have HC7 := Lib.hid (HC6.out.trans hc7 (by simp))
          have HD7 := Lib.hid (HD6.out.keep hc7 (by simp))
          have CO := Lib.hid (stopen_any p6 S6 (DS.load 33 l) w7 HD7.out)
          clear hr7 hF7 hc7 CRL
          rcases HCODE.out with ⟨c, hcc, hc0⟩ | ⟨t9, hcc⟩
          · rw [hcc] at CO
            go_wp2_with fail
            refine CO.out.mono ?_
            rintro e w8 ⟨hc8, he⟩
            dsimp only at he
            subst he
            have HC8 := Lib.hid (HC7.out.trans hc8 (by simp))
            have CRO := Lib.hid (rstopen_any m7 V7 F7 (DS.load 33 l) w8 (HR7.out.keep hc8 (by simp)))
            rw [hcc] at CRO
            clear hc8 CO hcc
            go_wp2_with fail
            refine CRO.out.mono ?_
            rintro e w9 ⟨hc9, he⟩
            dsimp only at he
            subst he
            have HCF : Hid (Chg [] w w9) := Lib.hid ((HC.out.trans HC8.out (by simp)).trans hc9 (by simp))
            have qc : (c != 0) = true := by simp [hc0]
            have qc2 : (c == 0) = false := by simp [hc0]
            clear hc9 CRO hc0
            go_wp2
            go_ret
            exact ⟨rfl, HCF.out⟩
          · rw [hcc] at CO
            go_wp2_with fail
            refine CO.out.mono ?_
            rintro e w8 ⟨hc8, q9, U9, he, hs8, -⟩
            subst he
            have HC8 := Lib.hid (HC7.out.trans hc8 (by simp))
            have HS8 := Lib.hid hs8
            have CRO := Lib.hid (rstopen_any m7 V7 F7 (DS.load 33 l) w8 (HR7.out.keep hc8 (by simp)))
            rw [hcc] at CRO
            clear hc8 hs8 CO hcc
            go_wp2_with fail
            refine CRO.out.mono ?_
            rintro e w9 ⟨hc9, q10, U10, B10, he, hr9, -, -⟩
            subst he
            have HC9 := Lib.hid (HC8.out.trans hc9 (by simp))
            have HR10 := Lib.hid hr9
            have HS9 := Lib.hid (HS8.out.keep0 hc9)
            have hl1000 := hr9.few.2.2
            have CID := Lib.hid (lawid_any 1 0 1 0 w9)
            clear hc9 hr9 CRO HS8
            go_wp2_with fail
            refine CID.out.mono ?_
            rintro e w10 ⟨rfl, hc10⟩
            have CLK := Lib.hid (looks6_any q9 p6 q10 m7 U9 U10 B10 t9 ⟨1, 0, 1, 0⟩ w10 (HS9.out.keep0 hc10) (HR10.out.keep hc10 (by simp)) (by decide) hl1000)
            have HC10 := Lib.hid (HC9.out.trans hc10 (by simp))
            clear hc10 CID
            go_wp2_with fail
            refine CLK.out.mono ?_
            rintro e w11 ⟨rfl, hc11⟩
            have HCF : Hid (Chg [] w w11) := Lib.hid ((HC.out.trans HC10.out (by simp)).trans hc11 (by simp))
            clear hc11 CLK
            go_wp2
            go_ret
            exact ⟨rfl, HCF.out⟩
end Go.Proofs.YtbkajnjboipbhaaGreatDoor.W

/- StoreOpens: what the row asks. -/
namespace Go.Proofs.YtbkajnjboipbhaaGreatDoor.storeOpens
set_option linter.unusedVariables false
open Go.RowKit Go.ChangeShapes Go.WideShapes
set_option maxRecDepth 100000 in
theorem walk {H : Type} {enc : TypeId × Value → H} {held : Bool} {base b0 : Nat} (v0 : Value) (d0 : DataW H) (p0 : List MemPlace) (ha : Option Addr) (hl hc : Nat) (zs : List Int) (X : World) (h0 : Value.okWide Tryz.prog X .any b0 48 v0) (k0 : DataW.Trod enc Tryz.prog X base (fun _ => true) held 48 v0 d0 p0)
    (hz : IsRow .i64 X ha hl hc zs) : Calls Tryz.prog 5 #[v0, .slice ha hl hc] X fun e w' => e = .returned (.bool true) ∧ Below X.heap.size X w' := by
  obtain ⟨a, n, cap, rfl⟩ := okWide_slice Tryz.underlying48 h0
  obtain ⟨f, hn, hin⟩ : ∃ f, n ≤ maxLen ∧ Go.Proofs.YtbkajnjboipbhaaGreatDoor.W.DeedsAt X a n f := by
    obtain ⟨fuel, hf⟩ := k0
    rcases Go.Proofs.YtbkajnjboipbhaaGreatDoor.W.open_deeds hf with hcs | ⟨x, l, c, f, hcs, hl, hm, hd⟩
    · simp [Value.cells] at hcs
      obtain ⟨rfl, rfl, rfl⟩ := hcs
      exact ⟨fun _ => default, by unfold maxLen; omega, .inl rfl⟩
    · simp [Value.cells] at hcs
      obtain ⟨rfl, rfl, rfl⟩ := hcs
      exact ⟨f, Nat.le_trans hl hm, hd⟩
  exact (Go.Proofs.YtbkajnjboipbhaaGreatDoor.W.opens6_any a n cap f ha hl hc zs X hin hn hz).mono fun e w' ⟨h1, h2⟩ => ⟨h1, h2.below (by simp)⟩
end Go.Proofs.YtbkajnjboipbhaaGreatDoor.storeOpens
