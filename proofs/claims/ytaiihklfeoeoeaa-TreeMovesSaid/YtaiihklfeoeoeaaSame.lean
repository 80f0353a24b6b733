/- The reference's Same. -/
import Derived.Test.YtaiihklfeoeoeaaB0
namespace Go.Proofs.Ytaiihklfeoeoeaa.W
open Go.RowKit
set_option linter.unusedVariables false
set_option linter.unusedSimpArgs false

theorem same_of (l m : List UInt8) (h : l.length = m.length) (hq : ∀ q, q < l.length → l.getD q 0 = m.getD q 0) : l = m := by
  apply List.ext_getElem h
  intro i h1 h2
  have := hq i h1
  simpa [List.getD_eq_getElem?_getD, List.getElem?_eq_getElem h1, List.getElem?_eq_getElem h2] using this
theorem bv_neq (a b : UInt8) (h : a ≠ b) : (((a.toNat : Int) != (b.toNat : Int)) = true) := by
  rw [bne_iff_ne]
  intro e
  exact h (UInt8.toNat_inj.1 (by omega))

set_option maxHeartbeats 4000000 in
set_option maxRecDepth 100000 in
/-- Same. -/
theorem same_any (u v : Value) (l m : List UInt8) (w : World) (hu : BytesAt w u l) (hv : BytesAt w v m) (hl : l.length ≤ 1000000000) (hm : m.length ≤ 1000000000) :
    Calls Try.prog 21 #[u, v] w fun e w' => e = .returned (.bool (decide (l = m))) ∧ ∃ n, w' = w.drewN n := by
  obtain ⟨au, cu, rfl, hlu, _, hu⟩ := hu
  obtain ⟨av, cv, rfl, hlv, _, hv⟩ := hv
  obtain ⟨d, hd⟩ : ∃ d, d = decide (l = m) := ⟨_, rfl⟩
  rw [← hd]
  have HD := Lib.hid hd
  clear hd
  have HU := Lib.hid hu
  have HV := Lib.hid hv
  clear hu hv
  by_cases hlen : l.length = m.length
  · have hmz : ((l.length : Int) != (m.length : Int)) = false := by rw [hlen]; simp
    have HL := Lib.hid hlen
    have hml : m.length = l.length := hlen.symm
    rw [hml]
    clear hlen hml hmz
    go_enter Try.func21, Try.ntmps21
    go_wp2
    go_loopg [5] l.length (fun g' s5 wr => ∃ (j n : Nat), s5 = .int .i64 j ∧ j ≤ l.length ∧ l.length ≤ j + g' ∧ Hid (∀ q, q < j → l.getD q 0 = m.getD q 0) ∧ wr = w.drewN n)
    case atStart => exact ⟨0, 0, rfl, by omega, by omega, fun q hq => absurd hq (by omega), rfl⟩
    case round =>
      obtain ⟨j, n, rfl, hj, hjg, HQ, rfl⟩ := hrel
      by_cases hlt : j < l.length
      · rcases HU.out with ⟨h0, _⟩ | ⟨gu, ou, rfl, hcu⟩
        · rw [h0] at hlt; simp at hlt
        rcases HV.out with ⟨h0, _⟩ | ⟨gv, ov, rfl, hcv⟩
        · have := HL.out; rw [h0, List.length_nil] at this; omega
        obtain ⟨x, hx, c0⟩ : ∃ x, l.getD j 0 = x ∧ w.cell? ⟨gu, ou + j, none⟩ = some (.int .u8 (x.toNat : Int)) := ⟨_, rfl, hcu j hlt⟩
        obtain ⟨y, hy, c1⟩ : ∃ y, m.getD j 0 = y ∧ w.cell? ⟨gv, ov + j, none⟩ = some (.int .u8 (y.toNat : Int)) := ⟨_, rfl, hcv j (by rw [← HL.out]; exact hlt)⟩
        have HX := Lib.hid hx
        have HY := Lib.hid hy
        have hjz : (j : Int) < (l.length : Int) := by omega
        have hjz0 : (0 : Int) ≤ (j : Int) := by omega
        have hjz1 : (j : Int).toNat = j := by omega
        clear hcu hcv hx hy
        by_cases hxy : x = y
        · subst hxy
          go_wp2
          go_quiet (fail)
          go_wp2
          go_roundg (gk - 1)
          case measure => omega
          case rel =>
            refine ⟨j + 1, _, by go_num, by omega, by omega, ?_, rfl⟩
            intro q hq
            rcases Nat.lt_or_ge q j with h | h
            · exact HQ.out q h
            · obtain rfl : q = j := by omega
              rw [HX.out, HY.out]
        · have hne := bv_neq x y hxy
          have hd : Hid (d = false) := Lib.hid (by
            rw [HD.out, decide_eq_false_iff_not]
            intro e
            have h1 := HX.out
            rw [e] at h1
            exact hxy (h1.symm.trans HY.out))
          clear hxy
          go_wp2
          go_quiet (fail)
          go_wp2
          go_ret
          exact ⟨ret_bool hd.out.symm, _, World.drewN_drewN ..⟩
      · have hd : Hid (d = true) := Lib.hid (by
          rw [HD.out, decide_eq_true_iff]
          exact same_of l m HL.out (fun q hq => HQ.out q (by omega)))
        go_wp2
        go_ret
        exact ⟨ret_bool hd.out.symm, _, rfl⟩
  · have hmz : ((l.length : Int) != (m.length : Int)) = true := by rw [bne_iff_ne]; omega
    have hd : Hid (d = false) := Lib.hid (by
      rw [HD.out, decide_eq_false_iff_not]
      intro e
      exact hlen (by rw [e]))
    clear hlen
    go_enter Try.func21, Try.ntmps21
    go_wp2
    go_ret
    exact ⟨ret_bool hd.out.symm, 0, rfl⟩
end Go.Proofs.Ytaiihklfeoeoeaa.W
