/- The walks of the reference's Join, Parent, Within. -/
import Derived.Test.YtaiihklfeoeoeaaNMJoin
namespace Go.Proofs.Ytaiihklfeoeoeaa.NM
open Go.RowKit
set_option linter.unusedVariables false

set_option maxHeartbeats 4000000 in
set_option maxRecDepth 100000 in
theorem rwithin_any (a b : ByteArray) (w : World) (ha : a.size ≤ 1000) (hb : b.size ≤ 1000) :
    Calls Try.prog 23 #[.string a, .string b] w fun e w' => e = .returned (.bool (withinB a.data.toList b.data.toList)) ∧ Below w.heap.size w w' := by
  cases hsa : splitB a.data.toList with
  | none =>
    have hres : withinB a.data.toList b.data.toList = false := by simp [withinB, hsa]
    rw [hres]
    go_enter Try.func23, Try.ntmps23
    go_wp2_with fail
    refine (rsplit_any a w ha).mono ?_
    rintro e w1 ⟨hb1, he⟩
    rw [hsa] at he
    subst he
    have HS := Lib.hid hsa
    clear hres hsa
    go_wp2_with fail
    refine (rsplit_any b _ hb).mono ?_
    rintro e w2 ⟨hb2, he⟩
    have hbel : Below w.heap.size w w2 := hb1.trans (hb2.mono hb1.size)
    cases hsb : splitB b.data.toList with
    | none =>
      rw [hsb] at he; subst he
      clear hsb
      go_wp2
      go_ret
      exact ⟨rfl, hbel⟩
    | some k =>
      rw [hsb] at he
      obtain ⟨v, rfl, hv⟩ := he
      clear hsb
      go_wp2
      go_ret
      exact ⟨rfl, hbel⟩
  | some l =>
    have HRES : Hid (withinB a.data.toList b.data.toList = match splitB b.data.toList with | some k => k.isPrefixOf l | none => false) := by
      show _ = _
      unfold withinB
      rw [hsa]
      cases splitB b.data.toList <;> rfl
    go_enter Try.func23, Try.ntmps23
    go_wp2_with fail
    refine (rsplit_any a w ha).mono ?_
    rintro e w1 ⟨hb1, he⟩
    rw [hsa] at he
    obtain ⟨v1, rfl, hv1⟩ := he
    have h8 := (split_some hsa).2.1
    clear hsa
    go_wp2_with fail
    refine (rsplit_any b _ hb).mono ?_
    rintro e w2 ⟨hb2, he⟩
    have hbel : Below w.heap.size w w2 := hb1.trans (hb2.mono hb1.size)
    cases hsb : splitB b.data.toList with
    | none =>
      rw [hsb] at he; subst he
      have HB := Lib.hid hsb
      clear hsb
      go_wp2
      go_ret
      rw [HRES.out, HB.out]
      exact ⟨rfl, hbel⟩
    | some k =>
      rw [hsb] at he
      obtain ⟨v2, rfl, hv2⟩ := he
      have h8k := (split_some hsb).2.1
      have HB := Lib.hid hsb
      clear hsb
      obtain ⟨a1, c1, rfl, hcap1, hr1⟩ := hv1.below hb2
      obtain ⟨a2, c2, rfl, hcap2, hr2⟩ := hv2
      by_cases hlen : l.length < k.length
      · have hpf : k.isPrefixOf l = false := by
          rw [← Bool.not_eq_true, List.isPrefixOf_iff_prefix]
          intro h
          have := h.length_le; omega
        have HP := Lib.hid hpf
        clear hpf hr1 hr2
        go_wp2
        go_ret
        rw [HRES.out, HB.out]
        simp only [HP.out]
        exact ⟨rfl, hbel⟩
      · have hle : k.length ≤ l.length := by omega
        by_cases hk0 : k.length = 0
        · have HP : Hid (k.isPrefixOf l = true) := by
            have : k = [] := List.eq_nil_of_length_eq_zero hk0
            subst this; rfl
          have hz : ¬ (0 : Int) < (k.length : Int) := by omega
          clear hr1 hr2 hk0
          go_wp2
          refine wp_loop_rounds 1 ?_
          rw [rounds_succ]
          go_wp2
          go_ret
          rw [HRES.out, HB.out]
          simp only [HP.out]
          exact ⟨rfl, hbel⟩
        · rcases hr1 with h0 | ⟨x1, o1, rfl, hx1, hc1⟩
          · exact absurd h0 (by omega)
          · rcases hr2 with h0 | ⟨x2, o2, rfl, hx2, hc2⟩
            · exact absurd h0 (by omega)
            · have H1 := Lib.hid hc1
              have H2 := Lib.hid hc2
              clear hc1 hc2
              go_wp2
              go_loopw [9] (fun i wr => ∃ j n : Nat, j ≤ k.length ∧ i = .int .i64 j ∧ Hid (sameTo k l j) ∧ wr = w2.drewN n) (fun i _ => k.length - (intOf i).toNat)
              case atStart => exact ⟨0, 0, Nat.zero_le _, rfl, fun i hi => absurd hi (by omega), rfl⟩
              case round =>
                obtain ⟨j, n, hj, rfl, HS, rfl⟩ := hrel
                by_cases hlt : j < k.length
                · have hlt2 : j < l.length := by omega
                  obtain ⟨y, hy, hcy⟩ : ∃ y, k.getD j [] = y ∧ w2.cell? ⟨x2, o2 + j, none⟩ = some (.string (mk y)) := ⟨_, rfl, H2.out j hlt⟩
                  obtain ⟨x, hx, hcx⟩ : ∃ x, l.getD j [] = x ∧ w2.cell? ⟨x1, o1 + j, none⟩ = some (.string (mk x)) := ⟨_, rfl, H1.out j hlt2⟩
                  have HY := Lib.hid hy
                  have HX := Lib.hid hx
                  clear hy hx
                  by_cases hxy : x = y
                  · have hne : ((mk x).toList == (mk y).toList) = true := by rw [str_ne]; simp [hxy]
                    have HXY := Lib.hid hxy
                    clear hxy
                    generalize mk x = X at *
                    generalize mk y = Y at *
                    go_wp2
                    go_quiet (fail)
                    go_wp2
                    go_roundw
                    case rel =>
                      refine ⟨j + 1, _, by omega, by go_num, fun i hi => ?_, rfl⟩
                      by_cases e : i = j
                      · subst e; rw [HY.out, HX.out, HXY.out]
                      · exact HS.out i (by omega)
                    case measure => simp [intOf]; omega
                  · have hne : ((mk x).toList == (mk y).toList) = false := by rw [str_ne]; simp [hxy]
                    have HP : Hid (k.isPrefixOf l = false) := by
                      show _ = _
                      rw [← Bool.not_eq_true, prefix_iff hle]
                      intro h
                      have := h j hlt
                      rw [HY.out, HX.out] at this
                      exact hxy this.symm
                    clear hxy
                    generalize mk x = X at *
                    generalize mk y = Y at *
                    go_wp2
                    go_quiet (fail)
                    go_wp2
                    go_ret
                    rw [HRES.out, HB.out]
                    simp only [HP.out]
                    exact ⟨rfl, below_drewN (below_drewN hbel _) _⟩
                · have HP : Hid (k.isPrefixOf l = true) := by
                    show _ = _
                    rw [prefix_iff hle]
                    intro i hi
                    exact HS.out i (by omega)
                  go_wp2
                  go_ret
                  rw [HRES.out, HB.out]
                  simp only [HP.out]
                  exact ⟨rfl, below_drewN hbel _⟩
end Go.Proofs.Ytaiihklfeoeoeaa.NM
