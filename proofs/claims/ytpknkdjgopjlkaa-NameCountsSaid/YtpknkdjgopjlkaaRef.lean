/- The walks of the reference's Join, Parent, Within. -/
import Derived.Test.YtpknkdjgopjlkaaJoin
namespace Go.Proofs.Ytpknkdjgopjlkaa
open Go.RowKit
set_option linter.unusedVariables false

theorem tail_snoc (l : List Bs) (p : Bs) : tailB (l ++ [p]) = tailB l ++ 47 :: p := by
  induction l with
  | nil => simp [tailB]
  | cons a l ih => simp only [List.cons_append, tailB, ih, List.append_assoc]
theorem tail_take {l : List Bs} {j : Nat} (h : j < l.length) : tailB (l.take (j + 1)) = tailB (l.take j) ++ [47] ++ l.getD j [] := by
  rw [List.take_succ_eq_append_getElem h, tail_snoc, List.getD_eq_getElem?_getD, List.getElem?_eq_getElem h]
  simp

set_option maxHeartbeats 4000000 in
set_option maxRecDepth 100000 in
theorem rjoin_any (A : Option Addr) (l : List Bs) (c top : Nat) (w : World) (hr : RowAt w w.heap.size A l.length (fun i => .string (mk (l.getD i [])))) (hc : l.length ≤ c) (hn : l.length ≤ 100) (hl : ∀ p ∈ l, p.length ≤ 100) :
    Calls Try.prog 20 #[.slice A l.length c] w fun e w' => e = .returned (.string (mk (joinB l))) ∧ Below w.heap.size w w' := by
  rcases hr with h0 | ⟨b, off, rfl, hlt, hcells⟩
  · have e : l = [] := List.eq_nil_of_length_eq_zero h0
    subst e
    go_enter Try.func20, Try.ntmps20
    go_wp2
    go_ret
    exact ⟨rfl, Below.refl _ _⟩
  · by_cases h0 : l = []
    · subst h0
      go_enter Try.func20, Try.ntmps20
      go_wp2
      go_ret
      exact ⟨rfl, Below.refl _ _⟩
    · have hzb : ((l.length : Int) == 0) = false := by
        rw [beq_eq_false_iff_ne]; intro x
        exact h0 (List.eq_nil_of_length_eq_zero (by omega))
      have HJ : Hid (joinB l = tailB l) := by show _ = _; unfold joinB; rw [if_neg h0]
      have HC := Lib.hid hcells
      have HL := Lib.hid hl
      clear hcells hl h0
      go_enter Try.func20, Try.ntmps20
      go_wp2
      go_loop [3, 4] (fun s i => ∃ j : Nat, j ≤ l.length ∧ i = .int .i64 j ∧ s = .string (mk (tailB (l.take j)))) (fun _ i => l.length - (intOf i).toNat)
      case atStart => exact ⟨0, Nat.zero_le _, rfl, rfl⟩
      case round =>
        obtain ⟨j, hj, rfl, rfl⟩ := hrel
        by_cases hlt2 : j < l.length
        · obtain ⟨p, hp, hcp⟩ : ∃ p, l.getD j [] = p ∧ w.cell? ⟨b, off + j, none⟩ = some (.string (mk p)) := ⟨_, rfl, HC.out j hlt2⟩
          have ht := tail_take hlt2
          rw [hp] at ht
          have hT : (tailB (l.take j)).length ≤ 101 * (l.take j).length := tail_len _ (fun q hq => HL.out q (List.mem_of_mem_take hq))
          have hTl : (l.take j).length ≤ j := List.length_take_le _ _
          have hpl : p.length ≤ 100 := by
            rw [← hp]
            rw [List.getD_eq_getElem?_getD, List.getElem?_eq_getElem hlt2]
            exact HL.out _ (List.getElem_mem hlt2)
          generalize tailB (l.take j) = S at *
          have a1 : ∀ W, (Op.stringOp .add (mk S) ⟨#[47]⟩).run Try.prog W = .ok (.string (mk (S ++ [47]))) W := fun W => by
            rw [run_string_add_sum W _ _ (by
              have h1 : (mk S).size = S.length := by rw [size_len, data_mk]
              have h2 : (ByteArray.mk #[47]).size = 1 := rfl
              rw [h1, h2]; omega)]
            exact congrArg (fun b => Result.ok (Value.string b) W) (mk_append S [47])
          have a2 : ∀ W, (Op.stringOp .add (mk (S ++ [47])) (mk p)).run Try.prog W = .ok (.string (mk (S ++ [47] ++ p))) W := fun W => by
            rw [run_string_add_sum W _ _ (by
              have h1 : (mk (S ++ [47])).size = S.length + 1 := by rw [size_len, data_mk]; simp
              have h2 : (mk p).size = p.length := by rw [size_len, data_mk]
              rw [h1, h2]; omega)]
            exact congrArg (fun b => Result.ok (Value.string b) W) (mk_append (S ++ [47]) p)
          have HT := Lib.hid ht
          generalize hm2 : mk (S ++ [47] ++ p) = M2 at *
          generalize hm1 : mk (S ++ [47]) = M1 at *
          generalize hm0 : mk S = M0 at *
          generalize hmp : mk p = Mp at *
          have HM2 := Lib.hid hm2
          clear ht hp hT hTl hm2 hm1 hm0 hmp
          go_wp2
          go_round
          case rel => exact ⟨j + 1, by omega, by go_num, by rw [HT.out, HM2.out]⟩
          case measure => simp [intOf]; omega
        · have ht : l.take j = l := List.take_of_length_le (by omega)
          have HT := Lib.hid ht
          clear ht
          go_wp2
          go_ret
          refine ⟨?_, Below.refl _ _⟩
          rw [HJ.out]
          have := HT.out
          exact congrArg (fun b => Ending.returned (.string (mk (tailB b)))) this

set_option maxHeartbeats 4000000 in
set_option maxRecDepth 100000 in
theorem rparent_any (s : ByteArray) (w : World) (hs : s.size ≤ 1000) : Calls Try.prog 14 #[.string s] w (ParentPost w s.data.toList) := by
  cases hsp : splitB s.data.toList with
  | none =>
    have HSP := Lib.hid hsp
    go_enter Try.func14, Try.ntmps14
    go_wp2_with fail
    refine (rsplit_any s w hs).mono ?_
    rintro e w1 ⟨hb1, he⟩
    rw [hsp] at he
    subst he
    clear hsp
    go_wp2
    go_ret3
    refine ⟨hb1, ?_⟩
    rw [HSP.out]
    rfl
  | some l =>
    have h8 := (split_some hsp).2.1
    have HM := Lib.hid (split_some hsp).1
    go_enter Try.func14, Try.ntmps14
    go_wp2_with fail
    refine (rsplit_any s w hs).mono ?_
    rintro e w1 ⟨hb1, he⟩
    rw [hsp] at he
    obtain ⟨v, rfl, a, c, rfl, hcap, hr⟩ := he
    have HSP := Lib.hid hsp
    clear hsp
    by_cases h0 : l.length = 0
    · have hzb : ((l.length : Int) == 0) = true := by rw [h0]; rfl
      have HL : Hid (l = []) := List.eq_nil_of_length_eq_zero h0
      clear h0 hr
      go_wp2
      go_ret3
      refine ⟨hb1, ?_⟩
      rw [HSP.out]
      simp only [HL.out, if_true]
      rfl
    · have hzb : ((l.length : Int) == 0) = false := by rw [beq_eq_false_iff_ne]; omega
      rcases hr with h | ⟨x, o, rfl, hx, hc⟩
      · exact absurd h h0
      have HC := Lib.hid hc
      clear hc
      go_wp2
      obtain ⟨m, hm⟩ : ∃ m, l.length = m + 1 := ⟨l.length - 1, by omega⟩
      have hcl := HC.out m (by omega)
      have e1 : IntKind.i64.wrap ((l.length : Int) - 1) = (m : Int) := by rw [IntKind.wrap_i64]; omega
      have hdl : l.dropLast.length = m := by rw [List.length_dropLast]; omega
      have hm0 : (0 : Int) ≤ (m : Int) := by omega
      have hm1 : (m : Int) < (l.length : Int) := by omega
      have hm2 : (m : Int) ≤ (c : Int) := by omega
      have hmc : m ≤ c := by omega
      have cj : ∀ C, m ≤ C → ∀ W, Below w1.heap.size w1 W → Calls Try.prog 20 #[.slice (some ⟨x, o, none⟩) m C] W fun e w' => e = .returned (.string (mk (joinB l.dropLast))) ∧ Below W.heap.size W w' := by
        intro C hC W hW
        have hrow : RowAt W W.heap.size (some ⟨x, o, none⟩) l.dropLast.length (fun i => .string (mk (l.dropLast.getD i []))) := by
          refine .inr ⟨x, o, rfl, Nat.lt_of_lt_of_le hx hW.size, fun i hi => ?_⟩
          show _ = some (Value.string (mk (l.dropLast.getD i [])))
          rw [dropLast_getD hm i (by omega)]
          exact (hW.cell (p := ⟨x, o + i, none⟩) hx).trans (HC.out i (by omega))
        have := rjoin_any (some ⟨x, o, none⟩) l.dropLast C 0 W hrow (by omega) (by omega) (fun p hp => by
          have := (may_len (HM.out p (List.dropLast_subset l hp))).2; omega)
        rw [hdl] at this
        exact this
      have CJ := Lib.hid cj
      have HD := Lib.hid hm
      clear cj hm hdl
      generalize hlv : l.getD m [] = lv at *
      have HLV := Lib.hid hlv
      clear hlv
      go_region_held3 (fun w' => w'.cell? ⟨x, o + m, none⟩ = some (.string (mk lv)))
        (first
          | go_keep
          | exact (hbj.cell (p := ⟨x, o + m, none⟩) hx).trans hcl)
        (first
          | (go_at_call 20; refine (CJ.out _ (by omega) _ (by first | exact Below.refl _ _ | exact (Below.refl _ _).drew)).mono ?_; rintro e wj ⟨rfl, hbj0⟩; have hbj : Below w1.heap.size w1 wj := by first | exact hbj0 | exact (Below.refl _ _).drew.trans hbj0))
      go_wp2
      go_ret3
      refine ⟨bt0 hb1 hbj, ?_⟩
      rw [HSP.out]
      have hne : ¬ l = [] := by intro e; exact h0 (by rw [e]; rfl)
      simp only [hne, if_false]
      rw [← last_getD HD.out, HLV.out]
      rfl
set_option maxHeartbeats 4000000 in
set_option maxRecDepth 100000 in
theorem rwithin_any (a b : ByteArray) (w : World) (ha : a.size ≤ 1000) (hb : b.size ≤ 1000) :
    Calls Try.prog 18 #[.string a, .string b] w fun e w' => e = .returned (.bool (withinB a.data.toList b.data.toList)) ∧ Below w.heap.size w w' := by
  cases hsa : splitB a.data.toList with
  | none =>
    have hres : withinB a.data.toList b.data.toList = false := by simp [withinB, hsa]
    rw [hres]
    go_enter Try.func18, Try.ntmps18
    go_wp2_with fail
    refine (rsplit_any a w ha).mono ?_
    rintro e w1 ⟨hb1, he⟩
    rw [hsa] at he
    subst he
    have HS := Lib.hid hsa
    clear hres hsa
    go_wp2_with fail
    refine (rsplit_any b _ hb).mono ?_
    rintro e w2 ⟨hb2, he⟩
    have hbel : Below w.heap.size w w2 := hb1.trans (hb2.mono hb1.size)
    cases hsb : splitB b.data.toList with
    | none =>
      rw [hsb] at he; subst he
      clear hsb
      go_wp2
      go_ret
      exact ⟨rfl, hbel⟩
    | some k =>
      rw [hsb] at he
      obtain ⟨v, rfl, hv⟩ := he
      clear hsb
      go_wp2
      go_ret
      exact ⟨rfl, hbel⟩
  | some l =>
    have HRES : Hid (withinB a.data.toList b.data.toList = match splitB b.data.toList with | some k => k.isPrefixOf l | none => false) := by
      show _ = _
      unfold withinB
      rw [hsa]
      cases splitB b.data.toList <;> rfl
    go_enter Try.func18, Try.ntmps18
    go_wp2_with fail
    refine (rsplit_any a w ha).mono ?_
    rintro e w1 ⟨hb1, he⟩
    rw [hsa] at he
    obtain ⟨v1, rfl, hv1⟩ := he
    have h8 := (split_some hsa).2.1
    clear hsa
    go_wp2_with fail
    refine (rsplit_any b _ hb).mono ?_
    rintro e w2 ⟨hb2, he⟩
    have hbel : Below w.heap.size w w2 := hb1.trans (hb2.mono hb1.size)
    cases hsb : splitB b.data.toList with
    | none =>
      rw [hsb] at he; subst he
      have HB := Lib.hid hsb
      clear hsb
      go_wp2
      go_ret
      rw [HRES.out, HB.out]
      exact ⟨rfl, hbel⟩
    | some k =>
      rw [hsb] at he
      obtain ⟨v2, rfl, hv2⟩ := he
      have h8k := (split_some hsb).2.1
      have HB := Lib.hid hsb
      clear hsb
      obtain ⟨a1, c1, rfl, hcap1, hr1⟩ := hv1.below hb2
      obtain ⟨a2, c2, rfl, hcap2, hr2⟩ := hv2
      by_cases hlen : l.length < k.length
      · have hpf : k.isPrefixOf l = false := by
          rw [← Bool.not_eq_true, List.isPrefixOf_iff_prefix]
          intro h
          have := h.length_le; omega
        have HP := Lib.hid hpf
        clear hpf hr1 hr2
        go_wp2
        go_ret
        rw [HRES.out, HB.out]
        simp only [HP.out]
        exact ⟨rfl, hbel⟩
      · have hle : k.length ≤ l.length := by omega
        by_cases hk0 : k.length = 0
        · have HP : Hid (k.isPrefixOf l = true) := by
            have : k = [] := List.eq_nil_of_length_eq_zero hk0
            subst this; rfl
          have hz : ¬ (0 : Int) < (k.length : Int) := by omega
          clear hr1 hr2 hk0
          go_wp2
          refine wp_loop_rounds 1 ?_
          rw [rounds_succ]
          go_wp2
          go_ret
          rw [HRES.out, HB.out]
          simp only [HP.out]
          exact ⟨rfl, hbel⟩
        · rcases hr1 with h0 | ⟨x1, o1, rfl, hx1, hc1⟩
          · exact absurd h0 (by omega)
          · rcases hr2 with h0 | ⟨x2, o2, rfl, hx2, hc2⟩
            · exact absurd h0 (by omega)
            · have H1 := Lib.hid hc1
              have H2 := Lib.hid hc2
              clear hc1 hc2
              go_wp2
              go_loopw [9] (fun i wr => ∃ j n : Nat, j ≤ k.length ∧ i = .int .i64 j ∧ Hid (sameTo k l j) ∧ wr = w2.drewN n) (fun i _ => k.length - (intOf i).toNat)
              case atStart => exact ⟨0, 0, Nat.zero_le _, rfl, fun i hi => absurd hi (by omega), rfl⟩
              case round =>
                obtain ⟨j, n, hj, rfl, HS, rfl⟩ := hrel
                by_cases hlt : j < k.length
                · have hlt2 : j < l.length := by omega
                  obtain ⟨y, hy, hcy⟩ : ∃ y, k.getD j [] = y ∧ w2.cell? ⟨x2, o2 + j, none⟩ = some (.string (mk y)) := ⟨_, rfl, H2.out j hlt⟩
                  obtain ⟨x, hx, hcx⟩ : ∃ x, l.getD j [] = x ∧ w2.cell? ⟨x1, o1 + j, none⟩ = some (.string (mk x)) := ⟨_, rfl, H1.out j hlt2⟩
                  have HY := Lib.hid hy
                  have HX := Lib.hid hx
                  clear hy hx
                  by_cases hxy : x = y
                  · have hne : ((mk x).toList == (mk y).toList) = true := by rw [str_ne]; simp [hxy]
                    have HXY := Lib.hid hxy
                    clear hxy
                    generalize mk x = X at *
                    generalize mk y = Y at *
                    go_wp2
                    go_quiet (fail)
                    go_wp2
                    go_roundw
                    case rel =>
                      refine ⟨j + 1, _, by omega, by go_num, fun i hi => ?_, rfl⟩
                      by_cases e : i = j
                      · subst e; rw [HY.out, HX.out, HXY.out]
                      · exact HS.out i (by omega)
                    case measure => simp [intOf]; omega
                  · have hne : ((mk x).toList == (mk y).toList) = false := by rw [str_ne]; simp [hxy]
                    have HP : Hid (k.isPrefixOf l = false) := by
                      show _ = _
                      rw [← Bool.not_eq_true, prefix_iff hle]
                      intro h
                      have := h j hlt
                      rw [HY.out, HX.out] at this
                      exact hxy this.symm
                    clear hxy
                    generalize mk x = X at *
                    generalize mk y = Y at *
                    go_wp2
                    go_quiet (fail)
                    go_wp2
                    go_ret
                    rw [HRES.out, HB.out]
                    simp only [HP.out]
                    exact ⟨rfl, below_drewN (below_drewN hbel _) _⟩
                · have HP : Hid (k.isPrefixOf l = true) := by
                    show _ = _
                    rw [prefix_iff hle]
                    intro i hi
                    exact HS.out i (by omega)
                  go_wp2
                  go_ret
                  rw [HRES.out, HB.out]
                  simp only [HP.out]
                  exact ⟨rfl, below_drewN hbel _⟩
end Go.Proofs.Ytpknkdjgopjlkaa
