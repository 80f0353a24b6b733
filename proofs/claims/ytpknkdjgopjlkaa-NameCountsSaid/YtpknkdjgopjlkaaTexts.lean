/- The walks of Texts and of awake. -/
import Derived.Test.YtpknkdjgopjlkaaWithin
import Derived.Deep.QuietTactic
import Derived.BigQuiet
namespace Go.Proofs.Ytpknkdjgopjlkaa
open Go.RowKit
set_option linter.unusedVariables false

theorem same_iff {xs ys : List Bs} (h : xs.length = ys.length) : xs = ys ↔ sameTo xs ys xs.length := by
  constructor
  · rintro rfl; exact fun _ _ => rfl
  · intro hs
    refine List.ext_getElem? fun i => ?_
    by_cases hi : i < xs.length
    · have := hs i hi
      simp only [List.getD_eq_getElem?_getD, List.getElem?_eq_getElem hi, List.getElem?_eq_getElem (h ▸ hi)] at this
      rw [List.getElem?_eq_getElem hi, List.getElem?_eq_getElem (h ▸ hi)]
      simpa using this
    · rw [List.getElem?_eq_none (by omega), List.getElem?_eq_none (by omega)]

/-- What Texts answers. -/
def TextsPost (w : World) (b : Bool) (e : Ending) (w' : World) : Prop := e = .returned (.bool b) ∧ ∃ n, w' = w.drewN n

set_option maxHeartbeats 4000000 in
set_option maxRecDepth 100000 in
theorem texts_any (A B : Option Addr) (xs ys : List Bs) (c1 c2 t1 t2 : Nat) (w : World) (hx : xs.length ≤ 1000) (hr1 : RowAt w t1 A xs.length (fun i => .string (mk (xs.getD i [])))) (hr2 : RowAt w t2 B ys.length (fun i => .string (mk (ys.getD i [])))) :
    Calls Try.prog 17 #[.slice A xs.length c1, .slice B ys.length c2] w (TextsPost w (decide (xs = ys))) := by
  by_cases hl : xs.length = ys.length
  · have HL := Lib.hid hl
    rw [← hl] at hr2 ⊢
    clear hl
    by_cases h0 : xs.length = 0
    · have HR : Hid (decide (xs = ys) = true) := by
        show _ = _
        rw [decide_eq_true_eq, same_iff HL.out]
        intro i hi; omega
      have hz : ¬ (0 : Int) < (xs.length : Int) := by omega
      have hnb : ((xs.length : Int) != (xs.length : Int)) = false := by simp
      clear h0 hr1 hr2
      go_enter Try.func17, Try.ntmps17
      go_wp2
      refine wp_loop_rounds 1 ?_
      rw [rounds_succ]
      go_wp2
      go_ret
      rw [HR.out]
      exact ⟨rfl, 0, rfl⟩
    · rcases hr1 with h | ⟨x1, o1, rfl, hx1, hc1⟩
      · exact absurd h h0
      rcases hr2 with h | ⟨x2, o2, rfl, hx2, hc2⟩
      · exact absurd h h0
      have H1 := Lib.hid hc1
      have H2 := Lib.hid hc2
      clear hc1 hc2
      go_enter Try.func17, Try.ntmps17
      go_wp2
      go_loopw [5] (fun i wr => ∃ j n : Nat, j ≤ xs.length ∧ i = .int .i64 j ∧ Hid (sameTo xs ys j) ∧ wr = w.drewN n) (fun i _ => xs.length - (intOf i).toNat)
      case atStart => exact ⟨0, 0, Nat.zero_le _, rfl, fun i hi => absurd hi (by omega), rfl⟩
      case round =>
        obtain ⟨j, n, hj, rfl, HS, rfl⟩ := hrel
        by_cases hlt : j < xs.length
        · obtain ⟨x, hx, hcx⟩ : ∃ x, xs.getD j [] = x ∧ w.cell? ⟨x1, o1 + j, none⟩ = some (.string (mk x)) := ⟨_, rfl, H1.out j hlt⟩
          obtain ⟨y, hy, hcy⟩ : ∃ y, ys.getD j [] = y ∧ w.cell? ⟨x2, o2 + j, none⟩ = some (.string (mk y)) := ⟨_, rfl, H2.out j hlt⟩
          have HY := Lib.hid hy
          have HX := Lib.hid hx
          clear hy hx
          by_cases hxy : x = y
          · have hne : ((mk x).toList == (mk y).toList) = true := by rw [str_ne]; simp [hxy]
            have HXY := Lib.hid hxy
            clear hxy
            generalize mk x = X at *
            generalize mk y = Y at *
            go_wp2
            go_quiet (fail)
            go_wp2
            go_roundw
            case rel =>
              refine ⟨j + 1, _, by omega, by go_num, fun i hi => ?_, rfl⟩
              by_cases e : i = j
              · subst e; rw [HY.out, HX.out, HXY.out]
              · exact HS.out i (by omega)
            case measure => simp [intOf]; omega
          · have hne : ((mk x).toList == (mk y).toList) = false := by rw [str_ne]; simp [hxy]
            have HR : Hid (decide (xs = ys) = false) := by
              show _ = _
              rw [decide_eq_false_iff_not]
              rintro rfl
              rw [HY.out] at HX
              exact hxy HX.out.symm
            clear hxy
            generalize mk x = X at *
            generalize mk y = Y at *
            go_wp2
            go_quiet (fail)
            go_wp2
            go_ret
            rw [HR.out]
            exact ⟨rfl, _, World.drewN_drewN ..⟩
        · have HR : Hid (decide (xs = ys) = true) := by
            show _ = _
            rw [decide_eq_true_eq, same_iff HL.out]
            intro i hi; exact HS.out i (by omega)
          go_wp2
          go_ret
          rw [HR.out]
          exact ⟨rfl, _, rfl⟩
  · have HR : Hid (decide (xs = ys) = false) := by
      show _ = _
      rw [decide_eq_false_iff_not]
      rintro rfl; exact hl rfl
    have hnb : ((xs.length : Int) == (ys.length : Int)) = false := by rw [beq_eq_false_iff_ne]; omega
    have hnb2 : ((xs.length : Int) != (ys.length : Int)) = true := by rw [bne_iff_ne]; omega
    clear hl hr1 hr2
    go_enter Try.func17, Try.ntmps17
    go_wp2
    go_ret
    rw [HR.out]
    exact ⟨rfl, 0, rfl⟩

theorem cell_new (w : World) (cs : Array Value) (t : TypeId) (i : Nat) : (w.alloc (.cells cs t)).cell? ⟨w.heap.size, i, none⟩ = cs[i]? := by
  unfold World.cell?
  rw [heap_alloc_new]
  rfl
theorem below_drewN {B : Nat} {a w : World} (h : Below B a w) (n : Nat) : Below B a (w.drewN n) := ⟨h.os, h.tape, h.output, h.size, h.block⟩
theorem split_awake : splitB (mk [47, 97, 47, 98, 99]).data.toList = some [[97], [98, 99]] := by decide
theorem may_a : mayB (mk [97]).data.toList = true := by decide
theorem may_dot : mayB (mk [46]).data.toList = false := by decide

set_option maxHeartbeats 4000000 in
set_option maxRecDepth 100000 in
theorem awake_any (w : World) : Calls Try.prog 8 #[] w fun e w' => e = .returned (.bool true) ∧ Below w.heap.size w w' := by
  go_enter Try.func8, Try.ntmps8
  go_wp2_with fail
  refine (split_any (mk [47, 97, 47, 98, 99]) w (by decide)).mono ?_
  rintro e w1 ⟨hb1, he⟩
  rw [split_awake] at he
  obtain ⟨v, rfl, a, c, rfl, hcap, hr⟩ := he
  have H1 := Lib.hid hr
  have ma := may_a
  have md := may_dot
  clear hr
  go_wp2_with fail
  have r1 : RowAt (w1.alloc (Obj.cells #[Value.string { data := #[97] }, Value.string { data := #[98, 99] }] 9)) w1.heap.size a 2 (fun i => .string (mk (([[97], [98, 99]] : List Bs).getD i []))) :=
    H1.out.below ((Below.refl _ _).alloc (Nat.le_refl _) _)
  have r2 : RowAt (w1.alloc (Obj.cells #[Value.string { data := #[97] }, Value.string { data := #[98, 99] }] 9)) (w1.heap.size + 1) (some ⟨w1.heap.size, 0, none⟩) 2 (fun i => .string (mk (([[97], [98, 99]] : List Bs).getD i []))) := by
    refine .inr ⟨_, _, rfl, by omega, fun i hi => ?_⟩
    have : i = 0 ∨ i = 1 := by omega
    rcases this with rfl | rfl <;> rw [cell_new] <;> rfl
  refine (texts_any a _ [[97], [98, 99]] [[97], [98, 99]] c 2 _ _ _ (by decide) r1 r2).mono ?_
  rintro e w2 ⟨rfl, n, rfl⟩
  have hbel : Below w.heap.size w ((w1.alloc (Obj.cells #[Value.string { data := #[97] }, Value.string { data := #[98, 99] }] 9)).drewN n) := below_drewN (hb1.alloc hb1.size _) n
  clear r1 r2
  go_wp2_with fail
  refine (may_any (mk [97]) _).mono ?_
  rintro e w' ⟨rfl, rfl⟩
  rw [ma]
  go_wp2_with fail
  refine (may_any (mk [46]) _).mono ?_
  rintro e w' ⟨rfl, rfl⟩
  rw [md]
  go_wp2
  go_ret
  exact ⟨rfl, hbel⟩
end Go.Proofs.Ytpknkdjgopjlkaa
