/- Open. -/
import Derived.Test.YtembgdjdljflhaaO
import Derived.Deep.RegionHeld3
import Derived.Deep.AppendLies
namespace Go.Proofs.Ytembgdjdljflhaa
open Go.RowKit
set_option linter.unusedVariables false
set_option linter.unusedSimpArgs false

/-- How many rows of a client have a handle from n on. -/
def cnt (l : List TRow) (c : Int) (n : Nat) : Nat := l.countP fun r => r.c == c && decide ((n : Int) ≤ r.h)
theorem cnt_le (l : List TRow) (c : Int) (n : Nat) : cnt l c n ≤ l.length := List.countP_le_length
theorem cnt_step (l : List TRow) (c : Int) (n : Nat) (h : (find l c n).isSome = true) : cnt l c (n + 1) + 1 ≤ cnt l c n := by
  unfold cnt
  induction l with
  | nil => simp [find] at h
  | cons r l ih =>
    by_cases hm : (r.c == c && r.h == (n : Int)) = true
    · have h1 : r.c = c := by simp at hm; exact hm.1
      have h2 : r.h = n := by simp at hm; exact hm.2
      rw [List.countP_cons_of_neg (by simp [h1, h2]; omega), List.countP_cons_of_pos (by simp [h1, h2])]
      have : l.countP (fun r => r.c == c && decide (((n + 1 : Nat) : Int) ≤ r.h)) ≤ l.countP (fun r => r.c == c && decide ((n : Int) ≤ r.h)) := by
        apply List.countP_mono_left
        intro x _ hx
        simp at hx ⊢
        exact ⟨hx.1, by omega⟩
      omega
    · have hs : (find l c n).isSome = true := by
        unfold find at h ⊢
        simp only [List.find?_cons] at h
        split at h
        · rename_i e; exact absurd e hm
        · exact h
      have := ih hs
      simp only [List.countP_cons]
      have : (if (r.c == c && decide (((n + 1 : Nat) : Int) ≤ r.h)) = true then 1 else 0) = (if (r.c == c && decide ((n : Int) ≤ r.h)) = true then 1 else 0) := by
        simp at hm
        by_cases e : r.c = c
        · have := hm e
          by_cases e2 : (n : Int) ≤ r.h
          · have : ((n + 1 : Nat) : Int) ≤ r.h := by omega
            simp [e, e2]; omega
          · have : ¬ ((n + 1 : Nat) : Int) ≤ r.h := by omega
            simp [e, e2]; omega
        · simp [e]
      omega

/-- The least handle that is free. -/
def leastFrom (l : List TRow) (c : Int) : Nat → Nat → Nat
  | 0, n => n
  | f + 1, n => if (find l c n).isSome then leastFrom l c f (n + 1) else n
def least (l : List TRow) (c : Int) : Nat := leastFrom l c (l.length + 1) 0
theorem leastFrom_at (l : List TRow) (c : Int) (n : Nat) (hn : (find l c n).isSome = false) : ∀ (f m : Nat), m ≤ n → n < m + f → (∀ q, m ≤ q → q < n → (find l c q).isSome = true) → leastFrom l c f m = n
  | 0, m, h1, h2, _ => by omega
  | f + 1, m, h1, h2, h => by
    unfold leastFrom
    by_cases e : m = n
    · subst e; rw [hn]; rfl
    · rw [h m (Nat.le_refl _) (by omega)]
      exact leastFrom_at l c n hn f (m + 1) (by omega) (by omega) (fun q h1 h2 => h q (by omega) h2)
theorem least_at (l : List TRow) (c : Int) (n : Nat) (hn : (find l c n).isSome = false) (hl : n ≤ l.length) (h : ∀ q, q < n → (find l c q).isSome = true) : least l c = n :=
  leastFrom_at l c n hn _ 0 (by omega) (by omega) (fun q _ h2 => h q h2)

def busyL (l : List TRow) (i : Int) (b : Bool) : Bool := l.any fun r => r.i == i && (b || r.b)
def insRow (l : List TRow) (r : TRow) : List TRow := l.takeWhile (fun x => decide (0 < against r x)) ++ r :: l.dropWhile (fun x => decide (0 < against r x))
/-- Open: the handle, the error, the rows. -/
def openR (l : List TRow) (c i : Int) (b : Bool) : Int × Int × List TRow :=
  if mayB c i = false then (0, 1, l) else if 4 ≤ least l c then (0, 5, l) else if busyL l i b then (0, 8, l) else (least l c, 0, insRow l ⟨c, least l c, i, b⟩)

theorem while_at (p : TRow → Bool) (l : List TRow) (j : Nat) (hj : j ≤ l.length) (h : ∀ q, q < j → p (l.getD q default) = true) (he : j < l.length → p (l.getD j default) = false) : l.takeWhile p = l.take j ∧ l.dropWhile p = l.drop j := by
  induction l generalizing j with
  | nil => simp
  | cons x l ih =>
    cases j with
    | zero =>
      have : p x = false := he (by simp)
      simp [this]
    | succ j =>
      have hx : p x = true := h 0 (by omega)
      have := ih j (by simpa using hj) (fun q hq => h (q + 1) (by omega)) (fun hlt => he (by simpa using hlt))
      simp [hx, this.1, this.2]
theorem ins_row (l : List TRow) (r : TRow) (j : Nat) (hj : j ≤ l.length) (h : ∀ q, q < j → decide (0 < against r (l.getD q default)) = true) (he : j < l.length → decide (0 < against r (l.getD j default)) = false) :
    insRow l r = l.take j ++ r :: l.drop j := by
  obtain ⟨h1, h2⟩ := while_at (fun x => decide (0 < against r x)) l j hj h he
  unfold insRow; rw [h1, h2]
theorem of_tuple (o : Option TRow) : ∃ z : TRow, ofAns o = .tuple #[.agg #[.int .i64 z.c, .int .i64 z.h, .int .i64 z.i, .bool z.b], .bool o.isSome] := by
  cases o with
  | none => exact ⟨⟨0, 0, 0, false⟩, rfl⟩
  | some r => exact ⟨r, rfl⟩

theorem IsTok.drew {w : World} {b base : Nat} {v : Value} {l : List TRow} (h : IsTok w b v base l) : IsTok w.drew b v base l := ⟨h.head, h.rows, h.few⟩
theorem TokFrame.drew {w w' : World} {b : Nat} {v : Value} (h : TokFrame w w' b v) : TokFrame w w'.drew b v := ⟨h.os, h.tape, h.output, h.size, h.block⟩

/-- Insert, as Open calls it: the row in a new block, behind whatever draws. -/
def InsAt (b : Nat) (v : Value) (base : Nat) (l : List TRow) (x : TRow) (j : Nat) (w W : World) : Prop :=
  ∀ X, Below W.heap.size W X → X.heap[W.heap.size]? = some (.cells #[.int .i64 x.c, .int .i64 x.h, .int .i64 x.i, .bool x.b] 35 (0, 0)) →
    Calls Try.prog 33 #[v, .int .i64 j, .slice (some ⟨W.heap.size, 0, none⟩) 1 1] X fun e w' => ∃ a1 c1, e = .returned (.slice a1 (l.length + 1) c1) ∧ w'.cell? ⟨b, 1, none⟩ = some v ∧ w'.frozen? ⟨b, 1, none⟩ = false ∧
      Hid (IsTok (w'.setCell ⟨b, 1, none⟩ (.slice a1 (l.length + 1) c1)) b (.slice a1 (l.length + 1) c1) base (l.take j ++ x :: l.drop j) ∧ TokFrame w (w'.setCell ⟨b, 1, none⟩ (.slice a1 (l.length + 1) c1)) b v)
theorem insAt (b : Nat) (v : Value) (base : Nat) (l : List TRow) (x : TRow) (j : Nat) (w W : World) (hw : IsTok w b v base l) (hW : Below w.heap.size w W) (hj : j ≤ l.length) (hl : l.length < 100000) (hbase : base ≤ w.heap.size) : InsAt b v base l x j w W := by
  intro X hX hx
  have ht : IsTok X b v base l := (hw.below hW).below hX
  have hne : v.ownBlock ≠ some W.heap.size := fun e => by have := (hw.rows.lt _ e).2; have := hW.size; omega
  refine (insert_any v base l.length j W.heap.size (encs l) (enc x) X ht.rows hx hne hj (by omega) (by have := hW.size; have := hX.size; omega) (one_encs l) rfl (one_enc x)).mono ?_
  rintro e w' ⟨v', rfl, ho, hg⟩
  have hins : insCells (encs l) (enc x) (j * 4) = encs (l.take j ++ x :: l.drop j) := by
    unfold insCells
    rw [encs_app, encs_cons, encs_take]
    congr 2
    have h1 : encs l = encs (l.take j) ++ encs (l.drop j) := by rw [← encs_app, List.take_append_drop]
    have h2 : (encs (l.take j)).length = j * 4 := by rw [encs_len, List.length_take]; omega
    rw [h1, List.drop_append_of_le_length (by omega), List.drop_of_length_le (by omega), List.nil_append]
  have hlen : (l.take j ++ x :: l.drop j).length = l.length + 1 := by simp; omega
  rw [hins, ← hlen] at ho
  obtain ⟨hone, a1, c1, rfl⟩ := one_slice ho
  obtain ⟨j0, j1, j2⟩ := head_after ht hg
  have := tok_store ht ho hg (by omega)
  rw [hlen] at this ⊢
  exact ⟨a1, c1, rfl, j1, j2, this.1, tok_before this.2 ((hW.trans (hX.mono hW.size)))⟩

set_option maxHeartbeats 4000000 in
set_option maxRecDepth 100000 in
theorem open_any (b : Nat) (v : Value) (base : Nat) (l : List TRow) (c i : Int) (mw : Bool) (w : World) (ht : IsTok w b v base l) (hl : l.length < 100000) (hbase : base ≤ w.heap.size) :
    Calls Try.prog 10 #[.pointer (some ⟨b, 0, none⟩), .int .i64 c, .int .i64 i, .bool mw] w fun e w' => ∃ v', e = .returned (.tuple #[.int .i64 (openR l c i mw).1, .int .i64 (openR l c i mw).2.1]) ∧ IsTok w' b v' base (openR l c i mw).2.2 ∧ TokFrame w w' b v := by
  obtain ⟨a, cap, rfl, hcap, hr⟩ := own_rows ht.rows
  obtain ⟨k0, k1, k2⟩ := tok_cells ht
  have HT := Lib.hid ht
  have HR := Lib.hid hr
  have CM := Lib.hid (may_any c i)
  have hbl := ht.lt
  obtain ⟨tk, htk⟩ : ∃ tk : Nat → Bool, tk = fun n : Nat => (find l c n).isSome := ⟨_, rfl⟩
  have CO : Hid (∀ (n : Nat) (W : World), Below w.heap.size w W → Calls Try.prog 15 #[.pointer (some ⟨b, 0, none⟩), .int .i64 c, .int .i64 n] W fun e w' => (∃ z : TRow, e = .returned (.tuple #[.agg #[.int .i64 z.c, .int .i64 z.h, .int .i64 z.i, .bool z.b], .bool (tk n)])) ∧ Below W.heap.size W w') := by
    intro n W hW
    refine (of_any b _ base l c n W (HT.out.below hW)).mono ?_
    rintro e w' ⟨rfl, hb⟩
    obtain ⟨z, hz⟩ := of_tuple (find l c n)
    exact ⟨⟨z, by rw [hz, htk]⟩, hb⟩
  have HTK := Lib.hid htk
  clear ht hr htk
  generalize hOR : openR l c i mw = OR
  have HOR := Lib.hid hOR
  unfold openR at hOR
  cases hm : mayB c i with
  | false =>
    rw [hm] at CM hOR
    obtain rfl : (0, 1, l) = OR := by rw [← hOR]; rfl
    clear hOR
    go_enter Try.func10, Try.ntmps10
    go_wp2_with (first
      | (go_at_call 31; refine (CM.out _).mono ?_; rintro e w1 ⟨rfl, rfl⟩))
    go_ret2
    exact ⟨_, rfl, HT.out, TokFrame.of_below (Below.refl _ _) _ _⟩
  | true =>
    rw [hm] at CM hOR
    have HO := Lib.hid hOR
    clear hOR
    go_enter Try.func10, Try.ntmps10
    go_wp2_with (first
      | (go_at_call 31; refine (CM.out _).mono ?_; rintro e w1 ⟨rfl, rfl⟩)
      | (go_at_call 15; refine (CO.out 0 _ (Below.refl _ _)).mono ?_; rintro e w1 ⟨⟨z, rfl⟩, hb1⟩))
    go_loopg [10, 11, 12] l.length (fun g' s10 s11 s12 w' => ∃ (n kb : Nat) (z : TRow), s10 = .int .i64 n ∧ s11 = .pointer (some ⟨kb, 0, none⟩) ∧ s12 = .bool (tk n) ∧
      Hid (w'.heap[kb]? = some (.cells #[.int .i64 z.c, .int .i64 z.h, .int .i64 z.i, .bool z.b] 35 (0, 0))) ∧ l.length ≤ n + g' ∧ Hid (∀ q, q < n → tk q = true) ∧ Hid (n + cnt l c n ≤ l.length) ∧ n ≤ l.length ∧ Below w.heap.size w w')
    case atStart =>
      exact ⟨0, w1.heap.size, z, rfl, rfl, rfl, heap_alloc_new w1 _, by omega, fun q hq => absurd hq (by omega), (by have := cnt_le l c 0; show _ ≤ _; omega), by omega, hb1.alloc hb1.size _⟩
    case round =>
      obtain ⟨n, kb, z2, rfl, rfl, rfl, HK, hng, HN, HCN, hnl, hbel⟩ := hrel
      have hkb := lt_of_block HK.out
      have hbw : b < wr.heap.size := Nat.lt_of_lt_of_le hbl hbel.size
      obtain ⟨i0, i1, i2⟩ := tok_cells (HT.out.below hbel)
      cases ht : tk n with
      | true =>
        have hcs : n + 1 + cnt l c (n + 1) ≤ l.length := by
          have := cnt_step l c n (by rw [HTK.out] at ht; exact ht)
          have := HCN.out
          omega
        have hn1 : n + 1 ≤ l.length := by omega
        have HCS := Lib.hid hcs
        clear hcs
        have g0 := blk_cell HK.out 0 _ rfl
        have g1 := blk_cell HK.out 1 _ rfl
        have g2 := blk_cell HK.out 2 _ rfl
        have g3 := blk_cell HK.out 3 _ rfl
        go_wp2_with (first
          | (go_at_call 15; refine (CO.out (n + 1) _ (hbel.alloc hbel.size _)).mono ?_; rintro e w3 ⟨⟨z3, rfl⟩, hb3⟩))
        go_roundg (gk - 1)
        case measure => omega
        case rel =>
          refine ⟨n + 1, wr.heap.size, z2, rfl, rfl, rfl, ?_, by omega, ?_, HCS.out, hn1, bt (hbel.alloc hbel.size _) (hb3.mono ?_)⟩
          · exact (hb3.block wr.heap.size (by simp)).trans (heap_alloc_new wr _)
          · intro q hq
            rcases Nat.lt_or_ge q n with h | h
            · exact HN.out q h
            · obtain rfl : q = n := by omega
              exact ht
          · simp
      | false =>
        have hle : least l c = n := by
          refine least_at l c n ?_ hnl (fun q hq => ?_)
          · have := ht; rw [HTK.out] at this; exact this
          · have := HN.out q hq; rw [HTK.out] at this; exact this
        have HLE := Lib.hid hle
        clear hle
        by_cases h4 : 4 ≤ n
        · obtain rfl : (0, 5, l) = OR := by
            have := HO.out
            rw [HLE.out] at this
            simpa [h4] using this
          go_wp2
          go_ret2
          first
            | exact ⟨_, rfl, HT.out.below hbel, TokFrame.of_below hbel _ _⟩
            | exact ⟨rfl, ⟨_, HT.out.below hbel⟩, TokFrame.of_below hbel _ _⟩
        · have HO2 := Lib.hid (show (if busyL l i mw = true then (0, 8, l) else ((n : Int), 0, insRow l ⟨c, n, i, mw⟩)) = OR from by
            have := HO.out
            rw [HLE.out] at this
            simpa [h4] using this)
          clear HO
          go_wp2
          obtain ⟨wo, rfl⟩ : ∃ wo : World, wo = wr := ⟨_, rfl⟩
          obtain ⟨gko, rfl⟩ : ∃ gko : Nat, gko = gk := ⟨_, rfl⟩
          go_loopg [56] l.length (fun g' s56 w' => ∃ j : Nat, s56 = .int .i64 j ∧ j ≤ l.length ∧ l.length ≤ j + g' ∧ Hid (∀ q, q < j → ((l.getD q default).i == i && (mw || (l.getD q default).b)) = false) ∧ Below w.heap.size w w')
          case atStart => exact ⟨0, rfl, by omega, by omega, fun q hq => absurd hq (by omega), hbel⟩
          case round =>
            obtain ⟨j, rfl, hj, hjg, HB, hbel2⟩ := hrel
            by_cases hlt : j < l.length
            · rcases HR.out with h0 | ⟨g, rfl, hg, hc⟩
              · omega
              obtain ⟨r, hr, c0, c1, c2, c3⟩ : ∃ r, l.getD j default = r ∧ wr.cell? ⟨g, j * 4, none⟩ = some (.int .i64 r.c) ∧ wr.cell? ⟨g, j * 4 + 1, none⟩ = some (.int .i64 r.h) ∧
                  wr.cell? ⟨g, j * 4 + 2, none⟩ = some (.int .i64 r.i) ∧ wr.cell? ⟨g, j * 4 + 3, none⟩ = some (.bool r.b) := by
                obtain ⟨c0, c1, c2, c3⟩ := hc j hlt
                exact ⟨_, rfl, (hbel2.cell (p := ⟨g, j * 4, none⟩) hg).trans c0, (hbel2.cell (p := ⟨g, j * 4 + 1, none⟩) hg).trans c1, (hbel2.cell (p := ⟨g, j * 4 + 2, none⟩) hg).trans c2, (hbel2.cell (p := ⟨g, j * 4 + 3, none⟩) hg).trans c3⟩
              clear hc
              have HRR := Lib.hid hr
              clear hr
              cases hq : (r.i == i && (mw || r.b)) with
              | true =>
                have HQ := Lib.hid hq
                have q1 : (r.i == i) = true := by simp at hq; simp [hq.1]
                have q2 : (mw || r.b) = true := by simp at hq; simpa using hq.2
                clear hq
                have hbz : busyL l i mw = true := List.any_eq_true.2 ⟨r, by rw [← HRR.out, List.getD_eq_getElem?_getD, List.getElem?_eq_getElem hlt]; exact List.getElem_mem hlt, HQ.out⟩
                obtain rfl : (0, 8, l) = OR := by
                  have := HO2.out
                  rw [hbz] at this
                  simpa using this
                cases mw with
                | true =>
                  go_wp2
                  go_ret2
                  exact ⟨rfl, ⟨_, HT.out.below (hbel2.alloc hbel2.size _)⟩, TokFrame.of_below (hbel2.alloc hbel2.size _) _ _⟩
                | false =>
                  have q3 : r.b = true := by simpa using q2
                  go_wp2
                  go_ret2
                  exact ⟨rfl, ⟨_, HT.out.below (hbel2.alloc hbel2.size _)⟩, TokFrame.of_below (hbel2.alloc hbel2.size _) _ _⟩
              | false =>
                have HQ := Lib.hid hq
                have HN2 : Hid (∀ q, q < j + 1 → ((l.getD q default).i == i && (mw || (l.getD q default).b)) = false) := fun q hq' => by
                  rcases Nat.lt_or_ge q j with h | h
                  · exact HB.out q h
                  · obtain rfl : q = j := by omega
                    rw [HRR.out]; exact hq
                clear hq
                cases q1 : (r.i == i) with
                | false =>
                  go_wp2
                  go_roundg (gk - 1)
                  case measure => omega
                  case rel => exact ⟨j + 1, rfl, by omega, by omega, HN2.out, hbel2.alloc hbel2.size _⟩
                | true =>
                  have q2 : mw = false ∧ r.b = false := by
                    have := HQ.out
                    rw [q1] at this
                    simpa using this
                  obtain ⟨rfl, q3⟩ := q2
                  go_wp2
                  go_roundg (gk - 1)
                  case measure => omega
                  case rel => exact ⟨j + 1, rfl, by omega, by omega, HN2.out, hbel2.alloc hbel2.size _⟩
            · obtain rfl : j = l.length := by omega
              have hbz : busyL l i mw = false := by
                unfold busyL
                rw [List.any_eq_false]
                intro x hx
                obtain ⟨q, hq, rfl⟩ := List.mem_iff_getElem.1 hx
                have := HB.out q hq
                rw [List.getD_eq_getElem?_getD, List.getElem?_eq_getElem hq] at this
                simp only [Option.getD_some] at this
                rw [this]; simp
              obtain rfl : ((n : Int), (0 : Int), insRow l ⟨c, n, i, mw⟩) = OR := by
                have := HO2.out
                rw [hbz] at this
                simpa using this
              clear HO2 hbz
              go_wp2
              obtain ⟨wo2, rfl⟩ : ∃ wo2 : World, wo2 = wr := ⟨_, rfl⟩
              obtain ⟨gko2, rfl⟩ : ∃ gko2 : Nat, gko2 = gk := ⟨_, rfl⟩
              have hbk := hbel2.alloc hbel2.size (.cells #[.int .i64 c, .int .i64 n, .int .i64 i, .bool mw] 35)
              have HBK := Lib.hid hbk
              go_loopg [17] l.length (fun g' s17 w' => ∃ j : Nat, s17 = .int .i64 j ∧ j ≤ l.length ∧ l.length ≤ j + g' ∧ Hid (∀ q, q < j → decide (0 < against ⟨c, n, i, mw⟩ (l.getD q default)) = true) ∧
                Hid (w'.heap[wo2.heap.size]? = some (.cells #[.int .i64 c, .int .i64 n, .int .i64 i, .bool mw] 35 (0, 0))) ∧ Below w.heap.size w w')
              case atStart => exact ⟨0, rfl, by omega, by omega, fun q hq => absurd hq (by omega), heap_alloc_new wo2 _, hbk⟩
              case round =>
                obtain ⟨j, rfl, hj2, hjg2, HA, HKR, hbel3⟩ := hrel
                obtain ⟨m0, m1, m2⟩ := tok_cells (HT.out.below hbel3)
                have hbr : b < wr.heap.size := Nat.lt_of_lt_of_le hbl hbel3.size
                have hkr := lt_of_block HKR.out
                have n0 := blk_cell HKR.out 0 _ rfl
                have n1 := blk_cell HKR.out 1 _ rfl
                have n2 := blk_cell HKR.out 2 _ rfl
                have n3 := blk_cell HKR.out 3 _ rfl
                by_cases hlt2 : j < l.length
                · rcases HR.out with h0 | ⟨g, rfl, hg, hc⟩
                  · omega
                  obtain ⟨r, hr, c0, c1, c2, c3⟩ : ∃ r, l.getD j default = r ∧ wr.cell? ⟨g, j * 4, none⟩ = some (.int .i64 r.c) ∧ wr.cell? ⟨g, j * 4 + 1, none⟩ = some (.int .i64 r.h) ∧
                      wr.cell? ⟨g, j * 4 + 2, none⟩ = some (.int .i64 r.i) ∧ wr.cell? ⟨g, j * 4 + 3, none⟩ = some (.bool r.b) := by
                    obtain ⟨c0, c1, c2, c3⟩ := hc j hlt2
                    exact ⟨_, rfl, (hbel3.cell (p := ⟨g, j * 4, none⟩) hg).trans c0, (hbel3.cell (p := ⟨g, j * 4 + 1, none⟩) hg).trans c1, (hbel3.cell (p := ⟨g, j * 4 + 2, none⟩) hg).trans c2, (hbel3.cell (p := ⟨g, j * 4 + 3, none⟩) hg).trans c3⟩
                  clear hc
                  have HRR := Lib.hid hr
                  clear hr
                  have CA := Lib.hid (fun W => against_any ⟨c, n, i, mw⟩ r W)
                  unfold enc at CA
                  generalize hag : against ⟨c, n, i, mw⟩ r = ag at CA
                  have HAG := Lib.hid hag
                  clear hag
                  by_cases hpos : 0 < ag
                  · go_wp2_with (go_at_call 32; refine (CA.out _).mono ?_; rintro e w4 ⟨rfl, hb4⟩)
                    go_roundg (gk - 1)
                    case measure => omega
                    case rel =>
                      refine ⟨j + 1, rfl, by omega, by omega, ?_, (hb4.block _ hkr).trans HKR.out, bt hbel3 hb4⟩
                      intro q hq
                      rcases Nat.lt_or_ge q j with h | h
                      · exact HA.out q h
                      · obtain rfl : q = j := by omega
                        rw [HRR.out, HAG.out]; simpa using hpos
                  · have HIN := Lib.hid (ins_row l ⟨c, n, i, mw⟩ j hj2 HA.out (fun _ => by rw [HRR.out, HAG.out]; simpa using hpos))
                    have HRR2 := HRR
                    go_wp2_with (go_at_call 32; refine (CA.out _).mono ?_; rintro e w4 ⟨rfl, hb4⟩
                                 have HI := Lib.hid (insAt b _ base l ⟨c, n, i, mw⟩ j w w4 HT.out (bt hbel3 hb4) hj2 hl hbase)
                                 unfold InsAt at HI
                                 obtain ⟨p0, p1, p2⟩ := tok_cells (HT.out.below (bt hbel3 hb4))
                                 have HKR4 := Lib.hid ((hb4.block _ hkr).trans HKR.out)
                                 have r0 := blk_cell HKR4.out 0 _ rfl
                                 have r1 := blk_cell HKR4.out 1 _ rfl
                                 have r2 := blk_cell HKR4.out 2 _ rfl
                                 have r3 := blk_cell HKR4.out 3 _ rfl
                                 have hb4b : b < w4.heap.size := Nat.lt_of_lt_of_le hbr hb4.size
                                 have hb4k : wo2.heap.size < w4.heap.size := Nat.lt_of_lt_of_le hkr hb4.size
                                 have hb4n : ¬ (b = w4.heap.size) := Nat.ne_of_lt hb4b
                                 have hb4m : ¬ (wo2.heap.size = w4.heap.size) := Nat.ne_of_lt hb4k
                                 have y1 := (Below.heap_alloc w4 (.cells #[.int .i64 c, .int .i64 n, .int .i64 i, .bool mw] 35) b hb4b)
                                 have z1 := (World.cell?_of_block (w := w4) (a := ⟨b, 1, none⟩) y1).trans p1
                                 clear y1)
                    go_region_law (first | (go_simp; go_at_call 33; refine (HI.out _ (((Below.refl _ _).alloc (Nat.le_refl _) _).drew) (heap_alloc_new w4 _)).mono ?_; rintro e w5 ⟨a1, c1, rfl, s1, s2, HST⟩))
                    all_goals
                      go_wp2
                      go_ret2
                      first
                        | exact ⟨rfl, ⟨_, by rw [HIN.out]; exact HST.out.1⟩, HST.out.2⟩
                        | exact ⟨_, rfl, by rw [HIN.out]; exact HST.out.1, HST.out.2⟩
                · obtain rfl : j = l.length := by omega
                  have HIN := Lib.hid (ins_row l ⟨c, n, i, mw⟩ l.length hj2 HA.out (fun h => absurd h (by omega)))
                  have HI := Lib.hid (insAt b _ base l ⟨c, n, i, mw⟩ l.length w wr HT.out hbel3 hj2 hl hbase)
                  unfold InsAt at HI
                  have hb4n : ¬ (b = wr.heap.size) := Nat.ne_of_lt hbr
                  have hb4m : ¬ (wo2.heap.size = wr.heap.size) := Nat.ne_of_lt hkr
                  have y1 := (Below.heap_alloc wr (.cells #[.int .i64 c, .int .i64 n, .int .i64 i, .bool mw] 35) b hbr)
                  have z1 := (World.cell?_of_block (w := wr) (a := ⟨b, 1, none⟩) y1).trans m1
                  clear y1
                  go_wp2
                  go_region_law (first | (go_simp; go_at_call 33; refine (HI.out _ (((Below.refl _ _).alloc (Nat.le_refl _) _).drew) (heap_alloc_new wr _)).mono ?_; rintro e w5 ⟨a1, c1, rfl, s1, s2, HST⟩))
                  all_goals
                    go_wp2
                    go_ret2
                    first
                      | exact ⟨rfl, ⟨_, by rw [HIN.out]; exact HST.out.1⟩, HST.out.2⟩
                      | exact ⟨_, rfl, by rw [HIN.out]; exact HST.out.1, HST.out.2⟩
end Go.Proofs.Ytembgdjdljflhaa
