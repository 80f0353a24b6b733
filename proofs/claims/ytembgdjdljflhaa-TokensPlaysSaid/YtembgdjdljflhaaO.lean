/- The functions of package tokens that read, and those that turn the rows. -/
import Derived.Test.YtembgdjdljflhaaD
namespace Go.Proofs.Ytembgdjdljflhaa
open Go.RowKit
set_option linter.unusedVariables false
set_option linter.unusedSimpArgs false

theorem IsTok.apart {w : World} {b base : Nat} {v : Value} {l : List TRow} (h : IsTok w b v base l) : v.ownBlock ≠ some b := by
  intro e
  rcases h.rows.2 with ⟨rfl, _⟩ | ⟨g, cap, cur, rfl, _, hg, _⟩
  · simp [Value.ownBlock] at e
  · obtain rfl : g = b := by simpa [Value.ownBlock] using e
    have := h.head
    rw [hg] at this
    simp at this
theorem IsTok.lt {w : World} {b base : Nat} {v : Value} {l : List TRow} (h : IsTok w b v base l) : b < w.heap.size := lt_of_block h.head
theorem IsTok.below {w w' : World} {b base : Nat} {v : Value} {l : List TRow} (h : IsTok w b v base l) (hb : Below w.heap.size w w') : IsTok w' b v base l :=
  ⟨(hb.block b h.lt).trans h.head, ownsRow_below h.rows hb, h.few⟩

/-- What a function that turns the rows leaves alone. -/
structure TokFrame (w w' : World) (b : Nat) (v : Value) : Prop where
  os : w'.os = w.os
  tape : w'.tape = w.tape
  output : w'.output = w.output
  size : w.heap.size ≤ w'.heap.size
  block : ∀ k, k < w.heap.size → k ≠ b → v.ownBlock ≠ some k → w'.heap[k]? = w.heap[k]?
theorem TokFrame.of_below {w w' : World} (h : Below w.heap.size w w') (b : Nat) (v : Value) : TokFrame w w' b v := ⟨h.os, h.tape, h.output, h.size, fun k hk _ _ => h.block k hk⟩
theorem TokFrame.toBelow {B : Nat} {w0 w w' : World} {b base : Nat} {v : Value} {l : List TRow} (h : TokFrame w w' b v) (ht : IsTok w b v base l) (hb : B ≤ b) (hB : B ≤ base) (hs : B ≤ w.heap.size) (h0 : Below B w0 w) : Below B w0 w' :=
  h0.trans ⟨h.os, h.tape, h.output, h.size, fun k hk => h.block k (by omega) (by omega) (fun e => by have := (ht.rows.lt k e).1; omega)⟩

theorem callee {g : Nat} (h : ∀ args w, (callFunc g args).run Try.prog w = .ok (.enter g args) w) : ∀ args w, (callFunc g args).run Try.prog w = .ok (.enter g args) w := h

set_option maxHeartbeats 2000000 in
theorem tells40 (kb : Nat) (c : Int) (w : World) (h : w.heap[kb]? = some (.cells #[.int .i64 c] 3 (0, 0))) : Tells 40 #[.pointer (some ⟨kb, 0, none⟩)] (fun r => r.c == c) kb w := by
  intro W hW r
  have hc := blk_cell (hW.trans h) 0 _ rfl
  have hlt := lt_of_block (hW.trans h)
  clear hW h
  unfold enc
  go_enter Try.func40, Try.ntmps40
  go_wp2
  go_ret
  exact ⟨rfl, (Below.refl _ _).alloc (Nat.le_refl _) _⟩
set_option maxHeartbeats 2000000 in
theorem tells39 (kb : Nat) (c : Int) (w : World) (h : w.heap[kb]? = some (.cells #[.int .i64 c] 3 (0, 0))) : Tells 39 #[.pointer (some ⟨kb, 0, none⟩)] (fun r => r.i == c) kb w := by
  intro W hW r
  have hc := blk_cell (hW.trans h) 0 _ rfl
  have hlt := lt_of_block (hW.trans h)
  clear hW h
  unfold enc
  go_enter Try.func39, Try.ntmps39
  go_wp2
  go_ret
  exact ⟨rfl, (Below.refl _ _).alloc (Nat.le_refl _) _⟩
def rowEq (r x : TRow) : Bool := x.c == r.c && x.h == r.h && x.i == r.i && x.b == r.b
set_option maxHeartbeats 2000000 in
theorem tells35 (kb : Nat) (q : TRow) (w : World) (h : w.heap[kb]? = some (.cells #[.int .i64 q.c, .int .i64 q.h, .int .i64 q.i, .bool q.b] 35 (0, 0))) : Tells 35 #[.pointer (some ⟨kb, 0, none⟩)] (rowEq q) kb w := by
  intro W hW r
  have hc0 := blk_cell (hW.trans h) 0 _ rfl
  have hc1 := blk_cell (hW.trans h) 1 _ rfl
  have hc2 := blk_cell (hW.trans h) 2 _ rfl
  have hc3 := blk_cell (hW.trans h) 3 _ rfl
  have hlt := lt_of_block (hW.trans h)
  clear hW h
  unfold enc
  go_enter Try.func35, Try.ntmps35
  go_wp2
  all_goals
    go_ret
    refine ⟨ret_bool ?_, (Below.refl _ _).alloc (Nat.le_refl _) _⟩
    simp_all [rowEq]

theorem enters35 : ∀ args w, (callFunc 35 args).run Try.prog w = .ok (.enter 35 args) w := enters_of Try.func35 (by kernel_rfl) rfl
theorem enters39 : ∀ args w, (callFunc 39 args).run Try.prog w = .ok (.enter 39 args) w := enters_of Try.func39 (by kernel_rfl) rfl
theorem enters40 : ∀ args w, (callFunc 40 args).run Try.prog w = .ok (.enter 40 args) w := enters_of Try.func40 (by kernel_rfl) rfl

set_option maxHeartbeats 2000000 in
/-- Busy. -/
theorem busy_any (b : Nat) (v : Value) (base : Nat) (l : List TRow) (n : Int) (w : World) (ht : IsTok w b v base l) :
    Calls Try.prog 13 #[.pointer (some ⟨b, 0, none⟩), .int .i64 n] w fun e w' => e = .returned (.bool (has (fun r => r.i == n) l)) ∧ Below w.heap.size w w' := by
  obtain ⟨a, cap, rfl, hcap, hr⟩ := own_rows ht.rows
  have hbox : (w.alloc (.cells #[.int .i64 n] 3)).heap[w.heap.size]? = some (.cells #[.int .i64 n] 3 (0, 0)) := heap_alloc_new w _
  have hb0 : Below w.heap.size w (w.alloc (.cells #[.int .i64 n] 3)) := (Below.refl _ _).alloc (Nat.le_refl _) _
  have CR := Lib.hid (rows_any b _ _ (w.alloc (.cells #[.int .i64 n] 3)) ((hb0.block b ht.lt).trans ht.head))
  have hr1 : RowsAt (w.alloc (.cells #[.int .i64 n] 3)) (w.alloc (.cells #[.int .i64 n] 3)).heap.size a l.length (fun i => l.getD i default) := by
    have := hr.below hb0
    rcases this with h | ⟨g, h1, h2, h3⟩
    · exact .inl h
    · exact .inr ⟨g, h1, by simp; omega, h3⟩
  have CC := Lib.hid (contains_any 39 #[.pointer (some ⟨w.heap.size, 0, none⟩)] enters39 (fun r => r.i == n) a cap w.heap.size l _ hr1 (by simp) ht.few (tells39 w.heap.size n _ hbox))
  have HB := Lib.hid hb0
  generalize has (fun r => r.i == n) l = ans at *
  clear hr hr1 hbox hb0 ht
  go_enter Try.func13, Try.ntmps13
  go_wp2_with (first
    | (go_at_call 37; refine CR.out.mono ?_; rintro e w1 ⟨rfl, rfl⟩)
    | (go_at_call 38; refine CC.out.mono ?_; rintro e w1 ⟨rfl, hb1⟩))
  go_ret
  exact ⟨rfl, HB.out.trans (hb1.mono (by simp))⟩

set_option maxHeartbeats 2000000 in
set_option maxRecDepth 100000 in
/-- slices.Clone. -/
theorem clone_any (v : Value) (base : Nat) (l : List TRow) (w : World) (hown : w.ownsRow base 35 4 v l.length (encs l)) (hl : l.length ≤ 100000) :
    Calls Try.prog 36 #[v] w fun e w' => ∃ v', e = .returned v' ∧ w'.ownsRow w.heap.size 35 4 v' l.length (encs l) ∧ Below w.heap.size w w' := by
  obtain ⟨i0, hi0, hz0, hz1, hz2⟩ := info_parts info35
  rcases hown.2 with ⟨rfl, h0⟩ | ⟨g, cap, cur, rfl, hbg, hg, hnc, hcm, hcs, htake⟩
  · have e : encs l = [] := by have := hown.1; rw [h0] at this; exact List.eq_nil_of_length_eq_zero (by omega)
    rw [h0, e]
    clear e hown
    have hq : ∀ w, (binOp .eql 32 (.slice none 0 0) (.slice none 0 0)).run Try.prog w = .ok (.bool true) w := fun w => Lib.run_eql_slice_nil w 32 35 none 0 0 0 0 Try.underlying32
    go_enter Try.func36, Try.ntmps36
    go_wp2
    go_ret
    exact ⟨_, rfl, World.ownsRow_nil _ _ _ _, Below.refl _ _⟩
  · have hgl := lt_of_block hg
    have hsrc : ∀ j u, (encs l)[j]? = some u → w.cell? ((⟨g, 0, none⟩ : Addr).add j) = some u := fun j u hj => hown.cells rfl j u hj
    have H1 := Lib.hid hsrc
    have HL := Lib.hid hown.1
    have HE := Lib.hid (one_encs l)
    generalize encs l = xs at *
    clear hsrc hown hg htake hcs
    have hq : ∀ w, (binOp .eql 32 (.slice (some ⟨g, 0, none⟩) l.length cap) (.slice none 0 0)).run Try.prog w = .ok (.bool false) w := fun w => Lib.run_eql_slice_nil w 32 35 (some ⟨g, 0, none⟩) _ _ 0 0 Try.underlying32
    go_enter Try.func36, Try.ntmps36
    go_wp2_with (at_builtin; refine wpList_append_own _ rfl _ _ 32 rfl w.heap.size 35 i0 _ 4 32 Try.underlying32 hi0 hz0 hz1 hz2 rfl (by decide) (.slice (some ⟨w.heap.size, 0, none⟩) 0 0) 0 [] rfl (World.ownsRow_made w #[] 0 (Nat.le_refl _) (by unfold maxLen; omega) rfl) ⟨g, 0, none⟩ l.length cap xs rfl HL.out (fun j u hj => (((Below.refl w.heap.size w).alloc (Nat.le_refl _) _).cell (p := (⟨g, 0, none⟩ : Addr).add j) (by rw [add_none]; exact hgl)).trans (H1.out j u hj)) HE.out (by unfold maxLen; omega) (by omega) (by simp) ?_; intro v1 w1 ho1 hg1 _)
    go_ret
    have := ho1
    simp only [Nat.zero_add, List.nil_append] at this
    exact ⟨_, rfl, this, ((Below.refl w.heap.size w).alloc (Nat.le_refl _) _).grown hg1 (by simp) (fun k hk => by simp [Value.ownBlock] at hk; omega)⟩

set_option maxHeartbeats 2000000 in
/-- Rows. -/
theorem copy_any (b : Nat) (v : Value) (base : Nat) (l : List TRow) (w : World) (ht : IsTok w b v base l) :
    Calls Try.prog 12 #[.pointer (some ⟨b, 0, none⟩)] w fun e w' => ∃ v', e = .returned v' ∧ w'.ownsRow w.heap.size 35 4 v' l.length (encs l) ∧ Below w.heap.size w w' := by
  have CR := Lib.hid (rows_any b _ _ w ht.head)
  have CC := Lib.hid (clone_any v base l w ht.rows ht.few)
  clear ht
  go_enter Try.func12, Try.ntmps12
  go_wp2_with (first
    | (go_at_call 37; refine CR.out.mono ?_; rintro e w1 ⟨rfl, rfl⟩)
    | (go_at_call 36; refine CC.out.mono ?_; rintro e w1 ⟨v1, rfl, ho1, hb1⟩))
  go_ret
  exact ⟨_, rfl, ho1, hb1⟩

theorem ownsRow_set {w : World} {base b j : Nat} {v u : Value} {n : Nat} {xs : List Value} (h : w.ownsRow base 35 4 v n xs) (hne : v.ownBlock ≠ some b) : (w.setCell ⟨b, j, none⟩ u).ownsRow base 35 4 v n xs := by
  refine ⟨h.1, ?_⟩
  rcases h.2 with h | ⟨g, cap, cur, rfl, hbg, hg, rest⟩
  · exact .inl h
  · exact .inr ⟨g, cap, cur, rfl, hbg, blk_sets hg (fun e => hne (by rw [← e]; rfl)), rest⟩
theorem tok_store {w W1 : World} {b base : Nat} {v v' : Value} {l l' : List TRow} (ht : IsTok w b v base l) (hown : W1.ownsRow base 35 4 v' l'.length (encs l')) (hg : w.grownBy W1 v.ownBlock) (hl : l'.length ≤ 100000) :
    IsTok (W1.setCell ⟨b, 1, none⟩ v') b v' base l' ∧ TokFrame w (W1.setCell ⟨b, 1, none⟩ v') b v := by
  have hb : W1.heap[b]? = some (.cells #[.bool true, v] 72 (0, 0)) := (hg.block b ht.lt (fun e => ht.apart e.symm)).trans ht.head
  have hap : v'.ownBlock ≠ some b := by
    intro e
    rcases hown.2 with ⟨rfl, _⟩ | ⟨g, cap, cur, rfl, _, hg', _⟩
    · simp [Value.ownBlock] at e
    · obtain rfl : g = b := by simpa [Value.ownBlock] using e
      rw [hg'] at hb
      simp at hb
  refine ⟨⟨set_blk hb, ownsRow_set hown hap, hl⟩, hg.os, hg.tape, hg.output, by simpa [World.setCell] using hg.size, fun k hk h1 h2 => ?_⟩
  exact (Below.heap_setCell _ _ _ k (fun e => h1 e)).trans (hg.block k hk (fun e => h2 e.symm))
theorem head_after {w W1 : World} {b base : Nat} {v : Value} {l : List TRow} (ht : IsTok w b v base l) (hg : w.grownBy W1 v.ownBlock) : W1.cell? ⟨b, 0, none⟩ = some (.bool true) ∧ W1.cell? ⟨b, 1, none⟩ = some v ∧ W1.frozen? ⟨b, 1, none⟩ = false := by
  have hb : W1.heap[b]? = some (.cells #[.bool true, v] 72 (0, 0)) := (hg.block b ht.lt (fun e => ht.apart e.symm)).trans ht.head
  exact ⟨blk_cell hb 0 _ rfl, blk_cell hb 1 _ rfl, blk_frozen hb 1⟩
theorem tok_before {w w0 w' : World} {b : Nat} {v : Value} (h : TokFrame w0 w' b v) (hb : Below w.heap.size w w0) : TokFrame w w' b v :=
  ⟨h.os.trans hb.os, h.tape.trans hb.tape, h.output.trans hb.output, Nat.le_trans hb.size h.size, fun k hk h1 h2 => (h.block k (Nat.lt_of_lt_of_le hk hb.size) h1 h2).trans (hb.block k hk)⟩
theorem tok_cells {w : World} {b base : Nat} {v : Value} {l : List TRow} (ht : IsTok w b v base l) : w.cell? ⟨b, 0, none⟩ = some (.bool true) ∧ w.cell? ⟨b, 1, none⟩ = some v ∧ w.frozen? ⟨b, 1, none⟩ = false :=
  ⟨blk_cell ht.head 0 _ rfl, blk_cell ht.head 1 _ rfl, blk_frozen ht.head 1⟩
theorem one_slice {w : World} {base : Nat} {v : Value} {n : Nat} {xs : List Value} (h : w.ownsRow base 35 4 v n xs) : v.oneCell' = true ∧ ∃ a c, v = .slice a n c := by
  rcases h.2 with ⟨rfl, rfl⟩ | ⟨g, cap, cur, rfl, _⟩
  · exact ⟨rfl, _, _, rfl⟩
  · exact ⟨rfl, _, _, rfl⟩

set_option maxHeartbeats 4000000 in
set_option maxRecDepth 100000 in
/-- Drop. -/
theorem drop_any (b : Nat) (v : Value) (base : Nat) (l : List TRow) (c : Int) (w : World) (ht : IsTok w b v base l) :
    Calls Try.prog 14 #[.pointer (some ⟨b, 0, none⟩), .int .i64 c] w fun e w' => ∃ v', e = .returned (.int .i64 ((l.length : Int) - (keep (fun r => r.c == c) l).length)) ∧ IsTok w' b v' base (keep (fun r => r.c == c) l) ∧ TokFrame w w' b v := by
  obtain ⟨a, cap, rfl, hcap, hr⟩ := own_rows ht.rows
  have hfew := ht.few
  have hkl : (keep (fun r => r.c == c) l).length ≤ l.length := List.length_filter_le _ _
  have hbox : (w.alloc (.cells #[.int .i64 c] 3)).heap[w.heap.size]? = some (.cells #[.int .i64 c] 3 (0, 0)) := heap_alloc_new w _
  have hb0 : Below w.heap.size w (w.alloc (.cells #[.int .i64 c] 3)) := (Below.refl _ _).alloc (Nat.le_refl _) _
  have ht0 := ht.below hb0
  have CR := Lib.hid (rows_any b _ _ _ ht0.head)
  have hne : (Value.slice a l.length cap).ownBlock ≠ some w.heap.size := fun e => by have := (ht.rows.lt _ e).2; omega
  have CD := Lib.hid (delete_any 40 #[.pointer (some ⟨w.heap.size, 0, none⟩)] enters40 (fun r => r.c == c) _ base w.heap.size l _ ht0.rows (by simp) hne hfew (tells40 w.heap.size c _ hbox))
  obtain ⟨k0, k1, k2⟩ := tok_cells ht0
  have HT := Lib.hid ht
  have HT0 := Lib.hid ht0
  have HB := Lib.hid hb0
  have HKL := Lib.hid hkl
  clear hr hbox hb0 ht ht0 hne hkl
  by_cases hl : l.length = 0
  · have hz : ((l.length : Int) == 0) = true := by simp [hl]
    have hk : keep (fun r => r.c == c) l = l := by rw [List.eq_nil_of_length_eq_zero hl]; rfl
    have HL := Lib.hid hl
    have HK := Lib.hid hk
    clear hl hk
    go_enter Try.func14, Try.ntmps14
    go_wp2_with (go_at_call 37; refine CR.out.mono ?_; rintro e w1 ⟨rfl, rfl⟩)
    go_ret
    refine ⟨.slice a l.length cap, ?_, ?_, TokFrame.of_below HB.out b _⟩
    · rw [HK.out, HL.out]; rfl
    · rw [HK.out]; exact HT0.out
  · have hz : ((l.length : Int) == 0) = false := by simp [hl]
    have HL := Lib.hid hl
    clear hl
    generalize hK : keep (fun r => r.c == c) l = K at *
    have hkl2 := HKL.out
    go_enter Try.func14, Try.ntmps14
    go_wp2_with (first
      | (go_at_call 37; refine CR.out.mono ?_; rintro e w1 ⟨rfl, rfl⟩)
      | (go_at_call 34; refine CD.out.mono ?_; rintro e w1 ⟨v1, rfl, ho1, hob, hg1⟩
         obtain ⟨hone, a1, c1, rfl⟩ := one_slice ho1
         have HST := Lib.hid (tok_store HT0.out ho1 hg1 (Nat.le_trans HKL.out hfew))
         obtain ⟨j0, j1, j2⟩ := head_after HT0.out hg1
         clear ho1 hob hg1 hone))
    go_ret
    refine ⟨_, ?_, HST.out.1, tok_before HST.out.2 HB.out⟩
    rfl

def closeE : Option TRow → Int
  | none => 13
  | some _ => 0
def closeL (l : List TRow) : Option TRow → List TRow
  | none => l
  | some r => keep (rowEq r) l
set_option maxHeartbeats 4000000 in
set_option maxRecDepth 100000 in
/-- Close. -/
theorem close_any (b : Nat) (v : Value) (base : Nat) (l : List TRow) (c n : Int) (w : World) (ht : IsTok w b v base l) :
    Calls Try.prog 11 #[.pointer (some ⟨b, 0, none⟩), .int .i64 c, .int .i64 n] w fun e w' => ∃ v', e = .returned (.int .i64 (closeE (find l c n))) ∧ IsTok w' b v' base (closeL l (find l c n)) ∧ TokFrame w w' b v := by
  obtain ⟨a, cap, rfl, hcap, hr⟩ := own_rows ht.rows
  have hfew := ht.few
  obtain ⟨k0, k1, k2⟩ := tok_cells ht
  have CO := Lib.hid (of_any b _ base l c n w ht)
  have HT := Lib.hid ht
  clear hr ht
  cases hf : find l c n with
  | none =>
    rw [hf] at CO
    unfold ofAns enc at CO
    go_enter Try.func11, Try.ntmps11
    go_wp2_with (go_at_call 15; refine CO.out.mono ?_; rintro e w1 ⟨rfl, hb1⟩)
    go_ret
    exact ⟨.slice a l.length cap, rfl, HT.out.below (hb1.alloc hb1.size _), TokFrame.of_below (hb1.alloc hb1.size _) b _⟩
  | some r =>
    rw [hf] at CO
    unfold ofAns enc at CO
    have hkl : (closeL l (some r)).length ≤ l.length := List.length_filter_le _ _
    have HKL := Lib.hid hkl
    clear hkl
    go_enter Try.func11, Try.ntmps11
    go_wp2_with (first
      | (go_at_call 15; refine CO.out.mono ?_; rintro e w1 ⟨rfl, hb1⟩
         have hbx := Lib.hid (hb1.alloc hb1.size (.cells #[.int .i64 r.c, .int .i64 r.h, .int .i64 r.i, .bool r.b] 35))
         have HT1 := Lib.hid (HT.out.below hbx.out)
         obtain ⟨i0, i1, i2⟩ := tok_cells HT1.out
         have hne : (Value.slice a l.length cap).ownBlock ≠ some w1.heap.size := fun e => by have := (HT.out.rows.lt _ e).2; have := hb1.size; omega
         have CD := Lib.hid (delete_any 35 #[.pointer (some ⟨w1.heap.size, 0, none⟩)] enters35 (rowEq r) _ base w1.heap.size l _ HT1.out.rows (by simp) hne hfew (tells35 w1.heap.size r _ (heap_alloc_new w1 _)))
         clear hne hb1)
      | (go_at_call 34; refine CD.out.mono ?_; rintro e w2 ⟨v1, rfl, ho1, hob, hg1⟩
         obtain ⟨hone, a1, c1, rfl⟩ := one_slice ho1
         have HST := Lib.hid (tok_store HT1.out ho1 hg1 (Nat.le_trans HKL.out hfew))
         obtain ⟨j0, j1, j2⟩ := head_after HT1.out hg1
         clear ho1 hob hg1 hone))
    go_ret
    refine ⟨_, ?_, HST.out.1, tok_before HST.out.2 hbx.out⟩
    rfl
end Go.Proofs.Ytembgdjdljflhaa
